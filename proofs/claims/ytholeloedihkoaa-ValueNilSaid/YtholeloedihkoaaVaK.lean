/- What is proved: ValueNil's walk. Conditions: the library's variable holds a number. -/
import Derived.Test.YtholeloedihkoaaVaG
import Derived.Test.YtholeloedihkoaaVaH
import Derived.Test.YtholeloedihkoaaVaI
import Derived.Test.YtholeloedihkoaaVaJ
namespace Go.Proofs.Ytholeloedihkoaa
open Go.RowKit
section
variable {lo : Nat} {w w' : World} {b b2 : Nat} {T U : Ti}
theorem recLit_c {l : List (ByteArray × (Nat × Ti))} {mv : Int} (hT : ∀ x ∈ l, TiAt lo w x.2.1 x.2.2 ∧ x.2.2.kind ≠ 0) (hl : l.length ≤ 1000) (hs : ∀ x ∈ l, x.1.size ≤ maxLen) (hv : w.cell? ⟨0, 0, none⟩ = some (.int .i64 mv)) {W : World}
    (hW : W = (w.alloc (.cells (l.map fun x => Value.string x.1).toArray 9)).alloc (.cells (l.map fun x => ptr x.2.1).toArray 28)) {n : Nat} (hn : n = l.length) {g : Nat} (hg : g = w.heap.size) :
    Calls Try.prog 13 #[.slice (some ⟨g, 0, none⟩) n n, .slice (some ⟨g + 1, 0, none⟩) n n] W (RecPost l W) := by
  subst hn hg
  have hc : Chg NoB w W := by subst hW; exact ((Chg.refl NoB w).alloc _).alloc _
  have hb1 : Blk W w.heap.size 9 (l.map fun x => Value.string x.1).toArray := by subst hW; exact (Blk.new _ _ _).alloc _
  have hb2 : Blk W (w.heap.size + 1) 28 (l.map fun x => ptr x.2.1).toArray := by subst hW; exact Blk.at_ _ _ _ _ (by simp)
  refine record_c (lo := lo) (mv := mv) (fun _ => ⟨_, rfl, fun j u hu => ?_⟩) (fun _ => ⟨_, rfl, fun j u hu => ?_⟩) (fun x hx => ⟨(hT x hx).1.quiet hc, (hT x hx).2⟩) (by omega) hs (keepC hc hv)
  · rw [add_none, Nat.zero_add]
    exact (hb1.cell j).trans (by simpa using hu)
  · rw [add_none, Nat.zero_add]
    exact (hb2.cell j).trans (by simpa using hu)
theorem TiAt.ne_ (h : TiAt lo w b T) (k : TiAt lo w b2 U) (hn : T.kind ≠ U.kind ∨ T.size ≠ U.size ∨ T.base ≠ U.base) : b ≠ b2 := by
  rintro rfl
  have h1 := h.cells
  have h2 := k.cells
  have e1 := h1.1.symm.trans h2.1
  have e2 := h1.2.2.2.2.2.symm.trans h2.2.2.2.2.2
  have e3 := h1.2.2.1.symm.trans h2.2.2.1
  rcases hn with hn | hn | hn
  · injection e1 with e1; injection e1 with _ e1; omega
  · injection e2 with e2; injection e2 with _ e2; omega
  · injection e3 with e3
    apply hn
    unfold optP at e3
    cases hb : T.base <;> cases hu : U.base <;> simp_all [ptr]
theorem TiAt.pointed {p : Nat} (h : TiAt lo w b T) (hp : TiAt lo w p U) (hne : b ≠ p) (u : Value) : TiAt lo (w.setCell ⟨p, 2, none⟩ u) b T := by
  have hc : Chg (fun i => i = p) w (w.setCell ⟨p, 2, none⟩ u) := (Chg.refl (fun i => i = p) _).setCell (p := ⟨p, 2, none⟩) (fun _ => rfl) _
  exact h.chg2 hc hne (fun k hk e => by subst e; exact own_blk_ne h.row hp.blk (by decide) hk) (fun m hm => (h.map m hm).blk_ne hp.blk)
theorem TiAt.point (h : TiAt lo w b T) (r : Nat) : TiAt lo (w.setCell ⟨b, 2, none⟩ (ptr r)) b { T with base := some r } := by
  have hc : Chg (fun i => i = b) w (w.setCell ⟨b, 2, none⟩ (ptr r)) := (Chg.refl (fun i => i = b) _).setCell (p := ⟨b, 2, none⟩) (fun _ => rfl) _
  exact ⟨h.blk.set_ 2 _, own_chg h.row hc fun k hk e => by subst e; exact own_blk_ne h.row h.blk (by decide) hk, h.mbn, fun m hm => (h.map m hm).chg hc ((h.map m hm).blk_ne h.blk), h.lo, h.sz, h.nn, h.nf⟩
theorem point_two (h : TiAt lo w b T) (hk : T.kind ≠ 0) (k : TiAt lo w b2 U) (hk2 : U.kind ≠ 0) (hn : T.kind ≠ 9 ∨ U.kind ≠ 8) : Calls Try.prog 17 #[ptr b, ptr b2] w fun e w' => e = .returned (.int .i64 2) ∧ w = w' :=
  (point_c h hk k hk2).mono fun e w' hp => by
    rcases hp with ⟨_, h1, h2⟩ | ⟨h1, h2, _⟩ | ⟨h1, h2, _⟩
    · exact ⟨h1, h2⟩
    · rcases hn with hn | hn
      · exact absurd h1 hn
      · exact absurd h2 hn
    · rcases hn with hn | hn
      · exact absurd h1 hn
      · exact absurd h2 hn
theorem point_set (h : TiAt lo w b T) (hk : T.kind = 9) (k : TiAt lo w b2 U) (hk2 : U.kind = 8) (hb : T.base = none) : Calls Try.prog 17 #[ptr b, ptr b2] w fun e w' => e = .returned (.int .i64 0) ∧ w' = w.setCell ⟨b, 2, none⟩ (ptr b2) :=
  (point_c h (by omega) k (by omega)).mono fun e w' hp => by
    rcases hp with ⟨h1 | h1, _⟩ | ⟨_, _, h1, _⟩ | ⟨_, _, _, h1, h2⟩
    · exact absurd hk h1
    · exact absurd hk2 h1
    · exact absurd hb h1
    · exact ⟨h1, h2⟩
theorem point_seven (h : TiAt lo w b T) (hk : T.kind = 9) (k : TiAt lo w b2 U) (hk2 : U.kind = 8) (hb : T.base ≠ none) : Calls Try.prog 17 #[ptr b, ptr b2] w fun e w' => e = .returned (.int .i64 7) ∧ w = w' :=
  (point_c h (by omega) k (by omega)).mono fun e w' hp => by
    rcases hp with ⟨h1 | h1, _⟩ | ⟨_, _, _, h1, h2⟩ | ⟨_, _, h1, _⟩
    · exact absurd hk h1
    · exact absurd hk2 h1
    · exact ⟨h1, h2⟩
    · exact absurd h1 hb
theorem same_yes (h : TiAt lo w b T) (hk : T.kind ≠ 0) (k : TiAt lo w b2 U) (hk2 : U.kind ≠ 0) (hy : b = b2 ∨ T.kind = U.kind ∧ T.kind < 7) : Calls Try.prog 32 #[ptr b, ptr b2] w (Quiet (.bool true) w) := by
  have h1 := same_c h hk k hk2
  have e : (decide (b = b2) || (T.kind == U.kind && decide (T.kind < 7))) = true := by
    rcases hy with h | ⟨h, h2⟩
    · simp [h]
    · rw [beq_iff_eq.2 h, decide_eq_true h2]; simp
  rwa [e] at h1
theorem same_diff (h : TiAt lo w b T) (hk : T.kind ≠ 0) (k : TiAt lo w b2 U) (hk2 : U.kind ≠ 0) (hn : b ≠ b2) (hk : T.kind ≠ U.kind ∨ 7 ≤ T.kind) : Calls Try.prog 32 #[ptr b, ptr b2] w (Quiet (.bool false) w) := by
  have h1 := same_c h (by assumption) k hk2
  have e : (decide (b = b2) || (T.kind == U.kind && decide (T.kind < 7))) = false := by
    rw [decide_eq_false hn]
    rcases hk with h | h
    · rw [beq_eq_false_iff_ne.2 h]; rfl
    · rw [decide_eq_false (show ¬ T.kind < 7 by omega)]; simp
  rwa [e] at h1
theorem NoT.new (w : World) : NoT (w.alloc (.cells #[.int .i64 0, .int .i64 0, .pointer none, .slice none 0 0, .map none, .int .i64 0] TT)) (.pointer (some ⟨w.heap.size, 0, none⟩)) := .inr ⟨_, rfl, Blk.new _ _ _⟩
theorem NoV.new (w : World) : NoV (w.alloc (.cells #[.pointer none, .int .u32 0, .pointer none, .slice none 0 0] VT)) (.pointer (some ⟨w.heap.size, 0, none⟩)) := .inr ⟨_, rfl, Blk.new _ _ _⟩
abbrev bigT (bn : Nat) : Ti := ⟨7, 65535, some bn, none, 0, [], none, 262140⟩
abbrev halfT (bc : Nat) : Ti := ⟨7, 65535, some bc, none, 0, [], none, 65536⟩
abbrev l4 (h bc : Nat) : List (ByteArray × (Nat × Ti)) := [(⟨#[97]⟩, (h, halfT bc)), (⟨#[98]⟩, (h, halfT bc)), (⟨#[99]⟩, (h, halfT bc)), (⟨#[100]⟩, (h, halfT bc))]
abbrev l5 (h bc n : Nat) : List (ByteArray × (Nat × Ti)) := l4 h bc ++ [(⟨#[101]⟩, (n, basicT 1))]
theorem l4_good (h bc : Nat) : recGood ((l4 h bc).map (·.1)) = true := by show recGood [⟨#[97]⟩, ⟨#[98]⟩, ⟨#[99]⟩, ⟨#[100]⟩] = true; decide +kernel
theorem l5_good (h bc n : Nat) : recGood ((l5 h bc n).map (·.1)) = true := by show recGood [⟨#[97]⟩, ⟨#[98]⟩, ⟨#[99]⟩, ⟨#[100]⟩, ⟨#[101]⟩] = true; decide +kernel
theorem sz4 (s : Nat) (hs : s = 65536) (st : List Fd) (nm : ByteArray) (b : Nat) (T : Ti) (hT : T.size = s) (x : Nat) (h4 : x % 4 = 0) (hx : x + s ≤ 262145) : (recStep (st, x) (nm, (b, T))).2 = x + s := by
  have h1 : T.size ≠ 1 := by omega
  simp only [recStep, if_pos h1]
  omega
theorem recL4 (h bc : Nat) : (recL (l4 h bc)).2 = 262144 := by
  obtain ⟨s, hs⟩ : ∃ s, s = 65536 := ⟨_, rfl⟩
  have hT : (halfT bc).size = s := hs.symm
  show (recStep (recStep (recStep (recStep ([], 0) (⟨#[97]⟩, (h, halfT bc))) (⟨#[98]⟩, (h, halfT bc))) (⟨#[99]⟩, (h, halfT bc))) (⟨#[100]⟩, (h, halfT bc))).2 = 262144
  generalize halfT bc = H at *
  have e1 := sz4 s hs [] ⟨#[97]⟩ h H hT 0 (by omega) (by omega)
  generalize recStep ([], 0) (⟨#[97]⟩, (h, H)) = q1 at *
  obtain ⟨a1, x1⟩ := q1
  simp only at e1
  have e2 := sz4 s hs a1 ⟨#[98]⟩ h H hT x1 (by omega) (by omega)
  generalize recStep (a1, x1) (⟨#[98]⟩, (h, H)) = q2 at *
  obtain ⟨a2, x2⟩ := q2
  simp only at e2
  have e3 := sz4 s hs a2 ⟨#[99]⟩ h H hT x2 (by omega) (by omega)
  generalize recStep (a2, x2) (⟨#[99]⟩, (h, H)) = q3 at *
  obtain ⟨a3, x3⟩ := q3
  simp only at e3
  have e4 := sz4 s hs a3 ⟨#[100]⟩ h H hT x3 (by omega) (by omega)
  omega
theorem l4_size (h bc : Nat) : recSize (l4 h bc) = 262144 := by
  have := recL4 h bc
  unfold recSize
  omega
theorem l5_size (h bc n : Nat) : recSize (l5 h bc n) = 262148 := by
  have e := recL4 h bc
  unfold recSize
  rw [show l5 h bc n = l4 h bc ++ [(⟨#[101]⟩, (n, basicT 1))] from rfl, recL_snoc]
  generalize recL (l4 h bc) = q at *
  obtain ⟨a, x⟩ := q
  simp only at e
  have h1 : (4 : Nat) ≠ 1 := by decide
  have h4 : (basicT 1).size = 4 := by decide
  simp only [recStep, h4, if_pos h1]
  omega
theorem l4_at {h bc : Nat} (H : TiAt 0 w h (halfT bc)) : ∀ x ∈ l4 h bc, TiAt 0 w x.2.1 x.2.2 ∧ x.2.2.kind ≠ 0 := by
  intro x hx
  simp only [l4, List.mem_cons, List.not_mem_nil, or_false] at hx
  rcases hx with rfl | rfl | rfl | rfl <;> exact ⟨H, by show (7 : Nat) ≠ 0; decide⟩
theorem l5_at {h bc n : Nat} (H : TiAt 0 w h (halfT bc)) (N : TiAt 0 w n (basicT 1)) : ∀ x ∈ l5 h bc n, TiAt 0 w x.2.1 x.2.2 ∧ x.2.2.kind ≠ 0 := by
  intro x hx
  rcases List.mem_append.1 hx with hx | hx
  · exact l4_at H x hx
  · obtain rfl := List.mem_singleton.1 hx
    exact ⟨N, by show (1 : Nat) ≠ 0; decide⟩
theorem l4_short {h bc : Nat} : ∀ x ∈ l4 h bc, x.1.size ≤ maxLen := by
  intro x hx
  simp only [l4, List.mem_cons, List.not_mem_nil, or_false] at hx
  rcases hx with rfl | rfl | rfl | rfl <;> (show (1 : Nat) ≤ maxLen; decide)
theorem l5_short {h bc n : Nat} : ∀ x ∈ l5 h bc n, x.1.size ≤ maxLen := by
  intro x hx
  rcases List.mem_append.1 hx with hx | hx
  · exact l4_short x hx
  · obtain rfl := List.mem_singleton.1 hx
    show (1 : Nat) ≤ maxLen
    decide
theorem rec4 {h bc : Nat} {e : Ending} (hp : RecPost (l4 h bc) w e w') : ∃ b T, e = .returned (.tuple #[ptr b, .int .i64 0]) ∧ TiAt w.heap.size w' b T ∧ T.kind = 8 ∧ T.size = 262144 ∧ Chg NoB w w' := by
  unfold RecPost at hp
  rw [if_pos (l4_good h bc), l4_size, if_pos (by omega)] at hp
  obtain ⟨b, T, h1, h2, h3, _, _, _, h5, h6⟩ := hp
  exact ⟨b, T, h1, h2, h3, h5, h6⟩
theorem rec5 {h bc n : Nat} {e : Ending} (hp : RecPost (l5 h bc n) w e w') : Quiet (.tuple #[.pointer none, .int .i64 3]) w e w' := by
  unfold RecPost at hp
  rw [if_pos (l5_good h bc n), l5_size, if_neg (by omega)] at hp
  exact hp
set_option maxHeartbeats 4000000 in
set_option maxRecDepth 100000 in
theorem valueNil_c {mv : Int} (hv : w.cell? ⟨0, 0, none⟩ = some (.int .i64 mv)) : Calls Try.prog 6 #[] w (Quiet (.bool true) w) := by
  have HV := Go.Lib.hid hv
  have HV0 := Go.Lib.hid hv
  have CH := Go.Lib.hid (Chg.refl NoB w)
  clear hv
  go_enter Try.func6, Try.ntmps6
  go_wp2_with fail
  refine (basic_c 3 (by omega) (by omega)).mono ?_
  rintro e w1 ⟨bc, rfl, hTc, hc⟩
  have hcc : Chg NoB w w1 := hc
  have Fc : Hid (TiAt 0 w1 bc (basicT 3)) := Go.Lib.hid (hTc.mono (Nat.zero_le _))
  clear hTc
  replace HV : Hid (w1.cell? ⟨0, 0, none⟩ = some (.int .i64 mv)) := Go.Lib.hid (keepC (CH.out.trans hcc) HV0.out)
  replace CH : Hid (Chg NoB w w1) := Go.Lib.hid (CH.out.trans hcc)
  clear hcc hc
  try unfold ptr
  go_wp2_with fail
  refine (basic_c 3 (by omega) (by omega)).mono ?_
  rintro e w2 ⟨bd, rfl, hTd, hc⟩
  have hcc : Chg NoB w1 w2 := hc
  replace Fc : Hid (TiAt 0 w2 bc (basicT 3)) := Go.Lib.hid (Fc.out.quiet hcc)
  have Fd : Hid (TiAt 0 w2 bd (basicT 3)) := Go.Lib.hid (hTd.mono (Nat.zero_le _))
  clear hTd
  replace HV : Hid (w2.cell? ⟨0, 0, none⟩ = some (.int .i64 mv)) := Go.Lib.hid (keepC (CH.out.trans hcc) HV0.out)
  replace CH : Hid (Chg NoB w w2) := Go.Lib.hid (CH.out.trans hcc)
  clear hcc hc
  try unfold ptr
  go_wp2_with fail
  refine (basic_c 1 (by omega) (by omega)).mono ?_
  rintro e w3 ⟨bn, rfl, hTn, hc⟩
  have hcc : Chg NoB w2 w3 := hc
  replace Fc : Hid (TiAt 0 w3 bc (basicT 3)) := Go.Lib.hid (Fc.out.quiet hcc)
  replace Fd : Hid (TiAt 0 w3 bd (basicT 3)) := Go.Lib.hid (Fd.out.quiet hcc)
  have Fn : Hid (TiAt 0 w3 bn (basicT 1)) := Go.Lib.hid (hTn.mono (Nat.zero_le _))
  clear hTn
  replace HV : Hid (w3.cell? ⟨0, 0, none⟩ = some (.int .i64 mv)) := Go.Lib.hid (keepC (CH.out.trans hcc) HV0.out)
  replace CH : Hid (Chg NoB w w3) := Go.Lib.hid (CH.out.trans hcc)
  clear hcc hc
  try unfold ptr
  go_wp2_with fail
  refine (array_c Fn.out (by decide) 65535 (by omega) (by omega) (by decide)).mono ?_
  rintro e w4 ⟨bg, rfl, hTg, hc⟩
  have hcc : Chg NoB w3 w4 := hc
  replace Fc : Hid (TiAt 0 w4 bc (basicT 3)) := Go.Lib.hid (Fc.out.quiet hcc)
  replace Fd : Hid (TiAt 0 w4 bd (basicT 3)) := Go.Lib.hid (Fd.out.quiet hcc)
  replace Fn : Hid (TiAt 0 w4 bn (basicT 1)) := Go.Lib.hid (Fn.out.quiet hcc)
  have Fg : Hid (TiAt 0 w4 bg (bigT bn)) := Go.Lib.hid (hTg.mono (Nat.zero_le _))
  clear hTg
  replace HV : Hid (w4.cell? ⟨0, 0, none⟩ = some (.int .i64 mv)) := Go.Lib.hid (keepC (CH.out.trans hcc) HV0.out)
  replace CH : Hid (Chg NoB w w4) := Go.Lib.hid (CH.out.trans hcc)
  clear hcc hc
  try unfold ptr
  go_wp2_with fail
  refine (array_c Fc.out (by decide) 65535 (by omega) (by omega) (by decide)).mono ?_
  rintro e w5 ⟨bh, rfl, hTh, hc⟩
  have hcc : Chg NoB w4 w5 := hc
  replace Fc : Hid (TiAt 0 w5 bc (basicT 3)) := Go.Lib.hid (Fc.out.quiet hcc)
  replace Fd : Hid (TiAt 0 w5 bd (basicT 3)) := Go.Lib.hid (Fd.out.quiet hcc)
  replace Fn : Hid (TiAt 0 w5 bn (basicT 1)) := Go.Lib.hid (Fn.out.quiet hcc)
  replace Fg : Hid (TiAt 0 w5 bg (bigT bn)) := Go.Lib.hid (Fg.out.quiet hcc)
  have Fh : Hid (TiAt 0 w5 bh (halfT bc)) := Go.Lib.hid (hTh.mono (Nat.zero_le _))
  clear hTh
  replace HV : Hid (w5.cell? ⟨0, 0, none⟩ = some (.int .i64 mv)) := Go.Lib.hid (keepC (CH.out.trans hcc) HV0.out)
  replace CH : Hid (Chg NoB w w5) := Go.Lib.hid (CH.out.trans hcc)
  clear hcc hc
  try unfold ptr
  go_wp2_with fail
  refine (recLit_c (lo := 0) (l := l4 bh bc) (l4_at Fh.out) (by simp) l4_short HV.out rfl rfl rfl).mono ?_
  rintro e w6 hp
  obtain ⟨br, R, rfl, hTr, hR8, hRs, hc⟩ := rec4 hp
  have HR := Go.Lib.hid (And.intro hR8 hRs)
  clear hp hR8 hRs
  have hcc : Chg NoB w5 w6 := (((Chg.refl NoB _).alloc _).alloc _).trans hc
  replace Fc : Hid (TiAt 0 w6 bc (basicT 3)) := Go.Lib.hid (Fc.out.quiet hcc)
  replace Fd : Hid (TiAt 0 w6 bd (basicT 3)) := Go.Lib.hid (Fd.out.quiet hcc)
  replace Fn : Hid (TiAt 0 w6 bn (basicT 1)) := Go.Lib.hid (Fn.out.quiet hcc)
  replace Fg : Hid (TiAt 0 w6 bg (bigT bn)) := Go.Lib.hid (Fg.out.quiet hcc)
  replace Fh : Hid (TiAt 0 w6 bh (halfT bc)) := Go.Lib.hid (Fh.out.quiet hcc)
  have Fr : Hid (TiAt 0 w6 br (R)) := Go.Lib.hid (hTr.mono (Nat.zero_le _))
  clear hTr
  replace HV : Hid (w6.cell? ⟨0, 0, none⟩ = some (.int .i64 mv)) := Go.Lib.hid (keepC (CH.out.trans hcc) HV0.out)
  replace CH : Hid (Chg NoB w w6) := Go.Lib.hid (CH.out.trans hcc)
  clear hcc hc
  try unfold ptr
  go_wp2_with fail
  refine (recLit_c (lo := 0) (l := l5 bh bc bn) (l5_at Fh.out Fn.out) (by simp) l5_short HV.out rfl rfl rfl).mono ?_
  rintro e w7 hp
  obtain ⟨rfl, hc⟩ := rec5 hp
  clear hp
  have hcc : Chg NoB w6 w7 := (((Chg.refl NoB _).alloc _).alloc _).trans hc
  replace Fc : Hid (TiAt 0 w7 bc (basicT 3)) := Go.Lib.hid (Fc.out.quiet hcc)
  replace Fd : Hid (TiAt 0 w7 bd (basicT 3)) := Go.Lib.hid (Fd.out.quiet hcc)
  replace Fn : Hid (TiAt 0 w7 bn (basicT 1)) := Go.Lib.hid (Fn.out.quiet hcc)
  replace Fg : Hid (TiAt 0 w7 bg (bigT bn)) := Go.Lib.hid (Fg.out.quiet hcc)
  replace Fh : Hid (TiAt 0 w7 bh (halfT bc)) := Go.Lib.hid (Fh.out.quiet hcc)
  replace Fr : Hid (TiAt 0 w7 br (R)) := Go.Lib.hid (Fr.out.quiet hcc)
  replace HV : Hid (w7.cell? ⟨0, 0, none⟩ = some (.int .i64 mv)) := Go.Lib.hid (keepC (CH.out.trans hcc) HV0.out)
  replace CH : Hid (Chg NoB w w7) := Go.Lib.hid (CH.out.trans hcc)
  clear hcc hc
  try unfold ptr
  go_wp2_with fail
  refine (pointer_c _).mono ?_
  rintro e w8 ⟨bp, rfl, hTp, hc⟩
  have HPL : Hid (w.heap.size ≤ bp) := Go.Lib.hid (Nat.le_trans CH.out.size hTp.lo.1)
  have hcc : Chg NoB w7 w8 := hc
  replace Fc : Hid (TiAt 0 w8 bc (basicT 3)) := Go.Lib.hid (Fc.out.quiet hcc)
  replace Fd : Hid (TiAt 0 w8 bd (basicT 3)) := Go.Lib.hid (Fd.out.quiet hcc)
  replace Fn : Hid (TiAt 0 w8 bn (basicT 1)) := Go.Lib.hid (Fn.out.quiet hcc)
  replace Fg : Hid (TiAt 0 w8 bg (bigT bn)) := Go.Lib.hid (Fg.out.quiet hcc)
  replace Fh : Hid (TiAt 0 w8 bh (halfT bc)) := Go.Lib.hid (Fh.out.quiet hcc)
  replace Fr : Hid (TiAt 0 w8 br (R)) := Go.Lib.hid (Fr.out.quiet hcc)
  have Fp : Hid (TiAt 0 w8 bp (⟨9, 0, none, none, 0, [], none, 4⟩)) := Go.Lib.hid (hTp.mono (Nat.zero_le _))
  clear hTp
  replace HV : Hid (w8.cell? ⟨0, 0, none⟩ = some (.int .i64 mv)) := Go.Lib.hid (keepC (CH.out.trans hcc) HV0.out)
  replace CH : Hid (Chg NoB w w8) := Go.Lib.hid (CH.out.trans hcc)
  clear hcc hc
  try unfold ptr
  go_wp2_with fail
  refine (basic_no 0 (by omega)).mono ?_
  rintro e w9 ⟨rfl, hc⟩
  have hcc : Chg NoB w8 w9 := hc
  replace Fc : Hid (TiAt 0 w9 bc (basicT 3)) := Go.Lib.hid (Fc.out.quiet hcc)
  replace Fd : Hid (TiAt 0 w9 bd (basicT 3)) := Go.Lib.hid (Fd.out.quiet hcc)
  replace Fn : Hid (TiAt 0 w9 bn (basicT 1)) := Go.Lib.hid (Fn.out.quiet hcc)
  replace Fg : Hid (TiAt 0 w9 bg (bigT bn)) := Go.Lib.hid (Fg.out.quiet hcc)
  replace Fh : Hid (TiAt 0 w9 bh (halfT bc)) := Go.Lib.hid (Fh.out.quiet hcc)
  replace Fr : Hid (TiAt 0 w9 br (R)) := Go.Lib.hid (Fr.out.quiet hcc)
  replace Fp : Hid (TiAt 0 w9 bp (⟨9, 0, none, none, 0, [], none, 4⟩)) := Go.Lib.hid (Fp.out.quiet hcc)
  replace HV : Hid (w9.cell? ⟨0, 0, none⟩ = some (.int .i64 mv)) := Go.Lib.hid (keepC (CH.out.trans hcc) HV0.out)
  replace CH : Hid (Chg NoB w w9) := Go.Lib.hid (CH.out.trans hcc)
  clear hcc hc
  try unfold ptr
  go_wp2_with fail
  refine (basic_no 6 (by omega)).mono ?_
  rintro e w10 ⟨rfl, hc⟩
  have hcc : Chg NoB w9 w10 := hc
  replace Fc : Hid (TiAt 0 w10 bc (basicT 3)) := Go.Lib.hid (Fc.out.quiet hcc)
  replace Fd : Hid (TiAt 0 w10 bd (basicT 3)) := Go.Lib.hid (Fd.out.quiet hcc)
  replace Fn : Hid (TiAt 0 w10 bn (basicT 1)) := Go.Lib.hid (Fn.out.quiet hcc)
  replace Fg : Hid (TiAt 0 w10 bg (bigT bn)) := Go.Lib.hid (Fg.out.quiet hcc)
  replace Fh : Hid (TiAt 0 w10 bh (halfT bc)) := Go.Lib.hid (Fh.out.quiet hcc)
  replace Fr : Hid (TiAt 0 w10 br (R)) := Go.Lib.hid (Fr.out.quiet hcc)
  replace Fp : Hid (TiAt 0 w10 bp (⟨9, 0, none, none, 0, [], none, 4⟩)) := Go.Lib.hid (Fp.out.quiet hcc)
  replace HV : Hid (w10.cell? ⟨0, 0, none⟩ = some (.int .i64 mv)) := Go.Lib.hid (keepC (CH.out.trans hcc) HV0.out)
  replace CH : Hid (Chg NoB w w10) := Go.Lib.hid (CH.out.trans hcc)
  clear hcc hc
  try unfold ptr
  go_wp2_with fail
  refine (num_c 0).mono ?_
  rintro e wz ⟨rfl, rfl⟩
  go_wp2_with fail
  refine (num_c 0).mono ?_
  rintro e wz ⟨rfl, rfl⟩
  go_wp2_with fail
  refine (num_c 0).mono ?_
  rintro e wz ⟨rfl, rfl⟩
  go_wp2_with fail
  refine (num_c 0).mono ?_
  rintro e wz ⟨rfl, rfl⟩
  go_wp2_with fail
  refine (num_c 0).mono ?_
  rintro e wz ⟨rfl, rfl⟩
  go_wp2_with fail
  refine (num_c 0).mono ?_
  rintro e wz ⟨rfl, rfl⟩
  go_wp2_with fail
  refine (num_c 3).mono ?_
  rintro e wz ⟨rfl, rfl⟩
  go_wp2_with fail
  refine (num_c 2).mono ?_
  rintro e wz ⟨rfl, rfl⟩
  go_wp2_with fail
  refine (num_c 2).mono ?_
  rintro e wz ⟨rfl, rfl⟩
  go_wp2_with fail
  have SR := size_c Fr.out (by rw [HR.out.1]; decide)
  rw [HR.out.2] at SR
  have HSR := Go.Lib.hid SR
  clear SR
  unfold ptr at HSR
  refine (size_c Fg.out (by show (7 : Nat) ≠ 0; decide)).mono ?_
  rintro e wz ⟨rfl, rfl⟩
  go_wp2_with fail
  refine (HSR.out).mono ?_
  rintro e wz ⟨rfl, rfl⟩
  go_wp2_with fail
  clear HSR
  refine (array_long Fr.out (by rw [HR.out.1]; decide) 2 (by omega) (by omega) (by rw [HR.out.2]; decide)).mono ?_
  rintro e w11 ⟨rfl, hc⟩
  have hcc : Chg NoB w10 w11 := hc
  replace Fc : Hid (TiAt 0 w11 bc (basicT 3)) := Go.Lib.hid (Fc.out.quiet hcc)
  replace Fd : Hid (TiAt 0 w11 bd (basicT 3)) := Go.Lib.hid (Fd.out.quiet hcc)
  replace Fn : Hid (TiAt 0 w11 bn (basicT 1)) := Go.Lib.hid (Fn.out.quiet hcc)
  replace Fg : Hid (TiAt 0 w11 bg (bigT bn)) := Go.Lib.hid (Fg.out.quiet hcc)
  replace Fh : Hid (TiAt 0 w11 bh (halfT bc)) := Go.Lib.hid (Fh.out.quiet hcc)
  replace Fr : Hid (TiAt 0 w11 br (R)) := Go.Lib.hid (Fr.out.quiet hcc)
  replace Fp : Hid (TiAt 0 w11 bp (⟨9, 0, none, none, 0, [], none, 4⟩)) := Go.Lib.hid (Fp.out.quiet hcc)
  replace HV : Hid (w11.cell? ⟨0, 0, none⟩ = some (.int .i64 mv)) := Go.Lib.hid (keepC (CH.out.trans hcc) HV0.out)
  replace CH : Hid (Chg NoB w w11) := Go.Lib.hid (CH.out.trans hcc)
  clear hcc hc
  try unfold ptr
  go_wp2_with fail
  refine (point_two Fp.out (by show (9 : Nat) ≠ 0; decide) Fn.out (by show (1 : Nat) ≠ 0; decide) (.inr (by show (1 : Nat) ≠ 8; decide))).mono ?_
  rintro e wz ⟨rfl, rfl⟩
  go_wp2_with fail
  refine (num_c 2).mono ?_
  rintro e wz ⟨rfl, rfl⟩
  go_wp2_with fail
  refine (point_two Fn.out (by show (1 : Nat) ≠ 0; decide) Fr.out (by rw [HR.out.1]; decide) (.inl (by show (1 : Nat) ≠ 9; decide))).mono ?_
  rintro e wz ⟨rfl, rfl⟩
  go_wp2_with fail
  refine (num_c 2).mono ?_
  rintro e wz ⟨rfl, rfl⟩
  go_wp2_with fail
  refine (point_nil (lo := 0) (o := some (bp, ⟨9, 0, none, none, 0, [], none, 4⟩)) (p := none) ⟨rfl, Fp.out, (by show (9 : Nat) ≠ 0; decide)⟩ (.inl rfl) (.inr rfl)).mono ?_
  rintro e wz ⟨rfl, rfl⟩
  go_wp2_with fail
  refine (num_c 1).mono ?_
  rintro e wz ⟨rfl, rfl⟩
  go_wp2_with fail
  refine (point_set Fp.out rfl Fr.out HR.out.1 rfl).mono ?_
  rintro e w12 ⟨rfl, hw⟩
  have hcs : Chg (fun i => i = bp) w11 w12 := by rw [hw]; exact (Chg.refl (fun i => i = bp) _).setCell (p := ⟨bp, 2, none⟩) (fun _ => rfl) _
  replace Fc : Hid (TiAt 0 w12 bc (basicT 3)) := Go.Lib.hid (by rw [hw]; exact Fc.out.pointed Fp.out (Fc.out.ne_ Fp.out (.inl (by show (3 : Nat) ≠ 9; decide))) _)
  replace Fd : Hid (TiAt 0 w12 bd (basicT 3)) := Go.Lib.hid (by rw [hw]; exact Fd.out.pointed Fp.out (Fd.out.ne_ Fp.out (.inl (by show (3 : Nat) ≠ 9; decide))) _)
  replace Fn : Hid (TiAt 0 w12 bn (basicT 1)) := Go.Lib.hid (by rw [hw]; exact Fn.out.pointed Fp.out (Fn.out.ne_ Fp.out (.inl (by show (1 : Nat) ≠ 9; decide))) _)
  replace Fg : Hid (TiAt 0 w12 bg (bigT bn)) := Go.Lib.hid (by rw [hw]; exact Fg.out.pointed Fp.out (Fg.out.ne_ Fp.out (.inl (by show (7 : Nat) ≠ 9; decide))) _)
  replace Fh : Hid (TiAt 0 w12 bh (halfT bc)) := Go.Lib.hid (by rw [hw]; exact Fh.out.pointed Fp.out (Fh.out.ne_ Fp.out (.inl (by show (7 : Nat) ≠ 9; decide))) _)
  replace Fr : Hid (TiAt 0 w12 br (R)) := Go.Lib.hid (by rw [hw]; exact Fr.out.pointed Fp.out (Fr.out.ne_ Fp.out (.inl (by rw [HR.out.1]; show (8 : Nat) ≠ 9; decide))) _)
  replace Fp : Hid (TiAt 0 w12 bp ⟨9, 0, some br, none, 0, [], none, 4⟩) := Go.Lib.hid (by rw [hw]; exact Fp.out.point br)
  replace CH : Hid (Chg NoB w w12) := Go.Lib.hid (CH.out.step hcs fun i hi e => by have := HPL.out; omega)
  replace HV : Hid (w12.cell? ⟨0, 0, none⟩ = some (.int .i64 mv)) := Go.Lib.hid (keepC CH.out HV0.out)
  clear hcs hw
  go_wp2_with fail
  refine (num_c 0).mono ?_
  rintro e wz ⟨rfl, rfl⟩
  go_wp2_with fail
  refine (point_seven Fp.out rfl Fr.out HR.out.1 (by simp)).mono ?_
  rintro e wz ⟨rfl, rfl⟩
  go_wp2_with fail
  refine (num_c 7).mono ?_
  rintro e wz ⟨rfl, rfl⟩
  go_wp2_with fail
  refine (same_yes Fc.out (by show (3 : Nat) ≠ 0; decide) Fd.out (by show (3 : Nat) ≠ 0; decide) (.inr ⟨rfl, by show (3 : Nat) < 7; decide⟩)).mono ?_
  rintro e w13 ⟨rfl, hc⟩
  have hcc : Chg NoB w12 w13 := hc
  replace Fc : Hid (TiAt 0 w13 bc (basicT 3)) := Go.Lib.hid (Fc.out.quiet hcc)
  replace Fd : Hid (TiAt 0 w13 bd (basicT 3)) := Go.Lib.hid (Fd.out.quiet hcc)
  replace Fn : Hid (TiAt 0 w13 bn (basicT 1)) := Go.Lib.hid (Fn.out.quiet hcc)
  replace Fg : Hid (TiAt 0 w13 bg (bigT bn)) := Go.Lib.hid (Fg.out.quiet hcc)
  replace Fh : Hid (TiAt 0 w13 bh (halfT bc)) := Go.Lib.hid (Fh.out.quiet hcc)
  replace Fr : Hid (TiAt 0 w13 br (R)) := Go.Lib.hid (Fr.out.quiet hcc)
  replace Fp : Hid (TiAt 0 w13 bp (⟨9, 0, some br, none, 0, [], none, 4⟩)) := Go.Lib.hid (Fp.out.quiet hcc)
  replace HV : Hid (w13.cell? ⟨0, 0, none⟩ = some (.int .i64 mv)) := Go.Lib.hid (keepC (CH.out.trans hcc) HV0.out)
  replace CH : Hid (Chg NoB w w13) := Go.Lib.hid (CH.out.trans hcc)
  clear hcc hc
  try unfold ptr
  go_wp2_with fail
  refine (same_diff Fc.out (by show (3 : Nat) ≠ 0; decide) Fn.out (by show (1 : Nat) ≠ 0; decide) (Fc.out.ne_ Fn.out (.inl (by show (3 : Nat) ≠ 1; decide))) (.inl (by show (3 : Nat) ≠ 1; decide))).mono ?_
  rintro e w14 ⟨rfl, hc⟩
  have hcc : Chg NoB w13 w14 := hc
  replace Fc : Hid (TiAt 0 w14 bc (basicT 3)) := Go.Lib.hid (Fc.out.quiet hcc)
  replace Fd : Hid (TiAt 0 w14 bd (basicT 3)) := Go.Lib.hid (Fd.out.quiet hcc)
  replace Fn : Hid (TiAt 0 w14 bn (basicT 1)) := Go.Lib.hid (Fn.out.quiet hcc)
  replace Fg : Hid (TiAt 0 w14 bg (bigT bn)) := Go.Lib.hid (Fg.out.quiet hcc)
  replace Fh : Hid (TiAt 0 w14 bh (halfT bc)) := Go.Lib.hid (Fh.out.quiet hcc)
  replace Fr : Hid (TiAt 0 w14 br (R)) := Go.Lib.hid (Fr.out.quiet hcc)
  replace Fp : Hid (TiAt 0 w14 bp (⟨9, 0, some br, none, 0, [], none, 4⟩)) := Go.Lib.hid (Fp.out.quiet hcc)
  replace HV : Hid (w14.cell? ⟨0, 0, none⟩ = some (.int .i64 mv)) := Go.Lib.hid (keepC (CH.out.trans hcc) HV0.out)
  replace CH : Hid (Chg NoB w w14) := Go.Lib.hid (CH.out.trans hcc)
  clear hcc hc
  try unfold ptr
  go_wp2_with fail
  refine (same_diff Fh.out (by show (7 : Nat) ≠ 0; decide) Fg.out (by show (7 : Nat) ≠ 0; decide) (Fh.out.ne_ Fg.out (.inr (.inl (by show (65536 : Nat) ≠ 262140; decide)))) (.inr (by show 7 ≤ (7 : Nat); decide))).mono ?_
  rintro e w15 ⟨rfl, hc⟩
  have hcc : Chg NoB w14 w15 := hc
  replace Fc : Hid (TiAt 0 w15 bc (basicT 3)) := Go.Lib.hid (Fc.out.quiet hcc)
  replace Fd : Hid (TiAt 0 w15 bd (basicT 3)) := Go.Lib.hid (Fd.out.quiet hcc)
  replace Fn : Hid (TiAt 0 w15 bn (basicT 1)) := Go.Lib.hid (Fn.out.quiet hcc)
  replace Fg : Hid (TiAt 0 w15 bg (bigT bn)) := Go.Lib.hid (Fg.out.quiet hcc)
  replace Fh : Hid (TiAt 0 w15 bh (halfT bc)) := Go.Lib.hid (Fh.out.quiet hcc)
  replace Fr : Hid (TiAt 0 w15 br (R)) := Go.Lib.hid (Fr.out.quiet hcc)
  replace Fp : Hid (TiAt 0 w15 bp (⟨9, 0, some br, none, 0, [], none, 4⟩)) := Go.Lib.hid (Fp.out.quiet hcc)
  replace HV : Hid (w15.cell? ⟨0, 0, none⟩ = some (.int .i64 mv)) := Go.Lib.hid (keepC (CH.out.trans hcc) HV0.out)
  replace CH : Hid (Chg NoB w w15) := Go.Lib.hid (CH.out.trans hcc)
  clear hcc hc
  try unfold ptr
  go_wp2_with fail
  refine (same_yes Fh.out (by show (7 : Nat) ≠ 0; decide) Fh.out (by show (7 : Nat) ≠ 0; decide) (.inl rfl)).mono ?_
  rintro e w16 ⟨rfl, hc⟩
  have hcc : Chg NoB w15 w16 := hc
  replace Fc : Hid (TiAt 0 w16 bc (basicT 3)) := Go.Lib.hid (Fc.out.quiet hcc)
  replace Fd : Hid (TiAt 0 w16 bd (basicT 3)) := Go.Lib.hid (Fd.out.quiet hcc)
  replace Fn : Hid (TiAt 0 w16 bn (basicT 1)) := Go.Lib.hid (Fn.out.quiet hcc)
  replace Fg : Hid (TiAt 0 w16 bg (bigT bn)) := Go.Lib.hid (Fg.out.quiet hcc)
  replace Fh : Hid (TiAt 0 w16 bh (halfT bc)) := Go.Lib.hid (Fh.out.quiet hcc)
  replace Fr : Hid (TiAt 0 w16 br (R)) := Go.Lib.hid (Fr.out.quiet hcc)
  replace Fp : Hid (TiAt 0 w16 bp (⟨9, 0, some br, none, 0, [], none, 4⟩)) := Go.Lib.hid (Fp.out.quiet hcc)
  replace HV : Hid (w16.cell? ⟨0, 0, none⟩ = some (.int .i64 mv)) := Go.Lib.hid (keepC (CH.out.trans hcc) HV0.out)
  replace CH : Hid (Chg NoB w w16) := Go.Lib.hid (CH.out.trans hcc)
  clear hcc hc
  try unfold ptr
  go_wp2_with fail
  refine (pointer_c _).mono ?_
  rintro e w17 ⟨bq, rfl, hTq, hc⟩
  have hcc : Chg NoB w16 w17 := hc
  replace Fc : Hid (TiAt 0 w17 bc (basicT 3)) := Go.Lib.hid (Fc.out.quiet hcc)
  replace Fd : Hid (TiAt 0 w17 bd (basicT 3)) := Go.Lib.hid (Fd.out.quiet hcc)
  replace Fn : Hid (TiAt 0 w17 bn (basicT 1)) := Go.Lib.hid (Fn.out.quiet hcc)
  replace Fg : Hid (TiAt 0 w17 bg (bigT bn)) := Go.Lib.hid (Fg.out.quiet hcc)
  replace Fh : Hid (TiAt 0 w17 bh (halfT bc)) := Go.Lib.hid (Fh.out.quiet hcc)
  replace Fr : Hid (TiAt 0 w17 br (R)) := Go.Lib.hid (Fr.out.quiet hcc)
  replace Fp : Hid (TiAt 0 w17 bp (⟨9, 0, some br, none, 0, [], none, 4⟩)) := Go.Lib.hid (Fp.out.quiet hcc)
  have Fq : Hid (TiAt 0 w17 bq (⟨9, 0, none, none, 0, [], none, 4⟩)) := Go.Lib.hid (hTq.mono (Nat.zero_le _))
  clear hTq
  replace HV : Hid (w17.cell? ⟨0, 0, none⟩ = some (.int .i64 mv)) := Go.Lib.hid (keepC (CH.out.trans hcc) HV0.out)
  replace CH : Hid (Chg NoB w w17) := Go.Lib.hid (CH.out.trans hcc)
  clear hcc hc
  try unfold ptr
  go_wp2_with fail
  refine (same_diff Fp.out (by show (9 : Nat) ≠ 0; decide) Fq.out (by show (9 : Nat) ≠ 0; decide) (Fp.out.ne_ Fq.out (.inr (.inr (by simp)))) (.inr (by show 7 ≤ (9 : Nat); decide))).mono ?_
  rintro e w18 ⟨rfl, hc⟩
  have hcc : Chg NoB w17 w18 := hc
  replace Fc : Hid (TiAt 0 w18 bc (basicT 3)) := Go.Lib.hid (Fc.out.quiet hcc)
  replace Fd : Hid (TiAt 0 w18 bd (basicT 3)) := Go.Lib.hid (Fd.out.quiet hcc)
  replace Fn : Hid (TiAt 0 w18 bn (basicT 1)) := Go.Lib.hid (Fn.out.quiet hcc)
  replace Fg : Hid (TiAt 0 w18 bg (bigT bn)) := Go.Lib.hid (Fg.out.quiet hcc)
  replace Fh : Hid (TiAt 0 w18 bh (halfT bc)) := Go.Lib.hid (Fh.out.quiet hcc)
  replace Fr : Hid (TiAt 0 w18 br (R)) := Go.Lib.hid (Fr.out.quiet hcc)
  replace Fp : Hid (TiAt 0 w18 bp (⟨9, 0, some br, none, 0, [], none, 4⟩)) := Go.Lib.hid (Fp.out.quiet hcc)
  replace Fq : Hid (TiAt 0 w18 bq (⟨9, 0, none, none, 0, [], none, 4⟩)) := Go.Lib.hid (Fq.out.quiet hcc)
  replace HV : Hid (w18.cell? ⟨0, 0, none⟩ = some (.int .i64 mv)) := Go.Lib.hid (keepC (CH.out.trans hcc) HV0.out)
  replace CH : Hid (Chg NoB w w18) := Go.Lib.hid (CH.out.trans hcc)
  clear hcc hc
  try unfold ptr
  go_wp2_with fail
  refine (same_no (lo := 0) (o := none) (p := none) (Or.inl rfl) (NoT.new _) (.inl rfl)).mono ?_
  rintro e w19 ⟨rfl, hc⟩
  have hcc : Chg NoB w18 w19 := ((Chg.refl NoB _).alloc _).trans hc
  replace Fc : Hid (TiAt 0 w19 bc (basicT 3)) := Go.Lib.hid (Fc.out.quiet hcc)
  replace Fd : Hid (TiAt 0 w19 bd (basicT 3)) := Go.Lib.hid (Fd.out.quiet hcc)
  replace Fn : Hid (TiAt 0 w19 bn (basicT 1)) := Go.Lib.hid (Fn.out.quiet hcc)
  replace Fg : Hid (TiAt 0 w19 bg (bigT bn)) := Go.Lib.hid (Fg.out.quiet hcc)
  replace Fh : Hid (TiAt 0 w19 bh (halfT bc)) := Go.Lib.hid (Fh.out.quiet hcc)
  replace Fr : Hid (TiAt 0 w19 br (R)) := Go.Lib.hid (Fr.out.quiet hcc)
  replace Fp : Hid (TiAt 0 w19 bp (⟨9, 0, some br, none, 0, [], none, 4⟩)) := Go.Lib.hid (Fp.out.quiet hcc)
  replace Fq : Hid (TiAt 0 w19 bq (⟨9, 0, none, none, 0, [], none, 4⟩)) := Go.Lib.hid (Fq.out.quiet hcc)
  replace HV : Hid (w19.cell? ⟨0, 0, none⟩ = some (.int .i64 mv)) := Go.Lib.hid (keepC (CH.out.trans hcc) HV0.out)
  replace CH : Hid (Chg NoB w w19) := Go.Lib.hid (CH.out.trans hcc)
  clear hcc hc
  try unfold ptr
  go_wp2_with fail
  refine (same_no (lo := 0) (o := none) (p := some (bc, basicT 3)) (Or.inl rfl) ⟨rfl, Fc.out, (by show (3 : Nat) ≠ 0; decide)⟩ (.inl rfl)).mono ?_
  rintro e w20 ⟨rfl, hc⟩
  have hcc : Chg NoB w19 w20 := hc
  replace Fc : Hid (TiAt 0 w20 bc (basicT 3)) := Go.Lib.hid (Fc.out.quiet hcc)
  replace Fd : Hid (TiAt 0 w20 bd (basicT 3)) := Go.Lib.hid (Fd.out.quiet hcc)
  replace Fn : Hid (TiAt 0 w20 bn (basicT 1)) := Go.Lib.hid (Fn.out.quiet hcc)
  replace Fg : Hid (TiAt 0 w20 bg (bigT bn)) := Go.Lib.hid (Fg.out.quiet hcc)
  replace Fh : Hid (TiAt 0 w20 bh (halfT bc)) := Go.Lib.hid (Fh.out.quiet hcc)
  replace Fr : Hid (TiAt 0 w20 br (R)) := Go.Lib.hid (Fr.out.quiet hcc)
  replace Fp : Hid (TiAt 0 w20 bp (⟨9, 0, some br, none, 0, [], none, 4⟩)) := Go.Lib.hid (Fp.out.quiet hcc)
  replace Fq : Hid (TiAt 0 w20 bq (⟨9, 0, none, none, 0, [], none, 4⟩)) := Go.Lib.hid (Fq.out.quiet hcc)
  replace HV : Hid (w20.cell? ⟨0, 0, none⟩ = some (.int .i64 mv)) := Go.Lib.hid (keepC (CH.out.trans hcc) HV0.out)
  replace CH : Hid (Chg NoB w w20) := Go.Lib.hid (CH.out.trans hcc)
  clear hcc hc
  try unfold ptr
  go_wp2_with fail
  refine (num_c 3).mono ?_
  rintro e wz ⟨rfl, rfl⟩
  go_wp2_with fail
  refine (noType_c (.inl rfl)).mono ?_
  rintro e w21 ⟨rfl, hc⟩
  have hcc : Chg NoB w20 w21 := hc
  replace HV : Hid (w21.cell? ⟨0, 0, none⟩ = some (.int .i64 mv)) := Go.Lib.hid (keepC (CH.out.trans hcc) HV0.out)
  replace CH : Hid (Chg NoB w w21) := Go.Lib.hid (CH.out.trans hcc)
  clear hcc hc
  try unfold ptr
  go_wp2_with fail
  refine (noType_c (NoT.new _)).mono ?_
  rintro e w22 ⟨rfl, hc⟩
  have hcc : Chg NoB w21 w22 := ((Chg.refl NoB _).alloc _).trans hc
  replace HV : Hid (w22.cell? ⟨0, 0, none⟩ = some (.int .i64 mv)) := Go.Lib.hid (keepC (CH.out.trans hcc) HV0.out)
  replace CH : Hid (Chg NoB w w22) := Go.Lib.hid (CH.out.trans hcc)
  clear hcc hc
  try unfold ptr
  go_wp2_with fail
  refine (noVar_c (.inl rfl)).mono ?_
  rintro e w23 ⟨rfl, hc⟩
  have hcc : Chg NoB w22 w23 := hc
  replace HV : Hid (w23.cell? ⟨0, 0, none⟩ = some (.int .i64 mv)) := Go.Lib.hid (keepC (CH.out.trans hcc) HV0.out)
  replace CH : Hid (Chg NoB w w23) := Go.Lib.hid (CH.out.trans hcc)
  clear hcc hc
  try unfold ptr
  go_wp2_with fail
  refine (noVar_c (NoV.new _)).mono ?_
  rintro e w24 ⟨rfl, hc⟩
  have hcc : Chg NoB w23 w24 := ((Chg.refl NoB _).alloc _).trans hc
  replace HV : Hid (w24.cell? ⟨0, 0, none⟩ = some (.int .i64 mv)) := Go.Lib.hid (keepC (CH.out.trans hcc) HV0.out)
  replace CH : Hid (Chg NoB w w24) := Go.Lib.hid (CH.out.trans hcc)
  clear hcc hc
  try unfold ptr
  go_wp2_with fail
  refine (known_c HV.out).mono ?_
  rintro e w25 ⟨rfl, hc⟩
  have hcc : Chg NoB w24 w25 := hc
  replace HV : Hid (w25.cell? ⟨0, 0, none⟩ = some (.int .i64 mv)) := Go.Lib.hid (keepC (CH.out.trans hcc) HV0.out)
  replace CH : Hid (Chg NoB w w25) := Go.Lib.hid (CH.out.trans hcc)
  clear hcc hc
  try unfold ptr
  go_wp2_with fail
  go_ret
  exact ⟨rfl, CH.out⟩
end
end Go.Proofs.Ytholeloedihkoaa
