/- What is proved: the contract of build over what the builds of its parts answer. Conditions: the memory holds the shape. -/
import Derived.Test.YtholeloedihkoaaVaL
import Derived.Deep.CutRange
import Derived.Deep.CutBlock
set_option linter.unusedSimpArgs false
set_option linter.unusedVariables false
namespace Go.Proofs.Ytholeloedihkoaa
open Go.RowKit
/-- but rows of pointers to types may have changed -/
def Keep (W W' : World) : Prop := ∃ F : Nat → Prop, Chg F W W' ∧ ∀ k, F k → ∃ cs fr, W.heap[k]? = some (.cells cs PT fr)
def KeepsQ (Q : Nat → World → Nat × Ti → Prop) : Prop := ∀ i W W' t, Q i W t → Keep W W' → Q i W' t
theorem Keep.of_quiet {W W' : World} (h : Chg NoB W W') : Keep W W' := ⟨NoB, h, fun _ h => h.elim⟩
/-- what a part's build answers -/
def BuiltE (lo : Nat) (er : Int) (Q : World → Nat × Ti → Prop) (w : World) (e : Ending) (w' : World) : Prop :=
  (er = 0 ∧ ∃ b T, e = .returned (.tuple #[ptr b, .int .i64 0]) ∧ TiAt lo w' b T ∧ T.kind ≠ 0 ∧ Q w' (b, T) ∧ Chg NoB w w') ∨
  (er ≠ 0 ∧ ∃ t, e = .returned (.tuple #[t, .int .i64 er]) ∧ Chg NoB w w')
/-- what build answers, over its parts' answers -/
def BPost (w : World) (m : Nat) (er : Nat → Int) (Q : Nat → World → Nat × Ti → Prop) (K : List (Nat × Ti) → Ending → World → Prop) (e : Ending) (w' : World) : Prop :=
  (∃ k, k < m ∧ er k ≠ 0 ∧ (∀ i, i < k → er i = 0) ∧ e = .returned (.tuple #[.pointer none, .int .i64 (er k)]) ∧ Chg NoB w w') ∨
  ((∀ i, i < m → er i = 0) ∧ ∃ ts : List (Nat × Ti), ts.length = m ∧ (∀ (i : Nat) t, ts[i]? = some t → TiAt w.heap.size w' t.1 t.2 ∧ t.2.kind ≠ 0 ∧ Q i w' t) ∧ Chg NoB w w' ∧ K ts e w')
section
variable {lo : Nat} {w w' : World} {b : Nat} {T : Ti}
/-- ahead of a round of build's loop -/
structure BJ (w w0 : World) (k : Nat) (ts : List (Nat × Ti)) (Q : Nat → World → Nat × Ti → Prop) (v : Value) (W : World) : Prop where
  chg : Chg NoB w0 W
  row : W.ownsRow (w.heap.size + 1) PT 1 v k (ts.map fun t => ptr t.1)
  len : ts.length = k
  ok : ∀ (i : Nat) t, ts[i]? = some t → TiAt w.heap.size W t.1 t.2 ∧ t.2.kind ≠ 0 ∧ Q i W t
  size : w0.heap.size = w.heap.size + 1
variable {w0 W W' : World} {k : Nat} {ts : List (Nat × Ti)} {Q : Nat → World → Nat × Ti → Prop} {v : Value}
theorem BJ.start (Q : Nat → World → Nat × Ti → Prop) (w0 : World) (h : Chg NoB w w0) (hs : w0.heap.size = w.heap.size + 1) : BJ w w0 0 [] Q (.slice none 0 0) w0 :=
  ⟨Chg.refl _ _, World.ownsRow_nil _ _ _ _, rfl, fun i t h => by simp at h, hs⟩
structure BM (w w0 : World) (k : Nat) (ts : List (Nat × Ti)) (Q : Nat → World → Nat × Ti → Prop) (v : Value) (b : Nat) (T : Ti) (W : World) : Prop where
  chg : Chg NoB w0 W
  row : W.ownsRow (w.heap.size + 1) PT 1 v k (ts.map fun t => ptr t.1)
  len : ts.length = k
  ok : ∀ (i : Nat) t, (ts ++ [(b, T)])[i]? = some t → TiAt w.heap.size W t.1 t.2 ∧ t.2.kind ≠ 0 ∧ Q i W t
  size : w.heap.size + 1 ≤ W.heap.size
  size0 : w0.heap.size = w.heap.size + 1
theorem BJ.built (HK : KeepsQ Q) (h : BJ w w0 k ts Q v W) (hT : TiAt w.heap.size W' b T) (h0 : T.kind ≠ 0) (hQ : Q k W' (b, T)) (hc : Chg NoB W W') : BM w w0 k ts Q v b T W' :=
  ⟨h.chg.trans hc, own_chg h.row hc fun _ _ => id, h.len, fun i t hi => by
    rcases Nat.lt_or_ge i ts.length with hl | hl
    · rw [List.getElem?_append_left hl] at hi
      have := h.ok i t hi
      exact ⟨this.1.quiet hc, this.2.1, HK _ _ _ _ this.2.2 (.of_quiet hc)⟩
    · rw [List.getElem?_append_right hl] at hi
      have hi0 : i - ts.length = 0 := by
        rcases Nat.eq_zero_or_pos (i - ts.length) with h | h
        · exact h
        · rw [List.getElem?_eq_none (by simp; omega)] at hi; cases hi
      rw [hi0] at hi
      obtain rfl : (b, T) = t := by simpa using hi
      have : i = k := by have := h.len; omega
      subst this
      exact ⟨hT, h0, hQ⟩, by have := h.chg.size; have := hc.size; have := h.size; omega, h.size⟩
theorem BM.grow {o : Obj} {v' : Value} (HK : KeepsQ Q) (h : BM w w0 k ts Q v b T W) (hown : W'.ownsRow (w.heap.size + 1) PT 1 v' (k + 1) ((ts.map fun t => ptr t.1) ++ [.pointer (some ⟨b, 0, none⟩)])) (hg : (W.alloc o).grownBy W' v.ownBlock) :
    BJ w w0 (k + 1) (ts ++ [(b, T)]) Q v' W' := by
  have hca : Chg NoB W (W.alloc o) := (Chg.refl NoB W).alloc _
  have hch : Chg (fun k' => v.ownBlock = some k') W W' := (hca.mono (fun _ _ h => h.elim)).grown hg (fun k hk _ => hk)
  have hkeep : Keep W W' := ⟨_, hch, fun k' hk' => by
    rcases h.row.2 with ⟨rfl, _⟩ | ⟨g, cap, cur, rfl, _, hh, _⟩
    · simp [Value.ownBlock] at hk'
    · obtain rfl : g = k' := by simpa [Value.ownBlock] using hk'
      exact ⟨_, _, hh⟩⟩
  refine ⟨h.chg.step hch fun i hi hk => by have := (h.row.lt i hk).1; have := h.size0; omega, by rw [List.map_append]; exact hown, by simp [h.len], fun i t hi => ?_, h.size0⟩
  have hk := h.ok i t hi
  exact ⟨hk.1.chg2 hch (own_blk_ne h.row hk.1.blk (by decide)) (fun k' hk' => own_own_ne hk.1.row (own_base h.row (Nat.le_succ _)) (by decide) hk') (fun m hm => (hk.1.map m hm).own_ne h.row), hk.2.1, HK _ _ _ _ hk.2.2 hkeep⟩
def PtrK (lo m : Nat) (ts : List (Nat × Ti)) (e : Ending) (w' : World) : Prop :=
  (m ≠ 1 ∧ ∃ b, e = .returned (.tuple #[ptr b, .int .i64 0]) ∧ TiAt lo w' b ⟨9, 0, none, none, 0, [], none, 4⟩) ∨ ∃ b0 T0, ts = [(b0, T0)] ∧ m = 1 ∧ (T0.kind ≠ 8 ∧ (∃ b, e = .returned (.tuple #[ptr b, .int .i64 2])) ∨ T0.kind = 8 ∧ ∃ b, e = .returned (.tuple #[ptr b, .int .i64 0]) ∧ TiAt lo w' b ⟨9, 0, some b0, none, 0, [], none, 4⟩)
theorem point_new {b2 : Nat} {U : Ti} (h : TiAt lo w b ⟨9, 0, none, none, 0, [], none, 4⟩) (k : TiAt lo w b2 U) (hk2 : U.kind ≠ 0) : Calls Try.prog 17 #[ptr b, ptr b2] w fun e w' => (U.kind ≠ 8 ∧ e = .returned (.int .i64 2) ∧ w = w') ∨ (U.kind = 8 ∧ e = .returned (.int .i64 0) ∧ TiAt lo w' b ⟨9, 0, some b2, none, 0, [], none, 4⟩ ∧ Chg (fun i => i = b) w w') :=
  (point_c h (by show (9 : Nat) ≠ 0; decide) k hk2).mono fun e w' hp => by
    rcases hp with ⟨h1 | h1, h2, h3⟩ | ⟨_, _, h1, _⟩ | ⟨_, h1, _, h2, h3⟩
    · exact absurd rfl h1
    · exact .inl ⟨h1, h2, h3⟩
    · exact absurd rfl h1
    · have hc : Chg (fun i => i = b) w w' := by rw [h3]; exact (Chg.refl (fun i => i = b) _).setCell (p := ⟨b, 2, none⟩) (fun _ => rfl) _
      refine .inr ⟨h1, h2, ⟨by rw [h3]; exact h.blk.set_ 2 _, own_chg h.row hc fun k hk e => by subst e; exact own_blk_ne h.row h.blk (by decide) hk, fun _ => rfl, (fun m hm => by cases hm), ⟨h.lo.1, fun m hm => by cases hm⟩, h.sz, h.nn, h.nf⟩, hc⟩
def ArrK (lo m : Nat) (nn : Int) (ts : List (Nat × Ti)) (e : Ending) (w' : World) : Prop :=
  m ≠ 1 ∧ e = .returned (.tuple #[.pointer none, .int .i64 1]) ∨ ∃ b0 T0, ts = [(b0, T0)] ∧ m = 1 ∧ ((nn < 1 ∨ 65535 < nn) ∧ e = .returned (.tuple #[.pointer none, .int .i64 2]) ∨ ∃ n : Nat, nn = n ∧ 1 ≤ n ∧ n ≤ 65535 ∧
    (262144 < n * T0.size ∧ e = .returned (.tuple #[.pointer none, .int .i64 3]) ∨ n * T0.size ≤ 262144 ∧ ∃ b, e = .returned (.tuple #[ptr b, .int .i64 0]) ∧ TiAt lo w' b ⟨7, n, some b0, none, 0, [], none, (n * T0.size + 3) / 4 * 4⟩))
def RecK (lo m : Nat) (ns : List ByteArray) (ts : List (Nat × Ti)) (e : Ending) (w' : World) : Prop := ns.length ≠ m ∧ e = .returned (.tuple #[.pointer none, .int .i64 2]) ∨ ns.length = m ∧ if recGood ns = true then if recSize (ns.zip ts) ≤ 262144 then ∃ b T, e = .returned (.tuple #[ptr b, .int .i64 0]) ∧ TiAt lo w' b T ∧ T.kind = 8 ∧ T.n = 0 ∧ T.base = none ∧ T.fs = (recL (ns.zip ts)).1 ∧ T.size = recSize (ns.zip ts) else e = .returned (.tuple #[.pointer none, .int .i64 3]) else e = .returned (.tuple #[.pointer none, .int .i64 2])
theorem rec_len {A B : Option Addr} {c d n : Nat} {vs : List Value} {os : List (Option (Nat × Ti))} (hB : CellsAt w B vs) (hT : TVs lo w vs os) (hm : vs.length ≤ maxLen) (hs : ∀ o ∈ os, o.isSome = true) (hn : n ≠ vs.length) :
    Calls Try.prog 13 #[.slice A n c, .slice B vs.length d] w (Quiet (.tuple #[.pointer none, .int .i64 2]) w) := by
  have HC := Go.Lib.hid (contains_c (c := d) hB hT hm)
  have Hs := Go.Lib.hid hs
  have hne : ((n : Int) != (vs.length : Int)) = true := by simp; omega
  generalize vs.length = m at *
  clear hB hT hm hs hn
  go_enter Try.func13, Try.ntmps13
  go_wp2_with fail
  refine HC.out.mono ?_
  rintro e w1 ⟨b, rfl, hb, rfl⟩
  obtain rfl : b = false := by
    rcases hb with ⟨h, _⟩ | ⟨_, o, ho, h⟩
    · exact h
    · subst h
      exact absurd (Hs.out _ ho) (by simp)
  clear hb
  go_wp2_with fail
  go_ret2
  exact ⟨rfl, Chg.refl _ _⟩
set_option maxHeartbeats 2000000 in
set_option maxRecDepth 100000 in
theorem buildBas_g {nn : Int} {nA : Option Addr} {nl nc pc pb po : Nat} {pA : Option Addr} {svs : List Sv} {er : Nat → Int} {Q : Nat → World → Nat × Ti → Prop} (HK : KeepsQ Q)
    (hS : ∀ (i : Nat) sv, svs[i]? = some sv → ∀ W, Chg NoB w W → W.cell? ⟨pb, po + i * 4, none⟩ = some (.int .i64 sv.k) ∧ W.cell? ⟨pb, po + i * 4 + 1, none⟩ = some (.int .i64 sv.n) ∧ W.cell? ⟨pb, po + i * 4 + 2, none⟩ = some (.slice sv.nA sv.nl sv.nc) ∧ W.cell? ⟨pb, po + i * 4 + 3, none⟩ = some (.slice sv.pA sv.pl sv.pc))
    (hB : ∀ (i : Nat) sv, svs[i]? = some sv → ∀ W, Chg NoB w W → Calls Try.prog 9 #[sv.val] W (BuiltE w.heap.size (er i) (Q i) W)) (hl : svs.length ≤ 1100000) (HP : Hid (0 < svs.length → pA = some ⟨pb, po, none⟩)) {k9 : Int} (d7 : (k9 == 7) = false) (d8 : (k9 == 8) = false) (d9 : (k9 == 9) = false) :
    Calls Try.prog 9 #[.agg #[.int .i64 k9, .int .i64 nn, .slice nA nl nc, .slice pA svs.length pc]] w (BPost w svs.length er Q (fun ts e w' => (∃ n : Nat, k9 = n ∧ 1 ≤ n ∧ n ≤ 5 ∧ ∃ b, e = .returned (.tuple #[ptr b, .int .i64 0]) ∧ TiAt w.heap.size w' b (basicT n)) ∨ (k9 < 1 ∨ 5 < k9) ∧ e = .returned (.tuple #[.pointer none, .int .i64 2]))) := by
  have HS := Go.Lib.hid hS
  have HB := Go.Lib.hid hB
  clear hS hB
  unfold Sv.val at HB
  go_enter Try.func9, Try.ntmps9
  go_wp2_with fail
  go_loopw [4, 5, 6, 7] (fun v4 v5 _ _ wr => ∃ (k : Nat) (ts : List (Nat × Ti)), k ≤ svs.length ∧ (∀ i, i < k → er i = 0) ∧ v5 = .int .i64 k ∧ BJ w (w.alloc (Obj.cells #[.int .i64 k9, .int .i64 nn, .slice nA nl nc, .slice pA svs.length pc] ShT)) k ts Q v4 wr) (fun _ v5 _ _ _ => svs.length - (intOf v5).toNat)
  case atStart => exact ⟨0, [], Nat.zero_le _, fun i h => absurd h (Nat.not_lt_zero _), rfl, BJ.start _ _ ((Chg.refl NoB w).alloc _) (by simp)⟩
  case round =>
    obtain ⟨k, ts, hk, hz, rfl, hI⟩ := hrel
    have HI := Go.Lib.hid hI
    have HZ := Go.Lib.hid hz
    clear hI hz
    have hbx := (Blk.new w ShT #[.int .i64 k9, .int .i64 nn, .slice nA nl nc, .slice pA svs.length pc]).chg HI.out.chg id
    have p0 : wr.cell? ⟨w.heap.size, 0, none⟩ = some (.int .i64 k9) := hbx.cell 0
    have p1 : wr.cell? ⟨w.heap.size, 1, none⟩ = some (.int .i64 nn) := hbx.cell 1
    have p2 : wr.cell? ⟨w.heap.size, 2, none⟩ = some (.slice nA nl nc) := hbx.cell 2
    have p3 : wr.cell? ⟨w.heap.size, 3, none⟩ = some (.slice pA svs.length pc) := hbx.cell 3
    clear hbx
    by_cases hlt : k < svs.length
    · have hpa := HP.out (by omega)
      subst hpa
      obtain ⟨sv, hsv⟩ : ∃ sv, svs[k]? = some sv := ⟨_, List.getElem?_eq_getElem hlt⟩
      have hw0 : Chg NoB w wr := ((Chg.refl NoB w).alloc _).trans HI.out.chg
      obtain ⟨q0, q1, q2, q3⟩ := HS.out k sv hsv wr hw0
      have HC := Go.Lib.hid (HB.out k sv hsv wr hw0)
      have Hsv := Go.Lib.hid hsv
      clear hw0 hsv
      go_wp2_with fail
      refine HC.out.mono ?_
      rintro e w1 (⟨h0, b, T, rfl, hT, hT0, hQ, hc⟩ | ⟨h0, t, rfl, hc⟩)
      rotate_left
      · have hne : (er k != 0) = true := by simpa using h0
        have H0 := Go.Lib.hid (And.intro h0 hc)
        clear h0 hc HC q0 q1 q2 q3 p0 p1 p2 p3
        obtain ⟨x, hx⟩ : ∃ x, x = er k := ⟨_, rfl⟩
        rw [← hx] at hne ⊢
        have HX := Go.Lib.hid hx
        clear hx
        go_wp2_with fail
        go_ret2
        exact .inl ⟨k, by omega, H0.out.1, HZ.out, by rw [HX.out]; rfl, (((Chg.refl NoB w).alloc _).trans HI.out.chg).trans H0.out.2⟩
      clear HC q0 q1 q2 q3 p0 p1 p2 p3
      have HN := Go.Lib.hid (HI.out.built HK hT hT0 hQ hc)
      have HE := Go.Lib.hid h0
      clear hT hT0 hQ hc h0
      obtain ⟨i0, hi0, hz0, hz1, hz2⟩ := info_parts3 pinfo
      have Hi := Go.Lib.hid (And.intro hi0 (And.intro hz0 (And.intro hz1 hz2)))
      clear hi0 hz0 hz1 hz2
      unfold ptr
      go_wp2_with (at_builtin; refine wpList_append_own _ rfl _ _ 38 rfl (w.heap.size + 1) PT i0 (.pointer none) 1 8 Try.underlying38 Hi.out.1 Hi.out.2.1 Hi.out.2.2.1 Hi.out.2.2.2 rfl (by decide) _ k (ts.map fun t => ptr t.1) rfl (HN.out.row.alloc _) ⟨w1.heap.size, 0, none⟩ 1 1 [.pointer (some ⟨b, 0, none⟩)] rfl rfl (cell_one_new _ _ _) (by simp [Value.oneCell']) (by unfold maxLen; omega) (by omega) (by have := HN.out.size; simp; omega) ?_; intro v' w6 hown' hgrow _)
      have HN2 := Go.Lib.hid (HN.out.grow HK hown' hgrow)
      clear hown' hgrow HN
      go_wp2_with fail
      go_roundw
      case rel => exact ⟨k + 1, ts ++ [(b, T)], by omega, fun i hi => (Nat.lt_succ_iff_lt_or_eq.1 hi).elim (HZ.out i) (fun e => e ▸ HE.out), by go_num, HN2.out⟩
      case measure => simp [intOf]; omega
    · obtain rfl : k = svs.length := by omega
      clear HB HS
      obtain ⟨A, c, rfl⟩ := own_slice1' HI.out.row
      have hl := HI.out.len
      go_upto_region 9 with fail
      have hwr : Chg NoB w wr := ((Chg.refl NoB w).alloc _).trans HI.out.chg
      have HW := Go.Lib.hid hwr
      have hszz : w.heap.size ≤ wr.heap.size := hwr.size
      clear hwr
      by_cases hk15 : 1 ≤ k9 ∧ k9 ≤ 5
      · obtain ⟨n, rfl⟩ : ∃ n : Nat, k9 = n := ⟨k9.toNat, by omega⟩
        have HBs := Go.Lib.hid (basic_c n (by omega) (by omega) (w := wr))
        have Hn := Go.Lib.hid hk15
        clear hk15
        go_wp2_with fail
        refine HBs.out.mono ?_
        rintro e w1 ⟨b, rfl, hT, hc⟩
        have HR := Go.Lib.hid (And.intro hT hc)
        clear hT hc HBs
        have HNm := Go.Lib.hid (num_c 0 (w := w1))
        unfold ptr
        go_wp2_with fail
        refine HNm.out.mono ?_
        rintro e w2 ⟨rfl, rfl⟩
        go_wp2_with fail
        go_ret2
        have h1 := Hn.out
        exact .inr ⟨HZ.out, ts, hl, fun i t hi => ⟨(HI.out.ok i t hi).1.quiet HR.out.2, (HI.out.ok i t hi).2.1, HK _ _ _ _ (HI.out.ok i t hi).2.2 (.of_quiet HR.out.2)⟩, HW.out.trans HR.out.2, .inl ⟨n, rfl, by omega, by omega, b, rfl, HR.out.1.mono hszz⟩⟩
      · have HBs := Go.Lib.hid (basic_no k9 (by omega) (w := wr))
        have Hn := Go.Lib.hid hk15
        clear hk15
        go_wp2_with fail
        refine HBs.out.mono ?_
        rintro e w1 ⟨rfl, hc⟩
        have HR := Go.Lib.hid hc
        clear hc HBs
        have HNm := Go.Lib.hid (num_c 2 (w := w1))
        go_wp2_with fail
        refine HNm.out.mono ?_
        rintro e w2 ⟨rfl, rfl⟩
        go_wp2_with fail
        go_ret2
        have h1 := Hn.out
        exact .inr ⟨HZ.out, ts, hl, fun i t hi => ⟨(HI.out.ok i t hi).1.quiet HR.out, (HI.out.ok i t hi).2.1, HK _ _ _ _ (HI.out.ok i t hi).2.2 (.of_quiet HR.out)⟩, HW.out.trans HR.out, .inr ⟨by omega, rfl⟩⟩
set_option maxHeartbeats 2000000 in
set_option maxRecDepth 100000 in
theorem buildRec_g {nn : Int} {nA : Option Addr} {nl nc pc pb po : Nat} {pA : Option Addr} {svs : List Sv} {er : Nat → Int} {Q : Nat → World → Nat × Ti → Prop} (HK : KeepsQ Q)
    (hS : ∀ (i : Nat) sv, svs[i]? = some sv → ∀ W, Chg NoB w W → W.cell? ⟨pb, po + i * 4, none⟩ = some (.int .i64 sv.k) ∧ W.cell? ⟨pb, po + i * 4 + 1, none⟩ = some (.int .i64 sv.n) ∧ W.cell? ⟨pb, po + i * 4 + 2, none⟩ = some (.slice sv.nA sv.nl sv.nc) ∧ W.cell? ⟨pb, po + i * 4 + 3, none⟩ = some (.slice sv.pA sv.pl sv.pc))
    (hB : ∀ (i : Nat) sv, svs[i]? = some sv → ∀ W, Chg NoB w W → Calls Try.prog 9 #[sv.val] W (BuiltE w.heap.size (er i) (Q i) W)) (hl : svs.length ≤ 1100000) (HP : Hid (0 < svs.length → pA = some ⟨pb, po, none⟩)) {ns : List ByteArray} {mv : Int} (Hn : Hid (nl = ns.length ∧ (∀ n ∈ ns, n.size ≤ maxLen) ∧ w.cell? ⟨0, 0, none⟩ = some (.int .i64 mv) ∧ ∀ W, Chg NoB w W → CellsAt W nA (ns.map .string))) :
    Calls Try.prog 9 #[.agg #[.int .i64 8, .int .i64 nn, .slice nA nl nc, .slice pA svs.length pc]] w (BPost w svs.length er Q (fun ts e w' => RecK w.heap.size svs.length ns ts e w')) := by
  have HS := Go.Lib.hid hS
  have HB := Go.Lib.hid hB
  clear hS hB
  unfold Sv.val at HB
  go_enter Try.func9, Try.ntmps9
  go_wp2_with fail
  go_loopw [4, 5, 6, 7] (fun v4 v5 _ _ wr => ∃ (k : Nat) (ts : List (Nat × Ti)), k ≤ svs.length ∧ (∀ i, i < k → er i = 0) ∧ v5 = .int .i64 k ∧ BJ w (w.alloc (Obj.cells #[.int .i64 8, .int .i64 nn, .slice nA nl nc, .slice pA svs.length pc] ShT)) k ts Q v4 wr) (fun _ v5 _ _ _ => svs.length - (intOf v5).toNat)
  case atStart => exact ⟨0, [], Nat.zero_le _, fun i h => absurd h (Nat.not_lt_zero _), rfl, BJ.start _ _ ((Chg.refl NoB w).alloc _) (by simp)⟩
  case round =>
    obtain ⟨k, ts, hk, hz, rfl, hI⟩ := hrel
    have HI := Go.Lib.hid hI
    have HZ := Go.Lib.hid hz
    clear hI hz
    have hbx := (Blk.new w ShT #[.int .i64 8, .int .i64 nn, .slice nA nl nc, .slice pA svs.length pc]).chg HI.out.chg id
    have p0 : wr.cell? ⟨w.heap.size, 0, none⟩ = some (.int .i64 8) := hbx.cell 0
    have p1 : wr.cell? ⟨w.heap.size, 1, none⟩ = some (.int .i64 nn) := hbx.cell 1
    have p2 : wr.cell? ⟨w.heap.size, 2, none⟩ = some (.slice nA nl nc) := hbx.cell 2
    have p3 : wr.cell? ⟨w.heap.size, 3, none⟩ = some (.slice pA svs.length pc) := hbx.cell 3
    clear hbx
    by_cases hlt : k < svs.length
    · have hpa := HP.out (by omega)
      subst hpa
      obtain ⟨sv, hsv⟩ : ∃ sv, svs[k]? = some sv := ⟨_, List.getElem?_eq_getElem hlt⟩
      have hw0 : Chg NoB w wr := ((Chg.refl NoB w).alloc _).trans HI.out.chg
      obtain ⟨q0, q1, q2, q3⟩ := HS.out k sv hsv wr hw0
      have HC := Go.Lib.hid (HB.out k sv hsv wr hw0)
      have Hsv := Go.Lib.hid hsv
      clear hw0 hsv
      go_wp2_with fail
      refine HC.out.mono ?_
      rintro e w1 (⟨h0, b, T, rfl, hT, hT0, hQ, hc⟩ | ⟨h0, t, rfl, hc⟩)
      rotate_left
      · have hne : (er k != 0) = true := by simpa using h0
        have H0 := Go.Lib.hid (And.intro h0 hc)
        clear h0 hc HC q0 q1 q2 q3 p0 p1 p2 p3
        obtain ⟨x, hx⟩ : ∃ x, x = er k := ⟨_, rfl⟩
        rw [← hx] at hne ⊢
        have HX := Go.Lib.hid hx
        clear hx
        go_wp2_with fail
        go_ret2
        exact .inl ⟨k, by omega, H0.out.1, HZ.out, by rw [HX.out]; rfl, (((Chg.refl NoB w).alloc _).trans HI.out.chg).trans H0.out.2⟩
      clear HC q0 q1 q2 q3 p0 p1 p2 p3
      have HN := Go.Lib.hid (HI.out.built HK hT hT0 hQ hc)
      have HE := Go.Lib.hid h0
      clear hT hT0 hQ hc h0
      obtain ⟨i0, hi0, hz0, hz1, hz2⟩ := info_parts3 pinfo
      have Hi := Go.Lib.hid (And.intro hi0 (And.intro hz0 (And.intro hz1 hz2)))
      clear hi0 hz0 hz1 hz2
      unfold ptr
      go_wp2_with (at_builtin; refine wpList_append_own _ rfl _ _ 38 rfl (w.heap.size + 1) PT i0 (.pointer none) 1 8 Try.underlying38 Hi.out.1 Hi.out.2.1 Hi.out.2.2.1 Hi.out.2.2.2 rfl (by decide) _ k (ts.map fun t => ptr t.1) rfl (HN.out.row.alloc _) ⟨w1.heap.size, 0, none⟩ 1 1 [.pointer (some ⟨b, 0, none⟩)] rfl rfl (cell_one_new _ _ _) (by simp [Value.oneCell']) (by unfold maxLen; omega) (by omega) (by have := HN.out.size; simp; omega) ?_; intro v' w6 hown' hgrow _)
      have HN2 := Go.Lib.hid (HN.out.grow HK hown' hgrow)
      clear hown' hgrow HN
      go_wp2_with fail
      go_roundw
      case rel => exact ⟨k + 1, ts ++ [(b, T)], by omega, fun i hi => (Nat.lt_succ_iff_lt_or_eq.1 hi).elim (HZ.out i) (fun e => e ▸ HE.out), by go_num, HN2.out⟩
      case measure => simp [intOf]; omega
    · obtain rfl : k = svs.length := by omega
      clear HB HS
      obtain ⟨A, c, rfl⟩ := own_slice1' HI.out.row
      have hl := HI.out.len
      go_upto_region 9 with fail
      have hwr : Chg NoB w wr := ((Chg.refl NoB w).alloc _).trans HI.out.chg
      have HW := Go.Lib.hid hwr
      have hszz : w.heap.size ≤ wr.heap.size := hwr.size
      clear hwr
      have hT : ∀ x ∈ ts, TiAt w.heap.size wr x.1 x.2 ∧ x.2.kind ≠ 0 := fun x hx => by
        obtain ⟨i, hi⟩ := List.mem_iff_getElem?.1 hx
        exact ⟨(HI.out.ok i _ hi).1, (HI.out.ok i _ hi).2.1⟩
      have hcB := CellsAt.of_own HI.out.row
      have Hnl := Hn.out.1
      by_cases hlen : ns.length = svs.length
      · obtain rfl : nl = svs.length := by omega
        have hcA : CellsAt wr nA ((ns.zip ts).map fun x => .string x.1) := by
          have h := Hn.out.2.2.2 wr HW.out
          have e : (ns.zip ts).map (fun x => Value.string x.1) = ns.map .string := by
            have := congrArg (List.map Value.string) (List.map_fst_zip (l₁ := ns) (l₂ := ts) (by omega))
            rw [List.map_map] at this
            exact this
          rwa [e]
        have hcB2 : CellsAt wr A ((ns.zip ts).map fun x => ptr x.2.1) := by
          have e : (ns.zip ts).map (fun x => ptr x.2.1) = ts.map fun t => ptr t.1 := by
            have := congrArg (List.map fun t : Nat × Ti => ptr t.1) (List.map_snd_zip (l₁ := ns) (l₂ := ts) (by omega))
            rw [List.map_map] at this
            exact this
          rwa [e]
        have hlz : (ns.zip ts).length = svs.length := by rw [List.length_zip]; omega
        have hR := record_c (c := nc) (d := c) (mv := mv) hcA hcB2 (fun x hx => hT _ (List.of_mem_zip hx).2) (by omega) (fun x hx => Hn.out.2.1 _ (List.of_mem_zip hx).1) (keepC HW.out Hn.out.2.2.1)
        have e1 : (ns.zip ts).map (·.1) = ns := List.map_fst_zip (by omega)
        unfold RecPost at hR
        rw [e1, hlz] at hR
        have HL := Go.Lib.hid hlen
        by_cases hgood : recGood ns = true
        · by_cases hsize : recSize (ns.zip ts) ≤ 262144
          · simp only [if_pos hgood, if_pos hsize] at hR
            have HR := Go.Lib.hid hR
            have HG := Go.Lib.hid (And.intro hgood hsize)
            clear hcA hcB hcB2 hT hR e1 hgood hsize hlen hlz Hnl
            go_wp2_with fail
            refine HR.out.mono ?_
            rintro e w1 ⟨b, T, rfl, hT, k1, k2, k3, k4, k5, hc⟩
            have HRR := Go.Lib.hid (And.intro hT (And.intro k1 (And.intro k2 (And.intro k3 (And.intro k4 (And.intro k5 hc))))))
            clear hT k1 k2 k3 k4 k5 hc HR
            have HNm := Go.Lib.hid (num_c 0 (w := w1))
            unfold ptr
            go_wp2_with fail
            refine HNm.out.mono ?_
            rintro e w2 ⟨rfl, rfl⟩
            go_wp2_with fail
            go_ret2
            have hcc := HRR.out.2.2.2.2.2.2
            refine .inr ⟨HZ.out, ts, hl, fun i t hi => ⟨(HI.out.ok i t hi).1.quiet hcc, (HI.out.ok i t hi).2.1, HK _ _ _ _ (HI.out.ok i t hi).2.2 (.of_quiet hcc)⟩, HW.out.trans hcc, ?_⟩
            unfold RecK
            refine .inr ⟨HL.out, ?_⟩
            rw [if_pos HG.out.1, if_pos HG.out.2]
            exact ⟨b, T, rfl, HRR.out.1.mono hszz, HRR.out.2.1, HRR.out.2.2.1, HRR.out.2.2.2.1, HRR.out.2.2.2.2.1, HRR.out.2.2.2.2.2.1⟩
          · simp only [if_pos hgood, if_neg hsize] at hR
            have HR := Go.Lib.hid hR
            have HG := Go.Lib.hid (And.intro hgood hsize)
            clear hcA hcB hcB2 hT hR e1 hgood hsize hlen hlz Hnl
            go_wp2_with fail
            refine HR.out.mono ?_
            rintro e w1 ⟨rfl, hc⟩
            have HRR := Go.Lib.hid hc
            clear hc HR
            have HNm := Go.Lib.hid (num_c 3 (w := w1))
            go_wp2_with fail
            refine HNm.out.mono ?_
            rintro e w2 ⟨rfl, rfl⟩
            go_wp2_with fail
            go_ret2
            have hcc := HRR.out
            refine .inr ⟨HZ.out, ts, hl, fun i t hi => ⟨(HI.out.ok i t hi).1.quiet hcc, (HI.out.ok i t hi).2.1, HK _ _ _ _ (HI.out.ok i t hi).2.2 (.of_quiet hcc)⟩, HW.out.trans hcc, ?_⟩
            unfold RecK
            refine .inr ⟨HL.out, ?_⟩
            rw [if_pos HG.out.1, if_neg HG.out.2]
            rfl
        · simp only [if_neg hgood] at hR
          have HR := Go.Lib.hid hR
          have HG := Go.Lib.hid hgood
          clear hcA hcB hcB2 hT hR e1 hgood hlen hlz Hnl
          go_wp2_with fail
          refine HR.out.mono ?_
          rintro e w1 ⟨rfl, hc⟩
          have HRR := Go.Lib.hid hc
          clear hc HR
          have HNm := Go.Lib.hid (num_c 2 (w := w1))
          go_wp2_with fail
          refine HNm.out.mono ?_
          rintro e w2 ⟨rfl, rfl⟩
          go_wp2_with fail
          go_ret2
          have hcc := HRR.out
          refine .inr ⟨HZ.out, ts, hl, fun i t hi => ⟨(HI.out.ok i t hi).1.quiet hcc, (HI.out.ok i t hi).2.1, HK _ _ _ _ (HI.out.ok i t hi).2.2 (.of_quiet hcc)⟩, HW.out.trans hcc, ?_⟩
          unfold RecK
          refine .inr ⟨HL.out, ?_⟩
          rw [if_neg HG.out]
          rfl
      · have hR := rec_len (A := nA) (n := nl) (c := nc) (d := c) (lo := w.heap.size) (w := wr) (vs := ts.map fun t => ptr t.1) (os := ts.map fun t => some t) hcB ⟨by simp, fun i v o h1 h2 => by
          rw [List.getElem?_map] at h1 h2
          cases hx : ts[i]? with
          | none => rw [hx] at h1; cases h1
          | some x =>
            rw [hx] at h1 h2
            simp only [Option.map_some, Option.some.injEq] at h1 h2
            subst h1 h2
            exact ⟨rfl, hT x (List.mem_of_getElem? hx)⟩⟩ (by rw [List.length_map]; unfold maxLen; omega) (fun o ho => by obtain ⟨x, _, rfl⟩ := List.mem_map.1 ho; rfl) (by rw [List.length_map]; omega)
        rw [List.length_map, hl] at hR
        have HR := Go.Lib.hid hR
        have HG := Go.Lib.hid hlen
        clear hcB hT hR hlen Hnl
        go_wp2_with fail
        refine HR.out.mono ?_
        rintro e w1 ⟨rfl, hc⟩
        have HRR := Go.Lib.hid hc
        clear hc HR
        have HNm := Go.Lib.hid (num_c 2 (w := w1))
        go_wp2_with fail
        refine HNm.out.mono ?_
        rintro e w2 ⟨rfl, rfl⟩
        go_wp2_with fail
        go_ret2
        have hcc := HRR.out
        refine .inr ⟨HZ.out, ts, hl, fun i t hi => ⟨(HI.out.ok i t hi).1.quiet hcc, (HI.out.ok i t hi).2.1, HK _ _ _ _ (HI.out.ok i t hi).2.2 (.of_quiet hcc)⟩, HW.out.trans hcc, ?_⟩
        unfold RecK
        exact .inl ⟨HG.out, rfl⟩
set_option maxHeartbeats 2000000 in
set_option maxRecDepth 100000 in
theorem buildArr_g {nn : Int} {nA : Option Addr} {nl nc pc pb po : Nat} {pA : Option Addr} {svs : List Sv} {er : Nat → Int} {Q : Nat → World → Nat × Ti → Prop} (HK : KeepsQ Q)
    (hS : ∀ (i : Nat) sv, svs[i]? = some sv → ∀ W, Chg NoB w W → W.cell? ⟨pb, po + i * 4, none⟩ = some (.int .i64 sv.k) ∧ W.cell? ⟨pb, po + i * 4 + 1, none⟩ = some (.int .i64 sv.n) ∧ W.cell? ⟨pb, po + i * 4 + 2, none⟩ = some (.slice sv.nA sv.nl sv.nc) ∧ W.cell? ⟨pb, po + i * 4 + 3, none⟩ = some (.slice sv.pA sv.pl sv.pc))
    (hB : ∀ (i : Nat) sv, svs[i]? = some sv → ∀ W, Chg NoB w W → Calls Try.prog 9 #[sv.val] W (BuiltE w.heap.size (er i) (Q i) W)) (hl : svs.length ≤ 1100000) (HP : Hid (0 < svs.length → pA = some ⟨pb, po, none⟩)) :
    Calls Try.prog 9 #[.agg #[.int .i64 7, .int .i64 nn, .slice nA nl nc, .slice pA svs.length pc]] w (BPost w svs.length er Q (fun ts e w' => ArrK w.heap.size svs.length nn ts e w')) := by
  have HS := Go.Lib.hid hS
  have HB := Go.Lib.hid hB
  clear hS hB
  unfold Sv.val at HB
  go_enter Try.func9, Try.ntmps9
  go_wp2_with fail
  go_loopw [4, 5, 6, 7] (fun v4 v5 _ _ wr => ∃ (k : Nat) (ts : List (Nat × Ti)), k ≤ svs.length ∧ (∀ i, i < k → er i = 0) ∧ v5 = .int .i64 k ∧ BJ w (w.alloc (Obj.cells #[.int .i64 7, .int .i64 nn, .slice nA nl nc, .slice pA svs.length pc] ShT)) k ts Q v4 wr) (fun _ v5 _ _ _ => svs.length - (intOf v5).toNat)
  case atStart => exact ⟨0, [], Nat.zero_le _, fun i h => absurd h (Nat.not_lt_zero _), rfl, BJ.start _ _ ((Chg.refl NoB w).alloc _) (by simp)⟩
  case round =>
    obtain ⟨k, ts, hk, hz, rfl, hI⟩ := hrel
    have HI := Go.Lib.hid hI
    have HZ := Go.Lib.hid hz
    clear hI hz
    have hbx := (Blk.new w ShT #[.int .i64 7, .int .i64 nn, .slice nA nl nc, .slice pA svs.length pc]).chg HI.out.chg id
    have p0 : wr.cell? ⟨w.heap.size, 0, none⟩ = some (.int .i64 7) := hbx.cell 0
    have p1 : wr.cell? ⟨w.heap.size, 1, none⟩ = some (.int .i64 nn) := hbx.cell 1
    have p2 : wr.cell? ⟨w.heap.size, 2, none⟩ = some (.slice nA nl nc) := hbx.cell 2
    have p3 : wr.cell? ⟨w.heap.size, 3, none⟩ = some (.slice pA svs.length pc) := hbx.cell 3
    clear hbx
    by_cases hlt : k < svs.length
    · have hpa := HP.out (by omega)
      subst hpa
      obtain ⟨sv, hsv⟩ : ∃ sv, svs[k]? = some sv := ⟨_, List.getElem?_eq_getElem hlt⟩
      have hw0 : Chg NoB w wr := ((Chg.refl NoB w).alloc _).trans HI.out.chg
      obtain ⟨q0, q1, q2, q3⟩ := HS.out k sv hsv wr hw0
      have HC := Go.Lib.hid (HB.out k sv hsv wr hw0)
      have Hsv := Go.Lib.hid hsv
      clear hw0 hsv
      go_wp2_with fail
      refine HC.out.mono ?_
      rintro e w1 (⟨h0, b, T, rfl, hT, hT0, hQ, hc⟩ | ⟨h0, t, rfl, hc⟩)
      rotate_left
      · have hne : (er k != 0) = true := by simpa using h0
        have H0 := Go.Lib.hid (And.intro h0 hc)
        clear h0 hc HC q0 q1 q2 q3 p0 p1 p2 p3
        obtain ⟨x, hx⟩ : ∃ x, x = er k := ⟨_, rfl⟩
        rw [← hx] at hne ⊢
        have HX := Go.Lib.hid hx
        clear hx
        go_wp2_with fail
        go_ret2
        exact .inl ⟨k, by omega, H0.out.1, HZ.out, by rw [HX.out]; rfl, (((Chg.refl NoB w).alloc _).trans HI.out.chg).trans H0.out.2⟩
      clear HC q0 q1 q2 q3 p0 p1 p2 p3
      have HN := Go.Lib.hid (HI.out.built HK hT hT0 hQ hc)
      have HE := Go.Lib.hid h0
      clear hT hT0 hQ hc h0
      obtain ⟨i0, hi0, hz0, hz1, hz2⟩ := info_parts3 pinfo
      have Hi := Go.Lib.hid (And.intro hi0 (And.intro hz0 (And.intro hz1 hz2)))
      clear hi0 hz0 hz1 hz2
      unfold ptr
      go_wp2_with (at_builtin; refine wpList_append_own _ rfl _ _ 38 rfl (w.heap.size + 1) PT i0 (.pointer none) 1 8 Try.underlying38 Hi.out.1 Hi.out.2.1 Hi.out.2.2.1 Hi.out.2.2.2 rfl (by decide) _ k (ts.map fun t => ptr t.1) rfl (HN.out.row.alloc _) ⟨w1.heap.size, 0, none⟩ 1 1 [.pointer (some ⟨b, 0, none⟩)] rfl rfl (cell_one_new _ _ _) (by simp [Value.oneCell']) (by unfold maxLen; omega) (by omega) (by have := HN.out.size; simp; omega) ?_; intro v' w6 hown' hgrow _)
      have HN2 := Go.Lib.hid (HN.out.grow HK hown' hgrow)
      clear hown' hgrow HN
      go_wp2_with fail
      go_roundw
      case rel => exact ⟨k + 1, ts ++ [(b, T)], by omega, fun i hi => (Nat.lt_succ_iff_lt_or_eq.1 hi).elim (HZ.out i) (fun e => e ▸ HE.out), by go_num, HN2.out⟩
      case measure => simp [intOf]; omega
    · obtain rfl : k = svs.length := by omega
      clear HB HS
      obtain ⟨A, c, rfl⟩ := own_slice1' HI.out.row
      have hl := HI.out.len
      go_upto_region 9 with fail
      have hwr : Chg NoB w wr := ((Chg.refl NoB w).alloc _).trans HI.out.chg
      have HW := Go.Lib.hid hwr
      have hszz : w.heap.size ≤ wr.heap.size := hwr.size
      clear hwr
      by_cases h1 : svs.length = 1
      · obtain ⟨⟨b0, T0⟩, rfl⟩ : ∃ t, ts = [t] := by
          rw [h1] at hl
          match ts, hl with
          | [t], _ => exact ⟨t, rfl⟩
        have hc := CellsAt.of_own HI.out.row
        obtain ⟨ad, rfl, hcell⟩ := hc (by simp)
        have r0 : wr.cell? (ad.add 0) = some (ptr b0) := hcell 0 _ rfl
        have hok := HI.out.ok 0 (b0, T0) rfl
        have Hok := Go.Lib.hid (And.intro hok.1 hok.2.1)
        have H1 := Go.Lib.hid h1
        unfold ptr at r0
        have r0' : wr.cell? ad = some (.pointer (some ⟨b0, 0, none⟩)) := by rw [← r0]; rfl
        clear hc hcell hok
        by_cases hb : nn < 1 ∨ 65535 < nn
        · have hR := array_bad Hok.out.1 Hok.out.2 nn hb
          unfold ptr at hR
          rw [h1] at p3 ⊢
          clear h1
          have HR := Go.Lib.hid hR
          have HG := Go.Lib.hid hb
          clear hR hb
          go_wp2_with fail
          refine HR.out.mono ?_
          rintro e w1 ⟨rfl, hc⟩
          have HRR := Go.Lib.hid hc
          clear hc HR
          have HNm := Go.Lib.hid (num_c 2 (w := w1))
          go_wp2_with fail
          refine HNm.out.mono ?_
          rintro e w2 ⟨rfl, rfl⟩
          go_wp2_with fail
          go_ret2
          have hcc := HRR.out
          rw [← H1.out]
          refine .inr ⟨HZ.out, _, hl, fun i t hi => ⟨(HI.out.ok i t hi).1.quiet hcc, (HI.out.ok i t hi).2.1, HK _ _ _ _ (HI.out.ok i t hi).2.2 (.of_quiet hcc)⟩, HW.out.trans hcc, ?_⟩
          unfold ArrK
          exact .inr ⟨b0, T0, rfl, H1.out, .inl ⟨HG.out, rfl⟩⟩
        · obtain ⟨n, rfl⟩ : ∃ n : Nat, nn = n := ⟨nn.toNat, by omega⟩
          by_cases hm : n * T0.size ≤ 262144
          · have hR := array_c Hok.out.1 Hok.out.2 n (by omega) (by omega) hm
            unfold ptr at hR
            rw [h1] at p3 ⊢
            have HR := Go.Lib.hid hR
            have HG := Go.Lib.hid (And.intro hb hm)
            clear hR hb hm h1
            go_wp2_with fail
            refine HR.out.mono ?_
            rintro e w1 ⟨b, rfl, hT, hc⟩
            have HRR := Go.Lib.hid (And.intro hT hc)
            clear hT hc HR
            have HNm := Go.Lib.hid (num_c 0 (w := w1))
            unfold ptr
            go_wp2_with fail
            refine HNm.out.mono ?_
            rintro e w2 ⟨rfl, rfl⟩
            go_wp2_with fail
            go_ret2
            have hcc := HRR.out.2
            have hg := HG.out.1
            rw [← H1.out]
            refine .inr ⟨HZ.out, _, hl, fun i t hi => ⟨(HI.out.ok i t hi).1.quiet hcc, (HI.out.ok i t hi).2.1, HK _ _ _ _ (HI.out.ok i t hi).2.2 (.of_quiet hcc)⟩, HW.out.trans hcc, ?_⟩
            unfold ArrK
            exact .inr ⟨b0, T0, rfl, H1.out, .inr ⟨n, rfl, by omega, by omega, .inr ⟨HG.out.2, b, rfl, HRR.out.1.mono hszz⟩⟩⟩
          · have hR := array_long Hok.out.1 Hok.out.2 n (by omega) (by omega) (Nat.lt_of_not_le hm)
            unfold ptr at hR
            rw [h1] at p3 ⊢
            have HR := Go.Lib.hid hR
            have HG := Go.Lib.hid (And.intro hb hm)
            clear hR hb hm h1
            go_wp2_with fail
            refine HR.out.mono ?_
            rintro e w1 ⟨rfl, hc⟩
            have HRR := Go.Lib.hid hc
            clear hc HR
            have HNm := Go.Lib.hid (num_c 3 (w := w1))
            go_wp2_with fail
            refine HNm.out.mono ?_
            rintro e w2 ⟨rfl, rfl⟩
            go_wp2_with fail
            go_ret2
            have hcc := HRR.out
            have hg := HG.out.1
            have hg2 := HG.out.2
            rw [← H1.out]
            refine .inr ⟨HZ.out, _, hl, fun i t hi => ⟨(HI.out.ok i t hi).1.quiet hcc, (HI.out.ok i t hi).2.1, HK _ _ _ _ (HI.out.ok i t hi).2.2 (.of_quiet hcc)⟩, HW.out.trans hcc, ?_⟩
            unfold ArrK
            exact .inr ⟨b0, T0, rfl, H1.out, .inr ⟨n, rfl, by omega, by omega, .inl ⟨Nat.lt_of_not_le hg2, rfl⟩⟩⟩
      · have hR := array_no (w := wr) (v := .pointer none) (.inl rfl) nn
        have h1n : ((svs.length : Int) == 1) = false := by simp; omega
        have HR := Go.Lib.hid hR
        have HG := Go.Lib.hid h1
        clear hR h1
        go_wp2_with fail
        refine HR.out.mono ?_
        rintro e w1 ⟨rfl, hc⟩
        have HRR := Go.Lib.hid hc
        clear hc HR
        have HNm := Go.Lib.hid (num_c 1 (w := w1))
        go_wp2_with fail
        refine HNm.out.mono ?_
        rintro e w2 ⟨rfl, rfl⟩
        go_wp2_with fail
        go_ret2
        have hcc := HRR.out
        refine .inr ⟨HZ.out, _, hl, fun i t hi => ⟨(HI.out.ok i t hi).1.quiet hcc, (HI.out.ok i t hi).2.1, HK _ _ _ _ (HI.out.ok i t hi).2.2 (.of_quiet hcc)⟩, HW.out.trans hcc, ?_⟩
        unfold ArrK
        exact .inl ⟨HG.out, rfl⟩
set_option maxHeartbeats 2000000 in
set_option maxRecDepth 100000 in
theorem buildPtr_g {nn : Int} {nA : Option Addr} {nl nc pc pb po : Nat} {pA : Option Addr} {svs : List Sv} {er : Nat → Int} {Q : Nat → World → Nat × Ti → Prop} (HK : KeepsQ Q)
    (hS : ∀ (i : Nat) sv, svs[i]? = some sv → ∀ W, Chg NoB w W → W.cell? ⟨pb, po + i * 4, none⟩ = some (.int .i64 sv.k) ∧ W.cell? ⟨pb, po + i * 4 + 1, none⟩ = some (.int .i64 sv.n) ∧ W.cell? ⟨pb, po + i * 4 + 2, none⟩ = some (.slice sv.nA sv.nl sv.nc) ∧ W.cell? ⟨pb, po + i * 4 + 3, none⟩ = some (.slice sv.pA sv.pl sv.pc))
    (hB : ∀ (i : Nat) sv, svs[i]? = some sv → ∀ W, Chg NoB w W → Calls Try.prog 9 #[sv.val] W (BuiltE w.heap.size (er i) (Q i) W)) (hl : svs.length ≤ 1100000) (HP : Hid (0 < svs.length → pA = some ⟨pb, po, none⟩)) :
    Calls Try.prog 9 #[.agg #[.int .i64 9, .int .i64 nn, .slice nA nl nc, .slice pA svs.length pc]] w (BPost w svs.length er Q (fun ts e w' => PtrK w.heap.size svs.length ts e w')) := by
  have HS := Go.Lib.hid hS
  have HB := Go.Lib.hid hB
  clear hS hB
  unfold Sv.val at HB
  go_enter Try.func9, Try.ntmps9
  go_wp2_with fail
  go_loopw [4, 5, 6, 7] (fun v4 v5 _ _ wr => ∃ (k : Nat) (ts : List (Nat × Ti)), k ≤ svs.length ∧ (∀ i, i < k → er i = 0) ∧ v5 = .int .i64 k ∧ BJ w (w.alloc (Obj.cells #[.int .i64 9, .int .i64 nn, .slice nA nl nc, .slice pA svs.length pc] ShT)) k ts Q v4 wr) (fun _ v5 _ _ _ => svs.length - (intOf v5).toNat)
  case atStart => exact ⟨0, [], Nat.zero_le _, fun i h => absurd h (Nat.not_lt_zero _), rfl, BJ.start _ _ ((Chg.refl NoB w).alloc _) (by simp)⟩
  case round =>
    obtain ⟨k, ts, hk, hz, rfl, hI⟩ := hrel
    have HI := Go.Lib.hid hI
    have HZ := Go.Lib.hid hz
    clear hI hz
    have hbx := (Blk.new w ShT #[.int .i64 9, .int .i64 nn, .slice nA nl nc, .slice pA svs.length pc]).chg HI.out.chg id
    have p0 : wr.cell? ⟨w.heap.size, 0, none⟩ = some (.int .i64 9) := hbx.cell 0
    have p1 : wr.cell? ⟨w.heap.size, 1, none⟩ = some (.int .i64 nn) := hbx.cell 1
    have p2 : wr.cell? ⟨w.heap.size, 2, none⟩ = some (.slice nA nl nc) := hbx.cell 2
    have p3 : wr.cell? ⟨w.heap.size, 3, none⟩ = some (.slice pA svs.length pc) := hbx.cell 3
    clear hbx
    by_cases hlt : k < svs.length
    · have hpa := HP.out (by omega)
      subst hpa
      obtain ⟨sv, hsv⟩ : ∃ sv, svs[k]? = some sv := ⟨_, List.getElem?_eq_getElem hlt⟩
      have hw0 : Chg NoB w wr := ((Chg.refl NoB w).alloc _).trans HI.out.chg
      obtain ⟨q0, q1, q2, q3⟩ := HS.out k sv hsv wr hw0
      have HC := Go.Lib.hid (HB.out k sv hsv wr hw0)
      have Hsv := Go.Lib.hid hsv
      clear hw0 hsv
      go_wp2_with fail
      refine HC.out.mono ?_
      rintro e w1 (⟨h0, b, T, rfl, hT, hT0, hQ, hc⟩ | ⟨h0, t, rfl, hc⟩)
      rotate_left
      · have hne : (er k != 0) = true := by simpa using h0
        have H0 := Go.Lib.hid (And.intro h0 hc)
        clear h0 hc HC q0 q1 q2 q3 p0 p1 p2 p3
        obtain ⟨x, hx⟩ : ∃ x, x = er k := ⟨_, rfl⟩
        rw [← hx] at hne ⊢
        have HX := Go.Lib.hid hx
        clear hx
        go_wp2_with fail
        go_ret2
        exact .inl ⟨k, by omega, H0.out.1, HZ.out, by rw [HX.out]; rfl, (((Chg.refl NoB w).alloc _).trans HI.out.chg).trans H0.out.2⟩
      clear HC q0 q1 q2 q3 p0 p1 p2 p3
      have HN := Go.Lib.hid (HI.out.built HK hT hT0 hQ hc)
      have HE := Go.Lib.hid h0
      clear hT hT0 hQ hc h0
      obtain ⟨i0, hi0, hz0, hz1, hz2⟩ := info_parts3 pinfo
      have Hi := Go.Lib.hid (And.intro hi0 (And.intro hz0 (And.intro hz1 hz2)))
      clear hi0 hz0 hz1 hz2
      unfold ptr
      go_wp2_with (at_builtin; refine wpList_append_own _ rfl _ _ 38 rfl (w.heap.size + 1) PT i0 (.pointer none) 1 8 Try.underlying38 Hi.out.1 Hi.out.2.1 Hi.out.2.2.1 Hi.out.2.2.2 rfl (by decide) _ k (ts.map fun t => ptr t.1) rfl (HN.out.row.alloc _) ⟨w1.heap.size, 0, none⟩ 1 1 [.pointer (some ⟨b, 0, none⟩)] rfl rfl (cell_one_new _ _ _) (by simp [Value.oneCell']) (by unfold maxLen; omega) (by omega) (by have := HN.out.size; simp; omega) ?_; intro v' w6 hown' hgrow _)
      have HN2 := Go.Lib.hid (HN.out.grow HK hown' hgrow)
      clear hown' hgrow HN
      go_wp2_with fail
      go_roundw
      case rel => exact ⟨k + 1, ts ++ [(b, T)], by omega, fun i hi => (Nat.lt_succ_iff_lt_or_eq.1 hi).elim (HZ.out i) (fun e => e ▸ HE.out), by go_num, HN2.out⟩
      case measure => simp [intOf]; omega
    · obtain rfl : k = svs.length := by omega
      clear HB HS
      obtain ⟨A, c, rfl⟩ := own_slice1' HI.out.row
      have hl := HI.out.len
      go_upto_region 9 with fail
      have hwr : Chg NoB w wr := ((Chg.refl NoB w).alloc _).trans HI.out.chg
      have HW := Go.Lib.hid hwr
      have hszz : w.heap.size ≤ wr.heap.size := hwr.size
      clear hwr
      have HPc := Go.Lib.hid (pointer_c wr)
      by_cases h1 : svs.length = 1
      · obtain ⟨⟨b0, T0⟩, rfl⟩ : ∃ t, ts = [t] := by
          rw [h1] at hl
          match ts, hl with
          | [t], _ => exact ⟨t, rfl⟩
        have hc := CellsAt.of_own HI.out.row
        obtain ⟨ad, rfl, hcell⟩ := hc (by simp)
        have r0 : wr.cell? (ad.add 0) = some (ptr b0) := hcell 0 _ rfl
        have hok := HI.out.ok 0 (b0, T0) rfl
        have Hok := Go.Lib.hid (And.intro hok.1 hok.2.1)
        have H1 := Go.Lib.hid h1
        unfold ptr at r0
        have Hr0 : Hid (wr.cell? ad = some (.pointer (some ⟨b0, 0, none⟩))) := Go.Lib.hid (by rw [← r0]; rfl)
        rw [h1] at p3 ⊢
        clear hc hcell hok r0 h1
        go_wp2_with fail
        refine HPc.out.mono ?_
        rintro e w1 ⟨b, rfl, hT, hc⟩
        have HT := Go.Lib.hid (And.intro hT hc)
        have r1 : w1.cell? (ad.add 0) = some (.pointer (some ⟨b0, 0, none⟩)) := keepC hc Hr0.out
        have r1' : w1.cell? ad = some (.pointer (some ⟨b0, 0, none⟩)) := keepC hc Hr0.out
        have HPt := Go.Lib.hid (point_new (hT.mono hszz) (Hok.out.1.quiet hc) Hok.out.2)
        have Hbl := Go.Lib.hid hT.lo.1
        clear hT hc HPc
        unfold ptr at HPt ⊢
        go_wp2_with fail
        refine HPt.out.mono ?_
        rintro e w2 (⟨h8, rfl, rfl⟩ | ⟨h8, rfl, hT2, hc2⟩)
        · have H8 := Go.Lib.hid h8
          have HNm := Go.Lib.hid (num_c 2 (w := w1))
          clear h8
          go_wp2_with fail
          refine HNm.out.mono ?_
          rintro e w3 ⟨rfl, rfl⟩
          go_wp2_with fail
          go_ret2
          have hcc := HT.out.2
          rw [← H1.out]
          refine .inr ⟨HZ.out, _, hl, fun i t hi => ⟨(HI.out.ok i t hi).1.quiet hcc, (HI.out.ok i t hi).2.1, HK _ _ _ _ (HI.out.ok i t hi).2.2 (.of_quiet hcc)⟩, HW.out.trans hcc, ?_⟩
          unfold PtrK
          exact .inr ⟨b0, T0, rfl, H1.out, .inl ⟨H8.out, b, rfl⟩⟩
        · have H8 := Go.Lib.hid (And.intro h8 (And.intro hT2 hc2))
          have HNm := Go.Lib.hid (num_c 0 (w := w2))
          clear h8 hT2 hc2
          go_wp2_with fail
          refine HNm.out.mono ?_
          rintro e w3 ⟨rfl, rfl⟩
          go_wp2_with fail
          go_ret2
          have hcc : Chg NoB wr w2 := HT.out.2.step H8.out.2.2 fun i hi e => by have := Hbl.out; omega
          rw [← H1.out]
          refine .inr ⟨HZ.out, _, hl, fun i t hi => ⟨(HI.out.ok i t hi).1.quiet hcc, (HI.out.ok i t hi).2.1, HK _ _ _ _ (HI.out.ok i t hi).2.2 (.of_quiet hcc)⟩, HW.out.trans hcc, ?_⟩
          unfold PtrK
          exact .inr ⟨b0, T0, rfl, H1.out, .inr ⟨H8.out.1, b, rfl, H8.out.2.1⟩⟩
      · have h1n : ((svs.length : Int) == 1) = false := by simp; omega
        have HG := Go.Lib.hid h1
        clear h1
        go_wp2_with fail
        refine HPc.out.mono ?_
        rintro e w1 ⟨b, rfl, hT, hc⟩
        have HT := Go.Lib.hid (And.intro hT hc)
        clear hT hc HPc
        unfold ptr
        go_wp2_with fail
        go_ret2
        have hcc := HT.out.2
        refine .inr ⟨HZ.out, _, hl, fun i t hi => ⟨(HI.out.ok i t hi).1.quiet hcc, (HI.out.ok i t hi).2.1, HK _ _ _ _ (HI.out.ok i t hi).2.2 (.of_quiet hcc)⟩, HW.out.trans hcc, ?_⟩
        unfold PtrK
        exact .inl ⟨HG.out, b, rfl, HT.out.1.mono hszz⟩
end
end Go.Proofs.Ytholeloedihkoaa
