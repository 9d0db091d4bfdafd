/- What is proved: the walk of ValueTypes. Conditions: the memory holds the shape, which is small; the library's variable. -/
import Derived.Test.YtholeloedihkoaaVbO
set_option linter.unusedSimpArgs false
set_option linter.unusedVariables false
namespace Go.Proofs.Ytholeloedihkoaa
open Go Go.RowKit
/-- where build tells an error it hands back nothing, or a pointer type -/
def ErrNil (k : Int) (e : Ending) : Prop := ∀ (t : Value) (er : Int), e = .returned (.tuple #[t, .int .i64 er]) → er ≠ 0 → t = .pointer none ∨ (k = 9 ∧ ∃ b, t = ptr b)
theorem errNil_none (k er : Int) : ErrNil k (.returned (.tuple #[.pointer none, .int .i64 er])) := fun t e h _ => by
  injection h with h
  injection h with h
  simp only [Array.mk.injEq, List.cons.injEq] at h
  exact .inl h.1.symm
theorem errNil_ok (k : Int) (v : Value) : ErrNil k (.returned (.tuple #[v, .int .i64 0])) := fun t e h h0 => by
  injection h with h
  injection h with h
  simp only [Array.mk.injEq, List.cons.injEq, Value.int.injEq] at h
  exact absurd h.2.1.2.symm h0
theorem errNil_nine (b : Nat) (er : Int) : ErrNil 9 (.returned (.tuple #[ptr b, .int .i64 er])) := fun t e h _ => by
  injection h with h
  injection h with h
  simp only [Array.mk.injEq, List.cons.injEq] at h
  exact .inr ⟨rfl, b, h.1.symm⟩
section
variable {w w' : World} {e : Ending} {k : Int}
theorem bpost_nil {m : Nat} {er : Nat → Int} {Q : Nat → World → Nat × Ti → Prop} {K : List (Nat × Ti) → Ending → World → Prop} (h : BPost w m er Q K e w') (hK : ∀ ts e w', K ts e w' → ErrNil k e) : ErrNil k e := by
  rcases h with ⟨j, _, _, _, rfl, _⟩ | ⟨_, ts, _, _, _, h⟩
  · exact errNil_none _ _
  · exact hK ts e w' h
theorem arr_nil {lo m : Nat} {nn : Int} {ts : List (Nat × Ti)} (h : ArrK lo m nn ts e w') : ErrNil k e := by
  rcases h with ⟨_, rfl⟩ | ⟨b0, T0, _, _, ⟨_, rfl⟩ | ⟨n, _, _, _, ⟨_, rfl⟩ | ⟨_, b, rfl, _⟩⟩⟩
  · exact errNil_none _ _
  · exact errNil_none _ _
  · exact errNil_none _ _
  · exact errNil_ok _ _
theorem rec_nil' {lo m : Nat} {ns : List ByteArray} {ts : List (Nat × Ti)} (h : RecK lo m ns ts e w') : ErrNil k e := by
  rcases h with ⟨_, rfl⟩ | ⟨_, h⟩
  · exact errNil_none _ _
  · split at h
    · split at h
      · obtain ⟨b, T, rfl, _⟩ := h
        exact errNil_ok _ _
      · subst h; exact errNil_none _ _
    · subst h; exact errNil_none _ _
theorem ptr_nil {lo m : Nat} {ts : List (Nat × Ti)} (h : PtrK lo m ts e w') : ErrNil 9 e := by
  rcases h with ⟨_, b, rfl, _⟩ | ⟨b0, T0, _, _, ⟨_, b, rfl⟩ | ⟨_, b, rfl, _⟩⟩
  · exact errNil_nine _ _
  · exact errNil_nine _ _
  · exact errNil_nine _ _
theorem bas_nil {k9 : Int} {lo : Nat} (h : (∃ n : Nat, k9 = n ∧ 1 ≤ n ∧ n ≤ 5 ∧ ∃ b, e = .returned (.tuple #[ptr b, .int .i64 0]) ∧ TiAt lo w' b (basicT n)) ∨ (k9 < 1 ∨ 5 < k9) ∧ e = .returned (.tuple #[.pointer none, .int .i64 2])) : ErrNil k e := by
  rcases h with ⟨n, _, _, _, b, rfl, _⟩ | ⟨_, rfl⟩
  · exact errNil_ok _ _
  · exact errNil_none _ _
end
/-- a shape, its parts' builds given -/
theorem build_nine (s : Sv) (ns : List ByteArray) (ks : SF) (ih : BuildsF ks) (hk : ks.len ≤ 1100000) (w : World) (mv : Int) (hm : w.cell? ⟨0, 0, none⟩ = some (.int .i64 mv)) (h : IsS w s ns ks) :
    Calls Try.prog 9 #[s.val] w (fun e w' => BuiltE w.heap.size (errOf s ns ks) (fun W t => TyS W s ns ks t) w e w' ∧ ErrNil s.k e) := by
  obtain ⟨pb, po, hp⟩ : ∃ pb po, 0 < ks.svs.length → s.pA = some ⟨pb, po, none⟩ := by
    cases ks with
    | nil => exact ⟨0, 0, fun h0 => absurd h0 (by simp [SF.svs])⟩
    | cons s' ns' kk r =>
      obtain ⟨b, o, hA, _⟩ := h.parts
      exact ⟨b, o, fun _ => hA⟩
  have hlen : ks.svs.length = ks.len := SF.svs_len ks
  have hat : ∀ (i : Nat) sv, ks.svs[i]? = some sv → ∀ W, Chg NoB w W → ∃ ns' kk, ks.at? i = some (sv, ns', kk) ∧ W.cell? ⟨pb, po + i * 4, none⟩ = some (.int .i64 sv.k) ∧ W.cell? ⟨pb, po + i * 4 + 1, none⟩ = some (.int .i64 sv.n) ∧ W.cell? ⟨pb, po + i * 4 + 2, none⟩ = some (.slice sv.nA sv.nl sv.nc) ∧ W.cell? ⟨pb, po + i * 4 + 3, none⟩ = some (.slice sv.pA sv.pl sv.pc) ∧ IsS W sv ns' kk := fun i sv hi W hW => by
    obtain ⟨ns', kk, ha⟩ := SF.at_svs ks i sv hi
    have hps := IsF.quiet hW ks h.parts
    rw [hp (by have := (List.getElem?_eq_some_iff.1 hi).1; omega)] at hps
    exact ⟨ns', kk, ha, IsF.at_ ks i sv ns' kk hps ha⟩
  have hS : ∀ (i : Nat) sv, ks.svs[i]? = some sv → ∀ W, Chg NoB w W → W.cell? ⟨pb, po + i * 4, none⟩ = some (.int .i64 sv.k) ∧ W.cell? ⟨pb, po + i * 4 + 1, none⟩ = some (.int .i64 sv.n) ∧ W.cell? ⟨pb, po + i * 4 + 2, none⟩ = some (.slice sv.nA sv.nl sv.nc) ∧ W.cell? ⟨pb, po + i * 4 + 3, none⟩ = some (.slice sv.pA sv.pl sv.pc) := fun i sv hi W hW => by
    obtain ⟨ns', kk, _, h0, h1, h2, h3, _⟩ := hat i sv hi W hW
    exact ⟨h0, h1, h2, h3⟩
  have hB : ∀ (i : Nat) sv, ks.svs[i]? = some sv → ∀ W, Chg NoB w W → Calls Try.prog 9 #[sv.val] W (BuiltE w.heap.size (erF ks i) (QF ks i) W) := fun i sv hi W hW => by
    obtain ⟨ns', kk, ha, _, _, _, _, hIs⟩ := hat i sv hi W hW
    have hm' : W.cell? ⟨0, 0, none⟩ = some (.int .i64 mv) := keepC hW hm
    refine (ih i sv ns' kk ha W mv hm' hIs).mono fun e w' hb => ?_
    have he : erF ks i = errOf sv ns' kk := by
      unfold erF
      rw [SF.at_errs ks i sv ns' kk ha]
      rfl
    rw [he]
    refine hb.weak hW.size fun t ht s2 ns2 kk2 ha2 => ?_
    rw [ha] at ha2
    injection ha2 with ha2
    injection ha2 with h1 h2
    injection h2 with h2 h3
    subst h1 h2 h3
    exact ht
  have HP : Hid (0 < ks.svs.length → s.pA = some ⟨pb, po, none⟩) := Go.Lib.hid hp
  have hval : s.val = .agg #[.int .i64 s.k, .int .i64 s.n, .slice s.nA s.nl s.nc, .slice s.pA ks.svs.length s.pc] := by
    unfold Sv.val
    rw [hlen, ← h.len]
  rw [hval]
  have hkl : ks.svs.length ≤ 1100000 := by omega
  by_cases h7 : s.k = 7
  · rw [h7]
    refine (buildArr_g (QF.keeps ks) hS hB hkl HP).mono fun e w' hb => ?_
    rw [hlen] at hb
    exact ⟨hb.built rfl fun ts hl hT hc hK => arr_E h7 hl hc hT hK, bpost_nil hb fun ts e w' hK => arr_nil hK⟩
  by_cases h8 : s.k = 8
  · rw [h8]
    refine (buildRec_g (QF.keeps ks) hS hB hkl HP (ns := ns) (mv := mv) (Go.Lib.hid ⟨h.ok.nl, h.ok.short, hm, fun W hW => h.ok.names.chg hW fun _ _ => id⟩)).mono fun e w' hb => ?_
    rw [hlen] at hb
    exact ⟨hb.built rfl fun ts hl hT hc hK => rec_E h8 hl hc hT hK, bpost_nil hb fun ts e w' hK => rec_nil' hK⟩
  by_cases h9 : s.k = 9
  · rw [h9]
    refine (buildPtr_g (QF.keeps ks) hS hB hkl HP).mono fun e w' hb => ?_
    rw [hlen] at hb
    exact ⟨hb.built rfl fun ts hl hT hc hK => ptr_E h9 hl hc hT hK, bpost_nil hb fun ts e w' hK => ptr_nil hK⟩
  refine (buildBas_g (QF.keeps ks) hS hB hkl HP (by simpa using h7) (by simpa using h8) (by simpa using h9)).mono fun e w' hb => ?_
  rw [hlen] at hb
  exact ⟨hb.built rfl fun ts hl hT hc hK => bas_E h7 h8 h9 hc hT hK, bpost_nil hb fun ts e w' hK => bas_nil hK⟩
set_option maxHeartbeats 4000000 in
set_option maxRecDepth 30000 in
theorem valueTypes_walk {w : World} {s : Sv} {ns : List ByteArray} {ks : SF} {mv : Int} (h : IsS w s ns ks) (hlen : ks.len ≤ 209715) (hsm : ks.small) (hm : w.cell? ⟨0, 0, none⟩ = some (.int .i64 mv)) :
    Calls Try.prog 3 #[s.val] w (fun e w' => e = .returned (.bool true) ∧ Chg NoB w w') := by
  have HS := Go.Lib.hid h
  have HSM := Go.Lib.hid (And.intro hlen hsm)
  have HM := Go.Lib.hid hm
  clear h hlen hsm hm
  unfold Sv.val
  have hbx := Blk.new w ShT (shArr s)
  have hab : Chg NoB w (w.alloc (Obj.cells (shArr s) ShT)) := (Chg.refl NoB w).alloc _
  unfold shArr at hbx hab
  have HB := Go.Lib.hid (And.intro hbx hab)
  clear hbx hab
  go_enter Try.func3, Try.ntmps3
  go_wp2_with fail
  refine (small_c (HS.out.quiet HB.out.2)).mono ?_
  rintro e w2 ⟨q, rfl, hc⟩
  have HB2 := Go.Lib.hid (And.intro (HB.out.1.chg hc id) (HB.out.2.trans hc))
  clear HB hc
  cases q with
  | false =>
    go_wp2_with fail
    refine (known_c (keepC HB2.out.2 HM.out)).mono ?_
    rintro e w3 ⟨rfl, hc⟩
    have HC := Go.Lib.hid (HB2.out.2.trans hc)
    clear hc
    go_wp2_with fail
    go_ret
    exact ⟨rfl, HC.out⟩
  | true =>
    have b0 : w2.cell? ⟨w.heap.size, 0, none⟩ = some (.int .i64 s.k) := HB2.out.1.cell 0
    have b1 : w2.cell? ⟨w.heap.size, 1, none⟩ = some (.int .i64 s.n) := HB2.out.1.cell 1
    have b2 : w2.cell? ⟨w.heap.size, 2, none⟩ = some (.slice s.nA s.nl s.nc) := HB2.out.1.cell 2
    have b3 : w2.cell? ⟨w.heap.size, 3, none⟩ = some (.slice s.pA s.pl s.pc) := HB2.out.1.cell 3
    go_wp2_with fail
    have hbd := build_nine s ns ks (build_all ks HSM.out.2.few) (by have := HSM.out.1; omega) w2 mv (keepC HB2.out.2 HM.out) (HS.out.quiet HB2.out.2)
    refine hbd.mono ?_
    clear hbd
    rintro e w3 ⟨hbt, hnil⟩
    obtain ⟨er, her⟩ : ∃ er, errOf s ns ks = er := ⟨_, rfl⟩
    rw [her] at hbt
    rcases hbt with ⟨rfl, tb, T, rfl, hT, hTk, hTy, hc⟩ | ⟨he0, t, rfl, hc⟩
    · have HB3 := Go.Lib.hid (And.intro (HB2.out.1.chg hc id) (HB2.out.2.trans hc))
      have HTy := Go.Lib.hid hTy
      have HER := Go.Lib.hid her
      clear hT hTk hTy hc hnil her b0 b1 b2 b3 HB2
      have b0 : w3.cell? ⟨w.heap.size, 0, none⟩ = some (.int .i64 s.k) := HB3.out.1.cell 0
      have b1 : w3.cell? ⟨w.heap.size, 1, none⟩ = some (.int .i64 s.n) := HB3.out.1.cell 1
      have b2 : w3.cell? ⟨w.heap.size, 2, none⟩ = some (.slice s.nA s.nl s.nc) := HB3.out.1.cell 2
      have b3 : w3.cell? ⟨w.heap.size, 3, none⟩ = some (.slice s.pA s.pl s.pc) := HB3.out.1.cell 3
      unfold ptr
      go_wp2_with fail
      have hmk := refMake_c (HS.out.quiet HB3.out.2) HSM.out.1 HSM.out.2
      rw [HER.out] at hmk
      refine hmk.mono ?_
      clear hmk
      rintro e w4 ⟨rfl, hc⟩
      have HB4 := Go.Lib.hid (And.intro (HB3.out.1.chg hc id) (HB3.out.2.trans hc))
      have HTy4 := Go.Lib.hid (HTy.out.still hc)
      clear hc b0 b1 b2 b3 HB3 HTy
      have b0 : w4.cell? ⟨w.heap.size, 0, none⟩ = some (.int .i64 s.k) := HB4.out.1.cell 0
      have b1 : w4.cell? ⟨w.heap.size, 1, none⟩ = some (.int .i64 s.n) := HB4.out.1.cell 1
      have b2 : w4.cell? ⟨w.heap.size, 2, none⟩ = some (.slice s.nA s.nl s.nc) := HB4.out.1.cell 2
      have b3 : w4.cell? ⟨w.heap.size, 3, none⟩ = some (.slice s.pA s.pl s.pc) := HB4.out.1.cell 3
      go_wp2_with fail
      refine (looks_c (HS.out.quiet HB4.out.2) HTy4.out HER.out HSM.out.1 HSM.out.2).mono ?_
      rintro e w5 ⟨rfl, hc⟩
      have HC5 := Go.Lib.hid (HB4.out.2.trans hc)
      clear hc b0 b1 b2 b3
      go_wp2_with fail
      refine (known_c (keepC HC5.out HM.out)).mono ?_
      rintro e w6 ⟨rfl, hc⟩
      have HC := Go.Lib.hid (HC5.out.trans hc)
      clear hc
      go_wp2_with fail
      go_ret
      exact ⟨rfl, HC.out⟩
    · have hn := hnil t er rfl he0
      have HB3 := Go.Lib.hid (And.intro (HB2.out.1.chg hc id) (HB2.out.2.trans hc))
      have HER := Go.Lib.hid her
      have he1 : (er != 0) = true := by simp; exact he0
      clear hc hnil her b0 b1 b2 b3 HB2 he0
      have b0 : w3.cell? ⟨w.heap.size, 0, none⟩ = some (.int .i64 s.k) := HB3.out.1.cell 0
      have b1 : w3.cell? ⟨w.heap.size, 1, none⟩ = some (.int .i64 s.n) := HB3.out.1.cell 1
      have b2 : w3.cell? ⟨w.heap.size, 2, none⟩ = some (.slice s.nA s.nl s.nc) := HB3.out.1.cell 2
      have b3 : w3.cell? ⟨w.heap.size, 3, none⟩ = some (.slice s.pA s.pl s.pc) := HB3.out.1.cell 3
      rcases hn with rfl | ⟨h9, b, rfl⟩
      · go_wp2_with fail
        have hmk := refMake_c (HS.out.quiet HB3.out.2) HSM.out.1 HSM.out.2
        rw [HER.out] at hmk
        refine hmk.mono ?_
        clear hmk
        rintro e w4 ⟨rfl, hc⟩
        have HB4 := Go.Lib.hid (And.intro (HB3.out.1.chg hc id) (HB3.out.2.trans hc))
        clear hc b0 b1 b2 b3 HB3
        have b0 : w4.cell? ⟨w.heap.size, 0, none⟩ = some (.int .i64 s.k) := HB4.out.1.cell 0
        go_wp2_with fail
        refine (known_c (keepC HB4.out.2 HM.out)).mono ?_
        rintro e w6 ⟨rfl, hc⟩
        have HC := Go.Lib.hid (HB4.out.2.trans hc)
        clear hc
        go_wp2_with fail
        go_ret
        exact ⟨rfl, HC.out⟩
      · have hk9 : (s.k == 9) = true := by simp; exact h9
        clear h9
        unfold ptr
        go_wp2_with fail
        have hmk := refMake_c (HS.out.quiet HB3.out.2) HSM.out.1 HSM.out.2
        rw [HER.out] at hmk
        refine hmk.mono ?_
        clear hmk
        rintro e w4 ⟨rfl, hc⟩
        have HB4 := Go.Lib.hid (And.intro (HB3.out.1.chg hc id) (HB3.out.2.trans hc))
        clear hc b0 b1 b2 b3 HB3
        have b0 : w4.cell? ⟨w.heap.size, 0, none⟩ = some (.int .i64 s.k) := HB4.out.1.cell 0
        go_wp2_with fail
        refine (known_c (keepC HB4.out.2 HM.out)).mono ?_
        rintro e w6 ⟨rfl, hc⟩
        have HC := Go.Lib.hid (HB4.out.2.trans hc)
        clear hc
        go_wp2_with fail
        go_ret
        exact ⟨rfl, HC.out⟩
end Go.Proofs.Ytholeloedihkoaa
