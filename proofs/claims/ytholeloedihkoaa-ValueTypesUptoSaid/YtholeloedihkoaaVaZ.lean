/- What is proved: the reference's Big, and the law's small: they answer, and change nothing. Conditions: the memory holds the shape. -/
import Derived.Test.YtholeloedihkoaaVaS
import Derived.Test.YtholeloedihkoaaVaO
set_option linter.unusedSimpArgs false
set_option linter.unusedVariables false
namespace Go.Proofs.Ytholeloedihkoaa
open Go Go.RowKit
/-- some number, and nothing changed -/
def SomeNum (w : World) (e : Ending) (w' : World) : Prop := ∃ r : Int, e = .returned (.int .i64 r) ∧ Chg NoB w w'
section
variable {w w' W : World} {s : Sv} {ns : List ByteArray} {ks : SF}
/-- a shape's part, in memory -/
theorem IsS.part (h : IsS w s ns ks) {i : Nat} (hi : i < s.pl) : ∃ pb po sv ns' kk, s.pA = some ⟨pb, po, none⟩ ∧ ks.at? i = some (sv, ns', kk) ∧ w.cell? ⟨pb, po + i * 4, none⟩ = some (.int .i64 sv.k) ∧ w.cell? ⟨pb, po + i * 4 + 1, none⟩ = some (.int .i64 sv.n) ∧ w.cell? ⟨pb, po + i * 4 + 2, none⟩ = some (.slice sv.nA sv.nl sv.nc) ∧ w.cell? ⟨pb, po + i * 4 + 3, none⟩ = some (.slice sv.pA sv.pl sv.pc) ∧ IsS w sv ns' kk := by
  obtain ⟨pb, po, hp⟩ : ∃ pb po, s.pA = some ⟨pb, po, none⟩ := by
    cases ks with
    | nil => have := h.len; simp [SF.len] at this; omega
    | cons s' ns' kk r =>
      obtain ⟨b, o, hA, _⟩ := h.parts
      exact ⟨b, o, hA⟩
  obtain ⟨sv, hsv⟩ : ∃ sv, ks.svs[i]? = some sv := ⟨_, List.getElem?_eq_getElem (by rw [SF.svs_len]; have := h.len; omega)⟩
  obtain ⟨ns', kk, ha⟩ := SF.at_svs ks i sv hsv
  have hps := h.parts
  rw [hp] at hps
  obtain ⟨h0, h1, h2, h3, h4⟩ := IsF.at_ ks i sv ns' kk hps ha
  exact ⟨pb, po, sv, ns', kk, hp, ha, h0, h1, h2, h3, h4⟩
end
def BigsF (f : SF) : Prop := ∀ (i : Nat) (s : Sv) (ns : List ByteArray) (ks : SF), f.at? i = some (s, ns, ks) → ∀ (w : World) (m : Int), IsS w s ns ks → Calls Try.prog 35 #[s.val, .int .i64 m] w (SomeNum w)
set_option maxHeartbeats 2000000 in
set_option maxRecDepth 20000 in
theorem big_one (s : Sv) (ns : List ByteArray) (ks : SF) (ih : BigsF ks) (w : World) (m : Int) (h : IsS w s ns ks) : Calls Try.prog 35 #[s.val, .int .i64 m] w (SomeNum w) := by
  have HS := Go.Lib.hid h
  have HI := Go.Lib.hid ih
  have hpc := h.ok.pc
  have hnc := h.ok.nc
  unfold maxLen at hpc hnc
  clear ih h
  obtain ⟨k, n, nA, nl, nc, pA, pl, pc⟩ := s
  unfold Sv.val
  simp only at hpc hnc ⊢
  have hbx := Blk.new w ShT #[.int .i64 k, .int .i64 n, .slice nA nl nc, .slice pA pl pc]
  have hal : Chg NoB w (w.alloc (Obj.cells #[.int .i64 k, .int .i64 n, .slice nA nl nc, .slice pA pl pc] ShT)) := (Chg.refl NoB w).alloc _
  have HB := Go.Lib.hid (And.intro hbx hal)
  clear hbx hal
  go_enter Try.func35, Try.ntmps35
  by_cases hk : k = 7
  · subst hk
    by_cases hl : pl = 1
    · subst hl
      by_cases h1 : n < 1
      · go_wp2_with fail
        go_ret
        exact ⟨_, rfl, HB.out.2⟩
      · by_cases h2 : 65535 < n
        · have d1 : decide (n < 1) = false := by simpa using h1
          go_wp2_with fail
          go_ret
          exact ⟨_, rfl, HB.out.2⟩
        · have d1 : decide (n < 1) = false := by simpa using h1
          have d2 : decide (65535 < n) = false := by simpa using h2
          have hmx : max n 1 = n := by omega
          have hz : (n == 0) = false := by simp; omega
          have hz2 : n ≠ 0 := by omega
          obtain ⟨pb, po, sv, ns', kk, rfl, ha, q0, q1, q2, q3, hIs⟩ := HS.out.part (i := 0) (by show 0 < 1; omega)
          have q0' := keepC HB.out.2 q0
          have q1' := keepC HB.out.2 q1
          have q2' := keepC HB.out.2 q2
          have q3' := keepC HB.out.2 q3
          simp only [Nat.zero_mul, Nat.add_zero] at q0' q1' q2' q3'
          have HC := Go.Lib.hid (fun mm => HI.out 0 sv ns' kk ha _ mm (hIs.quiet HB.out.2))
          unfold Sv.val at HC
          clear q0 q1 q2 q3 ha hIs HS HI
          go_wp2_with fail
          refine (HC.out _).mono ?_
          rintro e w1 ⟨r, rfl, hc⟩
          have hb1 := HB.out.1.chg hc id
          have c1 : w1.cell? ⟨w.heap.size, 1, none⟩ = some (.int .i64 n) := hb1.cell 1
          have HC1 := Go.Lib.hid (HB.out.2.trans hc)
          clear hc hb1 q0' q1' q2' q3'
          go_wp2_with fail
          all_goals
            go_ret
            exact ⟨_, rfl, HC1.out⟩
    · have d : ((pl : Int) != 1) = true := by simp; omega
      go_wp2_with fail
      go_ret
      exact ⟨_, rfl, HB.out.2⟩
  · have d : (k != 7) = true := by simpa using hk
    go_wp2_with fail
    go_loopw [1, 5] (fun v1 v5 wr => ∃ (r : Int) (i : Nat), i ≤ pl ∧ v5 = .int .i64 i ∧ v1 = .int .i64 r ∧ Chg NoB (w.alloc (Obj.cells #[.int .i64 k, .int .i64 n, .slice nA nl nc, .slice pA pl pc] ShT)) wr) (fun _ v5 _ => pl - (intOf v5).toNat)
    case atStart => exact ⟨_, 0, Nat.zero_le _, rfl, rfl, Chg.refl _ _⟩
    case round =>
      obtain ⟨r, i, hi, rfl, rfl, hc⟩ := hrel
      have hb1 := HB.out.1.chg hc id
      have c3 : wr.cell? ⟨w.heap.size, 3, none⟩ = some (.slice pA pl pc) := hb1.cell 3
      have HC1 := Go.Lib.hid (HB.out.2.trans hc)
      have HC2 := Go.Lib.hid hc
      clear hc hb1
      by_cases hlt : i < pl
      · obtain ⟨pb, po, sv, ns', kk, rfl, ha, q0, q1, q2, q3, hIs⟩ := HS.out.part (i := i) hlt
        have q0' := keepC HC1.out q0
        have q1' := keepC HC1.out q1
        have q2' := keepC HC1.out q2
        have q3' := keepC HC1.out q3
        have HC := Go.Lib.hid (fun mm => HI.out i sv ns' kk ha _ mm (hIs.quiet HC1.out))
        unfold Sv.val at HC
        clear q0 q1 q2 q3 ha hIs
        by_cases hr : 0 ≤ r
        · go_wp2_with fail
          refine (HC.out _).mono ?_
          rintro e w1 ⟨r2, rfl, hc⟩
          have HC3 := Go.Lib.hid (HC2.out.trans hc)
          clear hc
          go_wp2_with fail
          go_roundw
          case rel => exact ⟨r2, i + 1, by omega, by go_num, rfl, HC3.out⟩
          case measure => simp [intOf]; omega
        · have d2 : decide (0 ≤ r) = false := by simpa using hr
          go_wp2_with fail
          go_ret
          exact ⟨_, rfl, HC1.out⟩
      · obtain rfl : i = pl := by omega
        go_wp2_with fail
        go_ret
        exact ⟨_, rfl, HC1.out⟩
theorem big_all : ∀ f : SF, BigsF f
  | .nil => fun i s ns ks h => by simp [SF.at?] at h
  | .cons s ns ks r => fun i s' ns' ks' h w m hIs => by
    cases i with
    | zero =>
      obtain ⟨rfl, rfl, rfl⟩ : s = s' ∧ ns = ns' ∧ ks = ks' := by simpa [SF.at?] using h
      exact big_one s ns ks (big_all ks) w m hIs
    | succ i => exact big_all r i s' ns' ks' (by simpa [SF.at?] using h) w m hIs
theorem small_c {w : World} {s : Sv} {ns : List ByteArray} {ks : SF} (h : IsS w s ns ks) : Calls Try.prog 7 #[s.val] w fun e w' => ∃ b : Bool, e = .returned (.bool b) ∧ Chg NoB w w' := by
  have hal : Chg NoB w (w.alloc (Obj.cells #[.int .i64 s.k, .int .i64 s.n, .slice s.nA s.nl s.nc, .slice s.pA s.pl s.pc] ShT)) := (Chg.refl NoB w).alloc _
  have HC := Go.Lib.hid (big_one s ns ks (big_all ks) _ 300 (h.quiet hal))
  have HA := Go.Lib.hid hal
  clear h hal
  unfold Sv.val at HC ⊢
  go_enter Try.func7, Try.ntmps7
  go_wp2_with fail
  refine HC.out.mono ?_
  rintro e w1 ⟨r, rfl, hc⟩
  have HC1 := Go.Lib.hid (HA.out.trans hc)
  clear hc
  go_wp2_with fail
  go_ret
  exact ⟨_, rfl, HC1.out⟩
end Go.Proofs.Ytholeloedihkoaa
