/- What is proved: the contracts of value's functions that tell of a type, and of Array, Pointer, Point, Same. Conditions: the memory holds the types. -/
import Derived.Test.YtholeloedihkoaaVaA
set_option linter.unusedSimpArgs false
set_option linter.unusedVariables false
namespace Go.Proofs.Ytholeloedihkoaa
open Go.RowKit
section
variable {lo : Nat} {w w' : World} {b : Nat} {T : Ti}
/-- a type that is handed over: one that is there, or none -/
def TV (lo : Nat) (w : World) (v : Value) : Option (Nat × Ti) → Prop
  | none => NoT w v
  | some (b, T) => v = ptr b ∧ TiAt lo w b T ∧ T.kind ≠ 0
theorem TV.quiet {v : Value} {o : Option (Nat × Ti)} (h : TV lo w v o) (hc : Chg NoB w w') : TV lo w' v o := by
  cases o with
  | none => exact NoT.quiet h hc
  | some p => exact ⟨h.1, h.2.1.quiet hc, h.2.2⟩
theorem there_v {v : Value} {o : Option (Nat × Ti)} (h : TV lo w v o) : Calls Try.prog 44 #[v] w fun e w' => e = .returned (.bool o.isSome) ∧ w = w' := by
  cases o with
  | none => exact there_no h
  | some p =>
    obtain ⟨rfl, h1, h2⟩ := h
    exact there_c h1 h2
theorem size_c (h : TiAt lo w b T) (hk : T.kind ≠ 0) : Calls Try.prog 22 #[ptr b] w fun e w' => e = .returned (.int .i64 T.size) ∧ w = w' := by
  obtain ⟨c0, c1, c2, c3, c4, c5⟩ := h.cells
  have Hth := Go.Lib.hid (there_c h hk)
  clear h hk
  unfold ptr at Hth ⊢
  go_enter Try.func22, Try.ntmps22
  go_wp2_with fail
  refine Hth.out.mono ?_
  rintro e w1 ⟨rfl, rfl⟩
  go_wp2_with fail
  go_ret
  exact ⟨rfl, rfl⟩
theorem size_no {v : Value} (h : NoT w v) : Calls Try.prog 22 #[v] w fun e w' => e = .returned (.int .i64 0) ∧ w = w' := by
  have Hth := Go.Lib.hid (there_no h)
  clear h
  go_enter Try.func22, Try.ntmps22
  go_wp2_with fail
  refine Hth.out.mono ?_
  rintro e w1 ⟨rfl, rfl⟩
  go_wp2_with fail
  go_ret
  exact ⟨rfl, rfl⟩
theorem kind_c (h : TiAt lo w b T) (hk : T.kind ≠ 0) : Calls Try.prog 37 #[ptr b] w fun e w' => e = .returned (.int .i64 T.kind) ∧ w = w' := by
  obtain ⟨c0, c1, c2, c3, c4, c5⟩ := h.cells
  have Hth := Go.Lib.hid (there_c h hk)
  clear h hk
  unfold ptr at Hth ⊢
  go_enter Try.func37, Try.ntmps37
  go_wp2_with fail
  refine Hth.out.mono ?_
  rintro e w1 ⟨rfl, rfl⟩
  go_wp2_with fail
  go_ret
  exact ⟨rfl, rfl⟩
theorem kind_no {v : Value} (h : NoT w v) : Calls Try.prog 37 #[v] w fun e w' => e = .returned (.int .i64 0) ∧ w = w' := by
  have Hth := Go.Lib.hid (there_no h)
  clear h
  go_enter Try.func37, Try.ntmps37
  go_wp2_with fail
  refine Hth.out.mono ?_
  rintro e w1 ⟨rfl, rfl⟩
  go_wp2_with fail
  go_ret
  exact ⟨rfl, rfl⟩
theorem len_c (h : TiAt lo w b T) (hk : T.kind ≠ 0) : Calls Try.prog 23 #[ptr b] w fun e w' => e = .returned (.int .i64 T.n) ∧ w = w' := by
  obtain ⟨c0, c1, c2, c3, c4, c5⟩ := h.cells
  have Hth := Go.Lib.hid (there_c h hk)
  clear h hk
  unfold ptr at Hth ⊢
  go_enter Try.func23, Try.ntmps23
  go_wp2_with fail
  refine Hth.out.mono ?_
  rintro e w1 ⟨rfl, rfl⟩
  go_wp2_with fail
  go_ret
  exact ⟨rfl, rfl⟩
theorem len_no {v : Value} (h : NoT w v) : Calls Try.prog 23 #[v] w fun e w' => e = .returned (.int .i64 0) ∧ w = w' := by
  have Hth := Go.Lib.hid (there_no h)
  clear h
  go_enter Try.func23, Try.ntmps23
  go_wp2_with fail
  refine Hth.out.mono ?_
  rintro e w1 ⟨rfl, rfl⟩
  go_wp2_with fail
  go_ret
  exact ⟨rfl, rfl⟩
theorem base_c (h : TiAt lo w b T) (hk : T.kind ≠ 0) : Calls Try.prog 27 #[ptr b] w fun e w' => e = .returned (optP T.base) ∧ w = w' := by
  obtain ⟨c0, c1, c2, c3, c4, c5⟩ := h.cells
  have Hth := Go.Lib.hid (there_c h hk)
  clear h hk
  unfold ptr at Hth ⊢
  unfold optP at c2 ⊢
  go_enter Try.func27, Try.ntmps27
  go_wp2_with fail
  refine Hth.out.mono ?_
  rintro e w1 ⟨rfl, rfl⟩
  go_wp2_with fail
  go_ret
  exact ⟨rfl, rfl⟩
theorem base_no {v : Value} (h : NoT w v) : Calls Try.prog 27 #[v] w fun e w' => e = .returned (.pointer none) ∧ w = w' := by
  have Hth := Go.Lib.hid (there_no h)
  clear h
  go_enter Try.func27, Try.ntmps27
  go_wp2_with fail
  refine Hth.out.mono ?_
  rintro e w1 ⟨rfl, rfl⟩
  go_wp2_with fail
  go_ret
  exact ⟨rfl, rfl⟩
theorem pointer_c (w : World) : Calls Try.prog 15 #[] w fun e w' => ∃ b, e = .returned (ptr b) ∧ TiAt w.heap.size w' b ⟨9, 0, none, none, 0, [], none, 4⟩ ∧ Chg NoB w w' := by
  go_enter Try.func15, Try.ntmps15
  go_wp2
  go_ret
  exact ⟨_, rfl, TiAt.plain w 9 0 4 none (by decide) (by decide) (Nat.le_refl _) (Blk.new _ _ _), (Chg.refl NoB w).alloc _⟩
theorem array_no {v : Value} (h : NoT w v) (n : Int) : Calls Try.prog 31 #[.int .i64 n, v] w (Quiet (.tuple #[.pointer none, .int .i64 1]) w) := by
  have Hth := Go.Lib.hid (there_no h)
  clear h
  go_enter Try.func31, Try.ntmps31
  go_wp2_with fail
  refine Hth.out.mono ?_
  rintro e w1 ⟨rfl, rfl⟩
  go_wp2_with fail
  go_ret2
  exact ⟨rfl, Chg.refl _ _⟩
theorem array_bad (h : TiAt lo w b T) (hk : T.kind ≠ 0) (n : Int) (hn : n < 1 ∨ 65535 < n) : Calls Try.prog 31 #[.int .i64 n, ptr b] w (Quiet (.tuple #[.pointer none, .int .i64 2]) w) := by
  have Hth := Go.Lib.hid (there_c h hk)
  clear h hk
  unfold ptr at Hth ⊢
  go_enter Try.func31, Try.ntmps31
  by_cases h1 : n < 1
  · go_wp2_with fail
    refine Hth.out.mono ?_
    rintro e w1 ⟨rfl, rfl⟩
    go_wp2_with fail
    go_ret2
    exact ⟨rfl, Chg.refl _ _⟩
  · have h2 : 65535 < n := by omega
    have d1 : decide (n < 1) = false := by simpa using h1
    go_wp2_with fail
    refine Hth.out.mono ?_
    rintro e w1 ⟨rfl, rfl⟩
    go_wp2_with fail
    go_ret2
    exact ⟨rfl, Chg.refl _ _⟩
theorem quo_size (s : Nat) (hs : 1 ≤ s ∧ s ≤ 262144) : Int.tdiv 262144 (s : Int) = ((262144 / s : Nat) : Int) := by
  rw [Int.tdiv_eq_ediv_of_nonneg (by omega)]
  rfl
theorem array_c (h : TiAt lo w b T) (hk : T.kind ≠ 0) (n : Nat) (h1 : 1 ≤ n) (h2 : n ≤ 65535) (hm : n * T.size ≤ 262144) :
    Calls Try.prog 31 #[.int .i64 n, ptr b] w (Made ⟨7, n, some b, none, 0, [], none, (n * T.size + 3) / 4 * 4⟩ w) := by
  obtain ⟨c0, c1, c2, c3, c4, c5⟩ := h.cells
  have hs := h.sz
  have Hth := Go.Lib.hid (there_c h hk)
  have hq : n ≤ 262144 / T.size := (Nat.le_div_iff_mul_le (by omega)).2 hm
  have q1 := quo_size T.size hs
  have hmc : (n : Int) * (T.size : Int) = ((n * T.size : Nat) : Int) := by rw [Int.natCast_mul]
  obtain ⟨q, hqd⟩ : ∃ q, q = 262144 / T.size := ⟨_, rfl⟩
  rw [← hqd] at hq q1
  have hq2 : q ≤ 262144 := by rw [hqd]; exact Nat.div_le_self _ _
  clear hqd
  have hz : ((T.size : Int) == 0) = false := by simp; omega
  have d1 : decide ((n : Int) < 1) = false := by simp; omega
  have d2 : decide (65535 < (n : Int)) = false := by simp; omega
  have d3 : decide ((q : Int) < (n : Int)) = false := decide_eq_false (by omega)
  have d4 : decide (q < n) = false := decide_eq_false (by omega)
  have hmul : IntKind.i64.wrap ((n : Int) * (T.size : Int)) = ((n * T.size : Nat) : Int) := by
    rw [hmc]
    exact IntWalk.i64_in _ (by omega)
  have hup4 : 1 ≤ (n * T.size + 3) / 4 * 4 ∧ (n * T.size + 3) / 4 * 4 ≤ 262144 := by
    have : 1 ≤ n * T.size := Nat.mul_pos (by omega) (by omega)
    omega
  have Hup := Go.Lib.hid (up_c (w := w) (n * T.size) (by omega))
  rw [← hmc] at Hup
  have HA := Go.Lib.hid (And.intro h2 hup4)
  have wq : wrap64 (q : Int) = (q : Int) := IntWalk.wrap64_in _ (by omega)
  have hz2 : (T.size : Int) ≠ 0 := by omega
  clear h hk c0 c1 c2 c3 c4 hs hm hq hq2 hup4 hmc h1 h2
  unfold ptr at Hth ⊢
  go_enter Try.func31, Try.ntmps31
  go_wp2_with fail
  refine Hth.out.mono ?_
  rintro e w1 ⟨rfl, rfl⟩
  go_wp2_with fail
  refine Hup.out.mono ?_
  rintro e w1 ⟨rfl, rfl⟩
  go_wp2_with fail
  go_ret2
  exact ⟨_, rfl, TiAt.plain w 7 n _ (some b) HA.out.2 HA.out.1 (Nat.le_refl _) (Blk.new _ _ _), (Chg.refl NoB w).alloc _⟩
/-- a long one -/
theorem array_long (h : TiAt lo w b T) (hk : T.kind ≠ 0) (n : Nat) (h1 : 1 ≤ n) (h2 : n ≤ 65535) (hm : 262144 < n * T.size) :
    Calls Try.prog 31 #[.int .i64 n, ptr b] w (Quiet (.tuple #[.pointer none, .int .i64 3]) w) := by
  obtain ⟨c0, c1, c2, c3, c4, c5⟩ := h.cells
  have hs := h.sz
  have Hth := Go.Lib.hid (there_c h hk)
  have hq : ¬ n ≤ 262144 / T.size := fun hle => by have := (Nat.le_div_iff_mul_le (by omega)).1 hle; omega
  have q1 := quo_size T.size hs
  obtain ⟨q, hqd⟩ : ∃ q, q = 262144 / T.size := ⟨_, rfl⟩
  rw [← hqd] at hq q1
  have hq2 : q ≤ 262144 := by rw [hqd]; exact Nat.div_le_self _ _
  clear hqd
  have hz : ((T.size : Int) == 0) = false := by simp; omega
  have d1 : decide ((n : Int) < 1) = false := by simp; omega
  have d2 : decide (65535 < (n : Int)) = false := by simp; omega
  have d3 : decide ((q : Int) < (n : Int)) = true := decide_eq_true (by omega)
  have d4 : decide (q < n) = true := decide_eq_true (by omega)
  have wq : wrap64 (q : Int) = (q : Int) := IntWalk.wrap64_in _ (by omega)
  have hz2 : (T.size : Int) ≠ 0 := by omega
  clear h hk c0 c1 c2 c3 c4 hs hm hq hq2 h1 h2
  unfold ptr at Hth ⊢
  go_enter Try.func31, Try.ntmps31
  go_wp2_with fail
  refine Hth.out.mono ?_
  rintro e w1 ⟨rfl, rfl⟩
  go_wp2_with fail
  go_ret2
  exact ⟨rfl, Chg.refl _ _⟩
/-! ### Point -/
theorem point_nil {v u : Value} {o p : Option (Nat × Ti)} (h : TV lo w v o) (k : TV lo w u p) (hn : o = none ∨ p = none) : Calls Try.prog 17 #[v, u] w fun e w' => e = .returned (.int .i64 1) ∧ w = w' := by
  have H1 := Go.Lib.hid (there_v h)
  have H2 := Go.Lib.hid (there_v k)
  clear h k
  go_enter Try.func17, Try.ntmps17
  go_wp2_with fail
  refine H1.out.mono ?_
  rintro e w1 ⟨rfl, rfl⟩
  cases o with
  | none =>
    go_wp2_with fail
    go_ret
    exact ⟨rfl, rfl⟩
  | some x =>
    obtain rfl : p = none := by simpa using hn
    go_wp2_with fail
    refine H2.out.mono ?_
    rintro e w1 ⟨rfl, rfl⟩
    go_wp2_with fail
    go_ret
    exact ⟨rfl, rfl⟩
/-- what else Point answers -/
theorem point_c {b2 : Nat} {U : Ti} (h : TiAt lo w b T) (hk : T.kind ≠ 0) (k : TiAt lo w b2 U) (hk2 : U.kind ≠ 0) :
    Calls Try.prog 17 #[ptr b, ptr b2] w fun e w' =>
      (T.kind ≠ 9 ∨ U.kind ≠ 8) ∧ e = .returned (.int .i64 2) ∧ w = w' ∨
      T.kind = 9 ∧ U.kind = 8 ∧ T.base ≠ none ∧ e = .returned (.int .i64 7) ∧ w = w' ∨
      T.kind = 9 ∧ U.kind = 8 ∧ T.base = none ∧ e = .returned (.int .i64 0) ∧ w' = w.setCell ⟨b, 2, none⟩ (ptr b2) := by
  obtain ⟨c0, c1, c2, c3, c4, c5⟩ := h.cells
  obtain ⟨k0, _⟩ := k.cells
  have f2 := h.blk.frozen 2
  have H1 := Go.Lib.hid (there_c h hk)
  have H2 := Go.Lib.hid (there_c k hk2)
  clear h k hk hk2 c1 c3 c4 c5
  unfold ptr at H1 H2 ⊢
  go_enter Try.func17, Try.ntmps17
  go_wp2_with fail
  refine H1.out.mono ?_
  rintro e w1 ⟨rfl, rfl⟩
  go_wp2_with fail
  refine H2.out.mono ?_
  rintro e w1 ⟨rfl, rfl⟩
  by_cases e1 : T.kind = 9
  · rw [e1] at c0
    by_cases e2 : U.kind = 8
    · rw [e2] at k0
      unfold optP at c2
      cases hb : T.base with
      | none =>
        rw [hb] at c2
        simp only [Option.map_none] at c2
        go_wp2_with fail
        go_ret
        exact .inr (.inr ⟨e1, e2, hb, rfl, rfl⟩)
      | some z =>
        rw [hb] at c2
        simp only [Option.map_some] at c2
        go_wp2_with fail
        go_ret
        exact .inr (.inl ⟨e1, e2, by rw [hb]; simp, rfl, rfl⟩)
    · have d1 : ((U.kind : Int) != 8) = true := by simp; omega
      go_wp2_with fail
      go_ret
      exact .inl ⟨.inr e2, rfl, rfl⟩
  · have d1 : ((T.kind : Int) != 9) = true := by simp; omega
    go_wp2_with fail
    go_ret
    exact .inl ⟨.inl e1, rfl, rfl⟩
end
end Go.Proofs.Ytholeloedihkoaa
