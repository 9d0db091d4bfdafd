/- What is proved: the reference's up and Scalar. Conditions: as each theorem says. -/
import Derived.Test.YtholeloedihkoaaVaL
set_option linter.unusedSimpArgs false
set_option linter.unusedVariables false
namespace Go.Proofs.Ytholeloedihkoaa
open Go.RowKit
section
variable {w w' : World}
theorem refUp_c (n : Nat) (hn : n ≤ 1000000000000000) : Calls Try.prog 52 #[.int .i64 n] w fun e w' => e = .returned (.int .i64 (((n + 3) / 4 * 4 : Nat) : Int)) ∧ w = w' := by
  obtain ⟨q, hq⟩ : ∃ q : Nat, (n + 3) / 4 * 4 = q := ⟨_, rfl⟩
  rw [hq]
  have hq1 : n ≤ q ∧ q % 4 = 0 ∧ q < n + 4 := by omega
  have HQ := Go.Lib.hid hq1
  clear hq hq1
  go_enter Try.func52, Try.ntmps52
  go_wp2_with fail
  go_loop [0] (fun v0 => ∃ k : Nat, n ≤ k ∧ k ≤ q ∧ v0 = .int .i64 k) (fun v0 => q - (intOf v0).toNat)
  case atStart => exact ⟨n, Nat.le_refl _, HQ.out.1, rfl⟩
  case round =>
    obtain ⟨k, h1, h2, rfl⟩ := hrel
    have hq := HQ.out
    have hkb : k ≤ 1000000000000004 := by omega
    have hr : ((k : Int).tmod 4) = ((k % 4 : Nat) : Int) := by
      rw [Int.tmod_eq_emod_of_nonneg (by omega)]
      rfl
    by_cases h4 : k % 4 = 0
    · have hz : (((k % 4 : Nat) : Int) != 0) = false := by simp [h4]
      obtain rfl : k = q := by omega
      rw [h4] at hr
      clear h1 h2 hq
      go_wp2_with fail
      go_ret
      exact ⟨rfl, rfl⟩
    · have hz : (((k % 4 : Nat) : Int) != 0) = true := by simp; omega
      go_wp2_with fail
      go_round
      case rel => exact ⟨k + 1, by omega, by omega, by go_num⟩
      case measure => simp [intOf]; omega
theorem refScalar_c (s : Sv) (w : World) : Calls Try.prog 39 #[s.val] w (Quiet (.bool (decide (1 ≤ s.k ∧ s.k ≤ 5 ∨ s.k = 9))) w) := by
  obtain ⟨k, n, nA, nl, nc, pA, pl, pc⟩ := s
  unfold Sv.val
  simp only
  have hW : Chg NoB w (w.alloc (Obj.cells #[.int .i64 k, .int .i64 n, .slice nA nl nc, .slice pA pl pc] ShT)) := (Chg.refl NoB w).alloc _
  have HW := Go.Lib.hid hW
  clear hW
  have e : decide (1 ≤ k ∧ k ≤ 5 ∨ k = 9) = ((decide (1 ≤ k) && decide (k ≤ 5)) || decide (k = 9)) := by simp
  rw [e]
  clear e
  have e9 : (k == 9) = decide (k = 9) := rfl
  obtain ⟨q1, h1⟩ : ∃ q, decide (1 ≤ k) = q := ⟨_, rfl⟩
  obtain ⟨q5, h5⟩ : ∃ q, decide (k ≤ 5) = q := ⟨_, rfl⟩
  obtain ⟨q9, h9⟩ : ∃ q, decide (k = 9) = q := ⟨_, rfl⟩
  rw [h1, h5, h9]
  rw [h9] at e9
  cases q1 <;> cases q5 <;> cases q9
  all_goals
    go_enter Try.func39, Try.ntmps39
    go_wp2_with fail
    go_ret
    exact ⟨rfl, HW.out⟩
end
end Go.Proofs.Ytholeloedihkoaa
