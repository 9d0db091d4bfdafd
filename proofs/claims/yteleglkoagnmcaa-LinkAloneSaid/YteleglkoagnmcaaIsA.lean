/- What is proved: isa.bit and isa.within. Conditions: the numbers are int's. -/
import Derived.Test.YteleglkoagnmcaaLkA
set_option linter.unusedSimpArgs false
set_option linter.unusedVariables false
namespace Go.Proofs.Yteleglkoagnmcaa
open Go Go.RowKit
theorem bit_c (b : Bool) (W : World) : Calls Try.prog 98 #[.bool b] W fun e w' => e = .returned (.int .i64 (if b then 1 else 0)) ∧ w' = W := by
  cases b with
  | false =>
    go_enter Try.func98, Try.ntmps98
    go_wp2_with fail
    go_ret
    exact ⟨rfl, rfl⟩
  | true =>
    go_enter Try.func98, Try.ntmps98
    go_wp2_with fail
    go_ret
    exact ⟨rfl, rfl⟩
theorem within_c (n most : Int) (W : World) : Calls Try.prog 95 #[.int .i64 n, .int .i64 most] W fun e w' => e = .returned (.bool (decide (0 ≤ n) && decide (n < most))) ∧ w' = W := by
  by_cases h0 : 0 ≤ n
  · have f0 : decide (0 ≤ n) = true := decide_eq_true h0
    go_enter Try.func95, Try.ntmps95
    go_wp2_with fail
    go_ret
    exact ⟨by rw [f0]; rfl, rfl⟩
  · have f0 : decide (0 ≤ n) = false := decide_eq_false h0
    go_enter Try.func95, Try.ntmps95
    go_wp2_with fail
    go_ret
    exact ⟨rfl, rfl⟩
end Go.Proofs.Yteleglkoagnmcaa
