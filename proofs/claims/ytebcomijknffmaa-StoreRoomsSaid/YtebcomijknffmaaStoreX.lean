/- What is proved: an error's number is that number. Conditions: none. -/
import Derived.Test.YtebcomijknffmaaStoreX0
namespace Go.Proofs.Ytebcomijknffmaa
open Go.RowKit
/-- an error's number is that number -/
theorem num_c (w : World) (n : Int) : Calls Try.prog 11 #[.int .i64 n] w fun e w' => e = .returned (.int .i64 n) ∧ w' = w := by
  go_enter Try.func11, Try.ntmps11
  go_wp2
  go_ret
  exact ⟨rfl, rfl⟩
end Go.Proofs.Ytebcomijknffmaa
