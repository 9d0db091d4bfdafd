import Derived.Test.YtggknljlibhkjaaGreatStoreX0
set_option linter.unusedSimpArgs false
set_option linter.unusedVariables false
namespace Go.Proofs.YtggknljlibhkjaaGreat
open Go.RowKit
theorem snum_c (w : World) (n : Int) : Calls Tryz.prog 78 #[.int .i64 n] w fun e w' => e = .returned (.int .i64 n) ∧ w' = w := by
 go_enter Tryz.func78, Tryz.ntmps78
 go_wp2
 go_ret
 exact ⟨rfl, rfl⟩
end Go.Proofs.YtggknljlibhkjaaGreat
