import Derived.Test.YtggknljlibhkjaaGreatStoreX
set_option linter.unusedSimpArgs false
set_option linter.unusedVariables false
namespace Go.Proofs.YtggknljlibhkjaaGreat
open Go.RowKit
def Yes (w : World) (e : Ending) (w' : World) : Prop := e = .returned (.bool true) ∧ Chg NoB w w'
end Go.Proofs.YtggknljlibhkjaaGreat
