import Derived.Test.YtggknljlibhkjaaGreatNo
import Derived.Test.YtggknljlibhkjaaGreatGFi
set_option linter.unusedSimpArgs false
set_option linter.unusedVariables false
namespace Go.Proofs.YtggknljlibhkjaaGreat
open Go.RowKit
section
variable {w w' : World} {sv : Value}
end
end Go.Proofs.YtggknljlibhkjaaGreat
