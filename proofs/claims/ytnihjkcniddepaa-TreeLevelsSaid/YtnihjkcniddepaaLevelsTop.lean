/- What is proved: the whole walk of the law TreeLevels. Conditions: the library's variable holds a number. -/
import Derived.Test.YtnihjkcniddepaaLevelsWalk
namespace Go.Proofs.Ytnihjkcniddepaa
open Go.RowKit
theorem treeLevels_walk (da : Own) (ka : F) (kA : Option Addr) (na ca : Nat) {w : World} (hA : IsN w da ka kA na ca) (db : Own) (kb : F) (kB : Option Addr) (nb cb : Nat) (hB : IsN w db kb kB nb cb) (op : ByteArray) (hop : op.size ≤ maxLen) (_ : World) (hv : Var0 w) :
    Calls Try.prog 4 #[nodeV da kA na ca, nodeV db kB nb cb, .string op] w fun e w' => e = .returned (.bool true) ∧ Chg NoB w w' := by
  by_cases h1 : bigT da ka 300 < 0
  · exact levels_small da db ka kb kA kB na ca nb cb op w hA hB hop hv (.inl h1)
  by_cases h2 : bigT db kb 300 < 0
  · exact levels_small da db ka kb kA kB na ca nb cb op w hA hB hop hv (.inr (.inl ⟨by omega, h2⟩))
  by_cases h3 : 100 < op.size
  · exact levels_small da db ka kb kA kB na ca nb cb op w hA hB hop hv (.inr (.inr ⟨by omega, by omega, h3⟩))
  exact levels_main da db ka kb kA kB na ca nb cb op w hA hB (by omega) hv (by omega) (by omega)
end Go.Proofs.Ytnihjkcniddepaa
