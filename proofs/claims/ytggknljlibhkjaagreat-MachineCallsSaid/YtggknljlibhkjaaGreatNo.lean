import Derived.Test.YtggknljlibhkjaaGreatStoreW
set_option linter.unusedSimpArgs false
set_option linter.unusedVariables false
namespace Go.Proofs.YtggknljlibhkjaaGreat
open Go.RowKit
def Gone (w : World) (sv : Value) : Prop := sv = .pointer none ∨ ∃ b, sv = ptr b ∧ Blk w b 101 #[.map none, .slice none 0 0, .int .i64 0]
section
variable {w w' : World} {sv : Value}
theorem Gone.nil (w : World) : Gone w (.pointer none) := .inl rfl
theorem Gone.chg {F : Nat → Prop} (h : Gone w sv) (hc : Chg F w w') (hF : ∀ b, sv = ptr b → ¬ F b) : Gone w' sv := by
 rcases h with rfl | ⟨b, rfl, hb⟩
 ·exact .inl rfl
 ·exact .inr ⟨b, rfl, hb.chg hc (hF b rfl)⟩
theorem Gone.quiet (h : Gone w sv) (hc : Chg NoB w w') : Gone w' sv := h.chg hc fun _ _ h => h
set_option maxHeartbeats 1000000
end
end Go.Proofs.YtggknljlibhkjaaGreat
