/- What is proved: the walk of the law MachineStores, of any input. Conditions: none. -/
import Derived.Test.YtggknljlibhkjaaLStores
set_option linter.unusedSimpArgs false
set_option linter.unusedVariables false
namespace Go.Proofs.Ytggknljlibhkjaa
open Go Go.RowKit
/-- what is told of a slice of words that came in -/
def InRow (w : World) (a : Option Addr) (len cap : Nat) (zs : List Int) : Prop :=
  (a = none ∧ len = 0 ∧ cap = 0 ∧ zs = []) ∨
  ∃ x, a = some x ∧ len ≤ cap ∧ cap ≤ maxLen ∧ zs.length = cap ∧ (∀ i, i < zs.length → w.cell? (x.add i) = some (.int .u32 (zs.getD i 0))) ∧ ∀ n ∈ zs, (Lit.int .u32 n).wf = true
theorem machineStores_walk (a0 : Int) (w0 : (Lit.int .i64 a0).wf = true) (a1 : Option Addr) (len1 cap1 : Nat) (z1 : List Int) (a2 : Int) (w2 : (Lit.int .u32 a2).wf = true) (a3 : Int) (w3 : (Lit.int .u32 a3).wf = true) (a4 : Bool) (w : World) (w1 : InRow w a1 len1 cap1 z1) :
    Calls Try.prog 4 #[.int .i64 a0, .slice a1 len1 cap1, .int .u32 a2, .int .u32 a3, .bool a4] w (Quiet (.bool true) w) := by
  have b2 := bounds_u32 w2
  have b3 := bounds_u32 w3
  obtain ⟨pl, rfl⟩ : ∃ n : Nat, a2 = n := ⟨a2.toNat, by omega⟩
  obtain ⟨x, rfl⟩ : ∃ n : Nat, a3 = n := ⟨a3.toNat, by omega⟩
  by_cases h : 64 ≤ a0 ∧ a0 ≤ 16777216 ∧ a0 % 4 = 0
  · obtain ⟨n, rfl⟩ : ∃ n : Nat, a0 = n := ⟨a0.toNat, by omega⟩
    have hn : 64 ≤ n ∧ n ≤ 16777216 ∧ n % 4 = 0 := by omega
    by_cases h2 : n ≤ 4096 ∧ len1 ≤ n / 4 ∧ 3 ≤ len1 ∧ pl < n ∧ 8 ≤ pl ∧ (a4 = true ∨ pl % 4 = 0)
    · obtain ⟨ws, rfl, hw, hd⟩ := row_words w1
      obtain ⟨c1, c2, c3, c4, c5, c6⟩ := h2
      cases a4
      · exact stores_false w n a1 cap1 ws pl x hn c1 c2 c3 c4 c5 c6 (by omega) hw hd
      · exact stores_true w n a1 cap1 ws pl x hn c1 c2 c3 c4 c5 c6 (by omega) hw hd
    · exact stores_skip w n a1 len1 cap1 pl x a4 hn (by omega) h2
  · exact stores_may w a0 a1 len1 cap1 pl x a4 h
end Go.Proofs.Ytggknljlibhkjaa
