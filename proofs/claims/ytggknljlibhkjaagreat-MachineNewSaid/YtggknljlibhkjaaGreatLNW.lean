/- What is proved: the walk of the law MachineNew, of any input. Conditions: none. -/
import Derived.Test.YtggknljlibhkjaaGreatLNew
import Derived.Test.YtggknljlibhkjaaGreatLNa
set_option linter.unusedSimpArgs false
set_option linter.unusedVariables false
namespace Go.Proofs.YtggknljlibhkjaaGreat
open Go Go.RowKit
/-- what is told of a slice of words that came in -/
def InRow (w : World) (a : Option Addr) (len cap : Nat) (zs : List Int) : Prop :=
  (a = none ∧ len = 0 ∧ cap = 0 ∧ zs = []) ∨
  ∃ x, a = some x ∧ len ≤ cap ∧ cap ≤ maxLen ∧ zs.length = cap ∧ (∀ i, i < zs.length → w.cell? (x.add i) = some (.int .u32 (zs.getD i 0))) ∧ ∀ n ∈ zs, (Lit.int .u32 n).wf = true
theorem machineNew_walk (a0 : Int) (w0 : (Lit.int .i64 a0).wf = true) (a1 : Option Addr) (len1 cap1 : Nat) (z1 : List Int) (a2 : Int) (w2 : (Lit.int .u32 a2).wf = true) (a3 : Int) (w3 : (Lit.int .u32 a3).wf = true) (w : World) (w1 : InRow w a1 len1 cap1 z1) :
    Calls Tryz.prog 4 #[.int .i64 a0, .slice a1 len1 cap1, .int .u32 a2, .int .u32 a3] w (Quiet (.bool true) w) := by
  have b2 := bounds_u32 w2
  have b3 := bounds_u32 w3
  obtain ⟨pl, rfl⟩ : ∃ n : Nat, a2 = n := ⟨a2.toNat, by omega⟩
  obtain ⟨x, rfl⟩ : ∃ n : Nat, a3 = n := ⟨a3.toNat, by omega⟩
  by_cases hl : 3000 < len1
  · exact new_long w a0 a1 len1 cap1 pl x hl
  by_cases hb : 65536 < a0 ∧ a0 ≤ 16777216
  · exact new_big w a0 a1 len1 cap1 pl x (by omega) hb.1 hb.2
  by_cases h : 64 ≤ a0 ∧ a0 ≤ 16777216 ∧ a0 % 4 = 0
  · obtain ⟨n, rfl⟩ : ∃ n : Nat, a0 = n := ⟨a0.toNat, by omega⟩
    have hn : 64 ≤ n ∧ n ≤ 16777216 ∧ n % 4 = 0 := by omega
    have h1 : n ≤ 65536 := by omega
    by_cases h2 : n / 4 < len1
    · exact new_mem w n a1 len1 cap1 pl x (by omega) h1 hn h2
    · obtain ⟨ws, rfl, hw, hd⟩ := row_words w1
      by_cases h4 : pl < n
      · by_cases h5 : pl % 4 = 0
        · exact new_A w n a1 cap1 ws pl x hn (by omega) h1 (by omega) (by omega) (by omega) h4 h5 hw hd
        · exact new_C w n a1 cap1 ws pl x hn (by omega) h1 (by omega) (by omega) (by omega) h4 h5 hw hd
      · exact new_B w n a1 cap1 ws pl x hn (by omega) h1 (by omega) (by omega) (by omega) (by omega) hw hd
  · exact new_bad w a0 a1 len1 cap1 pl x (by omega) hb h
end Go.Proofs.YtggknljlibhkjaaGreat
