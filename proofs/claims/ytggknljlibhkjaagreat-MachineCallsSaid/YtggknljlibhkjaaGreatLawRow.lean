import Derived.Test.YtggknljlibhkjaaGreatStoreW
import Derived.OpenShut
set_option linter.unusedSimpArgs false
set_option linter.unusedVariables false
namespace Go.Proofs.YtggknljlibhkjaaGreat
open Go.RowKit
theorem row_bytes {w : World} {a : Option Addr} {len cap : Nat} {zs : List Int} (h : (a = none ∧ len = 0 ∧ cap = 0 ∧ zs = []) ∨
  ∃ x, a = some x ∧ len ≤ cap ∧ cap ≤ maxLen ∧ zs.length = cap ∧ (∀ i, i < zs.length → w.cell? (x.add i) = some (.int .u8 (zs.getD i 0))) ∧ ∀ n ∈ zs, (Lit.int .u8 n).wf = true) :
  ∃ l : List UInt8, l.length = len ∧ (a = none → l = [] ∧ cap = 0) ∧ CellsAt w a (bv l) ∧ len ≤ maxLen := by
 rcases h with ⟨rfl, rfl, rfl, rfl⟩ | ⟨x, rfl, hl, hm, hz, hc, hw⟩
 ·exact ⟨[], rfl, fun _ => ⟨rfl, rfl⟩, fun h => absurd h (by simp [bv]), by decide⟩
 ·refine ⟨(zs.take len).map fun n => UInt8.ofNat n.toNat, by simp; omega, fun h => (by cases h), ?_, by omega⟩
  intro _
  refine ⟨x, rfl, fun j u hj => ?_⟩
  have hjl : j < len ∧ j < zs.length := by
   have := (List.getElem?_eq_some_iff.1 hj).1
   simp [bv] at this
   omega
  rw [hc j hjl.2]
  have hb := bounds_u8 (hw zs[j] (List.getElem_mem hjl.2))
  have hg : zs.getD j 0 = zs[j]'hjl.2 := by simp [List.getD, List.getElem?_eq_getElem hjl.2]
  simp [bv, hjl.1, List.getElem?_eq_getElem hjl.2] at hj
  rw [← hj, hg]
  congr 2
  omega
def wv32 (ws : List Nat) : List Value := ws.map fun (n : Nat) => Value.int .u32 (n : Int)
end Go.Proofs.YtggknljlibhkjaaGreat
