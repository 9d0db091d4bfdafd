/- What is proved: a processor is equal to itself. Conditions: none. -/
import Derived.Test.YtggknljlibhkjaaGreatGMcA
import Derived.ChangeKeysEq
set_option linter.unusedSimpArgs false
set_option linter.unusedVariables false
namespace Go.Proofs.YtggknljlibhkjaaGreat
open Go Go.RowKit
theorem eqItems_same (d : Nat) (xs : Array Value) (W : World) : ∀ is : List Nat, (∀ i ∈ is, ∃ k, xs[i]? = some (.int .u32 k)) → (Op.eqItems (d + 1) 23 1 xs xs is).run Tryz.prog W = .ok true W
  | [], _ => by simp [Op.eqItems]
  | i :: is, h => by
    obtain ⟨k, hk⟩ := h i (by simp)
    have hp := run_part_plain (P := Tryz.prog) W (e := 23) (by kernel_rfl) (show xs[i * 1]? = some (.int .u32 k) by simpa using hk)
    have he : (Op.equalIn (d + 1) 23 (.int .u32 k) (.int .u32 k)).run Tryz.prog W = .ok true W := by simp [Op.equalIn, run_underlying Tryz.underlying23]
    simp only [Op.eqItems, Sem.run_bind, hp, he, Result.andThen_ok]
    simpa using eqItems_same d xs W is (fun j hj => h j (by simp [hj]))
theorem run_equalIn_regs (d : Nat) (xs : Array Value) (h : ∀ i < 16, ∃ k, xs[i]? = some (.int .u32 k)) (W : World) : (Op.equalIn (d + 1 + 1) 40 (.agg xs) (.agg xs)).run Tryz.prog W = .ok true W := by
  obtain ⟨i, hi⟩ := info_of_underlying (P := Tryz.prog) Tryz.underlying23
  rw [run_equalIn_array (P := Tryz.prog) W (d + 1) xs xs (n := 16) (e := 23) Tryz.underlying40 hi]
  rw [show Tryz.prog.cellsOf 23 = 1 by kernel_rfl]
  exact eqItems_same d xs W _ (fun i hi => h i (by simpa using hi))
theorem run_eql_cp (c : Cp) (W : World) : (binOp .eql 42 c.val c.val).run Tryz.prog W = .ok (.bool true) W := by
  have hr := fun d => run_equalIn_regs d #[.int .u32 (c.R 0), .int .u32 (c.R 1), .int .u32 (c.R 2), .int .u32 (c.R 3), .int .u32 (c.R 4), .int .u32 (c.R 5), .int .u32 (c.R 6), .int .u32 (c.R 7), .int .u32 (c.R 8), .int .u32 (c.R 9), .int .u32 (c.R 10), .int .u32 (c.R 11), .int .u32 (c.R 12), .int .u32 (c.R 13), .int .u32 (c.R 14), .int .u32 (c.R 15)] (fun i hi => by
    rcases lt16 hi with rfl | rfl | rfl | rfl | rfl | rfl | rfl | rfl | rfl | rfl | rfl | rfl | rfl | rfl | rfl | rfl <;> exact ⟨_, rfl⟩) W
  have h1 := hr 9997
  unfold Cp.val Cp.arr
  go_simp
theorem run_neq_cp (c : Cp) (W : World) : (binOp .neq 42 c.val c.val).run Tryz.prog W = .ok (.bool false) W := by
  have hr := fun d => run_equalIn_regs d #[.int .u32 (c.R 0), .int .u32 (c.R 1), .int .u32 (c.R 2), .int .u32 (c.R 3), .int .u32 (c.R 4), .int .u32 (c.R 5), .int .u32 (c.R 6), .int .u32 (c.R 7), .int .u32 (c.R 8), .int .u32 (c.R 9), .int .u32 (c.R 10), .int .u32 (c.R 11), .int .u32 (c.R 12), .int .u32 (c.R 13), .int .u32 (c.R 14), .int .u32 (c.R 15)] (fun i hi => by
    rcases lt16 hi with rfl | rfl | rfl | rfl | rfl | rfl | rfl | rfl | rfl | rfl | rfl | rfl | rfl | rfl | rfl | rfl <;> exact ⟨_, rfl⟩) W
  have h1 := hr 9997
  unfold Cp.val Cp.arr
  go_simp
theorem guard_cp (x y : Operand) (c : Cp) (W : World) : (eqGuard .neq 42 x y c.val c.val).run Tryz.prog W = .ok () W := by
  unfold Cp.val Cp.arr
  go_simp
end Go.Proofs.YtggknljlibhkjaaGreat
