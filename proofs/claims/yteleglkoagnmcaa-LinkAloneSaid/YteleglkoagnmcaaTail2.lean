/- What is proved: more of a region that draws its order: its last operations tell a value, or call. Conditions: as each theorem says. -/
import Derived.Test.YteleglkoagnmcaaTail
set_option linter.unusedSimpArgs false
set_option linter.unusedVariables false
namespace Go.Proofs.Yteleglkoagnmcaa
open Go Go.RowKit
section
variable {P : Program} {ops : Array Oper} {Q : Exit → Act → World → Prop} {md : Region.Mode} {S : World → Prop} {n : Nat}
variable {i t fuel : Nat} {oi : Oper} {v : Value} {listed : Array Bool} {a : Act} {w w' : World}
/-- a call that comes up alone, from n on -/
theorem callE {f : FuncId} {args : Array Value} (hi : ops[i]? = some oi) (hr : Region.ready md ops listed = [i]) (hdst : oi.dst = some t) (hw : Region.wanted oi (yielded ops a.tmps) = true) (hx : (execOp a.eval oi).run P w = .ok (.enter f args) w) (hin : ¬ i < n)
    (hc : Calls P f args w fun e w' => ∃ v, e = .returned v ∧ wpAnyT P md ops Q S n fuel (listed.setIfInBounds i true) { tmps := a.tmps.setIfInBounds t v, defers := a.defers } w') : wpAnyT P md ops Q S n (fuel + 1) listed a w := by
  refine oneT hi hr ?_
  rw [if_pos hw]
  unfold Oper.wp
  rw [hx, Oper.upon_enter]
  refine hc.mono ?_
  rintro e w' ⟨v, rfl, h1⟩
  exact ⟨fun h => absurd h hin, by rw [hdst]; exact h1⟩
/-- the last one, that tells a value -/
theorem lastV (hi : ops[i]? = some oi) (hr : Region.ready md ops listed = [i]) (hdst : oi.dst = some t) (hw : Region.wanted oi (yielded ops a.tmps) = true) (hx : (execOp a.eval oi).run P w = .ok (.value v) w') (hin : ¬ i < n) (hd : Region.ready md ops (listed.setIfInBounds i true) = [])
    (h : Q .normal { tmps := a.tmps.setIfInBounds t v, defers := a.defers } w') : wpAnyT P md ops Q S n (fuel + 1) listed a w := by
  refine oneT hi hr ?_
  rw [if_pos hw]
  unfold Oper.wp
  rw [hx]
  refine ⟨fun h => absurd h hin, ?_⟩
  rw [hdst]
  cases fuel with
  | zero => exact ⟨hd, h⟩
  | succ k => exact ⟨fun _ => h, by rw [hd]; simp⟩
end
end Go.Proofs.Yteleglkoagnmcaa
