/- What is proved: a region that draws its order ends as an invariant says, where each operation that may come up keeps it. Conditions: none. -/
import Derived.OrdersHeld
namespace Go.Proofs.Ytnihjkcniddepaa
open Go
def unl (l : Array Bool) : Nat := l.toList.countP (fun b => !b)
theorem unl_set {l : Array Bool} {i : Nat} (h : l.getD i true = false) : unl (l.setIfInBounds i true) + 1 = unl l := by
  have hi : i < l.size := by
    rcases Nat.lt_or_ge i l.size with h' | h'
    · exact h'
    · rw [Array.getD_eq_getD_getElem?, Array.getElem?_eq_none h'] at h; cases h
  have hg : l.toList[i]'(by simpa using hi) = false := by
    rw [Array.getD_eq_getD_getElem?, Array.getElem?_eq_getElem hi] at h; simpa using h
  unfold unl
  rw [Array.toList_setIfInBounds, List.countP_set (h := by simpa using hi), hg]
  have hp : 0 < l.toList.countP (fun b => !b) := List.countP_pos_iff.2 ⟨false, by rw [← hg]; exact List.getElem_mem _, rfl⟩
  simp only [Bool.not_false, Bool.not_true, if_true, Bool.false_eq_true, if_false]
  omega
section
variable {P : Program} {ops : Array Oper} {Q : Exit → Act → World → Prop} {md : Region.Mode} {S : World → Prop}
theorem ready_nil_of_unl {l : Array Bool} (h : unl l = 0) : Region.ready md ops l = [] := by
  refine List.eq_nil_iff_forall_not_mem.2 fun i hi => ?_
  have h1 := (mem_ready.1 hi).1
  have h2 := unl_set h1
  omega
theorem wpAnyH_inv (I : Array Bool → Act → World → Prop)
    (hstep : ∀ l a w, I l a w → ∀ i ∈ Region.ready md ops l, wpOp P ops Q i (fun a' w' => S w' ∧ I (l.setIfInBounds i true) a' w') a w)
    (hdone : ∀ l a w, I l a w → Region.ready md ops l = [] → Q .normal a w) :
    ∀ fuel l a w, I l a w → unl l ≤ fuel → wpAnyH P md ops Q S fuel l a w := by
  intro fuel
  induction fuel with
  | zero => intro l a w h hf; have h0 := ready_nil_of_unl (md := md) (ops := ops) (Nat.le_zero.1 hf); exact ⟨h0, hdone _ _ _ h h0⟩
  | succ fuel ih =>
    intro l a w h hf
    refine ⟨hdone _ _ _ h, fun i hi => wpOp_mono (fun a' w' h' => ⟨h'.1, ih _ _ _ h'.2 ?_⟩) (hstep _ _ _ h i hi)⟩
    have := unl_set (mem_ready.1 hi).1
    omega
end
end Go.Proofs.Ytnihjkcniddepaa
