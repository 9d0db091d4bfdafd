/- What is proved: steps of drawn regions that hold a condition. Conditions: as each theorem says. -/
import Derived.Test.YteleglkoagnmcaaTail2
import Derived.OrdersHeld
import Derived.WalkSpells
import Derived.Outline
import Derived.Deep.CutRange
import Derived.Deep.CutBlock
import Derived.Deep.MidRow
import Derived.StillTailTactics
import Derived.Deep.RegionHeld3
set_option linter.unusedSimpArgs false
set_option linter.unusedVariables false
namespace Go.Proofs.Yteleglkoagnmcaa
open Go Go.RowKit
section
variable {P : Program} {ops : Array Oper} {Q : Exit → Act → World → Prop} {md : Region.Mode} {S : World → Prop} {n : Nat}
variable {i t fuel : Nat} {oi : Oper} {v : Value} {listed : Array Bool} {a : Act} {w w' : World} {T : Act → World → Prop}
/-- whichever comes up first -/
theorem manyT {i : Nat} {l : List Nat} (hr : Region.ready md ops listed = i :: l) (hn : ∀ j ∈ i :: l, j < n) (inv : HeadInv md ops n listed) (h : ∀ j ∈ i :: l, HeadInv md ops n (listed.setIfInBounds j true) → wpOp P ops Q j (fun a' w' => (j < n → S w') ∧ wpAnyT P md ops Q S n fuel (listed.setIfInBounds j true) a' w') a w) : wpAnyT P md ops Q S n (fuel + 1) listed a w :=
  ⟨fun h0 => (by rw [hr] at h0; cases h0), fun j hj => by
    have hj' := hj
    rw [hr] at hj'
    exact h j hj' (inv.set hj (hn j hj'))⟩
theorem opVal (hi : ops[i]? = some oi) (hdst : oi.dst = some t) (hw : Region.wanted oi (yielded ops a.tmps) = true) (hx : (execOp a.eval oi).run P w = .ok (.value v) w') (hS : S w')
    (h : T { tmps := a.tmps.setIfInBounds t v, defers := a.defers } w') : wpOp P ops Q i (fun a' w' => (i < n → S w') ∧ T a' w') a w := by
  unfold wpOp
  rw [hi]
  simp only
  rw [if_pos hw]
  refine .inl ?_
  unfold Oper.wp
  rw [hx]
  exact ⟨fun _ => hS, by rw [hdst]; exact h⟩
theorem opCall {f : FuncId} {args : Array Value} (hi : ops[i]? = some oi) (hdst : oi.dst = some t) (hw : Region.wanted oi (yielded ops a.tmps) = true) (hx : (execOp a.eval oi).run P w = .ok (.enter f args) w)
    (hc : Calls P f args w fun e w' => ∃ v, e = .returned v ∧ S w' ∧ T { tmps := a.tmps.setIfInBounds t v, defers := a.defers } w') : wpOp P ops Q i (fun a' w' => (i < n → S w') ∧ T a' w') a w := by
  unfold wpOp
  rw [hi]
  simp only
  rw [if_pos hw]
  refine .inl ?_
  unfold Oper.wp
  rw [hx, Oper.upon_enter]
  refine hc.mono ?_
  rintro e w' ⟨v, rfl, h1, h2⟩
  exact ⟨fun _ => h1, by rw [hdst]; exact h2⟩
end
section
variable {P : Program} {ops : Array Oper} {Q : Exit → Act → World → Prop} {md : Region.Mode} {S : World → Prop}
variable {i t fuel : Nat} {oi : Oper} {v : Value} {listed : Array Bool} {a : Act} {w w' : World} {T : Act → World → Prop}
theorem takeH (hi : ops[i]? = some oi) (hs : Region.noSelect ops = true) (hf : Region.free md ops listed i = true) (hr : (Region.ready md ops listed).contains i = true) (hQ : ∀ c a w, Q (.panic c) (a.put oi.dst v) w → Q (.panic c) a w)
    (hdst : oi.dst = some t) (hy : YieldsIf P ops S oi v a) (hS : S w) (h : wpAnyH P md ops Q S fuel (listed.setIfInBounds i true) { tmps := a.tmps.setIfInBounds t v, defers := a.defers } w) : wpAnyH P md ops Q S (fuel + 1) listed a w :=
  wpAnyH_take hi hs hf hr hQ hy hS (by rw [hdst]; exact h)
theorem manyH {i : Nat} {l : List Nat} (hr : Region.ready md ops listed = i :: l) (h : ∀ j ∈ i :: l, wpOp P ops Q j (fun a' w' => S w' ∧ wpAnyH P md ops Q S fuel (listed.setIfInBounds j true) a' w') a w) : wpAnyH P md ops Q S (fuel + 1) listed a w :=
  wpAnyH_all hr (by simp) h
theorem opValH (hi : ops[i]? = some oi) (hdst : oi.dst = some t) (hw : Region.wanted oi (yielded ops a.tmps) = true) (hx : (execOp a.eval oi).run P w = .ok (.value v) w') (hS : S w')
    (h : T { tmps := a.tmps.setIfInBounds t v, defers := a.defers } w') : wpOp P ops Q i (fun a' w' => S w' ∧ T a' w') a w := by
  unfold wpOp
  rw [hi]
  simp only
  rw [if_pos hw]
  refine .inl ?_
  unfold Oper.wp
  rw [hx]
  exact ⟨hS, by rw [hdst]; exact h⟩
theorem opCallH {f : FuncId} {args : Array Value} (hi : ops[i]? = some oi) (hdst : oi.dst = some t) (hw : Region.wanted oi (yielded ops a.tmps) = true) (hx : (execOp a.eval oi).run P w = .ok (.enter f args) w)
    (hc : Calls P f args w fun e w' => ∃ v, e = .returned v ∧ S w' ∧ T { tmps := a.tmps.setIfInBounds t v, defers := a.defers } w') : wpOp P ops Q i (fun a' w' => S w' ∧ T a' w') a w := by
  unfold wpOp
  rw [hi]
  simp only
  rw [if_pos hw]
  refine .inl ?_
  unfold Oper.wp
  rw [hx, Oper.upon_enter]
  refine hc.mono ?_
  rintro e w' ⟨v, rfl, h1, h2⟩
  exact ⟨h1, by rw [hdst]; exact h2⟩
theorem storeLastH (hi : ops[i]? = some oi) (hr : Region.ready md ops listed = [i]) (hdst : oi.dst = none) (hw : Region.wanted oi (yielded ops a.tmps) = true) (hx : (execOp a.eval oi).run P w = .ok .skip w') (hS : S w') (hd : Region.ready md ops (listed.setIfInBounds i true) = [])
    (h : Q .normal a w') : wpAnyH P md ops Q S (fuel + 1) listed a w := by
  refine manyH hr fun j hj => ?_
  obtain rfl : j = i := by simpa using hj
  unfold wpOp
  rw [hi]
  simp only
  rw [if_pos hw]
  refine .inl ?_
  unfold Oper.wp
  rw [hx]
  exact ⟨hS, by rw [hdst]; exact wpAnyH_done hd h _⟩
theorem regionH {id : Nat} (S : World → Prop) (hm : P.follows .mixedOrders = true) (hS : S w.drew) (h : S w.drew → wpAnyH P .any ops Q S ops.size (Array.replicate ops.size false) a w.drew) : (Code.region id ops true).wp P Q a w :=
  wp_region_any hm (wpAny_of_held _ _ _ _ (h hS))
end
section
variable {P : Program} {ops : Array Oper} {Q : Exit → Act → World → Prop} {md : Region.Mode} {S : World → Prop}
variable {i t fuel : Nat} {oi : Oper} {v : Value} {listed : Array Bool} {a : Act} {w w' : World} {T : Act → World → Prop}
theorem opWpH (hi : ops[i]? = some oi) (hw : Region.wanted oi (yielded ops a.tmps) = true) (h : oi.wp P a w (fun a' w' => S w' ∧ T a' w') Q) : wpOp P ops Q i (fun a' w' => S w' ∧ T a' w') a w := by
  unfold wpOp
  rw [hi]
  simp only
  rw [if_pos hw]
  exact .inl h
theorem opSkipH (hi : ops[i]? = some oi) (hdst : oi.dst = none) (hw : Region.wanted oi (yielded ops a.tmps) = true) (hx : (execOp a.eval oi).run P w = .ok .skip w') (hS : S w')
    (h : T a w') : wpOp P ops Q i (fun a' w' => S w' ∧ T a' w') a w := by
  unfold wpOp
  rw [hi]
  simp only
  rw [if_pos hw]
  refine .inl ?_
  unfold Oper.wp
  rw [hx]
  exact ⟨hS, by rw [hdst]; exact h⟩
end
theorem cellq {w w' : World} {p : Addr} {v : Value} (hc : Chg NoB w w') (h : w.cell? p = some v) : w'.cell? p = some v := (World.cell?_of_block (hc.block _ (World.block_lt_of_cell? w _ h) id)).trans h
end Go.Proofs.Yteleglkoagnmcaa
