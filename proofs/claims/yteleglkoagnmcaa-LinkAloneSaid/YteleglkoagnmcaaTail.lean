/- What is proved: a region that draws its order and ends with one operation that waits for all others: what the others read may be turned by that last one. Conditions: as each theorem says. -/
import Derived.Deep.RegionHeld3
import Derived.StillTail
import Derived.Tactics
import Derived.ProofKit
import Derived.Test.YteleglkoagnmcaaHeap
set_option linter.unusedSimpArgs false
set_option linter.unusedVariables false
namespace Go.Proofs.Yteleglkoagnmcaa
open Go Go.RowKit
section
variable {P : Program} {ops : Array Oper} {Q : Exit → Act → World → Prop} {md : Region.Mode} {S : World → Prop} {n : Nat}
/-- whatever order is picked; S holds behind every operation but those from n on -/
def wpAnyT (P : Program) (md : Region.Mode) (ops : Array Oper) (Q : Exit → Act → World → Prop) (S : World → Prop) (n : Nat) : Nat → Array Bool → Act → World → Prop
  | 0, listed, a, w => Region.ready md ops listed = [] ∧ Q .normal a w
  | fuel + 1, listed, a, w =>
    (Region.ready md ops listed = [] → Q .normal a w) ∧
    ∀ i ∈ Region.ready md ops listed, wpOp P ops Q i (fun a' w' => (i < n → S w') ∧ wpAnyT P md ops Q S n fuel (listed.setIfInBounds i true) a' w') a w
theorem wpAny_of_T : ∀ (fuel : Nat) (listed : Array Bool) (a : Act) (w : World), wpAnyT P md ops Q S n fuel listed a w → wpAny P md ops Q fuel listed a w
  | 0, _, _, _, h => h
  | fuel + 1, _, _, _, h => ⟨h.1, fun i hi => wpOp_mono (fun a' w' h' => wpAny_of_T fuel _ a' w' h'.2) (h.2 i hi)⟩
theorem wpAnyT_first {i : Nat} {oi : Oper} {v : Value} (hi : ops[i]? = some oi) (hsel : ∀ (j : Nat) (o : Oper) cs b, ops[j]? = some o → o.op ≠ .select cs b)
    (hQ : ∀ c a w, Q (.panic c) (a.put oi.dst v) w → Q (.panic c) a w) (hs : Region.sinkB md ops n = true) (hc : Region.chainB md ops n = true) (hn : n < ops.size) (hin : i < n) :
    ∀ (fuel : Nat) (listed : Array Bool) (a : Act) (w : World), HeadInv md ops n listed →
      (∀ j oj, ops[j]? = some oj → j ≠ i → listed.getD j true = false → (∀ e ∈ oj.after, Region.binds md e = true → e.on ≠ i) → oi.apart ops oj = true) →
      i ∈ Region.ready md ops listed → YieldsIf P ops S oi v a → S w →
      wpAnyT P md ops Q S n fuel (listed.setIfInBounds i true) (a.put oi.dst v) w → wpAnyT P md ops Q S n (fuel + 1) listed a w := by
  intro fuel
  induction fuel with
  | zero =>
    intro listed a w _ _ hr hy hS H
    refine ⟨fun h => (by rw [h] at hr; cases hr), fun j hj => ?_⟩
    by_cases hji : j = i
    · subst hji; exact hy.wpOp hi hS ⟨fun _ => hS, H⟩
    · have := ready_mono hj hji
      rw [H.1] at this
      cases this
  | succ fuel ih =>
    intro listed a w inv hfree hr hy hS H
    refine ⟨fun h => (by rw [h] at hr; cases hr), fun j hj => ?_⟩
    by_cases hji : j = i
    · subst hji; exact hy.wpOp hi hS ⟨fun _ => hS, H⟩
    · have hjn : j < n := by
        rcases Nat.lt_or_ge j n with h | h
        · exact h
        · exact absurd hj (tail_waits hs hc hn inv _ i rfl hin (mem_ready.1 hr).1 j h)
      have h1 := H.2 j (ready_mono hj hji)
      obtain ⟨hjun, oj, hoj, hall⟩ := mem_ready.1 hj
      have hnot : ∀ e ∈ oj.after, Region.binds md e = true → e.on ≠ i := fun e he hb heq => by
        have h1 := hall e he hb
        have h0 := (mem_ready.1 hr).1
        rw [heq] at h1
        rw [getD_both h0] at h1
        cases h1
      have h2 := wpOp_putIf hoj (hfree j oj hoj hji hjun hnot) (fun cs b => hsel i oi cs b hi) (fun cs b => hsel j oj cs b hoj) hQ hy h1
      have hfree' : ∀ k ok, ops[k]? = some ok → k ≠ i → (listed.setIfInBounds j true).getD k true = false →
          (∀ e ∈ ok.after, Region.binds md e = true → e.on ≠ i) → oi.apart ops ok = true := fun k ok hk hki hun hno => by
        refine hfree k ok hk hki ?_ hno
        by_cases hjk : j = k
        · subst hjk; exact hjun
        · rw [getD_set_ne true hjk] at hun; exact hun
      refine wpOp_mono (fun a' w' h3 => ⟨fun _ => h3.2.1 hjn, ih (listed.setIfInBounds j true) a' w' (inv.set hj hjn) hfree' (ready_mono hr (Ne.symm hji)) h3.1 (h3.2.1 hjn) ?_⟩) h2
      rw [Array.setIfInBounds_comm _ _ hji]
      exact h3.2.2
variable {i t fuel : Nat} {oi : Oper} {v : Value} {listed : Array Bool} {a : Act} {w w' : World}
theorem headInv_start (hn : n < ops.size) : HeadInv md ops n (Array.replicate ops.size false) :=
  ⟨by simp, fun j oj hj hl => (by rw [getD_replicate_false] at hl; cases hl), fun t _ ht => by rw [Array.getD_eq_getD_getElem?, Array.getElem?_replicate, if_pos ht]; rfl⟩
/-- the beginning -/
theorem regionT {id : Nat} (n : Nat) (S : World → Prop) (hm : P.follows .mixedOrders = true) (hn : n < ops.size) (hS : S w.drew) (h : HeadInv .any ops n (Array.replicate ops.size false) → S w.drew → wpAnyT P .any ops Q S n ops.size (Array.replicate ops.size false) a w.drew) : (Code.region id ops true).wp P Q a w :=
  wp_region_any hm (wpAny_of_T _ _ _ _ (h (headInv_start hn) hS))
/-- an operation taken first -/
theorem takeT (hi : ops[i]? = some oi) (hsl : Region.noSelect ops = true) (hf : Region.free md ops listed i = true) (hr : (Region.ready md ops listed).contains i = true) (hQ : ∀ c a w, Q (.panic c) (a.put oi.dst v) w → Q (.panic c) a w)
    (hs : Region.sinkB md ops n = true) (hc : Region.chainB md ops n = true) (hn : n < ops.size) (hin : i < n) (hdst : oi.dst = some t) (hy : YieldsIf P ops S oi v a) (inv : HeadInv md ops n listed) (hS : S w)
    (h : HeadInv md ops n (listed.setIfInBounds i true) → wpAnyT P md ops Q S n fuel (listed.setIfInBounds i true) { tmps := a.tmps.setIfInBounds t v, defers := a.defers } w) : wpAnyT P md ops Q S n (fuel + 1) listed a w := by
  have hr' : i ∈ Region.ready md ops listed := by simpa using hr
  exact wpAnyT_first hi (Region.noSelect_spec hsl) hQ hs hc hn hin fuel listed a w inv (Region.free_spec hi hf) hr' hy hS (by have := h (inv.set hr' hin); rw [hdst]; exact this)
/-- an operation taken first: its premises in one -/
def tkB (md : Region.Mode) (ops : Array Oper) (n i : Nat) (listed : Array Bool) : Bool := Region.noSelect ops && (Region.free md ops listed i && ((Region.ready md ops listed).contains i && (Region.sinkB md ops n && (Region.chainB md ops n && (decide (n < ops.size) && decide (i < n))))))
theorem tkY (hi : ops[i]? = some oi) (hb : tkB md ops n i listed = true) (hQ : ∀ c a w, Q (.panic c) (a.put oi.dst v) w → Q (.panic c) a w) (hdst : oi.dst = some t) (hy : YieldsIf P ops S oi v a) (inv : HeadInv md ops n listed) (hS : S w)
    (h : HeadInv md ops n (listed.setIfInBounds i true) → wpAnyT P md ops Q S n fuel (listed.setIfInBounds i true) { tmps := a.tmps.setIfInBounds t v, defers := a.defers } w) : wpAnyT P md ops Q S n (fuel + 1) listed a w := by
  unfold tkB at hb
  simp only [Bool.and_eq_true, decide_eq_true_eq] at hb
  obtain ⟨h1, h2, h3, h4, h5, h6, h7⟩ := hb
  exact takeT hi h1 h2 h3 hQ h4 h5 h6 h7 hdst hy inv hS h
theorem tkT (i t : Nat) (v : Value) (inv : HeadInv md ops n listed) (hS : S w) (hx : ∀ V', S V' → (execOp a.eval oi).run P V' = .ok (.value v) V') (h : HeadInv md ops n (listed.setIfInBounds i true) → wpAnyT P md ops Q S n fuel (listed.setIfInBounds i true) { tmps := a.tmps.setIfInBounds t v, defers := a.defers } w)
    (hi : ops[i]? = some oi := by exact rfl) (hb : tkB md ops n i listed = true := by kernel_rfl) (hQ : ∀ c a w u, Q (.panic c) (a.put (some t) u) w → Q (.panic c) a w := by exact fun _ _ _ _ h => h) (hdst : oi.dst = some t := by exact rfl) (hw : Region.wanted oi (yielded ops a.tmps) = true := by rfl) : wpAnyT P md ops Q S n (fuel + 1) listed a w :=
  tkY hi hb (fun c a w q => hQ c a w _ (hdst ▸ q)) hdst (.inl ⟨hw, hx⟩) inv hS h
theorem tkV (i t : Nat) (v : Value) (inv : HeadInv md ops n listed) (hS : S w) (h : HeadInv md ops n (listed.setIfInBounds i true) → wpAnyT P md ops Q S n fuel (listed.setIfInBounds i true) { tmps := a.tmps.setIfInBounds t v, defers := a.defers } w)
    (hi : ops[i]? = some oi := by exact rfl) (hb : tkB md ops n i listed = true := by kernel_rfl) (hQ : ∀ c a w u, Q (.panic c) (a.put (some t) u) w → Q (.panic c) a w := by exact fun _ _ _ _ h => h) (hdst : oi.dst = some t := by exact rfl) (hw : Region.wanted oi (yielded ops a.tmps) = true := by rfl) (hx : ∀ V', S V' → (execOp a.eval oi).run P V' = .ok (.value v) V' := by intro V' hSw; clear hSw; go_simp; try with_reducible rfl) : wpAnyT P md ops Q S n (fuel + 1) listed a w :=
  tkY hi hb (fun c a w q => hQ c a w _ (hdst ▸ q)) hdst (.inl ⟨hw, hx⟩) inv hS h
theorem tkW (i t : Nat) (v : Value) (inv : HeadInv md ops n listed) (hS : S w) (h : HeadInv md ops n (listed.setIfInBounds i true) → wpAnyT P md ops Q S n fuel (listed.setIfInBounds i true) { tmps := a.tmps.setIfInBounds t v, defers := a.defers } w)
    (hi : ops[i]? = some oi := by exact rfl) (hb : tkB md ops n i listed = true := by kernel_rfl) (hQ : ∀ c a w u, Q (.panic c) (a.put (some t) u) w → Q (.panic c) a w := by exact fun _ _ _ _ h => h) (hdst : oi.dst = some t := by exact rfl) (hw : Region.wanted oi (yielded ops a.tmps) = true := by rfl) (hx : ∀ V', S V' → (execOp a.eval oi).run P V' = .ok (.value v) V' := by intro V' hSw; go_simp; first | done | decide | with_reducible rfl) : wpAnyT P md ops Q S n (fuel + 1) listed a w :=
  tkY hi hb (fun c a w q => hQ c a w _ (hdst ▸ q)) hdst (.inl ⟨hw, hx⟩) inv hS h
theorem tkU (i t : Nat) (inv : HeadInv md ops n listed) (hS : S w) (h : HeadInv md ops n (listed.setIfInBounds i true) → wpAnyT P md ops Q S n fuel (listed.setIfInBounds i true) { tmps := a.tmps.setIfInBounds t undef, defers := a.defers } w)
    (hi : ops[i]? = some oi := by exact rfl) (hb : tkB md ops n i listed = true := by kernel_rfl) (hQ : ∀ c a w u, Q (.panic c) (a.put (some t) u) w → Q (.panic c) a w := by exact fun _ _ _ _ h => h) (hdst : oi.dst = some t := by exact rfl) (hw : Region.wanted oi (yielded ops a.tmps) = false := by rfl) : wpAnyT P md ops Q S n (fuel + 1) listed a w :=
  tkY hi hb (fun c a w q => hQ c a w _ (hdst ▸ q)) hdst (.inr ⟨hw, rfl⟩) inv hS h
/-- an operation that comes up alone -/
theorem oneT (hi : ops[i]? = some oi) (hr : Region.ready md ops listed = [i]) (h : if Region.wanted oi (yielded ops a.tmps) = true then oi.wp P a w (fun a' w' => (i < n → S w') ∧ wpAnyT P md ops Q S n fuel (listed.setIfInBounds i true) a' w') Q else (i < n → S w) ∧ wpAnyT P md ops Q S n fuel (listed.setIfInBounds i true) (a.put oi.dst undef) w) : wpAnyT P md ops Q S n (fuel + 1) listed a w := by
  refine ⟨fun h0 => (by rw [hr] at h0; cases h0), fun j hj => ?_⟩
  have hj : j = i := by rw [hr] at hj; simpa using hj
  subst hj
  unfold wpOp
  rw [hi]
  simp only
  split
  · rename_i hw
    rw [if_pos hw] at h
    exact .inl h
  · rename_i hw
    rw [if_neg hw] at h
    exact h
theorem oneTI (hi : ops[i]? = some oi) (hr : Region.ready md ops listed = [i]) (inv : HeadInv md ops n listed) (hin : i < n) (h : HeadInv md ops n (listed.setIfInBounds i true) → if Region.wanted oi (yielded ops a.tmps) = true then oi.wp P a w (fun a' w' => (i < n → S w') ∧ wpAnyT P md ops Q S n fuel (listed.setIfInBounds i true) a' w') Q else (i < n → S w) ∧ wpAnyT P md ops Q S n fuel (listed.setIfInBounds i true) (a.put oi.dst undef) w) : wpAnyT P md ops Q S n (fuel + 1) listed a w :=
  oneT hi hr (h (inv.set (by rw [hr]; simp) hin))
theorem callT {f : FuncId} {args : Array Value} (hi : ops[i]? = some oi) (hr : Region.ready md ops listed = [i]) (hdst : oi.dst = some t) (hw : Region.wanted oi (yielded ops a.tmps) = true) (hx : (execOp a.eval oi).run P w = .ok (.enter f args) w) (inv : HeadInv md ops n listed) (hin : i < n)
    (hc : Calls P f args w fun e w' => ∃ v, e = .returned v ∧ S w' ∧ (HeadInv md ops n (listed.setIfInBounds i true) → S w' → wpAnyT P md ops Q S n fuel (listed.setIfInBounds i true) { tmps := a.tmps.setIfInBounds t v, defers := a.defers } w')) : wpAnyT P md ops Q S n (fuel + 1) listed a w := by
  have hr' : i ∈ Region.ready md ops listed := by rw [hr]; simp
  refine oneT hi hr ?_
  rw [if_pos hw]
  unfold Oper.wp
  rw [hx, Oper.upon_enter]
  refine hc.mono ?_
  rintro e w' ⟨v, rfl, h1, h2⟩
  exact ⟨fun _ => h1, by rw [hdst]; exact h2 (inv.set hr' hin) h1⟩
theorem valT (hi : ops[i]? = some oi) (hr : Region.ready md ops listed = [i]) (hdst : oi.dst = some t) (hw : Region.wanted oi (yielded ops a.tmps) = true) (hx : (execOp a.eval oi).run P w = .ok (.value v) w') (inv : HeadInv md ops n listed) (hin : i < n) (hS : S w')
    (h : HeadInv md ops n (listed.setIfInBounds i true) → S w' → wpAnyT P md ops Q S n fuel (listed.setIfInBounds i true) { tmps := a.tmps.setIfInBounds t v, defers := a.defers } w') : wpAnyT P md ops Q S n (fuel + 1) listed a w := by
  have hr' : i ∈ Region.ready md ops listed := by rw [hr]; simp
  refine oneT hi hr ?_
  rw [if_pos hw]
  unfold Oper.wp
  rw [hx]
  exact ⟨fun _ => hS, by rw [hdst]; exact h (inv.set hr' hin) hS⟩
/-- the last one, a store -/
theorem lastT (hi : ops[i]? = some oi) (hr : Region.ready md ops listed = [i]) (hdst : oi.dst = none) (hw : Region.wanted oi (yielded ops a.tmps) = true) (hx : (execOp a.eval oi).run P w = .ok .skip w') (hin : ¬ i < n) (hd : Region.ready md ops (listed.setIfInBounds i true) = [])
    (h : Q .normal a w') : wpAnyT P md ops Q S n (fuel + 1) listed a w := by
  refine oneT hi hr ?_
  rw [if_pos hw]
  unfold Oper.wp
  rw [hx]
  refine ⟨fun h => absurd h hin, ?_⟩
  rw [hdst]
  cases fuel with
  | zero => exact ⟨hd, h⟩
  | succ k => exact ⟨fun _ => h, by rw [hd]; simp⟩
end
end Go.Proofs.Yteleglkoagnmcaa
