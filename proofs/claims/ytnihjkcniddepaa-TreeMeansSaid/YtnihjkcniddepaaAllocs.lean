/- What is proved: a drawn region whose last ten operations are five allocs in any order and five stores, one behind the other, each behind its alloc, ends in one way: five new blocks that hold what was stored. Conditions: none. -/
import Derived.Test.YtnihjkcniddepaaInv
import Derived.Test.YtnihjkcniddepaaHeap
namespace Go.Proofs.Ytnihjkcniddepaa
open Go.RowKit
def mk5 (m0 m1 m2 m3 m4 : Bool) : Nat → Bool
  | 0 => m0
  | 1 => m1
  | 2 => m2
  | 3 => m3
  | 4 => m4
  | _ => false
def LL (m : Nat → Bool) (s : Nat) : Array Bool := #[true, true, true, true, true, true, true, true, true, true, true, true, true, true, true, true, true, true, true, true, m 0, m 1, m 2, m 3, m 4, decide (0 < s), decide (1 < s), decide (2 < s), decide (3 < s), decide (4 < s)]
def chk1 (md : Region.Mode) (ops : Array Oper) (m : Nat → Bool) (s : Nat) : Bool :=
  ((Region.ready md ops (LL m s)).all fun i => (decide (20 ≤ i) && (decide (i < 25) && !m (i - 20))) || (decide (i = 25 + s) && (decide (s < 5) && m s))) &&
    (!(Region.ready md ops (LL m s)).isEmpty || (m 0 && (m 1 && (m 2 && (m 3 && (m 4 && decide (s = 5)))))))
def valid5 (m : Nat → Bool) (s : Nat) : Bool := (List.range s).all fun i => m i
def tf : List Bool := [true, false]
theorem mem_tf (b : Bool) : b ∈ tf := by cases b <;> simp [tf]
def rdy (md : Region.Mode) (ops : Array Oper) : Bool :=
  tf.all fun m0 => tf.all fun m1 => tf.all fun m2 => tf.all fun m3 => tf.all fun m4 => (List.range 6).all fun s => !valid5 (mk5 m0 m1 m2 m3 m4) s || chk1 md ops (mk5 m0 m1 m2 m3 m4) s
theorem rdy_out {md : Region.Mode} {ops : Array Oper} (h : rdy md ops = true) (m : Nat → Bool) (s : Nat) (hs : s ≤ 5) (hm : ∀ i, i < s → m i = true) : chk1 md ops (mk5 (m 0) (m 1) (m 2) (m 3) (m 4)) s = true := by
  unfold rdy at h
  have h0 := List.all_eq_true.1 h (m 0) (mem_tf _)
  have h1 := List.all_eq_true.1 h0 (m 1) (mem_tf _)
  have h2 := List.all_eq_true.1 h1 (m 2) (mem_tf _)
  have h3 := List.all_eq_true.1 h2 (m 3) (mem_tf _)
  have h4 := List.all_eq_true.1 h3 (m 4) (mem_tf _)
  have h5 := List.all_eq_true.1 h4 s (List.mem_range.2 (by omega))
  have hv : valid5 (mk5 (m 0) (m 1) (m 2) (m 3) (m 4)) s = true := by
    unfold valid5
    refine List.all_eq_true.2 fun i hi => ?_
    have hi' := List.mem_range.1 hi
    have := hm i hi'
    match i, this with
    | 0, h => exact h
    | 1, h => exact h
    | 2, h => exact h
    | 3, h => exact h
    | 4, h => exact h
    | i + 5, _ => omega
  rw [hv] at h5
  simpa using h5
def ptr5 (b : Nat) : Value := .pointer (some ⟨b, 0, none⟩)
def upd (A : Nat → Option Nat) (i b : Nat) : Nat → Option Nat := fun j => if j = i then some b else A j
structure Inv5 (T : TypeId) (Z : Array Value) (V : Nat → Array Value) (a0 : Act) (w0 : World) (A : Nat → Option Nat) (s : Nat) (a : Act) (w : World) : Prop where
  hs : s ≤ 5
  hA : ∀ i, i < s → (A i).isSome = true
  sz : a.tmps.size = a0.tmps.size
  df : a.defers = a0.defers
  tm : ∀ k, k < 3 ∨ 8 ≤ k → a.tmps[k]? = a0.tmps[k]?
  tn : ∀ i, i < 5 → A i = none → a.tmps[3 + i]? = a0.tmps[3 + i]?
  ts : ∀ i b, i < 5 → A i = some b → a.tmps[3 + i]? = some (ptr5 b)
  chg : Chg NoB w0 w
  new : ∀ i b, A i = some b → w0.heap.size ≤ b ∧ Blk w b T (if i < s then V i else Z)
  inj : ∀ i j b, A i = some b → A j = some b → i = j
variable {T : TypeId} {Z : Array Value} {V : Nat → Array Value} {a0 a : Act} {w0 w w' : World} {A : Nat → Option Nat} {s : Nat}
theorem Inv5.alloc (h : Inv5 T Z V a0 w0 A s a w) (h8 : 8 ≤ a0.tmps.size) (i : Nat) (hi : i < 5) (hn : A i = none) :
    Inv5 T Z V a0 w0 (upd A i w.heap.size) s (a.put (some (3 + i)) (ptr5 w.heap.size)) (w.alloc (.cells Z T)) := by
  have hsi : ¬ i < s := fun hlt => by have := h.hA i hlt; rw [hn] at this; cases this
  refine ⟨h.hs, fun j hj => ?_, ?_, h.df, fun k hk => ?_, fun j hj hA => ?_, fun j b hj hA => ?_, h.chg.alloc _, fun j b hA => ?_, fun j j' b h1 h2 => ?_⟩
  · unfold upd
    split
    · rfl
    · exact h.hA j hj
  · simp [Act.put, h.sz]
  · simp only [Act.put]
    rw [Array.getElem?_setIfInBounds_ne (by omega)]
    exact h.tm k hk
  · unfold upd at hA
    split at hA
    · cases hA
    · simp only [Act.put]
      rw [Array.getElem?_setIfInBounds_ne (by omega)]
      exact h.tn j hj hA
  · unfold upd at hA
    simp only [Act.put]
    split at hA
    · rename_i hji
      subst hji
      injection hA with hA
      subst hA
      have : 3 + j < a.tmps.size := by rw [h.sz]; omega
      simp [this]
    · rw [Array.getElem?_setIfInBounds_ne (by omega)]
      exact h.ts j b hj hA
  · unfold upd at hA
    split at hA
    · rename_i hji
      subst hji
      injection hA with hA
      subst hA
      rw [if_neg hsi]
      exact ⟨h.chg.size, Blk.new _ _ _⟩
    · exact ⟨(h.new j b hA).1, (h.new j b hA).2.alloc _⟩
  · unfold upd at h1 h2
    split at h1 <;> split at h2
    · omega
    · injection h1 with h1; subst h1; have := (h.new _ _ h2).2.lt; omega
    · injection h2 with h2; subst h2; have := (h.new _ _ h1).2.lt; omega
    · exact h.inj _ _ _ h1 h2
theorem Inv5.store (h : Inv5 T Z V a0 w0 A s a w) {b : Nat} (hs : s < 5) (hb : A s = some b) (hc : Chg (fun q => q = b) w w') (hB : Blk w' b T (V s)) :
    Inv5 T Z V a0 w0 A (s + 1) a w' := by
  refine ⟨hs, fun j hj => ?_, h.sz, h.df, h.tm, h.tn, h.ts, h.chg.step hc (fun i hi e => ?_), fun j c hj => ?_, h.inj⟩
  · rcases Nat.lt_or_ge j s with h1 | h1
    · exact h.hA j h1
    · rw [show j = s by omega, hb]; rfl
  · have h1 := (h.new s b hb).1
    have e' : i = b := e
    omega
  · by_cases hjs : j = s
    · subst hjs
      rw [hb] at hj
      injection hj with hj
      subst hj
      rw [if_pos (by omega)]
      exact ⟨(h.new j b hb).1, hB⟩
    · have hbc : ¬ c = b := fun e => hjs (h.inj j s b (e ▸ hj) hb)
      have h1 := (h.new j c hj)
      refine ⟨h1.1, ?_⟩
      have h2 := h1.2.chg hc hbc
      by_cases hlt : j < s
      · rw [if_pos hlt] at h2; rw [if_pos (by omega)]; exact h2
      · rw [if_neg hlt] at h2; rw [if_neg (by omega)]; exact h2
theorem Inv5.act (h : Inv5 T Z V a0 w0 A s a w) (h8 : 8 ≤ a0.tmps.size) {c0 c1 c2 c3 c4 : Nat} (h0 : A 0 = some c0) (h1 : A 1 = some c1) (h2 : A 2 = some c2) (h3 : A 3 = some c3) (h4 : A 4 = some c4) :
    a = ⟨((((a0.tmps.setIfInBounds 3 (ptr5 c0)).setIfInBounds 4 (ptr5 c1)).setIfInBounds 5 (ptr5 c2)).setIfInBounds 6 (ptr5 c3)).setIfInBounds 7 (ptr5 c4), a0.defers⟩ := by
  have e0 := h.ts 0 _ (by omega) h0
  have e1 := h.ts 1 _ (by omega) h1
  have e2 := h.ts 2 _ (by omega) h2
  have e3 := h.ts 3 _ (by omega) h3
  have e4 := h.ts 4 _ (by omega) h4
  have key : a.tmps = ((((a0.tmps.setIfInBounds 3 (ptr5 c0)).setIfInBounds 4 (ptr5 c1)).setIfInBounds 5 (ptr5 c2)).setIfInBounds 6 (ptr5 c3)).setIfInBounds 7 (ptr5 c4) := by
    refine Array.ext_getElem? fun k => ?_
    by_cases hk : k < 3 ∨ 8 ≤ k
    · rw [h.tm k hk, Array.getElem?_setIfInBounds_ne (by omega), Array.getElem?_setIfInBounds_ne (by omega), Array.getElem?_setIfInBounds_ne (by omega), Array.getElem?_setIfInBounds_ne (by omega), Array.getElem?_setIfInBounds_ne (by omega)]
    · have hk' : k = 3 ∨ k = 4 ∨ k = 5 ∨ k = 6 ∨ k = 7 := by omega
      rcases hk' with rfl | rfl | rfl | rfl | rfl
      · rw [show a.tmps[3]? = some (ptr5 c0) from e0]; simp [Array.getElem?_setIfInBounds, show 3 < a0.tmps.size by omega]
      · rw [show a.tmps[4]? = some (ptr5 c1) from e1]; simp [Array.getElem?_setIfInBounds, show 4 < a0.tmps.size by omega]
      · rw [show a.tmps[5]? = some (ptr5 c2) from e2]; simp [Array.getElem?_setIfInBounds, show 5 < a0.tmps.size by omega]
      · rw [show a.tmps[6]? = some (ptr5 c3) from e3]; simp [Array.getElem?_setIfInBounds, show 6 < a0.tmps.size by omega]
      · rw [show a.tmps[7]? = some (ptr5 c4) from e4]; simp [Array.getElem?_setIfInBounds, show 7 < a0.tmps.size by omega]
  cases a
  have := h.df
  simp only at this key
  rw [this, key]
section
variable {P : Program} {ops : Array Oper} {Q : Exit → Act → World → Prop} {md : Region.Mode} {S : World → Prop}
theorem LL_mk (m : Nat → Bool) (s : Nat) : LL (mk5 (m 0) (m 1) (m 2) (m 3) (m 4)) s = LL m s := rfl
theorem LL_alloc (A : Nat → Option Nat) (s i b : Nat) (hi : i < 5) : (LL (fun j => (A j).isSome) s).setIfInBounds (20 + i) true = LL (fun j => (upd A i b j).isSome) s := by
  match i, hi with
  | 0, _ => rfl
  | 1, _ => rfl
  | 2, _ => rfl
  | 3, _ => rfl
  | 4, _ => rfl
theorem LL_store (m : Nat → Bool) (s : Nat) (hs : s < 5) : (LL m s).setIfInBounds (25 + s) true = LL m (s + 1) := by
  match s, hs with
  | 0, _ => rfl
  | 1, _ => rfl
  | 2, _ => rfl
  | 3, _ => rfl
  | 4, _ => rfl
theorem eval_far (h : Inv5 T Z V a0 w0 A s a w) (k : Nat) (hk : k < 3 ∨ 8 ≤ k) : a.eval (.tmp k) = a0.eval (.tmp k) := by
  simp only [Act.eval, Array.getD_eq_getD_getElem?, h.tm k hk]
theorem eval_at (h : Inv5 T Z V a0 w0 A s a w) {i b : Nat} (hi : i < 5) (hb : A i = some b) : a.eval (.tmp (3 + i)) = ptr5 b := by
  simp only [Act.eval, Array.getD_eq_getD_getElem?, h.ts i b hi hb, Option.getD_some]
theorem wpOp_run {i : Nat} {o : Oper} {K : Act → World → Prop} {v : Value} (ho : ops[i]? = some o) (hg : o.guard = none) (hr : (execOp a.eval o).run P w = .ok (.value v) w') (hK : K (a.put o.dst v) w') : wpOp P ops Q i K a w := by
  unfold wpOp
  simp only [ho]
  have : Region.wanted o (yielded ops a.tmps) = true := by unfold Region.wanted; rw [hg]
  simp only [this, if_true, Oper.wp, hr, Oper.upon]
  exact .inl hK
theorem wpOp_skip {i : Nat} {o : Oper} {K : Act → World → Prop} (ho : ops[i]? = some o) (hg : o.guard = none) (hr : (execOp a.eval o).run P w = .ok .skip w') (hK : K (a.put o.dst undef) w') : wpOp P ops Q i K a w := by
  unfold wpOp
  simp only [ho]
  have : Region.wanted o (yielded ops a.tmps) = true := by unfold Region.wanted; rw [hg]
  simp only [this, if_true, Oper.wp, hr, Oper.upon]
  exact .inl hK
theorem five_allocs (T : TypeId) (Z : Array Value) (V : Nat → Array Value) (a0 : Act) (w0 : World) (h8 : 8 ≤ a0.tmps.size)
    (hal : ∀ i, i < 5 → ∃ o, ops[20 + i]? = some o ∧ o.dst = some (3 + i) ∧ o.guard = none ∧ ∀ (a : Act) (w : World), (execOp a.eval o).run P w = .ok (.value (ptr5 w.heap.size)) (w.alloc (.cells Z T)))
    (hst : ∀ i, i < 5 → ∃ o, ops[25 + i]? = some o ∧ o.dst = none ∧ o.guard = none ∧ ∀ (a : Act) (w : World) (b : Nat), a.eval (.tmp (3 + i)) = ptr5 b → a.eval (.tmp (57 + 4 * i)) = a0.eval (.tmp (57 + 4 * i)) → Blk w b T Z →
      ∃ w', (execOp a.eval o).run P w = .ok .skip w' ∧ Chg (fun q => q = b) w w' ∧ Blk w' b T (V i))
    (hrd : rdy md ops = true) (hS : ∀ w, Chg NoB w0 w → S w)
    (hQ : ∀ (c0 c1 c2 c3 c4 : Nat) (w : World), Chg NoB w0 w → Blk w c0 T (V 0) → Blk w c1 T (V 1) → Blk w c2 T (V 2) → Blk w c3 T (V 3) → Blk w c4 T (V 4) →
      Q .normal ⟨((((a0.tmps.setIfInBounds 3 (ptr5 c0)).setIfInBounds 4 (ptr5 c1)).setIfInBounds 5 (ptr5 c2)).setIfInBounds 6 (ptr5 c3)).setIfInBounds 7 (ptr5 c4), a0.defers⟩ w) :
    wpAnyH P md ops Q S 10 (LL (fun _ => false) 0) a0 w0 := by
  refine wpAnyH_inv (fun l a w => ∃ A s, l = LL (fun j => (A j).isSome) s ∧ Inv5 T Z V a0 w0 A s a w) ?_ ?_ 10 _ _ _ ⟨fun _ => none, 0, rfl, ?_⟩ (by decide)
  · rintro l a w ⟨A, s, rfl, h⟩ i hi
    have hc := rdy_out hrd (fun j => (A j).isSome) s h.hs h.hA
    unfold chk1 at hc
    rw [LL_mk (fun j => (A j).isSome) s, Bool.and_eq_true] at hc
    have h1 := List.all_eq_true.1 hc.1 i hi
    simp only [Bool.or_eq_true, Bool.and_eq_true, decide_eq_true_eq] at h1
    rcases h1 with ⟨g1, g2, g3⟩ | ⟨rfl, g2, g3⟩
    · obtain ⟨j, rfl⟩ : ∃ j, i = 20 + j := ⟨i - 20, by omega⟩
      have hj : j < 5 := by omega
      have hn : A j = none := by
        rw [show 20 + j - 20 = j by omega] at g3
        match j, hj, g3 with
        | 0, _, g => simpa [mk5] using g
        | 1, _, g => simpa [mk5] using g
        | 2, _, g => simpa [mk5] using g
        | 3, _, g => simpa [mk5] using g
        | 4, _, g => simpa [mk5] using g
      obtain ⟨o, ho, hd, hg, hr⟩ := hal j hj
      refine wpOp_run ho hg (hr a w) ?_
      have hI := h.alloc h8 j hj hn
      rw [hd]
      exact ⟨hS _ hI.chg, _, s, LL_alloc A s j _ hj, hI⟩
    · have hb : (A s).isSome = true := by
        match s, g2, g3 with
        | 0, _, g => simpa [mk5] using g
        | 1, _, g => simpa [mk5] using g
        | 2, _, g => simpa [mk5] using g
        | 3, _, g => simpa [mk5] using g
        | 4, _, g => simpa [mk5] using g
      obtain ⟨b, hb⟩ := Option.isSome_iff_exists.1 hb
      obtain ⟨o, ho, hd, hg, hr⟩ := hst s g2
      have hB := (h.new s b hb).2
      rw [if_neg (by omega)] at hB
      obtain ⟨w', hr, hc, hB'⟩ := hr a w b (eval_at h g2 hb) (eval_far h _ (by omega)) hB
      refine wpOp_skip ho hg hr ?_
      have hI := h.store g2 hb hc hB'
      rw [hd]
      exact ⟨hS _ hI.chg, A, s + 1, LL_store _ s g2, hI⟩
  · rintro l a w ⟨A, s, rfl, h⟩ hr
    have hc := rdy_out hrd (fun j => (A j).isSome) s h.hs h.hA
    unfold chk1 at hc
    rw [LL_mk (fun j => (A j).isSome) s, hr, Bool.and_eq_true] at hc
    have h1 := hc.2
    simp only [List.isEmpty_nil, Bool.not_true, Bool.false_or, Bool.and_eq_true, decide_eq_true_eq, mk5] at h1
    obtain ⟨g0, g1, g2, g3, g4, rfl⟩ := h1
    obtain ⟨c0, e0⟩ := Option.isSome_iff_exists.1 g0
    obtain ⟨c1, e1⟩ := Option.isSome_iff_exists.1 g1
    obtain ⟨c2, e2⟩ := Option.isSome_iff_exists.1 g2
    obtain ⟨c3, e3⟩ := Option.isSome_iff_exists.1 g3
    obtain ⟨c4, e4⟩ := Option.isSome_iff_exists.1 g4
    rw [h.act h8 e0 e1 e2 e3 e4]
    exact hQ c0 c1 c2 c3 c4 w h.chg (h.new 0 c0 e0).2 (h.new 1 c1 e1).2 (h.new 2 c2 e2).2 (h.new 3 c3 e3).2 (h.new 4 c4 e4).2
  · exact ⟨Nat.zero_le _, fun _ h => absurd h (Nat.not_lt_zero _), rfl, rfl, fun _ _ => rfl, fun _ _ _ => rfl, (by intro _ _ _ h; cases h), Chg.refl _ _, (by intro _ _ h; cases h), (by intro _ _ _ h; cases h)⟩
end
end Go.Proofs.Ytnihjkcniddepaa
