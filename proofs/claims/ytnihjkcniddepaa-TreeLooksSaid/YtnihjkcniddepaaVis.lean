/- What is proved: the nodes of a tree in memory in the order in which Walk goes over them, each with its place; which worlds keep them; no program. Conditions: as each theorem says. -/
import Derived.Test.YtnihjkcniddepaaFlat
import Derived.RangeFuncNested
namespace Go.Proofs.Ytnihjkcniddepaa
open Go.RowKit
/-- a node that comes: its depth, itself, where those below it lie -/
structure Vis where
  e : Int
  d : Own
  ks : F
  A : Option Addr
  n : Nat
  c : Nat
def kidsAt (w : World) (A : Option Addr) : Option Addr × Nat × Nat :=
  match A with
  | some a => match w.cell? ⟨a.block, a.off + 4, none⟩ with
    | some (.slice A n c) => (A, n, c)
    | _ => (none, 0, 0)
  | none => (none, 0, 0)
def nextA (A : Option Addr) : Option Addr := A.map fun a => ⟨a.block, a.off + 5, none⟩
def visL (w : World) : F → Option Addr → Int → List Vis
  | .nil, _, _ => []
  | .cons d ks r, A, e => ⟨e, d, ks, (kidsAt w A).1, (kidsAt w A).2.1, (kidsAt w A).2.2⟩ :: (visL w ks (kidsAt w A).1 (e + 1) ++ visL w r (nextA A) e)
theorem visL_len (w : World) (f : F) : ∀ A e, (visL w f A e).length = f.size := by
  induction f with
  | nil => intro A e; rfl
  | cons d ks r h1 h2 => intro A e; simp only [visL, List.length_cons, List.length_append, h1, h2, F.size]; omega
theorem kidsAt_eq {w : World} {b o n c : Nat} {A : Option Addr} (h : w.cell? ⟨b, o + 4, none⟩ = some (.slice A n c)) : kidsAt w (some ⟨b, o, none⟩) = (A, n, c) := by
  unfold kidsAt
  simp only [h]
theorem visL_isN {w : World} {f : F} : ∀ {A : Option Addr} {n : Nat} {e : Int}, IsL w A n f → ∀ v ∈ visL w f A e, IsN w v.d v.ks v.A v.n v.c := by
  induction f with
  | nil => intro A n e _ v hv; cases hv
  | cons d ks r h1 h2 =>
    rintro A n e ⟨b, o, kA, kn, kc, m, rfl, rfl, ok, le, most, c0, c1, c2, c3, c4, hk, hr⟩ v hv
    have hq := kidsAt_eq c4
    simp only [visL, hq, List.mem_cons, List.mem_append] at hv
    rcases hv with rfl | hv | hv
    · exact ⟨ok, le, most, hk⟩
    · exact h1 hk v hv
    · exact h2 hr v hv
theorem visL_at {w : World} {f : F} : ∀ {b o n k : Nat} {e : Int} {d1 : Own} {k1 r : F} {kA : Option Addr} {kn kc : Nat}, IsL w (some ⟨b, o, none⟩) n f → f.drop k = .cons d1 k1 r → w.cell? ⟨b, o + k * 5 + 4, none⟩ = some (.slice kA kn kc) →
    visL w f (some ⟨b, o, none⟩) e = visL w (f.take k) (some ⟨b, o, none⟩) e ++ (⟨e, d1, k1, kA, kn, kc⟩ :: (visL w k1 kA (e + 1) ++ visL w r (some ⟨b, o + (k + 1) * 5, none⟩) e)) := by
  induction f with
  | nil => intro b o n k e d1 k1 r kA kn kc _ h; rw [F.drop_nil] at h; cases h
  | cons d ks r0 _ ih =>
    rintro b o n k e d1 k1 r kA kn kc ⟨b', o', kA', kn', kc', m, hA, rfl, ok, le, most, c0, c1, c2, c3, c4, hk, hr⟩ hd hc
    injection hA with hA
    injection hA with hb ho
    subst hb; subst ho
    cases k with
    | zero =>
      simp only [F.drop] at hd
      injection hd with e1 e2 e3
      subst e1; subst e2; subst e3
      rw [show o + 0 * 5 + 4 = o + 4 by omega] at hc
      simp only [F.take, visL, List.nil_append, kidsAt_eq hc, nextA, Option.map_some]
      try rw [show o + (0 + 1) * 5 = o + 5 by omega]
    | succ k =>
      have := ih (k := k) (e := e) hr hd (by rw [show o + 5 + k * 5 + 4 = o + (k + 1) * 5 + 4 by omega]; exact hc)
      simp only [F.take, visL, nextA, Option.map_some, List.cons_append, List.append_assoc]
      rw [this, show o + 5 + (k + 1) * 5 = o + (k + 1 + 1) * 5 by omega]
/-- a property of all nodes, below others too -/
def F.Every (p : Own → F → Prop) : F → Prop
  | .nil => True
  | .cons d ks r => p d ks ∧ ks.Every p ∧ r.Every p
theorem visL_every {w : World} {p : Own → F → Prop} {f : F} : ∀ {A : Option Addr} {e : Int}, f.Every p → ∀ v ∈ visL w f A e, p v.d v.ks := by
  induction f with
  | nil => intro A e _ v hv; cases hv
  | cons d ks r h1 h2 =>
    rintro A e ⟨hp, hk, hr⟩ v hv
    simp only [visL, List.mem_cons, List.mem_append] at hv
    rcases hv with rfl | hv | hv
    · exact hp
    · exact h1 hk v hv
    · exact h2 hr v hv
def maxE (l : List Vis) (m : Int) : Int := l.foldl (fun m v => max m v.e) m
theorem maxE_snoc (l : List Vis) (v : Vis) (m : Int) : maxE (l ++ [v]) m = max (maxE l m) v.e := by simp [maxE]
theorem visL_max (w : World) (f : F) : ∀ (A : Option Addr) (e m : Int), e - 1 ≤ m → maxE (visL w f A e) m = max m (e - 1 + f.deep) := by
  induction f with
  | nil => intro A e m h; simp only [visL, maxE, List.foldl_nil, F.deep]; omega
  | cons d ks r h1 h2 =>
    intro A e m h
    have a1 := h1 (kidsAt w A).1 (e + 1) (max m e) (by omega)
    unfold maxE at a1 h2
    simp only [visL, maxE, List.foldl_cons, List.foldl_append, a1]
    rw [h2 _ _ _ (by omega)]
    simp only [F.deep]
    omega
theorem visL_depth (w : World) (f : F) : ∀ (A : Option Addr) (e : Int), ∀ v ∈ visL w f A e, e ≤ v.e ∧ v.e < e + f.size := by
  induction f with
  | nil => intro A e v hv; cases hv
  | cons d ks r h1 h2 =>
    intro A e v hv
    simp only [visL, List.mem_cons, List.mem_append] at hv
    simp only [F.size]
    rcases hv with rfl | hv | hv
    · exact ⟨Int.le_refl _, by show e < _; omega⟩
    · have := h1 _ _ v hv; omega
    · have := h2 _ _ v hv; omega
/-- whatever holds cells lies as it lay, but for the blocks of X -/
structure KeepC (X : Nat → Prop) (W W' : World) : Prop where
  size : W.heap.size ≤ W'.heap.size
  same : ∀ (k : Nat) (o : Obj), ¬ X k → W.heap[k]? = some o → o.isCells = true → W'.heap[k]? = some o
section
variable {X : Nat → Prop} {W W' W'' : World}
theorem KeepC.refl (X : Nat → Prop) (W : World) : KeepC X W W := ⟨Nat.le_refl _, fun _ _ _ h _ => h⟩
theorem KeepC.trans (h : KeepC X W W') (k : KeepC X W' W'') : KeepC X W W'' := ⟨Nat.le_trans h.size k.size, fun i o hX hi ho => k.same i o hX (h.same i o hX hi ho) ho⟩
theorem KeepC.of_chg (h : Chg NoB W W') : KeepC X W W' := ⟨h.size, fun i o _ hi _ => (h.block i (Array.getElem?_eq_some_iff.1 hi).1 id).trans hi⟩
theorem KeepC.set {p : Addr} (hp : X p.block) (u : Value) : KeepC X W (W.setCell p u) :=
  ⟨by simp, fun i o hX hi _ => (Below.heap_setCell W p u i (fun e => hX (by rw [e]; exact hp))).trans hi⟩
theorem KeepC.put {l : Nat} {o : Obj} (o' : Obj) (h : W.heap[l]? = some o) (hc : o.isCells = false) : KeepC X W (W.putObj l o') :=
  ⟨by simp, fun i u _ hi hu => (World.putObj_heap_other (fun e => by subst e; rw [h] at hi; injection hi with hi; subst hi; rw [hc] at hu; cases hu)).trans hi⟩
theorem KeepC.cell (h : KeepC X W W') {p : Addr} {v : Value} (hc : W.cell? p = some v) (hp : ¬ X p.block) : W'.cell? p = some v := by
  obtain ⟨o, ho, hcc⟩ := cells_of_cell hc
  exact (World.cell?_of_block (by rw [h.same _ o hp ho hcc, ho])).trans hc
theorem KeepC.isL (h : KeepC X W W') (hX : ∀ b, X b → W.heap.size ≤ b) : ∀ {f : F} {A : Option Addr} {n : Nat}, IsL W A n f → IsL W' A n f := by
  intro f
  induction f with
  | nil => intro A n h; exact h
  | cons d ks r h1 h2 =>
    rintro A n ⟨b, o, kA, kn, kc, m, rfl, rfl, ok, le, most, c0, c1, c2, c3, c4, hk, hr⟩
    have hb : ¬ X b := fun hx => by have := hX b hx; have := block_lt_of_cell c0; simp at this; omega
    exact ⟨b, o, kA, kn, kc, m, rfl, rfl, ok, le, most, h.cell c0 hb, h.cell c1 hb, h.cell c2 hb, h.cell c3 hb, h.cell c4 hb, h1 hk, h2 hr⟩
theorem KeepC.isN (h : KeepC X W W') (hX : ∀ b, X b → W.heap.size ≤ b) {d : Own} {ks : F} {A : Option Addr} {n c : Nat} (hn : IsN W d ks A n c) : IsN W' d ks A n c :=
  ⟨hn.ok, hn.le, hn.most, h.isL hX hn.kids⟩
end
end Go.Proofs.Ytnihjkcniddepaa
