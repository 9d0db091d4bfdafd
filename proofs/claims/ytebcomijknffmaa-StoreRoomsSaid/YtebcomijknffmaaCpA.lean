/- What is proved: a store that is being copied: plain laws of its data. Conditions: as each theorem says. -/
import Derived.Test.YtebcomijknffmaaStoreS
namespace Go.Proofs.Ytebcomijknffmaa
open Go.RowKit

/-- where a file's copy is -/
def img : List (Nat × Nat) → Nat → Nat
  | [], _ => 0
  | p :: l, f => if f = p.1 then p.2 else img l f
theorem img_mem {l : List (Nat × Nat)} {f : Nat} (h : f ∈ l.map (·.1)) : (f, img l f) ∈ l := by
  induction l with
  | nil => simp at h
  | cons p l ih =>
    unfold img
    by_cases e : f = p.1
    · rw [if_pos e, e]; simp
    · rw [if_neg e]
      simp only [List.map_cons, List.mem_cons] at h
      exact List.mem_cons_of_mem _ (ih (h.resolve_left e))
theorem img_app {l m : List (Nat × Nat)} {f : Nat} (h : f ∈ l.map (·.1)) : img (l ++ m) f = img l f := by
  induction l with
  | nil => simp at h
  | cons p l ih =>
    simp only [List.cons_append, img]
    by_cases e : f = p.1
    · rw [if_pos e, if_pos e]
    · rw [if_neg e, if_neg e]
      simp only [List.map_cons, List.mem_cons] at h
      exact ih (h.resolve_left e)
theorem img_new {l : List (Nat × Nat)} {f g : Nat} (h : f ∉ l.map (·.1)) : img (l ++ [(f, g)]) f = g := by
  induction l with
  | nil => simp [img]
  | cons p l ih =>
    simp only [List.map_cons, List.mem_cons, not_or] at h
    simp only [List.cons_append, img]
    rw [if_neg h.1]
    exact ih h.2
theorem img_inj {l : List (Nat × Nat)} (hv : (l.map (·.2)).Nodup) {f g : Nat} (hf : f ∈ l.map (·.1)) (hg : g ∈ l.map (·.1)) (h : img l f = img l g) : f = g := by
  have h1 := img_mem hf
  have h2 := img_mem hg
  rw [h] at h1
  obtain ⟨i, hi, e1⟩ := List.mem_iff_getElem.1 h1
  obtain ⟨j, hj, e2⟩ := List.mem_iff_getElem.1 h2
  have : i = j := (List.getElem_inj (h₀ := by simpa using hi) (h₁ := by simpa using hj) hv).1 (by simp [e1, e2])
  subst this
  rw [e1] at e2
  exact congrArg Prod.fst e2
/-- the entries of the map of copies -/
def ent (l : List (Nat × Nat)) : List (Nat × Value) := l.map fun p => (p.1, ptr p.2)
theorem look_ent (l : List (Nat × Nat)) (f : Nat) : lookS f (ent l) = if f ∈ l.map (·.1) then some (ptr (img l f)) else none := by
  induction l with
  | nil => simp [ent, lookS]
  | cons p l ih =>
    unfold ent at ih ⊢
    simp only [List.map_cons, lookS, img, List.mem_cons]
    by_cases e : f = p.1
    · subst e; simp
    · have e2 : (f == p.1) = false := by simpa using e
      simp only [e2, e, if_false, false_or]
      exact ih
theorem put_ent {l : List (Nat × Nat)} {f g : Nat} (h : f ∉ l.map (·.1)) : putS f (ptr g) (ent l) = ent (l ++ [(f, g)]) := by
  induction l with
  | nil => rfl
  | cons p l ih =>
    simp only [List.map_cons, List.mem_cons, not_or] at h
    have e : (f == p.1) = false := by simpa using h.1
    unfold ent at ih ⊢
    simp only [List.map_cons, List.cons_append, putS, e]
    exact congrArg (_ :: ·) (ih h.2)

/-- what is told of a store that is being copied -/
structure CpInv (S : Sto) (w : World) (W : World) (c ov om : Nat) (S' : Sto) (l : List (Nat × Nat)) (D : List (ByteArray × Nat)) (k : Nat) : Prop where
  st : StoreAt w.heap.size W c S'
  bov : Blk W ov 96 #[.map (some om)]
  mom : MapIs W om (ptrs (ent l))
  ovf : ¬ foot c S' ov
  omf : ¬ foot c S' om
  lo : w.heap.size ≤ ov ∧ w.heap.size ≤ om
  kn : (l.map (·.1)).Nodup
  vn : (l.map (·.2)).Nodup
  kh : ∀ p ∈ l, p.1 ∈ S.held
  vf : ∀ p ∈ l, ∃ A c' x, S.fl p.1 = some x ∧ S'.fl p.2 = some ⟨A, c', x.b⟩
  dir : S'.dir = D.map fun e => (e.1, img l e.2)
  dk : ∀ e ∈ D, e ∈ S.dir ∧ e.2 ∈ l.map (·.1)
  rd : S'.rd.map (fun r => (r.f, r.name, r.pos)) = (S.rd.take k).map fun r => (img l r.f, r.name, r.pos)
  rk : ∀ r ∈ S.rd.take k, r.f ∈ l.map (·.1)
  cap : S'.cap = S.cap
  chg : Chg NoB w W
section
variable {S S' : Sto} {w W W' : World} {base s c ov om k : Nat} {l : List (Nat × Nat)} {D : List (ByteArray × Nat)}
theorem sumOf_map (g : Nat → Nat) (f : Nat → Nat) (l : List Nat) : sumOf g (l.map f) = sumOf (fun x => g (f x)) l := by simp [sumOf, List.map_map, Function.comp_def]
/-- whatever of the copies a store holds takes no more than the store that is copied -/
theorem CpInv.fits (h : CpInv S w W c ov om S' l D k) (hs : StoreAt base w s S) {m : List Nat} (hm : ∀ x ∈ m, x ∈ l.map (·.2)) : sumOf S'.len (dedup m) ≤ S'.cap := by
  have h1 : sumOf S'.len (dedup m) ≤ sumOf S'.len (l.map (·.2)) := sumOf_le_sub (nodup_dedup _) fun x hx => hm x (mem_dedup.1 hx)
  have h2 : sumOf S'.len (l.map (·.2)) = sumOf S.len (l.map (·.1)) := by
    unfold sumOf
    rw [List.map_map, List.map_map]
    refine congrArg List.sum (List.map_congr_left fun p hp => ?_)
    obtain ⟨A, c', x, h3, h4⟩ := h.vf p hp
    simp [Sto.len, h3, h4]
  have h3 : sumOf S.len (l.map (·.1)) ≤ S.used := sumOf_le_sub h.kn fun x hx => by
    obtain ⟨p, hp, rfl⟩ := List.mem_map.1 hx
    exact mem_dedup.2 (h.kh p hp)
  have h4 := hs.fits
  rw [h.cap]
  omega
theorem CpInv.held (h : CpInv S w W c ov om S' l D k) : ∀ x ∈ S'.held, x ∈ l.map (·.2) := by
  intro x hx
  unfold Sto.held at hx
  rcases List.mem_append.1 hx with hx | hx
  · rw [h.dir, List.map_map] at hx
    obtain ⟨e, he, rfl⟩ := List.mem_map.1 hx
    exact List.mem_map.2 ⟨_, img_mem (h.dk e he).2, rfl⟩
  · have h1 := congrArg (List.map (·.1)) h.rd
    rw [List.map_map, List.map_map] at h1
    have h2 : S'.rd.map (·.f) = (S.rd.take k).map fun r => img l r.f := h1
    rw [h2] at hx
    obtain ⟨r, hr, rfl⟩ := List.mem_map.1 hx
    exact List.mem_map.2 ⟨_, img_mem (h.rk r hr), rfl⟩
theorem CpInv.chg2 {F : Nat → Prop} (h : CpInv S w W c ov om S' l D k) (hc : Chg F W W') (hF : ∀ b, b < W.heap.size → F b → b ≠ ov ∧ b ≠ om ∧ w.heap.size ≤ b ∧ ¬ foot c S' b) : CpInv S w W' c ov om S' l D k where
  st := h.st.chg hc fun b hb hf => (hF b (h.st.lt b hb) hf).2.2.2 hb
  bov := h.bov.chg hc fun hf => (hF _ h.bov.lt hf).1 rfl
  mom := h.mom.chg hc fun hf => (hF _ h.mom.lt hf).2.1 rfl
  ovf := h.ovf
  omf := h.omf
  lo := h.lo
  kn := h.kn
  vn := h.vn
  kh := h.kh
  vf := h.vf
  dir := h.dir
  dk := h.dk
  rd := h.rd
  rk := h.rk
  cap := h.cap
  chg := h.chg.step hc fun b hb hf => by
    have := h.chg.size
    exact absurd (hF b (by omega) hf).2.2.1 (by omega)
/-- a new copy of a file -/
theorem CpInv.addFile (h : CpInv S w W c ov om S' l D k) {f g : Nat} {A : Option Addr} {c' : Nat} {x : Fl} (hx : S.fl f = some x) (hf : f ∈ S.held) (hn : f ∉ l.map (·.1)) {W1 W2 : World} (hc1 : Chg NoB W W1) (hg : W.heap.size ≤ g)
    (hb : Blk W1 g 82 #[.slice A x.b.length c']) (ho : W1.ownsRow W.heap.size 5 1 (.slice A x.b.length c') x.b.length (bv x.b)) (hc2 : Chg (fun b => b = om) W1 W2) (hm : MapIs W2 om (ptrs (ent (l ++ [(f, g)])))) :
    CpInv S w W2 c ov om (S'.addFile g ⟨A, c', x.b⟩) (l ++ [(f, g)]) D k ∧ ∀ b, foot c (S'.addFile g ⟨A, c', x.b⟩) b → foot c S' b ∨ W.heap.size ≤ b := by
  have hsz := h.chg.size
  have hoo : W1.ownsRow w.heap.size 5 1 (.slice A x.b.length c') x.b.length (bv x.b) := by
    refine ⟨ho.1, ?_⟩
    rcases ho.2 with h1 | ⟨g', cap, cur, h1, h2, h3⟩
    · exact .inl h1
    · exact .inr ⟨g', cap, cur, h1, by omega, h3⟩
  obtain ⟨hst, hft⟩ := h.st.addFile (x := ⟨A, c', x.b⟩) hc1 hg hb hoo (fun b hb => (ho.lt b hb).1)
  have hom1 := h.mom.chg hc1 id
  have hov1 := h.bov.chg hc1 id
  have hne : ov ≠ om := Ne.symm (h.mom.blk_ne h.bov)
  have hlo : ∀ b, b < W.heap.size → ¬ foot c S' b → ¬ foot c (S'.addFile g ⟨A, c', x.b⟩) b := fun b hb hnf hf => by
    rcases hft b hf with h1 | h1
    · exact hnf h1
    · omega
  have hgn : g ∉ l.map (·.2) := fun hm => by
    obtain ⟨p, hp, rfl⟩ := List.mem_map.1 hm
    obtain ⟨A', c'', y, _, h2⟩ := h.vf p hp
    have := (h.st.flb _ _ h2).lt
    omega
  have hkeep : ∀ p ∈ l, (S'.addFile g ⟨A, c', x.b⟩).fl p.2 = S'.fl p.2 := fun p hp => by
    unfold Sto.addFile
    simp only
    rw [if_neg]
    rintro rfl
    exact hgn (List.mem_map.2 ⟨p, hp, rfl⟩)
  have hnf := hlo om h.mom.lt h.omf
  refine ⟨?_, hft⟩
  exact {
    st := hst.chg hc2 fun b hb e => by subst e; exact hnf hb
    bov := hov1.chg hc2 hne
    mom := hm
    ovf := hlo ov h.bov.lt h.ovf
    omf := hnf
    lo := h.lo
    kn := by
      rw [List.map_append, List.nodup_append]
      refine ⟨h.kn, by simp, fun a ha b hb hab => ?_⟩
      simp at hb
      subst hb hab
      exact hn ha
    vn := by
      rw [List.map_append, List.nodup_append]
      refine ⟨h.vn, by simp, fun a ha b hb hab => ?_⟩
      simp at hb
      subst hb hab
      exact hgn ha
    kh := fun p hp => by
      rcases List.mem_append.1 hp with hp | hp
      · exact h.kh p hp
      · simp at hp; subst hp; exact hf
    vf := fun p hp => by
      rcases List.mem_append.1 hp with hp | hp
      · rw [hkeep p hp]; exact h.vf p hp
      · simp at hp; subst hp
        exact ⟨A, c', x, hx, by simp [Sto.addFile]⟩
    dir := by
      show S'.dir = _
      rw [h.dir]
      exact List.map_congr_left fun e he => by rw [img_app (h.dk e he).2]
    dk := fun e he => ⟨(h.dk e he).1, by rw [List.map_append]; exact List.mem_append.2 (.inl (h.dk e he).2)⟩
    rd := by
      show S'.rd.map _ = _
      rw [h.rd]
      exact List.map_congr_left fun r hr => by rw [img_app (h.rk r hr)]
    rk := fun r hr => by rw [List.map_append]; exact List.mem_append.2 (.inl (h.rk r hr))
    cap := h.cap
    chg := (h.chg.trans hc1).step hc2 fun b hb e => by have := h.lo.2; omega }
end
end Go.Proofs.Ytebcomijknffmaa
