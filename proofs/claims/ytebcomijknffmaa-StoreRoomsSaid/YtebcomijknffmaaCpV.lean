/- What is proved: Copy, said of stores as plain data: the copy reads as the store does, its files numbered anew, its directory in another order. Conditions: the memory holds a store. -/
import Derived.Test.YtebcomijknffmaaCpD
namespace Go.Proofs.Ytebcomijknffmaa
open Go.RowKit
/-- v' is v with its files numbered anew (those that are held), its directory in another order -/
structure Sim (v v' : V) (ρ : Nat → Nat) : Prop where
  cap : v'.cap = v.cap
  dir : v'.dir.Perm (v.dir.map fun e => (e.1, ρ e.2))
  rd : v'.rd = v.rd.map fun r => ⟨ρ r.n, r.name, r.pos⟩
  bytes : ∀ n ∈ v.held, v'.bytes (ρ n) = v.bytes n
  inj : ∀ a ∈ v.held, ∀ b ∈ v.held, ρ a = ρ b → a = b
  keys : (v.dir.map (·.1)).Nodup
def idx (l : List (Nat × Nat)) (f : Nat) : Nat := (l.map (·.1)).idxOf f
section
variable {l : List (Nat × Nat)} {f g : Nat}
theorem idx_lt (h : f ∈ l.map (·.1)) : idx l f < l.length := by
  have := List.idxOf_lt_length_iff.2 h
  simpa [idx] using this
theorem idx_get (h : f ∈ l.map (·.1)) : (l[idx l f]'(idx_lt h)).1 = f := by
  have h1 : List.idxOf f (l.map (fun p : Nat × Nat => p.1)) < (l.map (fun p : Nat × Nat => p.1)).length := by
    have := idx_lt h
    unfold idx at this
    rw [List.length_map]
    exact this
  have h2 : (l.map (fun p : Nat × Nat => p.1))[List.idxOf f (l.map (fun p : Nat × Nat => p.1))]'h1 = f := List.getElem_idxOf h1
  rw [List.getElem_map] at h2
  exact h2
theorem img_idx (hk : (l.map (·.1)).Nodup) (h : f ∈ l.map (·.1)) : (l.map (·.2)).getD (idx l f) 0 = img l f := by
  have h1 := img_mem h
  obtain ⟨i, hi, e⟩ := List.mem_iff_getElem.1 h1
  have h2 : i = idx l f := (List.getElem_inj (h₀ := by simpa using hi) (h₁ := by simpa using idx_lt h) hk).1 (by
    simp only [List.getElem_map, e, idx_get h])
  subst h2
  have hlt := idx_lt h
  simp [List.getD_eq_getElem?_getD, hlt, e]
end
section
variable {S S' : Sto} {w W : World} {base s c ov om : Nat} {l : List (Nat × Nat)} {D : List (ByteArray × Nat)} {v : V} {φ : List Nat}
theorem CpInv.sim (h : CpInv S w W c ov om S' l D S.rd.length) (hs : StoreAt base w s S) (hp : D.Perm S.dir) (hr : Rep S v φ) :
    ∃ v' φ', Rep S' v' φ' ∧ Sim v v' (fun n => idx l (φ.getD n 0)) := by
  have hrk : ∀ r ∈ S.rd, r.f ∈ l.map (·.1) := fun r hr => h.rk r (by simpa using hr)
  have hheld : ∀ n ∈ v.held, φ.getD n 0 ∈ l.map (·.1) ∧ n < φ.length := fun n hn => by
    have hlt := hr.held_lt n hn
    refine ⟨?_, hlt⟩
    have h1 : φ.getD n 0 ∈ S.held := by rw [hr.held]; exact List.mem_map.2 ⟨n, hn, rfl⟩
    unfold Sto.held at h1
    rcases List.mem_append.1 h1 with h1 | h1
    · obtain ⟨e, he, e2⟩ := List.mem_map.1 h1
      rw [← e2]; exact (h.dk e (hp.symm.subset he)).2
    · obtain ⟨e, he, e2⟩ := List.mem_map.1 h1
      rw [← e2]; exact hrk e he
  let fb : Nat → List UInt8 := fun f => ((S.fl f).map (·.b)).getD []
  have hbytes : ∀ (i : Nat) (hi : i < l.length), (V.mk v.cap (l.map fun p => fb p.1) (D.map fun e => (e.1, idx l e.2)) (v.rd.map fun r => ⟨idx l (φ.getD r.n 0), r.name, r.pos⟩)).bytes i = fb l[i].1 := fun i hi => by
    unfold V.bytes
    simp [List.getD_eq_getElem?_getD, hi]
  refine ⟨⟨v.cap, l.map fun p => fb p.1, D.map fun e => (e.1, idx l e.2), v.rd.map fun r => ⟨idx l (φ.getD r.n 0), r.name, r.pos⟩⟩, l.map (·.2), ?_, ?_⟩
  · refine ⟨by rw [h.cap, hr.cap], by simp, h.vn, ?_, ?_, ?_, ?_, ?_⟩
    · intro i hi
      have hi' : i < l.length := by simpa using hi
      obtain ⟨A, c', x, h1, h2⟩ := h.vf l[i] (List.getElem_mem hi')
      refine ⟨A, c', ?_⟩
      rw [hbytes i hi', List.getElem_map, h2]
      simp only [fb, h1, Option.map_some, Option.getD_some]
    · rw [h.dir]
      simp only [List.map_map, Function.comp_def]
      apply List.map_congr_left
      intro e he
      rw [img_idx h.kn (h.dk e he).2]
    · intro e he
      obtain ⟨e', he', rfl⟩ := List.mem_map.1 he
      have := idx_lt (h.dk e' he').2
      simpa using this
    · have h1 := h.rd
      rw [List.take_length] at h1
      have h2 := congrArg (List.map fun t : Nat × ByteArray × Nat => (img l t.1, t.2.1, t.2.2)) hr.rd
      simp only [List.map_map, Function.comp_def] at h1 h2 ⊢
      rw [h1, h2]
      apply List.map_congr_left
      intro r hr'
      rw [img_idx h.kn (hheld r.n (by unfold V.held; exact List.mem_append.2 (.inr (List.mem_map.2 ⟨r, hr', rfl⟩)))).1]
    · intro r hr'
      obtain ⟨q, hq, rfl⟩ := List.mem_map.1 hr'
      have := idx_lt (hheld q.n (by unfold V.held; exact List.mem_append.2 (.inr (List.mem_map.2 ⟨q, hq, rfl⟩)))).1
      simpa using this
  · refine ⟨rfl, ?_, rfl, ?_, ?_, ?_⟩
    · have h1 := hp.map fun e : ByteArray × Nat => (e.1, idx l e.2)
      rw [hr.dir, List.map_map] at h1
      exact h1
    · intro n hn
      obtain ⟨h1, h2⟩ := hheld n hn
      obtain ⟨A, c', h3⟩ := hr.fl n h2
      rw [hbytes _ (idx_lt h1)]
      simp only [fb]
      rw [idx_get h1, getD_lt h2, h3]
      rfl
    · intro a ha b hb e
      obtain ⟨h1, h2⟩ := hheld a ha
      obtain ⟨h3, h4⟩ := hheld b hb
      have e1 := idx_get h1
      have e2 := idx_get h3
      refine getD_inj hr.nd h2 h4 ?_
      have e' : idx l (φ.getD a 0) = idx l (φ.getD b 0) := e
      have hh : ∀ (i j : Nat) (hi : i < l.length) (hj : j < l.length), i = j → l[i].1 = l[j].1 := fun i j hi hj h => by subst h; rfl
      rw [← e1, ← e2]
      exact hh _ _ (idx_lt h1) (idx_lt h3) e'
    · have := hs.keys
      rw [hr.dir, List.map_map] at this
      exact this
end
/-- what Copy leaves: the store, and another one, of new blocks, that reads alike -/
theorem copy_v {base : Nat} {w : World} {s : Nat} {v : V} {F : Nat → Prop} (h : StoreV base w s v F) : Calls Try.prog 29 #[ptr s] w fun e w' =>
    ∃ c v' F' ρ, e = .returned (ptr c) ∧ StoreV w.heap.size w' c v' F' ∧ Sim v v' ρ ∧ StoreV base w' s v F ∧ Chg NoB w w' := by
  obtain ⟨S, φ, h1, h2, rfl⟩ := h
  refine (copy_c h1).mono fun e w' hp => ?_
  obtain ⟨c, ov, om, S', l, D, he, hi, hperm⟩ := hp
  obtain ⟨v', φ', h3, h4⟩ := hi.sim h1 hperm h2
  exact ⟨c, v', _, _, he, ⟨S', φ', hi.st, h3, rfl⟩, h4, ⟨S, φ, h1.chg hi.chg fun _ _ => id, h2, rfl⟩, hi.chg⟩
end Go.Proofs.Ytebcomijknffmaa
