/- What is proved: stores as plain data: files in a list, a directory, riders; that memory which holds a store reads so. Conditions: as each theorem says. -/
import Derived.Test.YteleglkoagnmcaaGStD
set_option linter.unusedSimpArgs false
set_option linter.unusedVariables false
namespace Go.Proofs.Yteleglkoagnmcaa
open Go.RowKit

structure VR where
  n : Nat
  name : ByteArray
  pos : Nat
structure V where
  cap : Nat
  F : List (List UInt8)
  dir : List (ByteArray × Nat)
  rd : List VR

namespace V
def rdAt (v : V) (f : Int) : Option VR := if 1 ≤ f then v.rd[f.toNat - 1]? else none
def bytes (v : V) (n : Nat) : List UInt8 := v.F.getD n []
def held (v : V) : List Nat := v.dir.map (·.2) ++ v.rd.map (·.n)
def used (v : V) : Nat := sumOf (fun n => (v.bytes n).length) (dedup v.held)
def room (v : V) : Nat := v.cap - v.used
def setPos (v : V) (f : Int) (p : Nat) : V := if 1 ≤ f then { v with rd := v.rd.modify (f.toNat - 1) fun r => { r with pos := p } } else v
def ride (v : V) (n : Nat) (nm : ByteArray) : V := { v with rd := v.rd ++ [⟨n, nm, 0⟩] }
def addFile (v : V) (b : List UInt8) : V := { v with F := v.F ++ [b] }
def setFile (v : V) (n : Nat) (b : List UInt8) : V := { v with F := v.F.set n b }
def enter (v : V) (nm : ByteArray) (n : Nat) : V := { v with dir := putD nm n v.dir }
def del (v : V) (nm : ByteArray) : V := { v with dir := delD nm v.dir }
end V

/-- a store, as data -/
structure Rep (S : Sto) (v : V) (φ : List Nat) : Prop where
  cap : S.cap = v.cap
  len : φ.length = v.F.length
  nd : φ.Nodup
  fl : ∀ (i : Nat) (hi : i < φ.length), ∃ A c, S.fl φ[i] = some ⟨A, c, v.bytes i⟩
  dir : S.dir = v.dir.map fun e => (e.1, φ.getD e.2 0)
  dirb : ∀ e ∈ v.dir, e.2 < φ.length
  rd : S.rd.map (fun r => (r.f, r.name, r.pos)) = v.rd.map fun r => (φ.getD r.n 0, r.name, r.pos)
  rdb : ∀ r ∈ v.rd, r.n < φ.length

section
variable {S : Sto} {v : V} {φ : List Nat}

theorem getD_app {α : Type} (l m : List α) (d : α) (i : Nat) (h : i < l.length) : (l ++ m).getD i d = l.getD i d := by
  simp [List.getD_eq_getElem?_getD, List.getElem?_append_left h]
theorem getD_lt {φ : List Nat} {i : Nat} (h : i < φ.length) : φ.getD i 0 = φ[i] := by simp [h]
theorem getD_inj {φ : List Nat} (hn : φ.Nodup) {i j : Nat} (hi : i < φ.length) (hj : j < φ.length) (h : φ.getD i 0 = φ.getD j 0) : i = j := by
  rw [getD_lt hi, getD_lt hj] at h
  exact (List.getElem_inj hn).1 h

theorem Rep.rlen (h : Rep S v φ) : S.rd.length = v.rd.length := by
  have := congrArg List.length h.rd
  simpa using this
theorem Rep.rdAt_none (h : Rep S v φ) {f : Int} (hr : v.rdAt f = none) : S.rdAt f = none := by
  unfold V.rdAt at hr
  unfold Sto.rdAt
  split at hr
  · rename_i h1
    rw [if_pos h1]
    rw [List.getElem?_eq_none_iff] at hr ⊢
    rw [h.rlen]; exact hr
  · rename_i h1; rw [if_neg h1]
theorem Rep.rdAt_some (h : Rep S v φ) {f : Int} {q : VR} (hr : v.rdAt f = some q) : ∃ r A c, S.rdAt f = some r ∧ r.f = φ.getD q.n 0 ∧ r.name = q.name ∧ r.pos = q.pos ∧ q.n < φ.length ∧ S.fl r.f = some ⟨A, c, v.bytes q.n⟩ ∧ q ∈ v.rd := by
  unfold V.rdAt at hr
  split at hr
  · rename_i h1
    have hm : (v.rd.map fun r => (φ.getD r.n 0, r.name, r.pos))[f.toNat - 1]? = some (φ.getD q.n 0, q.name, q.pos) := by rw [List.getElem?_map, hr]; rfl
    rw [← h.rd, List.getElem?_map] at hm
    obtain ⟨r, hr', he⟩ := Option.map_eq_some_iff.1 hm
    simp only [Prod.mk.injEq] at he
    have hq : q ∈ v.rd := List.mem_of_getElem? hr
    have hn := h.rdb q hq
    obtain ⟨A, c, hfl⟩ := h.fl q.n hn
    exact ⟨r, A, c, by unfold Sto.rdAt; rw [if_pos h1]; exact hr', he.1, he.2.1, he.2.2, hn, by rw [he.1, getD_lt hn]; exact hfl, hq⟩
  · cases hr

theorem lookD_map (n : ByteArray) (g : Nat → Nat) : ∀ l : List (ByteArray × Nat), lookD n (l.map fun e => (e.1, g e.2)) = (lookD n l).map g
  | [] => rfl
  | e :: r => by
    simp only [List.map_cons, lookD]
    split
    · rfl
    · exact lookD_map n g r
theorem putD_map (n : ByteArray) (f : Nat) (g : Nat → Nat) : ∀ l : List (ByteArray × Nat), putD n (g f) (l.map fun e => (e.1, g e.2)) = (putD n f l).map fun e => (e.1, g e.2)
  | [] => rfl
  | e :: r => by
    simp only [List.map_cons, putD]
    split
    · rfl
    · rw [putD_map n f g r]; rfl
theorem delD_map (n : ByteArray) (g : Nat → Nat) : ∀ l : List (ByteArray × Nat), delD n (l.map fun e => (e.1, g e.2)) = (delD n l).map fun e => (e.1, g e.2)
  | [] => rfl
  | e :: r => by
    simp only [List.map_cons, delD]
    split
    · rfl
    · rw [delD_map n g r]; rfl
theorem Rep.look (h : Rep S v φ) (nm : ByteArray) : lookD nm S.dir = (lookD nm v.dir).map fun i => φ.getD i 0 := by rw [h.dir]; exact lookD_map nm (fun i => φ.getD i 0) v.dir
theorem Rep.look_lt (h : Rep S v φ) {nm : ByteArray} {n : Nat} (hl : lookD nm v.dir = some n) : n < φ.length := h.dirb _ (lookD_mem hl)
theorem Rep.dlen (h : Rep S v φ) : S.dir.length = v.dir.length := by rw [h.dir]; simp

theorem dedup_map {g : Nat → Nat} : ∀ {l : List Nat}, (∀ x ∈ l, ∀ y ∈ l, g x = g y → x = y) → dedup (l.map g) = (dedup l).map g
  | [], _ => rfl
  | x :: l, h => by
    have ih := dedup_map (g := g) (l := l) (fun a ha b hb => h a (by simp [ha]) b (by simp [hb]))
    simp only [List.map_cons, dedup, ih]
    by_cases hx : x ∈ dedup l
    · rw [if_pos hx, if_pos (List.mem_map.2 ⟨x, hx, rfl⟩)]
    · rw [if_neg hx, if_neg]
      · rfl
      · intro hm
        obtain ⟨y, hy, hyx⟩ := List.mem_map.1 hm
        have := h y (by simp [mem_dedup.1 hy]) x (by simp) hyx
        subst this
        exact hx hy
theorem Rep.held (h : Rep S v φ) : S.held = v.held.map fun i => φ.getD i 0 := by
  have h1 : S.rd.map (·.f) = v.rd.map fun r => φ.getD r.n 0 := by
    have := congrArg (List.map (·.1)) h.rd
    simpa [List.map_map, Function.comp_def] using this
  unfold Sto.held V.held
  rw [h1, h.dir]
  simp [List.map_map, Function.comp_def]
theorem Rep.held_lt (h : Rep S v φ) : ∀ x ∈ v.held, x < φ.length := by
  intro x hx
  unfold V.held at hx
  rcases List.mem_append.1 hx with hx | hx
  · obtain ⟨e, he, rfl⟩ := List.mem_map.1 hx; exact h.dirb e he
  · obtain ⟨e, he, rfl⟩ := List.mem_map.1 hx; exact h.rdb e he
theorem Rep.used (h : Rep S v φ) : S.used = v.used := by
  unfold Sto.used V.used
  rw [h.held, dedup_map (fun x hx y hy e => getD_inj h.nd (h.held_lt x hx) (h.held_lt y hy) e)]
  unfold sumOf
  rw [List.map_map]
  congr 1
  apply List.map_congr_left
  intro x hx
  have hlt := h.held_lt x (mem_dedup.1 hx)
  obtain ⟨A, c, hfl⟩ := h.fl x hlt
  simp only [Function.comp_def, Sto.len, getD_lt hlt, hfl, Option.map_some, Option.getD_some]
theorem Rep.room (h : Rep S v φ) : S.room = v.room := by unfold Sto.room V.room; rw [h.used, h.cap]

theorem Rep.setPos (h : Rep S v φ) (f : Int) (p : Nat) : Rep (S.setPos f p) (v.setPos f p) φ := by
  unfold Sto.setPos V.setPos
  split
  · refine ⟨h.cap, h.len, h.nd, h.fl, h.dir, h.dirb, ?_, ?_⟩
    · simp only
      apply List.ext_getElem?
      intro j
      have hj : (S.rd.map fun r => (r.f, r.name, r.pos))[j]? = (v.rd.map fun r => (φ.getD r.n 0, r.name, r.pos))[j]? := by rw [h.rd]
      simp only [List.getElem?_map, List.getElem?_modify] at hj ⊢
      cases h1 : S.rd[j]? <;> cases h2 : v.rd[j]? <;> simp only [h1, h2, Option.map_none, Option.map_some] at hj ⊢
      · rfl
      · cases hj
      · cases hj
      · simp only [Option.some.injEq, Prod.mk.injEq] at hj
        by_cases hij : f.toNat - 1 = j <;> simp [hij, hj]
    · intro r hr
      rcases mem_modify hr with hr | ⟨y, hy, rfl⟩
      · exact h.rdb r hr
      · exact h.rdb y (List.mem_of_getElem? hy)
  · exact h
theorem Rep.ride (h : Rep S v φ) (blk n : Nat) (nm : ByteArray) (rA : Option Addr) (rc : Nat) (hn : n < φ.length) : Rep (S.ride blk (φ.getD n 0) nm rA rc) (v.ride n nm) φ :=
  ⟨h.cap, h.len, h.nd, h.fl, h.dir, h.dirb, by unfold Sto.ride V.ride; simp [h.rd], fun r hr => by
    unfold V.ride at hr
    simp only [List.mem_append, List.mem_singleton] at hr
    rcases hr with hr | rfl
    · exact h.rdb r hr
    · exact hn⟩
theorem Rep.addFile (h : Rep S v φ) {f : Nat} {x : Fl} (hf : S.fl f = none) : Rep (S.addFile f x) (v.addFile x.b) (φ ++ [f]) := by
  have hnf : f ∉ φ := fun hm => by
    obtain ⟨i, hi, e⟩ := List.mem_iff_getElem.1 hm
    obtain ⟨A, c, h1⟩ := h.fl i hi
    rw [e, hf] at h1
    cases h1
  refine ⟨h.cap, by simp [V.addFile, h.len], ?_, ?_, ?_, ?_, ?_, ?_⟩
  · rw [List.nodup_append]
    refine ⟨h.nd, by simp, fun a ha b hb hab => ?_⟩
    simp at hb; subst hb hab; exact hnf ha
  · intro i hi
    simp only [List.length_append, List.length_cons, List.length_nil] at hi
    by_cases hl : i < φ.length
    · obtain ⟨A, c, h1⟩ := h.fl i hl
      have e : (φ ++ [f])[i] = φ[i] := List.getElem_append_left hl
      have e2 : (v.addFile x.b).bytes i = v.bytes i := by unfold V.bytes V.addFile; rw [getD_app _ _ _ _ (by rw [← h.len]; exact hl)]
      refine ⟨A, c, ?_⟩
      rw [e, e2]
      unfold Sto.addFile
      simp only
      rw [if_neg]
      · exact h1
      · intro e3; exact hnf (e3 ▸ List.getElem_mem hl)
    · have hi' : i = φ.length := by omega
      subst hi'
      refine ⟨x.A, x.c, ?_⟩
      have e2 : (v.addFile x.b).bytes φ.length = x.b := by unfold V.bytes V.addFile; rw [h.len]; simp
      rw [e2]
      simp [Sto.addFile]
  · have : (S.addFile f x).dir = S.dir := rfl
    rw [this, h.dir]
    apply List.map_congr_left
    intro e he
    rw [getD_app _ _ _ _ (h.dirb e he)]
  · intro e he
    have := h.dirb e he
    simp; omega
  · have : (S.addFile f x).rd = S.rd := rfl
    rw [this, h.rd]
    apply List.map_congr_left
    intro e he
    rw [getD_app _ _ _ _ (h.rdb e he)]
  · intro e he
    have := h.rdb e he
    simp; omega
theorem Rep.setFile (h : Rep S v φ) {n : Nat} {y : Fl} (hn : n < φ.length) : Rep (S.setFile (φ.getD n 0) y) (v.setFile n y.b) φ := by
  refine ⟨h.cap, by simp [V.setFile, h.len], h.nd, ?_, h.dir, h.dirb, h.rd, h.rdb⟩
  intro i hi
  by_cases hin : i = n
  · subst hin
    refine ⟨y.A, y.c, ?_⟩
    have e2 : (v.setFile i y.b).bytes i = y.b := by unfold V.bytes V.setFile; simp [← h.len, hi]
    rw [e2, getD_lt hi]
    simp [Sto.setFile]
  · obtain ⟨A, c, h1⟩ := h.fl i hi
    refine ⟨A, c, ?_⟩
    have e2 : (v.setFile n y.b).bytes i = v.bytes i := by unfold V.bytes V.setFile; simp [Ne.symm hin]
    rw [e2]
    unfold Sto.setFile
    simp only
    rw [if_neg]
    · exact h1
    · intro e3
      exact hin (getD_inj h.nd hi hn (by rw [getD_lt hi]; exact e3))
theorem Rep.enter (h : Rep S v φ) {n : Nat} (nm : ByteArray) (hn : n < φ.length) : Rep (S.enter nm (φ.getD n 0)) (v.enter nm n) φ :=
  ⟨h.cap, h.len, h.nd, h.fl, by unfold Sto.enter V.enter; simp only; rw [h.dir]; exact putD_map nm n (fun i => φ.getD i 0) v.dir, fun e he => by
    rcases mem_putD he with rfl | he
    · exact hn
    · exact h.dirb e he, h.rd, h.rdb⟩
theorem Rep.del (h : Rep S v φ) (nm : ByteArray) : Rep (S.del nm) (v.del nm) φ :=
  ⟨h.cap, h.len, h.nd, h.fl, by unfold Sto.del V.del; simp only; rw [h.dir]; exact delD_map nm (fun i => φ.getD i 0) v.dir, fun e he => h.dirb e ((delD_sub nm v.dir).subset he), h.rd, h.rdb⟩
end

/-- Block s is a store that reads as v, of the blocks F. -/
def StoreV (base : Nat) (w : World) (s : Nat) (v : V) (F : Nat → Prop) : Prop := ∃ S φ, StoreAt base w s S ∧ Rep S v φ ∧ F = foot s S
theorem StoreV.chg {base : Nat} {w w' : World} {s : Nat} {v : V} {F G : Nat → Prop} (h : StoreV base w s v F) (hc : Chg G w w') (hG : ∀ k, F k → ¬ G k) : StoreV base w' s v F := by
  obtain ⟨S, φ, h1, h2, rfl⟩ := h
  exact ⟨S, φ, h1.chg hc hG, h2, rfl⟩
theorem StoreV.quiet {base : Nat} {w w' : World} {s : Nat} {v : V} {F : Nat → Prop} (h : StoreV base w s v F) (hc : Chg NoB w w') : StoreV base w' s v F := h.chg hc (fun _ _ => id)
theorem StoreV.lt {base : Nat} {w : World} {s : Nat} {v : V} {F : Nat → Prop} (h : StoreV base w s v F) {k : Nat} (hk : F k) : k < w.heap.size := by
  obtain ⟨S, φ, h1, h2, rfl⟩ := h
  exact h1.lt k hk
theorem StoreV.low {base : Nat} {w : World} {s : Nat} {v : V} {F : Nat → Prop} (h : StoreV base w s v F) {k : Nat} (hk : F k) : base ≤ k := by
  obtain ⟨S, φ, h1, h2, rfl⟩ := h
  exact h1.low k hk

/-- what a call on a store leaves -/
def VPost (base s : Nat) (F : Nat → Prop) (r : Value) (v' : V) (w : World) (e : Ending) (w' : World) : Prop :=
  e = .returned r ∧ ∃ F', StoreV base w' s v' F' ∧ Chg F w w' ∧ ∀ k, F' k → k < w.heap.size → F k
theorem VPost.quiet {base : Nat} {w w' : World} {s : Nat} {v : V} {F : Nat → Prop} (h : StoreV base w s v F) {r : Value} {e : Ending} (he : e = .returned r) (hc : Chg NoB w w') : VPost base s F r v w e w' :=
  ⟨he, F, h.quiet hc, hc.mono (fun _ _ h => h.elim), fun _ h _ => h⟩
end Go.Proofs.Yteleglkoagnmcaa
