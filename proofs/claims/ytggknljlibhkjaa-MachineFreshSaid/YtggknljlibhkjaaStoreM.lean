/- What is proved: the contract of Put. Conditions: the memory holds a store, and the bytes that are handed in. -/
import Derived.Test.YtggknljlibhkjaaStoreL
import Derived.Deep.RegionHeld3
import Derived.Deep.DrawnRows
namespace Go.Proofs.Ytggknljlibhkjaa
open Go.RowKit
section
variable {base : Nat} {w w1 : World} {s : Nat} {S : Sto}

theorem own_base {w : World} {b b' : Nat} {e : TypeId} {size n : Nat} {v : Value} {xs : List Value} (h : w.ownsRow b' e size v n xs) (hb : b ≤ b') : w.ownsRow b e size v n xs :=
  ⟨h.1, h.2.imp id fun ⟨g, cap, cur, h1, h2, h3⟩ => ⟨g, cap, cur, h1, Nat.le_trans hb h2, h3⟩⟩

theorem sum_more (g : Nat → Nat) {l : List Nat} {f : Nat} {m : List Nat} (hm : ∀ x ∈ m, x = f ∨ x ∈ l) : sumOf g (dedup m) ≤ g f + sumOf g (dedup l) := by
  rw [← sumOf_cons]
  exact sumOf_le_sub (nodup_dedup _) (fun x hx => by
    rcases hm x (mem_dedup.1 hx) with h | h
    · simp [h]
    · simp [mem_dedup, h])

theorem StoreAt.enter (h : StoreAt base w s S) {w1 : World} {nm : ByteArray} {f : Nat} {x : Fl} (hx : S.fl f = some x) (hn : mayName nm = true) (hd : lookD nm S.dir ≠ none ∨ S.dir.length < 200)
    (hm : MapIs w1 S.mb (strs (putS nm (ptr f) (S.dir.map fun e => (e.1, ptr e.2))))) (hc : Chg (fun k => k = S.mb) w w1) (hu : S.used + x.b.length ≤ S.cap) : StoreAt base w1 s (S.enter nm f) := by
  rw [putS_dir] at hm
  refine h.setDir hm hc (fun e he => ?_) (nodup_putD h.keys) ?_ ?_
  · rcases mem_putD he with rfl | he
    · exact ⟨⟨x, hx⟩, hn⟩
    · exact ⟨h.dirf e he, h.dnames e he⟩
  · rw [length_putD]
    have := h.ndir
    split
    · rename_i hn
      rcases hd with hd | hd
      · exact absurd hn hd
      · omega
    · omega
  · have := sum_more S.len (l := S.held) (f := f) (m := (putD nm f S.dir).map (·.2) ++ S.rd.map (·.f)) (fun y hy => by
      unfold Sto.held
      rcases List.mem_append.1 hy with hy | hy
      · obtain ⟨e, he, rfl⟩ := List.mem_map.1 hy
        rcases mem_putD he with rfl | he
        · exact .inl rfl
        · exact .inr (List.mem_append.2 (.inl (List.mem_map.2 ⟨e, he, rfl⟩)))
      · exact .inr (List.mem_append.2 (.inr hy)))
    have e : S.len f = x.b.length := by simp [Sto.len, hx]
    rw [e] at this
    unfold Sto.used at hu
    omega

def PutPost (base s : Nat) (S : Sto) (nm : ByteArray) (l : List UInt8) (w : World) (e : Ending) (w' : World) : Prop :=
  ∃ f A c, e = .returned (.int .i64 0) ∧ S.fl f = none ∧ StoreAt base w' s (((S.del nm).addFile f ⟨A, c, l⟩).enter nm f) ∧ Chg (foot s S) w w' ∧ ∀ k, foot s (((S.del nm).addFile f ⟨A, c, l⟩).enter nm f) k → k < w.heap.size → foot s S k

def Sto.was (S : Sto) (nm : ByteArray) : Value := ((lookD nm S.dir).map ptr).getD (.pointer none)
theorem was_cases (S : Sto) (nm : ByteArray) (hd : lookD nm S.dir ≠ none ∨ S.dir.length < 200) : (∃ g, S.was nm = ptr g) ∨ (S.was nm = .pointer none ∧ (S.dir.length : Int) < 200) := by
  unfold Sto.was
  cases hl : lookD nm S.dir with
  | some g => exact .inl ⟨g, rfl⟩
  | none =>
    rcases hd with hd | hd
    · exact absurd hl hd
    · exact .inr ⟨rfl, by omega⟩
theorem StoreAt.lookWas (h : StoreAt base w s S) (n : ByteArray) : (Instr.lookup 56 (.map (some S.mb)) (.string n) false).run Try.prog w = .ok (S.was n) w := h.lookup n

theorem delD_length (n : ByteArray) : ∀ l : List (ByteArray × Nat), (delD n l).length + (if lookD n l = none then 0 else 1) = l.length
  | [] => rfl
  | e :: r => by
    unfold delD lookD
    split
    · simp
    · have := delD_length n r
      simp only [List.length_cons]
      omega
theorem src_keep (h : StoreAt base w1 s S) {A : Option Addr} {xs : List Value} {w w2 w3 : World} (hcl : CellsAt w A xs) (h1 : Chg NoB w w1) (h2 : Chg (fun k => k = S.mb) w1 w2) (h3 : Chg NoB w2 w3) : CellsAt w3 A xs := by
  have a1 := hcl.chg h1 (fun _ _ => id)
  have a2 : CellsAt w2 A xs := by
    intro hl
    obtain ⟨ad, hA, hc⟩ := a1 hl
    refine (a1.chg h2 (fun ad' hA' e => ?_)) hl
    rw [hA] at hA'
    cases hA'
    have h0 := hc 0 _ (List.getElem?_eq_getElem hl)
    obtain ⟨es, clock, hm, _⟩ := h.map
    unfold World.cell? at h0
    rw [block_of_add, e, hm] at h0
    cases h0
  exact a2.chg h3 (fun _ _ => id)
theorem put_keep {nm : ByteArray} (h : StoreAt base w s (S.del nm)) : w.cell? ⟨s, 0, none⟩ = some (.map (some S.mb)) ∧ MapIs w S.mb (strs ((delD nm S.dir).map fun e => (e.1, ptr e.2))) := ⟨h.cell0, h.map⟩
theorem put_keep_set {m : Nat} {o : Obj} {v : Value} (hne : s ≠ m) (h : w.cell? ⟨s, 0, none⟩ = some v) : (setB w m o).cell? ⟨s, 0, none⟩ = some v :=
  (World.cell?_of_block (setB_other w m o s hne)).trans h
theorem put_final {base : Nat} {w w1 w2 w3 w4 : World} {s : Nat} {S : Sto} {nm : ByteArray} {A : Option Addr} {c : Nat} {l : List UInt8} (h : StoreAt base w s S) (hn : mayName nm = true) (hd : lookD nm S.dir ≠ none ∨ S.dir.length < 200) (hfit : l.length ≤ (S.del nm).room)
    (hc1 : Chg NoB w w1) (hc2 : Chg (fun k => k = S.mb) w1 w2) (hc3 : Chg NoB w2 w3) (h3 : StoreAt base w3 s (S.del nm)) (hc4 : Chg NoB w3.drew w4) (ho : w4.ownsRow w3.drew.heap.size 5 1 (.slice A l.length c) l.length (bv l)) :
    PutPost base s S nm l w (.returned (.int .i64 0)) (setB (w4.alloc (Obj.cells #[Value.slice A l.length c] 118)) S.mb
      (updO Try.prog (w4.alloc (Obj.cells #[Value.slice A l.length c] 118)) 56 S.mb ((delD nm S.dir).map fun e => (e.1, ptr e.2)) nm (ptr w4.heap.size))) := by
  have hc5 : Chg NoB w3 (w4.alloc (Obj.cells #[Value.slice A l.length c] 118)) := ((((Chg.refl NoB w3).drew).trans hc4)).alloc _
  have hs3 : w3.heap.size ≤ w4.heap.size := hc4.size
  have hbase : base ≤ w3.heap.size := by have := h3.low s (.inl rfl); have := h3.blk.lt; omega
  obtain ⟨h5, hf5⟩ := h3.addFile (f := w4.heap.size) (x := ⟨A, c, l⟩) hc5 hs3 (Blk.new w4 _ _) ((own_base ho hbase).alloc _) (fun k hk => (ho.lt k hk).1)
  have hm5 : MapIs (w4.alloc (Obj.cells #[Value.slice A l.length c] 118)) S.mb (strs ((delD nm S.dir).map fun e => (e.1, ptr e.2))) := h5.map
  obtain ⟨_, hm6⟩ := updO_spec _ Try.underlying56 Try.underlying9 hm5 nm (ptr w4.heap.size)
  have hc6 : Chg (fun k => k = S.mb) (w4.alloc (Obj.cells #[Value.slice A l.length c] 118)) (setB (w4.alloc (Obj.cells #[Value.slice A l.length c] 118)) S.mb
      (updO Try.prog (w4.alloc (Obj.cells #[Value.slice A l.length c] 118)) 56 S.mb ((delD nm S.dir).map fun e => (e.1, ptr e.2)) nm (ptr w4.heap.size))) :=
    setB_chg (F := fun k => k = S.mb) (Chg.refl _ _) S.mb (fun _ => rfl) _
  have hx : ((S.del nm).addFile w4.heap.size ⟨A, c, l⟩).fl w4.heap.size = some ⟨A, c, l⟩ := by simp [Sto.addFile]
  have hnone : S.fl w4.heap.size = none := by
    cases hy : S.fl w4.heap.size with
    | none => rfl
    | some y => have := (h3.flb _ y hy).lt; omega
  have hd' : lookD nm (delD nm S.dir) ≠ none ∨ (delD nm S.dir).length < 200 := by
    right
    have h1 := h.ndir
    have h2 := delD_length nm S.dir
    rcases hd with hd | hd
    · rw [if_neg hd] at h2; omega
    · have := (delD_sub nm S.dir).length_le; omega
  have hu : ((S.del nm).addFile w4.heap.size ⟨A, c, l⟩).used + l.length ≤ S.cap := by
    have e : ((S.del nm).addFile w4.heap.size ⟨A, c, l⟩).used = (S.del nm).used := by
      unfold Sto.used
      refine sumOf_congr (fun g hg => ?_)
      obtain ⟨y, hy⟩ := held_file h3 (mem_dedup.1 hg)
      unfold Sto.len Sto.addFile
      simp only
      rw [if_neg]
      rintro rfl
      have := (h3.flb _ y hy).lt
      omega
    have h1 : (S.del nm).used ≤ S.cap := h3.fits
    have h2 : (S.del nm).room = S.cap - (S.del nm).used := rfl
    omega
  have h6 := h5.enter hx hn hd' hm6 hc6 hu
  have hz1 := hc1.size
  have hz2 := hc2.size
  have hz3 := hc3.size
  have hz5 := hc5.size
  refine ⟨_, A, c, rfl, hnone, h6, ?_, ?_⟩
  · have a1 : Chg (foot s S) w w1 := hc1.mono (fun _ _ h => h.elim)
    have a2 := a1.step hc2 (fun k _ hk => .inr (.inl hk))
    have a3 := a2.step hc3 (fun k _ hk => hk.elim)
    have a5 := a3.step hc5 (fun k _ hk => hk.elim)
    exact a5.step hc6 (fun k _ hk => .inr (.inl hk))
  · intro k hk hlt
    rcases hf5 k hk with h | h
    · exact h
    · omega
theorem room_small (h : StoreAt base w s S) : S.room ≤ 67108864 := by
  have := h.small
  unfold Sto.room
  omega

attribute [local go_sem ↓] Go.wp_at_zero Go.wp_at_succ

end
end Go.Proofs.Ytggknljlibhkjaa
