/- What is proved: the contract of Put. Conditions: the memory holds a store, and the bytes that are handed in. -/
import Derived.Test.YtebcomijknffmaaStoreL
import Derived.Deep.RegionHeld3
import Derived.Deep.DrawnRows
namespace Go.Proofs.Ytebcomijknffmaa
open Go.RowKit
section
variable {base : Nat} {w w1 : World} {s : Nat} {S : Sto}

theorem own_base {w : World} {b b' : Nat} {e : TypeId} {size n : Nat} {v : Value} {xs : List Value} (h : w.ownsRow b' e size v n xs) (hb : b ≤ b') : w.ownsRow b e size v n xs :=
  ⟨h.1, h.2.imp id fun ⟨g, cap, cur, h1, h2, h3⟩ => ⟨g, cap, cur, h1, Nat.le_trans hb h2, h3⟩⟩

theorem sum_more (g : Nat → Nat) {l : List Nat} {f : Nat} {m : List Nat} (hm : ∀ x ∈ m, x = f ∨ x ∈ l) : sumOf g (dedup m) ≤ g f + sumOf g (dedup l) := by
  rw [← sumOf_cons]
  exact sumOf_le_sub (nodup_dedup _) (fun x hx => by
    rcases hm x (mem_dedup.1 hx) with h | h
    · simp [h]
    · simp [mem_dedup, h])

theorem StoreAt.enter (h : StoreAt base w s S) {w1 : World} {nm : ByteArray} {f : Nat} {x : Fl} (hx : S.fl f = some x) (hn : mayName nm = true) (hd : lookD nm S.dir ≠ none ∨ S.dir.length < 200)
    (hm : MapIs w1 S.mb (strs (putS nm (ptr f) (S.dir.map fun e => (e.1, ptr e.2))))) (hc : Chg (fun k => k = S.mb) w w1) (hu : S.used + x.b.length ≤ S.cap) : StoreAt base w1 s (S.enter nm f) := by
  rw [putS_dir] at hm
  refine h.setDir hm hc (fun e he => ?_) (nodup_putD h.keys) ?_ ?_
  · rcases mem_putD he with rfl | he
    · exact ⟨⟨x, hx⟩, hn⟩
    · exact ⟨h.dirf e he, h.dnames e he⟩
  · rw [length_putD]
    have := h.ndir
    split
    · rename_i hn
      rcases hd with hd | hd
      · exact absurd hn hd
      · omega
    · omega
  · have := sum_more S.len (l := S.held) (f := f) (m := (putD nm f S.dir).map (·.2) ++ S.rd.map (·.f)) (fun y hy => by
      unfold Sto.held
      rcases List.mem_append.1 hy with hy | hy
      · obtain ⟨e, he, rfl⟩ := List.mem_map.1 hy
        rcases mem_putD he with rfl | he
        · exact .inl rfl
        · exact .inr (List.mem_append.2 (.inl (List.mem_map.2 ⟨e, he, rfl⟩)))
      · exact .inr (List.mem_append.2 (.inr hy)))
    have e : S.len f = x.b.length := by simp [Sto.len, hx]
    rw [e] at this
    unfold Sto.used at hu
    omega

theorem put_arg (h : StoreAt base w s S) {nm : ByteArray} (hsz : nm.size ≤ maxLen) (hn : mayName nm = false) (v : Value) :
    Calls Try.prog 12 #[ptr s, .string nm, v] w (Quiet (.int .i64 2) w) := by
  have Hth := Go.Lib.hid (there_c h)
  have Hsz := Go.Lib.hid hsz
  have Hn := Go.Lib.hid hn
  clear h hsz hn
  unfold ptr at Hth ⊢
  go_enter Try.func12, Try.ntmps12
  go_wp2_with fail
  refine Hth.out.mono ?_
  rintro e w' ⟨rfl, rfl⟩
  go_wp2_with fail
  refine (mayName_c nm Hsz.out w).mono ?_
  rw [Hn.out]
  rintro e w1 ⟨rfl, hc⟩
  have Hc := Go.Lib.hid hc
  clear hc
  go_wp2_with fail
  go_ret
  exact ⟨rfl, Hc.out⟩

theorem put_files (h : StoreAt base w s S) {nm : ByteArray} (hsz : nm.size ≤ maxLen) (hn : mayName nm = true) (hl : lookD nm S.dir = none) (hd : 200 ≤ S.dir.length) (v : Value) :
    Calls Try.prog 12 #[ptr s, .string nm, v] w (Quiet (.int .i64 5) w) := by
  have Hth := Go.Lib.hid (there_c h)
  have H := Go.Lib.hid h
  have Hsz := Go.Lib.hid hsz
  have Hn := Go.Lib.hid hn
  have Hl := Go.Lib.hid hl
  have d1 : decide (200 ≤ (S.dir.length : Int)) = true := by simp; omega
  have hnd : (S.dir.length : Int) ≤ 200 := by have := h.ndir; omega
  clear h hsz hn hl hd
  unfold ptr at Hth ⊢
  go_enter Try.func12, Try.ntmps12
  go_wp2_with fail
  refine Hth.out.mono ?_
  rintro e w' ⟨rfl, rfl⟩
  go_wp2_with fail
  refine (mayName_c nm Hsz.out w).mono ?_
  rw [Hn.out]
  rintro e w1 ⟨rfl, hc⟩
  have h1 := H.out.chg hc (fun _ _ => id)
  have hlk := h1.lookup nm
  rw [Hl.out] at hlk
  simp only [Option.map_none, Option.getD_none] at hlk
  have hln := run_len_files h1
  have c0 := h1.cell0
  have Hc := Go.Lib.hid hc
  clear h1 hc
  go_wp2_with fail
  go_ret
  exact ⟨rfl, Hc.out⟩

def PutPost (base s : Nat) (S : Sto) (nm : ByteArray) (l : List UInt8) (w : World) (e : Ending) (w' : World) : Prop :=
  ∃ f A c, e = .returned (.int .i64 0) ∧ S.fl f = none ∧ StoreAt base w' s (((S.del nm).addFile f ⟨A, c, l⟩).enter nm f) ∧ Chg (foot s S) w w' ∧ ∀ k, foot s (((S.del nm).addFile f ⟨A, c, l⟩).enter nm f) k → k < w.heap.size → foot s S k

def Sto.was (S : Sto) (nm : ByteArray) : Value := ((lookD nm S.dir).map ptr).getD (.pointer none)
theorem was_cases (S : Sto) (nm : ByteArray) (hd : lookD nm S.dir ≠ none ∨ S.dir.length < 200) : (∃ g, S.was nm = ptr g) ∨ (S.was nm = .pointer none ∧ (S.dir.length : Int) < 200) := by
  unfold Sto.was
  cases hl : lookD nm S.dir with
  | some g => exact .inl ⟨g, rfl⟩
  | none =>
    rcases hd with hd | hd
    · exact absurd hl hd
    · exact .inr ⟨rfl, by omega⟩
theorem StoreAt.lookWas (h : StoreAt base w s S) (n : ByteArray) : (Instr.lookup 71 (.map (some S.mb)) (.string n) false).run Try.prog w = .ok (S.was n) w := h.lookup n

theorem delD_length (n : ByteArray) : ∀ l : List (ByteArray × Nat), (delD n l).length + (if lookD n l = none then 0 else 1) = l.length
  | [] => rfl
  | e :: r => by
    unfold delD lookD
    split
    · simp
    · have := delD_length n r
      simp only [List.length_cons]
      omega
theorem src_keep (h : StoreAt base w1 s S) {A : Option Addr} {xs : List Value} {w w2 w3 : World} (hcl : CellsAt w A xs) (h1 : Chg NoB w w1) (h2 : Chg (fun k => k = S.mb) w1 w2) (h3 : Chg NoB w2 w3) : CellsAt w3 A xs := by
  have a1 := hcl.chg h1 (fun _ _ => id)
  have a2 : CellsAt w2 A xs := by
    intro hl
    obtain ⟨ad, hA, hc⟩ := a1 hl
    refine (a1.chg h2 (fun ad' hA' e => ?_)) hl
    rw [hA] at hA'
    cases hA'
    have h0 := hc 0 _ (List.getElem?_eq_getElem hl)
    obtain ⟨es, clock, hm, _⟩ := h.map
    unfold World.cell? at h0
    rw [block_of_add, e, hm] at h0
    cases h0
  exact a2.chg h3 (fun _ _ => id)
theorem put_keep {nm : ByteArray} (h : StoreAt base w s (S.del nm)) : w.cell? ⟨s, 0, none⟩ = some (.map (some S.mb)) ∧ MapIs w S.mb (strs ((delD nm S.dir).map fun e => (e.1, ptr e.2))) := ⟨h.cell0, h.map⟩
theorem put_keep_set {m : Nat} {o : Obj} {v : Value} (hne : s ≠ m) (h : w.cell? ⟨s, 0, none⟩ = some v) : (setB w m o).cell? ⟨s, 0, none⟩ = some v :=
  (World.cell?_of_block (setB_other w m o s hne)).trans h
theorem put_final {base : Nat} {w w1 w2 w3 w4 : World} {s : Nat} {S : Sto} {nm : ByteArray} {A : Option Addr} {c : Nat} {l : List UInt8} (h : StoreAt base w s S) (hn : mayName nm = true) (hd : lookD nm S.dir ≠ none ∨ S.dir.length < 200) (hfit : l.length ≤ (S.del nm).room)
    (hc1 : Chg NoB w w1) (hc2 : Chg (fun k => k = S.mb) w1 w2) (hc3 : Chg NoB w2 w3) (h3 : StoreAt base w3 s (S.del nm)) (hc4 : Chg NoB w3.drew w4) (ho : w4.ownsRow w3.drew.heap.size 5 1 (.slice A l.length c) l.length (bv l)) :
    PutPost base s S nm l w (.returned (.int .i64 0)) (setB (w4.alloc (Obj.cells #[Value.slice A l.length c] 82)) S.mb
      (updO Try.prog (w4.alloc (Obj.cells #[Value.slice A l.length c] 82)) 71 S.mb ((delD nm S.dir).map fun e => (e.1, ptr e.2)) nm (ptr w4.heap.size))) := by
  have hc5 : Chg NoB w3 (w4.alloc (Obj.cells #[Value.slice A l.length c] 82)) := ((((Chg.refl NoB w3).drew).trans hc4)).alloc _
  have hs3 : w3.heap.size ≤ w4.heap.size := hc4.size
  have hbase : base ≤ w3.heap.size := by have := h3.low s (.inl rfl); have := h3.blk.lt; omega
  obtain ⟨h5, hf5⟩ := h3.addFile (f := w4.heap.size) (x := ⟨A, c, l⟩) hc5 hs3 (Blk.new w4 _ _) ((own_base ho hbase).alloc _) (fun k hk => (ho.lt k hk).1)
  have hm5 : MapIs (w4.alloc (Obj.cells #[Value.slice A l.length c] 82)) S.mb (strs ((delD nm S.dir).map fun e => (e.1, ptr e.2))) := h5.map
  obtain ⟨_, hm6⟩ := updO_spec _ Try.underlying71 Try.underlying9 hm5 nm (ptr w4.heap.size)
  have hc6 : Chg (fun k => k = S.mb) (w4.alloc (Obj.cells #[Value.slice A l.length c] 82)) (setB (w4.alloc (Obj.cells #[Value.slice A l.length c] 82)) S.mb
      (updO Try.prog (w4.alloc (Obj.cells #[Value.slice A l.length c] 82)) 71 S.mb ((delD nm S.dir).map fun e => (e.1, ptr e.2)) nm (ptr w4.heap.size))) :=
    setB_chg (F := fun k => k = S.mb) (Chg.refl _ _) S.mb (fun _ => rfl) _
  have hx : ((S.del nm).addFile w4.heap.size ⟨A, c, l⟩).fl w4.heap.size = some ⟨A, c, l⟩ := by simp [Sto.addFile]
  have hnone : S.fl w4.heap.size = none := by
    cases hy : S.fl w4.heap.size with
    | none => rfl
    | some y => have := (h3.flb _ y hy).lt; omega
  have hd' : lookD nm (delD nm S.dir) ≠ none ∨ (delD nm S.dir).length < 200 := by
    right
    have h1 := h.ndir
    have h2 := delD_length nm S.dir
    rcases hd with hd | hd
    · rw [if_neg hd] at h2; omega
    · have := (delD_sub nm S.dir).length_le; omega
  have hu : ((S.del nm).addFile w4.heap.size ⟨A, c, l⟩).used + l.length ≤ S.cap := by
    have e : ((S.del nm).addFile w4.heap.size ⟨A, c, l⟩).used = (S.del nm).used := by
      unfold Sto.used
      refine sumOf_congr (fun g hg => ?_)
      obtain ⟨y, hy⟩ := held_file h3 (mem_dedup.1 hg)
      unfold Sto.len Sto.addFile
      simp only
      rw [if_neg]
      rintro rfl
      have := (h3.flb _ y hy).lt
      omega
    have h1 : (S.del nm).used ≤ S.cap := h3.fits
    have h2 : (S.del nm).room = S.cap - (S.del nm).used := rfl
    omega
  have h6 := h5.enter hx hn hd' hm6 hc6 hu
  have hz1 := hc1.size
  have hz2 := hc2.size
  have hz3 := hc3.size
  have hz5 := hc5.size
  refine ⟨_, A, c, rfl, hnone, h6, ?_, ?_⟩
  · have a1 : Chg (foot s S) w w1 := hc1.mono (fun _ _ h => h.elim)
    have a2 := a1.step hc2 (fun k _ hk => .inr (.inl hk))
    have a3 := a2.step hc3 (fun k _ hk => hk.elim)
    have a5 := a3.step hc5 (fun k _ hk => hk.elim)
    exact a5.step hc6 (fun k _ hk => .inr (.inl hk))
  · intro k hk hlt
    rcases hf5 k hk with h | h
    · exact h
    · omega
theorem room_small (h : StoreAt base w s S) : S.room ≤ 67108864 := by
  have := h.small
  unfold Sto.room
  omega

attribute [local go_sem ↓] Go.wp_at_zero Go.wp_at_succ

set_option maxHeartbeats 1000000 in
theorem put_ok (h : StoreAt base w s S) {nm : ByteArray} (hsz : nm.size ≤ maxLen) (hn : mayName nm = true) (hd : lookD nm S.dir ≠ none ∨ S.dir.length < 200)
    {A : Option Addr} {c : Nat} {l : List UInt8} (hA : A = none → l = [] ∧ c = 0) (hcl : CellsAt w A (bv l)) (hfit : l.length ≤ (S.del nm).room) :
    Calls Try.prog 12 #[ptr s, .string nm, .slice A l.length c] w (PutPost base s S nm l w) := by
  have Hth := Go.Lib.hid (there_c h)
  have H := Go.Lib.hid h
  have Hsz := Go.Lib.hid hsz
  have Hn := Go.Lib.hid hn
  have hnd : (S.dir.length : Int) ≤ 200 := by have := h.ndir; omega
  have hcase := was_cases S nm hd
  have Hd := Go.Lib.hid hd
  have HA := Go.Lib.hid hA
  have Hcl := Go.Lib.hid hcl
  have Hfit := Go.Lib.hid hfit
  have d2 : decide ((S.del nm).room < l.length) = false := by simp; omega
  have d3 : (S.dir.length : Int) < 200 → decide (200 ≤ (S.dir.length : Int)) = false := fun h => by simp; omega
  clear h hsz hn hd hA hcl hfit
  unfold ptr at Hth hcase ⊢
  go_enter Try.func12, Try.ntmps12
  go_wp2_with fail
  refine Hth.out.mono ?_
  rintro e w' ⟨rfl, rfl⟩
  go_wp2_with fail
  refine (mayName_c nm Hsz.out w).mono ?_
  rw [Hn.out]
  rintro e w1 ⟨rfl, hc1⟩
  have h1 := H.out.chg hc1 (fun _ _ => id)
  have hlk := h1.lookWas nm
  have hln := run_len_files h1
  have c0 := h1.cell0
  have Hc1 := Go.Lib.hid hc1
  have H1 := Go.Lib.hid h1
  clear h1 hc1
  generalize S.was nm = V at *
  rcases hcase with ⟨g, rfl⟩ | ⟨rfl, hlt⟩
  all_goals
    go_wp2_with (at_delete; go_must (refine wpList_delete_str _ rfl _ _ _ _ rfl 79 Try.underlying71 Try.underlying9 S.mb _ nm rfl rfl H1.out.map ?_); intro w2 hm2 hc2 hz2)
    rw [delS_dir] at hm2
    have h2 := H1.out.del hm2 hc2
    have Hr := Go.Lib.hid (room_c h2)
    have H2 := Go.Lib.hid h2
    have Hc2 := Go.Lib.hid hc2
    clear hm2 hc2 hz2 h2 hlk hln c0
    unfold ptr at Hr
    go_wp2_with fail
    refine Hr.out.mono ?_
    rintro e w3 ⟨rfl, hc3⟩
    have H3 := Go.Lib.hid (H2.out.chg hc3 (fun _ _ => id))
    have Hc3 := Go.Lib.hid hc3
    clear hc3
    have Hcl3 := Go.Lib.hid (src_keep H1.out Hcl.out Hc1.out Hc2.out Hc3.out)
    have c0 := H3.out.cell0
    simp only [Sto.del] at c0
    go_wp2_with fail
    have Hup : Hid (∀ (W : World) (v : Value), MapIs W S.mb (strs ((delD nm S.dir).map fun e => (e.1, ptr e.2))) → (Instr.mapUpdate 71 (.map (some S.mb)) (.string nm) v).run Try.prog W = .ok () (setB W S.mb (updO Try.prog W 71 S.mb ((delD nm S.dir).map fun e => (e.1, ptr e.2)) nm v))) := Go.Lib.hid
      (fun W v hm => (updO_spec W Try.underlying71 Try.underlying9 hm nm v).1)
    have Hne : Hid (s ≠ S.mb) := Go.Lib.hid (Ne.symm (H.out.map.blk_ne H.out.blk))
    set_option maxRecDepth 100000 in
    go_region_held3 (fun w' => w'.cell? ⟨s, 0, none⟩ = some (.map (some S.mb)))
      (first
        | exact (put_keep (H3.out.chg ((Chg.refl NoB w3).drew) (fun _ _ => id))).1
        | exact (put_keep (H3.out.chg (((Chg.refl NoB w3).drew).trans hc4) (fun _ _ => id))).1
        | exact (put_keep (H3.out.chg ((((Chg.refl NoB w3).drew).trans hc4).alloc _) (fun _ _ => id))).1
        | exact put_keep_set Hne.out (put_keep (H3.out.chg ((((Chg.refl NoB w3).drew).trans hc4).alloc _) (fun _ _ => id))).1)
      (first
        | (go_at_call 42; refine (clone_c w3.drew A c l ?_ HA.out (Hcl3.out.chg ((Chg.refl NoB w3).drew) (fun _ _ => id))).mono ?_; (have := Hfit.out; have := room_small H2.out; omega); rintro e w4 ⟨v, rfl, ho, hc4⟩; obtain ⟨A', c', rfl⟩ := own_slice ho; have hup4 := Hup.out _ (.pointer (some ⟨w4.heap.size, 0, none⟩)) (put_keep (H3.out.chg ((((Chg.refl NoB w3).drew).trans hc4).alloc (Obj.cells #[Value.slice A' l.length c'] 82)) (fun _ _ => id))).2))
    have Hp := Go.Lib.hid (put_final H.out Hn.out Hd.out Hfit.out Hc1.out Hc2.out Hc3.out H3.out hc4 ho)
    clear hc4 ho hup4
    go_wp2_with fail
    go_ret
    exact Hp.out
end
end Go.Proofs.Ytebcomijknffmaa
