/- What is proved: the contract of Files: a directory's names, sorted, with how many bytes each file has. Conditions: the memory holds a store. -/
import Derived.Test.YtlglnebnldmceaaFiA
import Derived.Test.YtlglnebnldmceaaTail
set_option linter.unusedSimpArgs false
set_option linter.unusedVariables false
namespace Go.Proofs.Ytlglnebnldmceaa
open Go.RowKit Go.Maps Go.Sort
/-- names, sorted, with sizes -/
def sortN (l : List (List UInt8)) : List ByteArray := (l.mergeSort leB).map fun x => ⟨x.toArray⟩
def Sto.files (S : Sto) : List (ByteArray × Nat) := (sortN (S.dir.map fun e => e.1.data.toList)).map fun n => (n, ((lookD n S.dir).map S.len).getD 0)
/-- two variables that hold names and sizes -/
structure FilesAt (base : Nat) (w : World) (a b : Nat) (L : List (ByteArray × Nat)) : Prop where
  names : ∃ A c, Blk w a 113 #[.slice A L.length c] ∧ w.ownsRow base 9 1 (.slice A L.length c) L.length (L.map fun e => .string e.1)
  sizes : ∃ A c, Blk w b 114 #[.slice A L.length c] ∧ w.ownsRow base 3 1 (.slice A L.length c) L.length (L.map fun e => .int .i64 e.2)
  lo : base ≤ a ∧ base ≤ b
section
variable {base : Nat} {w w' : World} {s a b : Nat} {S : Sto} {L : List (ByteArray × Nat)}
theorem FilesAt.chg {F : Nat → Prop} (h : FilesAt base w a b L) (hc : Chg F w w') (hF : ∀ k, base ≤ k → k < w.heap.size → ¬ F k) : FilesAt base w' a b L := by
  obtain ⟨⟨A, c, h1, h2⟩, ⟨B, d, h3, h4⟩, h5⟩ := h
  exact ⟨⟨A, c, h1.chg hc (hF _ h5.1 h1.lt), own_chg h2 hc fun k hk => hF k (h2.lt k hk).1 (h2.lt k hk).2⟩, ⟨B, d, h3.chg hc (hF _ h5.2 h3.lt), own_chg h4 hc fun k hk => hF k (h4.lt k hk).1 (h4.lt k hk).2⟩, h5⟩
theorem sortN_length (l : List (List UInt8)) : (sortN l).length = l.length := by simp [sortN]
theorem sortN_mem {l : List (List UInt8)} {n : ByteArray} (h : n ∈ sortN l) : n.data.toList ∈ l := by
  obtain ⟨x, hx, rfl⟩ := List.mem_map.1 h
  exact List.mem_mergeSort.1 hx
theorem strinfo : (Try.prog.info? 9).map (fun i => (i.zero, i.size, i.bytes)) = some (some (.string ⟨#[]⟩), 1, 16) := by kernel_rfl
theorem intinfo : (Try.prog.info? 3).map (fun i => (i.zero, i.size, i.bytes)) = some (some (.int .i64 0), 1, 8) := by kernel_rfl
/-- ahead of each round of Files's loop -/
structure FiInv (S : Sto) (w W : World) (a b : Nat) (v : Value) (N : List ByteArray) (k : Nat) : Prop where
  chg : Chg NoB w W
  ba : Blk W a 113 #[v]
  nm : W.ownsRow w.heap.size 9 1 v N.length (N.map .string)
  sz : ∃ B d, Blk W b 114 #[.slice B k d] ∧ W.ownsRow w.heap.size 3 1 (.slice B k d) k ((N.take k).map fun n => .int .i64 (((lookD n S.dir).map S.len).getD 0))
  lo : w.heap.size ≤ a ∧ w.heap.size ≤ b ∧ a ≠ b
theorem FiInv.drew {W : World} {v : Value} {N : List ByteArray} {k : Nat} (h : FiInv S w W a b v N k) : FiInv S w W.drew a b v N k := by
  obtain ⟨h1, h2, h3, ⟨B, d, h4, h5⟩, h6⟩ := h
  exact ⟨h1.drew, h2, h3, ⟨B, d, h4, h5⟩, h6⟩
theorem FiInv.grow {W W5 : World} {v : Value} {N : List ByteArray} {k : Nat} {B : Option Addr} {d g cp : Nat} {n : ByteArray} {m : Nat} (h : FiInv S w W a b v N k) (hn : N[k]? = some n) (hm : m = ((lookD n S.dir).map S.len).getD 0)
    (hB : Blk W b 114 #[.slice B k d]) (hO : W.ownsRow w.heap.size 3 1 (.slice B k d) k ((N.take k).map fun n => .int .i64 (((lookD n S.dir).map S.len).getD 0))) {o : Obj}
    (hown : W5.ownsRow w.heap.size 3 1 (.slice (some ⟨g, 0, none⟩) (k + 1) cp) (k + 1) (((N.take k).map fun n => .int .i64 (((lookD n S.dir).map S.len).getD 0)) ++ [.int .i64 m]))
    (hg : (W.alloc o).grownBy W5 (Value.slice B k d).ownBlock) (hat : (Value.slice B k d).ownBlock = some g ∨ g = W.heap.size + 1) :
    FiInv S w (W5.setCell ⟨b, 0, none⟩ (.slice (some ⟨g, 0, none⟩) (k + 1) cp)) a b v N (k + 1) ∧ W5.frozen? ⟨b, 0, none⟩ = false ∧ W5.cell? ⟨b, 0, none⟩ = some (.slice B k d) ∧ Chg NoB w W5 := by
  have hca : Chg NoB W (W.alloc o) := (Chg.refl NoB W).alloc _
  have hch : Chg (fun k' => (Value.slice B k d).ownBlock = some k') W W5 := (hca.mono (fun _ _ h => h.elim)).grown hg (fun k hk _ => hk)
  have hb5 : Blk W5 b 114 #[.slice B k d] := hB.chg hch (own_blk_ne hO hB (by decide))
  have hc5 : Chg NoB w W5 := h.chg.step hch fun i hi hk => by have := (hO.lt i hk).1; omega
  have hlo := h.lo
  have hc6 : Chg (fun i => i = b) W5 (W5.setCell ⟨b, 0, none⟩ (.slice (some ⟨g, 0, none⟩) (k + 1) cp)) := (Chg.refl (fun i => i = b) _).setCell (p := ⟨b, 0, none⟩) (fun _ => rfl) _
  have htake : N.take (k + 1) = N.take k ++ [n] := by rw [List.take_add_one, hn]; rfl
  refine ⟨⟨hc5.step hc6 fun i hi e => by omega, (h.ba.chg hch (own_blk_ne hO h.ba (by decide))).chg hc6 (fun e => hlo.2.2 e), own_chg (own_chg h.nm hch fun k' hk' hk2 => own_own_ne h.nm hO (by decide) hk' hk2) hc6 fun k' hk' e => ?_, ⟨_, _, hb5.set_ 0 _, ?_⟩, hlo⟩, hb5.frozen 0, hb5.cell 0, hc5⟩
  · subst e
    exact own_blk_ne h.nm hB (by decide) hk'
  · rw [htake, List.map_append]
    have h9 : ([n].map fun n => Value.int .i64 (((lookD n S.dir).map S.len).getD 0 : Nat)) = [.int .i64 m] := by rw [hm]; rfl
    rw [h9]
    exact own_chg hown hc6 fun k' hk' e => by subst e; exact own_blk_ne hown hb5 (by decide) hk'
def FilesPost (base : Nat) (L : List (ByteArray × Nat)) (w : World) (e : Ending) (w' : World) : Prop :=
  ∃ a b, e = .returned (.func (.func 72) #[] #[ptr a, ptr b]) ∧ FilesAt base w' a b L ∧ Chg NoB w w'
set_option maxHeartbeats 2000000 in
theorem files_c (h : StoreAt base w s S) : Calls Try.prog 67 #[ptr s] w (FilesPost w.heap.size S.files w) := by
  have Hth := Go.Lib.hid (fun (W : World) (hW : Chg NoB w W) => there_c (h.chg hW (fun _ _ => id)))
  have c0 := h.cell0
  have hsl := h.blk.lt
  have e2 : ∀ o1 o2 i, ((w.alloc o1).alloc o2).cell? ⟨s, i, none⟩ = w.cell? ⟨s, i, none⟩ := fun o1 o2 i =>
    World.cell?_of_block ((((Chg.refl NoB w).alloc o1).alloc o2).block s hsl id)
  have H := Go.Lib.hid h
  have Hnd := Go.Lib.hid h.ndir
  obtain ⟨i0, hi0, hz0, hz1, hz2⟩ := info_parts intinfo
  have Hi := Go.Lib.hid (And.intro hi0 (And.intro hz0 (And.intro hz1 hz2)))
  clear h hi0 hz0 hz1 hz2
  unfold ptr at Hth ⊢
  go_enter Try.func67, Try.ntmps67
  go_wp2_with fail
  refine (Hth.out _ (((Chg.refl NoB w).alloc _).alloc _)).mono ?_
  rintro e w' ⟨rfl, rfl⟩
  have hW2 : Chg NoB w ((w.alloc (Obj.cells #[Value.slice none 0 0] 113)).alloc (Obj.cells #[Value.slice none 0 0] 114)) := ((Chg.refl NoB w).alloc _).alloc _
  obtain ⟨D0, hown, hperm, hsize⟩ := keys_own (k := 9) Try.underlying9 (H.out.chg hW2 (fun _ _ => id)).map (by simpa using Hnd.out) (fun e he => by
    obtain ⟨d, hd, rfl⟩ := List.mem_map.1 he
    have := H.out.dnames d hd
    unfold mayName at this
    simp at this
    unfold maxLen
    simp only
    omega) (by have := H.out.keys; simpa [List.map_map, Function.comp_def] using this)
  have Hown := Go.Lib.hid hown
  have Hperm := Go.Lib.hid hperm
  have HD : Hid (Maps.size D0 ≤ maxLen ∧ Maps.size D0 * 16 ≤ 140737488355328) := Go.Lib.hid (by
    have h1 : Maps.size D0 ≤ 200 := by rw [hsize, List.length_map]; exact Hnd.out
    unfold maxLen
    omega)
  have hba : Blk ((w.alloc (Obj.cells #[Value.slice none 0 0] 113)).alloc (Obj.cells #[Value.slice none 0 0] 114)) w.heap.size 113 #[.slice none 0 0] := (Blk.new _ _ _).alloc _
  have hbb : Blk ((w.alloc (Obj.cells #[Value.slice none 0 0] 113)).alloc (Obj.cells #[Value.slice none 0 0] 114)) (w.heap.size + 1) 114 #[.slice none 0 0] := Blk.new1 _ _ _ _
  have Hb := Go.Lib.hid (And.intro hba hbb)
  have c0' : ((w.alloc (Obj.cells #[Value.slice none 0 0] 113)).alloc (Obj.cells #[Value.slice none 0 0] 114)).cell? ⟨s, 0, none⟩ = some (.map (some S.mb)) := by rw [e2]; exact c0
  have HW2 := Go.Lib.hid hW2
  clear hba hbb hown hperm hsize e2 c0 Hth hsl hW2
  generalize (w.alloc (Obj.cells #[Value.slice none 0 0] 113)).alloc (Obj.cells #[Value.slice none 0 0] 114) = W2 at *
  go_wp2_with fail
  refine (callsIn_wide.1 (Try.maps_Keys_71 (some S.mb) _)).mono ?_
  rintro e w' ⟨rfl, rfl⟩
  go_wp2_with fail
  refine (callsIn_wide.1 (Try.slices_Sorted_keys_70_71 S.mb _ D0 constR W2 Hown.out HD.out.1 HD.out.2)).mono ?_
  rintro e w3 ⟨v, ss, rfl, hp, hrow, hnil, hbel⟩
  have hc3 : Chg NoB W2 w3 := ((Chg.refl NoB _).alloc _).trans (Chg.of_below hbel (Nat.le_refl _))
  obtain ⟨A, c, rfl⟩ := own_slice hrow
  have hN : ss.mergeSort leB = (S.dir.map fun e => e.1.data.toList).mergeSort leB := mergeSort_of_perm (hp.trans (by have := Hperm.out; simpa [List.map_map, Function.comp_def] using this))
  obtain ⟨N, HN⟩ : ∃ N, Hid (sortN (S.dir.map fun e => e.1.data.toList) = N) := ⟨_, Go.Lib.hid rfl⟩
  have hNr : (ss.mergeSort leB).map Go.Proofs.encStr = N.map Value.string := by
    rw [hN, ← HN.out]
    unfold sortN
    rw [List.map_map]
    rfl
  have hNl : N.length = ss.length := by
    rw [← HN.out, sortN_length, List.length_map]
    have := hp.length_eq
    rw [Hperm.out.length_eq] at this
    simpa using this.symm
  have hNle : N.length ≤ 200 := by rw [← HN.out, sortN_length, List.length_map]; exact Hnd.out
  have hrow1 : w3.ownsRow w.heap.size 9 1 (.slice A N.length c) N.length (N.map Value.string) := by
    have h1 := hrow
    rw [hNr, ← hNl] at h1
    exact ownsRow_base_a h1 (by have := HW2.out.size; simp; omega)
  rw [← hNl]
  have b3 := Hb.out.1.chg hc3 id
  have b3' := Hb.out.2.chg hc3 id
  have hf3 : w3.frozen? ⟨w.heap.size, 0, none⟩ = false := b3.frozen 0
  have hc30 : w3.cell? ⟨w.heap.size, 0, none⟩ = some (.slice none 0 0) := b3.cell 0
  have hc5 : Chg (fun i => i = w.heap.size) w3 (w3.setCell ⟨w.heap.size, 0, none⟩ (.slice A N.length c)) := (Chg.refl (fun i => i = w.heap.size) _).setCell (p := ⟨w.heap.size, 0, none⟩) (fun _ => rfl) _
  have Hinv : Hid (FiInv S w (w3.setCell ⟨w.heap.size, 0, none⟩ (.slice A N.length c)) w.heap.size (w.heap.size + 1) (.slice A N.length c) N 0) := Go.Lib.hid
    ⟨(HW2.out.trans hc3).step hc5 fun i hi e => by omega, b3.set_ 0 _, own_chg hrow1 hc5 fun k hk e => by subst e; exact own_blk_ne hrow1 b3 (by decide) hk, ⟨none, 0, b3'.chg hc5 (by omega), World.ownsRow_nil _ _ _ _⟩, by omega, by omega, by omega⟩
  have hA0 : Hid (∀ n, N[0]? = some n → True) := Go.Lib.hid fun _ _ => trivial
  clear hA0 hp hrow hnil hbel hc3 hN hNr hrow1 b3 b3' hc5 Hown HD Hperm HW2 Hb c0' hNl
  go_wp2_with fail
  have Hle := Go.Lib.hid hNle
  clear hf3 hc30
  generalize (w3.setCell ⟨w.heap.size, 0, none⟩ (.slice A N.length c)) = W4 at *
  go_loopw [17] (fun i wr => ∃ k : Nat, k ≤ N.length ∧ i = .int .i64 k ∧ FiInv S w wr w.heap.size (w.heap.size + 1) (.slice A N.length c) N k) (fun i _ => N.length - (intOf i).toNat)
  case atStart => exact ⟨0, Nat.zero_le _, rfl, Hinv.out⟩
  case round =>
    clear Hinv
    obtain ⟨k, hk, rfl, hinv⟩ := hrel
    have HI := Go.Lib.hid hinv
    clear hinv
    by_cases hlt : k < N.length
    · obtain ⟨nm, hnm⟩ : ∃ nm, N[k]? = some nm := ⟨_, List.getElem?_eq_getElem hlt⟩
      obtain ⟨ad, rfl, hcells⟩ := CellsAt.of_own HI.out.nm (by rw [List.length_map]; omega)
      have hld : wr.cell? (ad.add k) = some (.string nm) := hcells k _ (by rw [List.getElem?_map, hnm]; rfl)
      have hmem : nm ∈ N := List.mem_of_getElem? hnm
      have hf : ∃ f, lookD nm S.dir = some f := by
        rw [← HN.out] at hmem
        obtain ⟨e, he, he2⟩ := List.mem_map.1 (sortN_mem hmem)
        cases hl : lookD nm S.dir with
        | some f => exact ⟨f, rfl⟩
        | none =>
          exfalso
          have h3 : e.1 = nm := by
            have h4 : e.1.data.toList = nm.data.toList := he2
            cases h5 : e.1; cases h6 : nm
            rw [h5, h6] at h4
            congr 1
            exact Array.toList_inj.1 h4
          exact (lookD_none.1 hl) (List.mem_map.2 ⟨e, he, h3⟩)
      obtain ⟨f, hf⟩ := hf
      obtain ⟨x, hx⟩ := H.out.dirf _ (lookD_mem hf)
      have hm : x.b.length = ((lookD nm S.dir).map S.len).getD 0 := by rw [hf]; simp [Sto.len, hx]
      have hS := H.out.chg HI.out.drew.chg (fun _ _ => id)
      have hlk := hS.lookup nm
      rw [hf] at hlk
      simp only [Option.map_some, Option.getD_some] at hlk
      have Hkeep : Hid (∀ W', Chg NoB w W' → W'.cell? ⟨s, 0, none⟩ = some (.map (some S.mb)) ∧ W'.cell? ⟨f, 0, none⟩ = some (.slice x.A x.b.length x.c)) := Go.Lib.hid fun W' hW => ⟨(H.out.blk.chg hW id).cell 0, ((H.out.flb _ _ hx).chg hW id).cell 0⟩
      obtain ⟨B, d, hB, hO⟩ := HI.out.drew.sz
      have cb0 : wr.drew.cell? ⟨w.heap.size + 1, 0, none⟩ = some (.slice B k d) := hB.cell 0
      have cb1 : ∀ o, (wr.drew.alloc o).cell? ⟨w.heap.size + 1, 0, none⟩ = some (.slice B k d) := fun o => (hB.alloc o).cell 0
      have cb2 : ∀ o, (wr.alloc o).drew.cell? ⟨w.heap.size + 1, 0, none⟩ = some (.slice B k d) := fun o => (hB.alloc o).cell 0
      have hwr : Chg NoB w wr.drew := HI.out.drew.chg
      have Hnm := Go.Lib.hid hnm
      have Hm := Go.Lib.hid hm
      have HB := Go.Lib.hid (And.intro hB hO)
      have Hub := Go.Lib.hid Try.underlying114
      have Hsz : Hid (w.heap.size ≤ wr.heap.size) := Go.Lib.hid HI.out.chg.size
      clear hnm hcells hmem hf hx hm hS hB hO
      unfold ptr at hlk
      go_wp2_with fail
      refine regionT 13 (fun W' => (W'.cell? ⟨s, 0, none⟩ = some (.map (some S.mb)) ∧ W'.cell? ⟨f, 0, none⟩ = some (.slice x.A x.b.length x.c)) ∧ W'.cell? ⟨w.heap.size + 1, 0, none⟩ = some (.slice B k d)) (by kernel_rfl) (by decide) (⟨Hkeep.out _ hwr, cb0⟩) (fun inv0 hHeld => ?_)
      refine takeT (i := 0) (t := 21) (v := ?v0) rfl (by kernel_rfl) (by kernel_rfl) (by kernel_rfl) (fun _ _ _ h => h) (by kernel_rfl) (by kernel_rfl) (by decide) (by decide) rfl (Or.inl ⟨by rfl, ?h0⟩) inv0 hHeld ?r0
      case h0 => (intro w hSw; (try dsimp only at hSw); go_simp; try with_reducible rfl)
      intro inv01
      clear inv0
      try simp only [List.setIfInBounds_toArray, List.set_cons_zero, List.set_cons_succ]
      refine takeT (i := 1) (t := 22) (v := ?v1) rfl (by kernel_rfl) (by kernel_rfl) (by kernel_rfl) (fun _ _ _ h => h) (by kernel_rfl) (by kernel_rfl) (by decide) (by decide) rfl (Or.inl ⟨by rfl, ?h1⟩) inv01 hHeld ?r1
      case h1 => (intro w hSw; (try dsimp only at hSw); go_simp; try with_reducible rfl)
      intro inv11
      clear inv01
      try simp only [List.setIfInBounds_toArray, List.set_cons_zero, List.set_cons_succ]
      refine takeT (i := 2) (t := 23) (v := ?v2) rfl (by kernel_rfl) (by kernel_rfl) (by kernel_rfl) (fun _ _ _ h => h) (by kernel_rfl) (by kernel_rfl) (by decide) (by decide) rfl (Or.inl ⟨by rfl, ?h2⟩) inv11 hHeld ?r2
      case h2 => (intro w hSw; (try dsimp only at hSw); go_simp; try with_reducible rfl)
      intro inv21
      clear inv11
      try simp only [List.setIfInBounds_toArray, List.set_cons_zero, List.set_cons_succ]
      refine takeT (i := 3) (t := 24) (v := ?v3) rfl (by kernel_rfl) (by kernel_rfl) (by kernel_rfl) (fun _ _ _ h => h) (by kernel_rfl) (by kernel_rfl) (by decide) (by decide) rfl (Or.inl ⟨by rfl, ?h3⟩) inv21 hHeld ?r3
      case h3 => (intro w hSw; (try dsimp only at hSw); go_simp; try with_reducible rfl)
      intro inv31
      clear inv21
      try simp only [List.setIfInBounds_toArray, List.set_cons_zero, List.set_cons_succ]
      refine takeT (i := 4) (t := 25) (v := ?v4) rfl (by kernel_rfl) (by kernel_rfl) (by kernel_rfl) (fun _ _ _ h => h) (by kernel_rfl) (by kernel_rfl) (by decide) (by decide) rfl (Or.inl ⟨by rfl, ?h4⟩) inv31 hHeld ?r4
      case h4 => (intro w hSw; (try dsimp only at hSw); go_simp; try with_reducible rfl)
      intro inv41
      clear inv31
      try simp only [List.setIfInBounds_toArray, List.set_cons_zero, List.set_cons_succ]
      refine takeT (i := 5) (t := 26) (v := ?v5) rfl (by kernel_rfl) (by kernel_rfl) (by kernel_rfl) (fun _ _ _ h => h) (by kernel_rfl) (by kernel_rfl) (by decide) (by decide) rfl (Or.inl ⟨by rfl, ?h5⟩) inv41 hHeld ?r5
      case h5 => (intro w hSw; (try dsimp only at hSw); go_simp; try with_reducible rfl)
      intro inv51
      clear inv41
      try simp only [List.setIfInBounds_toArray, List.set_cons_zero, List.set_cons_succ]
      refine valT (i := 6) (t := 27) (v := ?v6) (w' := wr.drew) rfl (by kernel_rfl) rfl (by rfl) ?hx6 inv51 (by decide) (hHeld) ?r6
      case hx6 => (go_simp; try with_reducible rfl)
      intro inv61 hHeld6
      clear inv51
      try simp only [List.setIfInBounds_toArray, List.set_cons_zero, List.set_cons_succ]
      refine takeT (i := 7) (t := 28) (v := ?v7) rfl (by kernel_rfl) (by kernel_rfl) (by kernel_rfl) (fun _ _ _ h => h) (by kernel_rfl) (by kernel_rfl) (by decide) (by decide) rfl (Or.inl ⟨by rfl, ?h7⟩) inv61 hHeld ?r7
      case h7 => (intro w hSw; (try dsimp only at hSw); go_simp; try with_reducible rfl)
      intro inv71
      clear inv61
      try simp only [List.setIfInBounds_toArray, List.set_cons_zero, List.set_cons_succ]
      refine takeT (i := 8) (t := 29) (v := ?v8) rfl (by kernel_rfl) (by kernel_rfl) (by kernel_rfl) (fun _ _ _ h => h) (by kernel_rfl) (by kernel_rfl) (by decide) (by decide) rfl (Or.inl ⟨by rfl, ?h8⟩) inv71 hHeld ?r8
      case h8 => (intro w hSw; (try dsimp only at hSw); go_simp; try with_reducible rfl)
      intro inv81
      clear inv71
      try simp only [List.setIfInBounds_toArray, List.set_cons_zero, List.set_cons_succ]
      refine takeT (i := 9) (t := 30) (v := ?v9) rfl (by kernel_rfl) (by kernel_rfl) (by kernel_rfl) (fun _ _ _ h => h) (by kernel_rfl) (by kernel_rfl) (by decide) (by decide) rfl (Or.inl ⟨by rfl, ?h9⟩) inv81 hHeld ?r9
      case h9 => (intro w hSw; (try dsimp only at hSw); go_simp; try with_reducible rfl)
      intro inv91
      clear inv81
      try simp only [List.setIfInBounds_toArray, List.set_cons_zero, List.set_cons_succ]
      refine takeT (i := 10) (t := 31) (v := ?v10) rfl (by kernel_rfl) (by kernel_rfl) (by kernel_rfl) (fun _ _ _ h => h) (by kernel_rfl) (by kernel_rfl) (by decide) (by decide) rfl (Or.inl ⟨by rfl, ?h10⟩) inv91 hHeld ?r10
      case h10 => (intro w hSw; (try dsimp only at hSw); go_simp; try with_reducible rfl)
      intro inv101
      clear inv91
      try simp only [List.setIfInBounds_toArray, List.set_cons_zero, List.set_cons_succ]
      refine valT (i := 11) (t := 32) (v := ?v11) (w' := wr.drew.alloc (Obj.cells #[.int .i64 x.b.length] 3)) rfl (by kernel_rfl) rfl (by rfl) ?hx11 inv101 (by decide) (⟨Hkeep.out _ (hwr.alloc _), cb1 _⟩) ?r11
      case hx11 => (go_simp; try with_reducible rfl)
      intro inv111 hHeld11
      clear inv101
      try simp only [List.setIfInBounds_toArray, List.set_cons_zero, List.set_cons_succ]
      refine oneTI (i := 12) rfl (by kernel_rfl) inv111 (by decide) (fun inv121 => ?_)
      clear inv111
      refine step_append_lies _ (by rfl) (.tmp 21) (.tmp 32) 114 (by rfl) w.heap.size 3 i0 _ 1 8 Hub.out Hi.out.1 Hi.out.2.1 Hi.out.2.2.1 Hi.out.2.2.2 (by rfl) (by omega) (.slice B k d) k ((N.take k).map fun n => .int .i64 (((lookD n S.dir).map S.len).getD 0)) (by rfl) (HB.out.2.alloc _) ⟨wr.heap.size, 0, none⟩ 1 1 [.int .i64 x.b.length] (by rfl) (by rfl) (World.news_of_block (Blk.new wr.drew _ _)) (by simp [Value.oneCell']) (by omega) (by have := Hle.out; unfold maxLen; omega) (by have := Hle.out; omega) (by have := Hsz.out; simp; omega) (wr.heap.size + 1) (by simp) ?_
      intro gg cap w5 hown hgrow hat hlt2
      have hgr := FiInv.grow HI.out.drew Hnm.out Hm.out HB.out.1 HB.out.2 hown hgrow hat
      have hf5 := hgr.2.1
      have hc5 := hgr.2.2.1
      refine ⟨fun _ => ⟨Hkeep.out _ hgr.2.2.2, hc5⟩, ?_⟩
      try simp only [Act.put, List.setIfInBounds_toArray, List.set_cons_zero, List.set_cons_succ]
      refine lastT (i := 13) (w' := w5.setCell ⟨w.heap.size + 1, 0, none⟩ (.slice (some ⟨gg, 0, none⟩) (k + 1) cap)) rfl (by kernel_rfl) rfl (by rfl) ?hx13 (by decide) (by kernel_rfl) ?_
      case hx13 => (go_simp; try with_reducible rfl)
      have Hn := Go.Lib.hid hgr.1
      clear hHeld hHeld6 hHeld11 inv121 hgr hown hgrow hat hlt2 hf5 hc5 cb0 cb1 cb2 hlk hwr hld
      go_wp2_with fail
      go_roundw
      case rel => exact ⟨k + 1, by omega, by go_num, Hn.out⟩
      case measure => simp [intOf]; omega
    · obtain rfl : k = N.length := by omega
      go_wp2_with fail
      go_ret
      have hI := HI.out
      obtain ⟨B, d, h4, h5⟩ := hI.sz
      rw [List.take_length] at h5
      have e1 : S.files.length = N.length := by unfold Sto.files; rw [HN.out, List.length_map]
      have e2 : S.files.map (fun e => Value.string e.1) = N.map Value.string := by unfold Sto.files; rw [HN.out, List.map_map]; rfl
      have e3 : S.files.map (fun e => Value.int .i64 e.2) = N.map fun n => Value.int .i64 (((lookD n S.dir).map S.len).getD 0) := by unfold Sto.files; rw [HN.out, List.map_map]; rfl
      refine ⟨_, _, rfl, ⟨⟨A, c, ?_, ?_⟩, ⟨B, d, ?_, ?_⟩, hI.lo.1, hI.lo.2.1⟩, hI.chg⟩
      · rw [e1]; exact hI.ba
      · rw [e1, e2]; exact hI.nm
      · rw [e1]; exact h4
      · rw [e1, e3]; exact h5
end
end Go.Proofs.Ytlglnebnldmceaa
