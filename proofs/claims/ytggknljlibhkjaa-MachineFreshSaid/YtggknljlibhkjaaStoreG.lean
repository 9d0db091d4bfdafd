/- What is proved: the contract of Room. Conditions: the memory holds a store. -/
import Derived.Test.YtggknljlibhkjaaStoreF
import Derived.Maps.RangeWalk
import Derived.Carry
namespace Go.Proofs.Ytggknljlibhkjaa
open Go.RowKit
theorem Counted.chg {F : Nat → Prop} {w w' : World} {sv nv sm : Nat} {seen : List Nat} {n : Int} (h : Counted w sv nv sm seen n) (hc : Chg F w w') (hF : ∀ k, k < w.heap.size → ¬ F k) : Counted w' sv nv sm seen n :=
  ⟨h.sv.chg hc (hF _ h.sv.lt), h.nv.chg hc (hF _ h.nv.lt), h.sm.chg hc (hF _ h.sm.lt), fun x hx => by
    obtain ⟨t, cs, hb⟩ := h.all x hx
    exact ⟨t, cs, hb.chg hc (hF _ hb.lt)⟩⟩
theorem counted_start (w : World) (cap : Nat) : Counted (((w.alloc (Obj.cells #[Value.int IntKind.i64 ↑cap] 3)).alloc (Obj.map #[] 0)).alloc (Obj.cells #[Value.map (some (w.heap.size + 1))] 141))
    (w.heap.size + 1 + 1) w.heap.size (w.heap.size + 1) [] cap := by
  refine ⟨?_, ?_, ?_, by simp⟩
  · have := Blk.new ((w.alloc (Obj.cells #[Value.int IntKind.i64 ↑cap] 3)).alloc (Obj.map #[] 0)) 141 #[Value.map (some (w.heap.size + 1))]
    simpa using this
  · exact ((Blk.new w 3 #[Value.int IntKind.i64 ↑cap]).alloc _).alloc _
  · have := MapIs.new (w.alloc (Obj.cells #[Value.int IntKind.i64 ↑cap] 3))
    have e : (w.alloc (Obj.cells #[Value.int IntKind.i64 ↑cap] 3)).heap.size = w.heap.size + 1 := by simp
    rw [e] at this
    exact this.alloc _

/-- what holds ahead of each round of the loop over the directory -/
def CountRel (w wr : World) (dir : List (ByteArray × Nat)) (len : Nat → Nat) (mb sv nv sm it cap : Nat) : Prop :=
  ∃ left seen, IterIs wr it mb (strs (dir.map fun e => (e.1, ptr e.2))) left ∧ Counted wr sv nv sm seen ((cap : Int) - sumOf len seen) ∧ seen.Nodup ∧ (∀ x ∈ seen, x ∈ dir.map (·.2)) ∧
    (∀ e ∈ dir, e.2 ∈ seen ∨ (.string e.1, ptr e.2) ∈ left) ∧ Chg NoB w wr
theorem countRel_start {w wr : World} {dir : List (ByteArray × Nat)} {len : Nat → Nat} {mb sv nv sm it cap : Nat} (h : IterIs wr it mb (strs (dir.map fun e => (e.1, ptr e.2))) (strs (dir.map fun e => (e.1, ptr e.2))))
    (hc : Counted wr sv nv sm [] cap) (hw : Chg NoB w wr) : CountRel w wr dir len mb sv nv sm it cap :=
  ⟨_, [], h, by simpa [sumOf] using hc, by simp, by simp, fun e he => .inr (List.mem_map.2 ⟨(e.1, ptr e.2), List.mem_map.2 ⟨e, he, rfl⟩, rfl⟩), hw⟩
theorem StoreAt.rA_cases {base : Nat} {w : World} {s : Nat} {S : Sto} (h : StoreAt base w s S) : S.rd = [] ∨ ∃ g, S.rA = some ⟨g, 0, none⟩ := by
  rcases Nat.eq_zero_or_pos S.rd.length with h0 | h0
  · exact .inl (List.eq_nil_of_length_eq_zero h0)
  · obtain ⟨g, cap, hv, _⟩ := h.row.form h0
    exact .inr ⟨g, by unfold Sto.rv at hv; injection hv⟩

def addS (seen : List Nat) (f : Nat) : List Nat := if f ∈ seen then seen else seen ++ [f]
theorem mem_addS {seen : List Nat} {f x : Nat} : x ∈ addS seen f ↔ x ∈ seen ∨ x = f := by
  unfold addS
  split
  · rename_i h
    exact ⟨.inl, fun h' => h'.elim id (fun e => by subst e; exact h)⟩
  · simp
theorem nodup_addS {seen : List Nat} {f : Nat} (h : seen.Nodup) : (addS seen f).Nodup := by
  unfold addS
  split
  · exact h
  · rename_i hf
    rw [List.nodup_append]
    refine ⟨h, by simp, ?_⟩
    intro a ha b hb hab
    simp at hb
    subst hb hab
    exact hf ha

theorem sum_seen_le {base : Nat} {w : World} {s : Nat} {S : Sto} (h : StoreAt base w s S) {seen : List Nat} (hn : seen.Nodup) (hs : ∀ x ∈ seen, x ∈ S.held) : sumOf S.len seen ≤ S.cap := by
  have h1 : sumOf S.len seen ≤ S.used := sumOf_le_sub hn (fun x hx => mem_dedup.2 (hs x hx))
  exact Nat.le_trans h1 h.fits

theorem held_file {base : Nat} {w : World} {s : Nat} {S : Sto} (h : StoreAt base w s S) {f : Nat} (hf : f ∈ S.held) : ∃ x, S.fl f = some x := by
  unfold Sto.held at hf
  rcases List.mem_append.1 hf with hf | hf
  · obtain ⟨e, he, rfl⟩ := List.mem_map.1 hf
    exact h.dirf e he
  · obtain ⟨r, hr, rfl⟩ := List.mem_map.1 hf
    obtain ⟨x, hx, _⟩ := h.rdf r hr
    exact ⟨x, hx⟩

theorem count_any {base : Nat} {w : World} {s : Nat} {S : Sto} (h : StoreAt base w s S) {sv nv sm : Nat} {seen : List Nat} (hc : Counted w sv nv sm seen ((S.cap : Int) - sumOf S.len seen)) (hn : seen.Nodup) (hs : ∀ x ∈ seen, x ∈ S.held) {f : Nat} (hf : f ∈ S.held) :
    Calls Try.prog 97 #[ptr f, ptr sv, ptr nv] w fun e w' => e = .returned (.tuple #[]) ∧ Counted w' sv nv sm (addS seen f) ((S.cap : Int) - sumOf S.len (addS seen f)) ∧ Chg (fun k => k = sm ∨ k = nv) w w' := by
  by_cases hfs : f ∈ seen
  · refine (count_old hc hfs).mono fun e w' ⟨he, hw⟩ => ?_
    subst hw
    have e1 : addS seen f = seen := by unfold addS; rw [if_pos hfs]
    rw [e1]
    exact ⟨he, hc, Chg.refl _ _⟩
  · obtain ⟨x, hx⟩ := held_file h hf
    have hlen : S.len f = x.b.length := by simp [Sto.len, hx]
    have hle := h.len_le hf
    have h1 := sum_seen_le h hn hs
    have h2 := h.small
    refine (count_new hc hfs (h.flb _ _ hx) (by omega) (by omega) (by omega)).mono fun e w' ⟨he, hc', hch⟩ => ?_
    have e1 : addS seen f = seen ++ [f] := by unfold addS; rw [if_neg hfs]
    have e2 : (S.cap : Int) - sumOf S.len (seen ++ [f]) = (S.cap : Int) - sumOf S.len seen - x.b.length := by
      rw [sumOf_append, sumOf_cons, hlen]
      simp [sumOf]
      omega
    rw [e1, e2]
    exact ⟨he, hc', hch⟩
/-- what holds ahead of each round of the loop over the riders -/
def CountRel2 (S : Sto) (w wr : World) (k sv nv sm : Nat) : Prop :=
  ∃ seen, Counted wr sv nv sm seen ((S.cap : Int) - sumOf S.len seen) ∧ seen.Nodup ∧ (∀ x ∈ seen, x ∈ S.held) ∧ (∀ e ∈ S.dir, e.2 ∈ seen) ∧ (∀ j r, j < k → S.rd[j]? = some r → r.f ∈ seen) ∧ Chg NoB w wr
theorem countRel2_start {S : Sto} {w wr : World} {sv nv sm : Nat} {seen : List Nat} (h : Counted wr sv nv sm seen ((S.cap : Int) - sumOf S.len seen)) (hn : seen.Nodup) (hs : ∀ x ∈ seen, x ∈ S.held) (hd : ∀ e ∈ S.dir, e.2 ∈ seen) (hc : Chg NoB w wr) :
    CountRel2 S w wr 0 sv nv sm := ⟨seen, h, hn, hs, hd, fun _ _ h => absurd h (by omega), hc⟩
theorem IterIs.map_ne {w : World} {r m m' : Nat} {l left l' : List (Value × Value)} (h : IterIs w r m l left) (hm : MapIs w m' l') : r ≠ m' := by
  rintro rfl
  obtain ⟨es, clock, seen, c0, h1, h2, h3, h4, h5, h6, h7⟩ := h
  obtain ⟨es', clock', h', _⟩ := hm
  rw [h5] at h'
  cases h'
theorem Counted.chg_it {w w' : World} {sv nv sm it m : Nat} {seen : List Nat} {n : Int} {l left : List (Value × Value)} (h : Counted w sv nv sm seen n) (hi : IterIs w it m l left) (hc : Chg (fun k => k = it) w w') : Counted w' sv nv sm seen n :=
  ⟨h.sv.chg hc (Ne.symm (hi.blk_ne h.sv)), h.nv.chg hc (Ne.symm (hi.blk_ne h.nv)), h.sm.chg hc (Ne.symm (hi.map_ne h.sm)), fun x hx => by
    obtain ⟨t, cs, hb⟩ := h.all x hx
    exact ⟨t, cs, hb.chg hc (Ne.symm (hi.blk_ne hb))⟩⟩
section
variable {base : Nat} {w : World} {s : Nat} {S : Sto}

set_option maxHeartbeats 1000000 in
theorem room_c (h : StoreAt base w s S) :
    Calls Try.prog 90 #[ptr s] w fun e w' => e = .returned (.int .i64 (S.room : Int)) ∧ Chg NoB w w' := by
  have Hth := Go.Lib.hid (there_c h)
  have Hm := Go.Lib.hid h.map
  have c0 := h.cell0
  have c1 := h.cell1
  have c2 := h.cell2
  have hs := h.blk.lt
  have H := Go.Lib.hid h
  clear h
  have e3 : ∀ o1 o2 o3 i, (((w.alloc o1).alloc o2).alloc o3).cell? ⟨s, i, none⟩ = w.cell? ⟨s, i, none⟩ := fun o1 o2 o3 i =>
    World.cell?_of_block (((((Chg.refl NoB w).alloc o1).alloc o2).alloc o3).block s hs id)
  have hmm := @run_makeMap Try.prog
  unfold ptr at Hth ⊢
  go_enter Try.func90, Try.ntmps90
  go_wp2_with fail
  refine Hth.out.mono ?_
  rintro e w' ⟨rfl, rfl⟩
  go_wp2_with (at_range; refine wpList_range_is _ rfl _ _ rfl 9 89 Try.underlying56 S.mb _ rfl (by repeat (first | exact Hm.out | apply MapIs.alloc)) ?_; intro w1 hit1 hch1 hsz1)
  have esz : (((w.alloc (Obj.cells #[Value.int IntKind.i64 ↑S.cap] 3)).alloc (Obj.map #[] 0)).alloc (Obj.cells #[Value.map (some (w.heap.size + 1))] 141)).heap.size = w.heap.size + 1 + 1 + 1 := by simp
  have hcnt := counted_start w S.cap
  have hca := ((((Chg.refl NoB w).alloc (Obj.cells #[Value.int IntKind.i64 ↑S.cap] 3)).alloc (Obj.map #[] 0)).alloc (Obj.cells #[Value.map (some (w.heap.size + 1))] 141)).trans hch1
  have hcnt1 := hcnt.chg hch1 (fun _ _ => id)
  rw [esz] at hit1 ⊢
  clear hcnt hch1 hsz1 esz e3
  have Hs0 := Go.Lib.hid hs
  clear hs
  have Hc1 := Go.Lib.hid c1
  clear c1 c0 c2
  go_frame
  go_loopw [7] (fun _ wr => CountRel w wr S.dir S.len S.mb (w.heap.size + 1 + 1) w.heap.size (w.heap.size + 1) (w.heap.size + 1 + 1 + 1) S.cap) (fun _ wr => leftN wr (w.heap.size + 1 + 1 + 1))
  case atStart => exact countRel_start hit1 hcnt1 hca
  case round =>
    obtain ⟨left, seen, hit, hcnt, hnd, hsub, hall, hcw⟩ := hrel
    have Hcnt := Go.Lib.hid hcnt
    have Hsub := Go.Lib.hid hsub
    have Hall := Go.Lib.hid hall
    have Hcw := Go.Lib.hid hcw
    have Hnd := Go.Lib.hid hnd
    have Hit := Go.Lib.hid hit
    clear hcnt hsub hall hcw hnd hit
    go_wp2_with (at_next; refine wpList_next_is _ rfl _ rfl _ _ _ _ rfl Hit.out ?_ ?_)
    · intro h0
      have Hdone : Hid (∀ e ∈ S.dir, e.2 ∈ seen) := Go.Lib.hid (fun e he => (Hall.out e he).elim id (fun h => by subst h0; simp at h))
      have Hst := Go.Lib.hid (H.out.chg Hcw.out (fun _ _ => id))
      clear h0
      have c1 := Hst.out.cell1
      have c0 := Hst.out.cell0
      rcases Hst.out.rA_cases with hrd | ⟨g, hA⟩
      · have Hsum : Hid (sumOf S.len seen = S.used) := Go.Lib.hid (sumOf_same _ Hnd.out (nodup_dedup _) (fun x => by
          rw [mem_dedup]; unfold Sto.held; rw [hrd, List.map_nil, List.append_nil]
          exact ⟨Hsub.out x, fun hx => by obtain ⟨e, he, rfl⟩ := List.mem_map.1 hx; exact Hdone.out e he⟩))
        have cn : wr.cell? ⟨w.heap.size, 0, none⟩ = some (.int .i64 ((S.cap : Int) - sumOf S.len seen)) := Hcnt.out.nv.cell 0
        rw [hrd] at c1
        simp only [List.length_nil] at c1
        clear hrd
        go_wp2_with fail
        refine wp_loop_rounds 1 ?_
        rw [rounds_succ]
        go_wp2_with fail
        go_ret
        refine ⟨congrArg (fun n => Ending.returned (.int .i64 n)) ?_, Hcw.out⟩
        show ((S.cap : Int) - sumOf S.len seen) = S.room
        rw [Hsum.out]
        have := H.out.fits
        unfold Sto.room
        omega
      · rw [hA] at c1
        have hn := Hst.out.nrd
        have hcnt2 := Hcnt.out
        have hnd2 := Hnd.out
        have hseen : ∀ x ∈ seen, x ∈ S.held := fun x hx => by unfold Sto.held; exact List.mem_append.2 (.inl (Hsub.out x hx))
        have hrel2 := countRel2_start (S := S) (w := w) hcnt2 hnd2 hseen Hdone.out Hcw.out
        clear hcnt2 hnd2 hseen Hsub Hall Hdone Hst Hcw Hcnt Hit Hnd hit1 hca hcnt1
        go_wp2_with fail
        have HA := Go.Lib.hid hA
        clear hA c0 c1 Hth Hc1
        obtain ⟨wo, rfl⟩ : ∃ wo : World, wo = wr := ⟨_, rfl⟩
        go_loopw [36] (fun i wr => ∃ k : Nat, k ≤ S.rd.length ∧ i = .int .i64 k ∧ CountRel2 S w wr k (w.heap.size + 1 + 1) w.heap.size (w.heap.size + 1)) (fun i _ => S.rd.length - (intOf i).toNat)
        case atStart => exact ⟨0, Nat.zero_le _, rfl, hrel2⟩
        case round =>
          clear hrel2
          obtain ⟨k, hk, rfl, seen2, hcnt, hnd, hsub, hdir, hall, hcw⟩ := hrel
          have Hst := Go.Lib.hid (H.out.chg hcw (fun _ _ => id))
          by_cases hlt : k < S.rd.length
          · have hr : S.rdAt ((k : Int) + 1) = some S.rd[k] := by
              unfold Sto.rdAt
              rw [if_pos (by omega), show ((k : Int) + 1).toNat - 1 = k from by omega]
              exact List.getElem?_eq_getElem hlt
            obtain ⟨g', hA', hcell⟩ := Hst.out.rcell hr
            obtain rfl : g' = g := by rw [HA.out] at hA'; injection hA' with e; injection e with e; exact e.symm
            rw [show ((k : Int) + 1).toNat - 1 = k from by omega] at hcell
            obtain ⟨_, _, _, hm⟩ := rdAt_some hr
            have hb0 : wr.cell? ⟨S.rd[k].blk, 0, none⟩ = some (ptr S.rd[k].f) := (Hst.out.rdb _ hm).cell 0
            have Hcount := Go.Lib.hid (count_any Hst.out hcnt hnd hsub (StoreAt.rd_held hm))
            have Hstep : Hid (∀ w3, Counted w3 (w.heap.size + 1 + 1) w.heap.size (w.heap.size + 1) (addS seen2 S.rd[k].f) ((S.cap : Int) - sumOf S.len (addS seen2 S.rd[k].f)) → Chg (fun k => k = w.heap.size + 1 ∨ k = w.heap.size) wr w3 →
                CountRel2 S w w3 (k + 1) (w.heap.size + 1 + 1) w.heap.size (w.heap.size + 1)) := Go.Lib.hid (fun w3 h3 h4 => by
              refine ⟨_, h3, nodup_addS hnd, ?_, fun e he => mem_addS.2 (.inl (hdir e he)), ?_, hcw.step h4 (fun k hk hr => by omega)⟩
              · intro x hx
                rcases mem_addS.1 hx with hx | rfl
                · exact hsub x hx
                · exact StoreAt.rd_held hm
              · intro j r hj hr'
                rcases Nat.lt_or_ge j k with h | h
                · exact mem_addS.2 (.inl (hall j r h hr'))
                · obtain rfl : j = k := by omega
                  rw [List.getElem?_eq_getElem hlt] at hr'
                  cases hr'
                  exact mem_addS.2 (.inr rfl))
            clear hr hA' hm hcnt hnd hsub hdir hall hcw Hst
            generalize S.rd[k].blk = rb at *
            generalize S.rd[k].f = f at *
            unfold ptr at hcell hb0 Hcount
            go_wp2_with fail
            refine Hcount.out.mono ?_
            rintro e w3 ⟨rfl, hc3, hch3⟩
            have Hr := Go.Lib.hid (Hstep.out w3 hc3 hch3)
            clear hc3 hch3
            go_wp2_with fail
            go_roundw
            case rel => exact ⟨k + 1, by omega, by go_num, Hr.out⟩
            case measure => simp [intOf]; omega
          · obtain rfl : k = S.rd.length := by omega
            have Hsum : Hid (sumOf S.len seen2 = S.used) := Go.Lib.hid (sumOf_same _ hnd (nodup_dedup _) (fun x => by
              rw [mem_dedup]
              refine ⟨hsub x, fun hx => ?_⟩
              unfold Sto.held at hx
              rcases List.mem_append.1 hx with hx | hx
              · obtain ⟨e, he, rfl⟩ := List.mem_map.1 hx
                exact hdir e he
              · obtain ⟨r, hr, rfl⟩ := List.mem_map.1 hx
                obtain ⟨j, hj⟩ := List.mem_iff_getElem?.1 hr
                exact hall j r (List.getElem?_eq_some_iff.1 hj).1 hj))
            have cn : wr.cell? ⟨w.heap.size, 0, none⟩ = some (.int .i64 ((S.cap : Int) - sumOf S.len seen2)) := hcnt.nv.cell 0
            have Hcw := Go.Lib.hid hcw
            clear hcnt hnd hsub hdir hall hcw Hst
            go_wp2_with fail
            go_ret
            refine ⟨congrArg (fun n => Ending.returned (.int .i64 n)) ?_, Hcw.out⟩
            show ((S.cap : Int) - sumOf S.len seen2) = S.room
            rw [Hsum.out]
            have := H.out.fits
            unfold Sto.room
            omega
    · intro x y left' w2 hxl hp hit' hch hsz hen
      obtain ⟨e, he, hx, hy⟩ : ∃ e ∈ S.dir, x = .string e.1 ∧ y = ptr e.2 := by
        obtain ⟨z, hz, hzz⟩ := List.mem_map.1 hxl
        obtain ⟨e, he, rfl⟩ := List.mem_map.1 hz
        injection hzz with h1 h2
        exact ⟨e, he, h1.symm, h2.symm⟩
      subst hx hy
      have hfh : e.2 ∈ S.held := by unfold Sto.held; exact List.mem_append.2 (.inl (List.mem_map.2 ⟨e, he, rfl⟩))
      have hseen : ∀ x ∈ seen, x ∈ S.held := fun x hx => by unfold Sto.held; exact List.mem_append.2 (.inl (Hsub.out x hx))
      have hcw2 : Chg NoB w w2 := Hcw.out.step hch (fun k hk (hr : k = _) => by omega)
      have hcnt2 := Hcnt.out.chg_it Hit.out hch
      have hst2 := H.out.chg hcw2 (fun _ _ => id)
      have Hcount := Go.Lib.hid (count_any hst2 hcnt2 Hnd.out hseen hfh)
      have Hstep : Hid (∀ w3, Counted w3 (w.heap.size + 1 + 1) w.heap.size (w.heap.size + 1) (addS seen e.2) ((S.cap : Int) - sumOf S.len (addS seen e.2)) → Chg (fun k => k = w.heap.size + 1 ∨ k = w.heap.size) w2 w3 →
          CountRel w w3 S.dir S.len S.mb (w.heap.size + 1 + 1) w.heap.size (w.heap.size + 1) (w.heap.size + 1 + 1 + 1) S.cap ∧ leftN w3 (w.heap.size + 1 + 1 + 1) < leftN wr (w.heap.size + 1 + 1 + 1)) := Go.Lib.hid (fun w3 h3 h4 => by
        have hmlt := Hm.out.lt
        have hit3 := hit'.chg h4 (by omega) (by omega)
        refine ⟨⟨left', addS seen e.2, hit3, h3, nodup_addS Hnd.out, ?_, ?_, hcw2.step h4 (fun k hk hr => by omega)⟩, ?_⟩
        · intro x hx
          rcases mem_addS.1 hx with hx | rfl
          · exact Hsub.out x hx
          · exact List.mem_map.2 ⟨e, he, rfl⟩
        · intro e' he'
          rcases Hall.out e' he' with h | h
          · exact .inl (mem_addS.2 (.inl h))
          · rcases List.mem_cons.1 (hp.subset h) with h | h
            · injection h with _ h
              injection h with h
              injection h with h
              injection h with h
              exact .inl (mem_addS.2 (.inr h))
            · exact .inr h
        · rw [hit3.leftN, Hit.out.leftN, hp.length_eq]
          simp)
      clear hxl hp hit' hch hsz hfh hseen hcw2 hcnt2 hst2 he
      generalize e.2 = f at *
      unfold ptr at hen Hcount ⊢
      go_wp2_with fail
      refine Hcount.out.mono ?_
      rintro e w3 ⟨rfl, hc3, hch3⟩
      have Hr := Go.Lib.hid (Hstep.out w3 hc3 hch3)
      clear hc3 hch3
      go_wp2_with fail
      exact ⟨⟨_, _, _, _, _, _, _, _, Hr.out.1, rfl⟩, Hr.out.2⟩
end
end Go.Proofs.Ytggknljlibhkjaa
