/- What is proved: the contracts of New and Register. Conditions: the memory holds a store. -/
import Derived.Test.YtggknljlibhkjaaStoreK
namespace Go.Proofs.Ytggknljlibhkjaa
open Go.RowKit
section
variable {base : Nat} {w : World} {s : Nat} {S : Sto}

def emptySto (mb cap : Nat) : Sto := { cap := cap, mb := mb, rA := none, rc := 0, dir := [], rd := [], fl := fun _ => none }
theorem emptySto_ok {w : World} {s mb cap : Nat} (hb : Blk w s 59 #[.map (some mb), .slice none 0 0, .int .i64 cap]) (hm : MapIs w mb []) (h1 : base ≤ s) (h2 : base ≤ mb) (hc : cap ≤ 67108864) : StoreAt base w s (emptySto mb cap) where
  blk := hb
  map := hm
  row := World.ownsRow_nil _ _ _ _
  rdb := fun r hr => by cases hr
  rdn := List.nodup_nil
  rdf := fun r hr => by cases hr
  dirf := fun r hr => by cases hr
  flb := fun f x hf => by cases hf
  flo := fun f x hf => by cases hf
  sep := fun f g x y k hf => by cases hf
  low := fun k hk => by
    rcases hk with rfl | rfl | hk | ⟨r, hr, _⟩ | ⟨f, x, hf, _⟩
    · exact h1
    · exact h2
    · simp [Sto.rv, emptySto, Value.ownBlock] at hk
    · cases hr
    · cases hf
  keys := List.nodup_nil
  dnames := fun r hr => by cases hr
  rnames := fun r hr => by cases hr
  small := hc
  fits := by simp [Sto.used, Sto.held, emptySto, dedup, sumOf]
  nrd := Nat.zero_le _
  ndir := Nat.zero_le _

def NewPost (c : Nat) (w : World) (e : Ending) (w' : World) : Prop :=
  ∃ s mb, e = .returned (.tuple #[ptr s, .int .i64 0]) ∧ StoreAt w.heap.size w' s (emptySto mb c) ∧ Chg NoB w w'

theorem new_ok (c : Nat) (hc : c ≤ 67108864) (w : World) : Calls Try.prog 8 #[.int .i64 c] w (NewPost c w) := by
  have d1 : decide ((c : Int) < 0) = false := by simp
  have d2 : decide (67108864 < (c : Int)) = false := by simp; omega
  have Hc := Go.Lib.hid hc
  have hmm := @run_makeMap Try.prog
  clear hc
  go_enter Try.func8, Try.ntmps8
  go_wp2_with fail
  go_ret2
  refine ⟨w.heap.size + 1, w.heap.size, rfl, emptySto_ok ?_ ?_ (by omega) (Nat.le_refl _) Hc.out, ((Chg.refl _ _).alloc _).alloc _⟩
  · exact Blk.new1 _ _ _ _
  · exact (MapIs.new w).alloc _

theorem new_arg (c : Int) (hc : c < 0 ∨ 67108864 < c) (w : World) : Calls Try.prog 8 #[.int .i64 c] w fun e w' => e = .returned (.tuple #[.pointer none, .int .i64 2]) ∧ w = w' := by
  by_cases h0 : c < 0
  · have d1 : decide (c < 0) = true := by simpa using h0
    clear hc
    go_enter Try.func8, Try.ntmps8
    go_wp2_with fail
    go_ret2
    exact ⟨rfl, rfl⟩
  · have d1 : decide (c < 0) = false := by simpa using h0
    have d2 : decide (67108864 < c) = true := by simp; omega
    clear hc
    go_enter Try.func8, Try.ntmps8
    go_wp2_with fail
    go_ret2
    exact ⟨rfl, rfl⟩

theorem run_len_files (h : StoreAt base w s S) (ty : TypeId) : (Builtin.len_ #[56] ty #[.map (some S.mb)]).run Try.prog w = .ok (.int .i64 S.dir.length) w := by
  obtain ⟨es, clock, hm, hkv, _⟩ := h.map
  have hl : es.size = S.dir.length := by
    have := congrArg List.length hkv
    simpa [strs] using this
  simp [Builtin.len_, run_underlying Try.underlying56, MapKept.run_getObj_map hm, Result.andThen, goInt, hl]

def Sto.enter (S : Sto) (n : ByteArray) (f : Nat) : Sto := { S with dir := putD n f S.dir }

theorem register_none (h : StoreAt base w s S) {f : Int} (hr : S.rdAt f = none) :
    Calls Try.prog 64 #[ptr s, .int .i64 f] w fun e w' => e = .returned (.int .i64 0) ∧ w = w' := by
  have Hr := Go.Lib.hid (rider_none h hr)
  have Hth := Go.Lib.hid (there_c h)
  clear h hr
  unfold ptr at Hr Hth ⊢
  go_enter Try.func64, Try.ntmps64
  go_wp2_with fail
  refine Hr.out.mono ?_
  rintro e w' ⟨rfl, rfl⟩
  go_wp2_with fail
  refine Hth.out.mono ?_
  rintro e w' ⟨rfl, rfl⟩
  go_wp2_with fail
  go_ret
  exact ⟨rfl, rfl⟩

theorem register_full (h : StoreAt base w s S) {f : Int} {r : Rd} (hr : S.rdAt f = some r) (hl : lookD r.name S.dir = none) (hd : 200 ≤ S.dir.length) :
    Calls Try.prog 64 #[ptr s, .int .i64 f] w fun e w' => e = .returned (.int .i64 5) ∧ ∃ n, w' = w.drewN n := by
  obtain ⟨x', hx', hp, hle, c0, c1, c2, z2, cf⟩ := h.rfacts hr
  have Hr := Go.Lib.hid (rider_some h hr)
  have Hth := Go.Lib.hid (there_c h)
  have hlk : ∀ k, (Instr.lookup 56 (.map (some S.mb)) (.string r.name) false).run Try.prog (w.drewN k) = .ok (.pointer none) (w.drewN k) := fun k => by
    have := (h.chg ((Chg.refl NoB w).drewN k) (fun _ _ => id)).lookup r.name
    rw [hl] at this
    exact this
  have hln : ∀ k ty, (Builtin.len_ #[56] ty #[.map (some S.mb)]).run Try.prog (w.drewN k) = .ok (.int .i64 S.dir.length) (w.drewN k) := fun k ty =>
    run_len_files (h.chg ((Chg.refl NoB w).drewN k) (fun _ _ => id)) ty
  have s0 := h.cell0
  have d1 : decide (200 ≤ (S.dir.length : Int)) = true := by simp; omega
  have hnd : (S.dir.length : Int) ≤ 200 := by have := h.ndir; omega
  clear h hr hl hx' hp hle c2 z2 cf hd
  generalize S.dir.length = n at *
  generalize S.mb = mb at *
  generalize r.name = nm at *
  generalize r.blk = rb at *
  generalize r.f = rf at *
  unfold ptr at Hr Hth c0 ⊢
  go_enter Try.func64, Try.ntmps64
  go_wp2_with fail
  refine Hr.out.mono ?_
  rintro e w' ⟨rfl, rfl⟩
  go_wp2_with fail
  refine Hth.out.mono ?_
  rintro e w' ⟨rfl, rfl⟩
  go_wp2_with fail
  go_quiet (fail)
  go_wp2_with fail
  go_ret
  exact ⟨rfl, _, rfl⟩

theorem register_ok (h : StoreAt base w s S) {f : Int} {r : Rd} (hr : S.rdAt f = some r) (hd : lookD r.name S.dir ≠ none ∨ S.dir.length < 200) :
    Calls Try.prog 64 #[ptr s, .int .i64 f] w fun e w' => e = .returned (.int .i64 0) ∧ StoreAt base w' s (S.enter r.name r.f) ∧ Chg (fun k => k = S.mb) w w' := by
  obtain ⟨x', hx', hp, hle, c0, c1, c2, z2, cf⟩ := h.rfacts hr
  obtain ⟨_, _, _, hm⟩ := rdAt_some hr
  have Hr := Go.Lib.hid (rider_some h hr)
  have Hth := Go.Lib.hid (there_c h)
  have hlk : ∀ k, (Instr.lookup 56 (.map (some S.mb)) (.string r.name) false).run Try.prog (w.drewN k) = .ok (((lookD r.name S.dir).map ptr).getD (.pointer none)) (w.drewN k) := fun k =>
    (h.chg ((Chg.refl NoB w).drewN k) (fun _ _ => id)).lookup r.name
  have hln : ∀ k ty, (Builtin.len_ #[56] ty #[.map (some S.mb)]).run Try.prog (w.drewN k) = .ok (.int .i64 S.dir.length) (w.drewN k) := fun k ty =>
    run_len_files (h.chg ((Chg.refl NoB w).drewN k) (fun _ _ => id)) ty
  have s0 := h.cell0
  have hnd : (S.dir.length : Int) ≤ 200 := by have := h.ndir; omega
  have Hmap : ∀ k, Hid (MapIs (w.drewN k) S.mb (strs (S.dir.map fun e => (e.1, ptr e.2)))) := fun k => Go.Lib.hid h.map
  have Hfin : ∀ k w1, Hid (MapIs w1 S.mb (strs (putS r.name (ptr r.f) (S.dir.map fun e => (e.1, ptr e.2)))) → Chg (fun k => k = S.mb) (w.drewN k) w1 → StoreAt base w1 s (S.enter r.name r.f) ∧ Chg (fun k => k = S.mb) w w1) := fun k w1 => Go.Lib.hid (fun hm1 hc1 => by
    have h1 := h.chg ((Chg.refl NoB w).drewN k) (fun _ _ => id)
    rw [putS_dir] at hm1
    refine ⟨h1.setDir hm1 hc1 (fun e he => ?_) (nodup_putD h.keys) ?_ ?_, (((Chg.refl NoB w).drewN k).mono (fun _ _ h => h.elim)).trans hc1⟩
    · rcases mem_putD he with rfl | he
      · exact ⟨⟨x', hx'⟩, h.rnames r hm⟩
      · exact ⟨h.dirf e he, h.dnames e he⟩
    · rw [length_putD]
      have := h.ndir
      split
      · rename_i hn
        rcases hd with hd | hd
        · exact absurd hn hd
        · omega
      · omega
    · refine Nat.le_trans (sumOf_le_sub (nodup_dedup _) (fun x hx => mem_dedup.2 ?_)) h.fits
      have hx := mem_dedup.1 hx
      unfold Sto.held
      rcases List.mem_append.1 hx with hx | hx
      · obtain ⟨e, he, rfl⟩ := List.mem_map.1 hx
        rcases mem_putD he with rfl | he
        · exact List.mem_append.2 (.inr (List.mem_map.2 ⟨r, hm, rfl⟩))
        · exact List.mem_append.2 (.inl (List.mem_map.2 ⟨e, he, rfl⟩))
      · exact List.mem_append.2 (.inr hx))
  have hcase : (∃ g, ((lookD r.name S.dir).map ptr).getD (.pointer none) = ptr g) ∨ (((lookD r.name S.dir).map ptr).getD (.pointer none) = .pointer none ∧ (S.dir.length : Int) < 200) := by
    cases hl : lookD r.name S.dir with
    | some g => exact .inl ⟨g, rfl⟩
    | none =>
      rcases hd with hd | hd
      · exact absurd hl hd
      · exact .inr ⟨rfl, by omega⟩
  clear h hr hx' hp hle c2 z2 cf hd hm
  generalize S.enter r.name r.f = S' at *
  generalize ((lookD r.name S.dir).map ptr).getD (.pointer none) = V at *
  generalize hD : (S.dir.map fun e => (e.1, ptr e.2)) = D at *
  clear hD
  generalize S.dir.length = n at *
  generalize S.mb = mb at *
  generalize hnm : r.name = nm at *
  generalize hrf : r.f = rf at *
  clear hnm hrf
  generalize r.blk = rb at *
  unfold ptr at Hr Hth c0 hcase ⊢
  rcases hcase with ⟨g, rfl⟩ | ⟨rfl, hlt⟩
  · go_enter Try.func64, Try.ntmps64
    go_wp2_with fail
    refine Hr.out.mono ?_
    rintro e w' ⟨rfl, rfl⟩
    go_wp2_with fail
    refine Hth.out.mono ?_
    rintro e w' ⟨rfl, rfl⟩
    go_wp2_with fail
    go_quiet (fail)
    rename_i nq
    go_wp2_with fail
    have Hf2 := Hfin nq
    have Hm2 := Hmap nq
    have s0' : (w.drewN nq).cell? ⟨s, 0, none⟩ = _ := s0
    have c0' : (w.drewN nq).cell? ⟨rb, 0, none⟩ = _ := c0
    have c1' : (w.drewN nq).cell? ⟨rb, 1, none⟩ = _ := c1
    clear Hfin Hmap hlk hln s0 c0 c1
    generalize w.drewN nq = W at *
    set_option maxRecDepth 100000 in go_still_tail 12, (by kernel_rfl)
    go_wp2_with (at_mapUpdate; go_must (refine wpList_update_str _ rfl _ _ _ _ rfl 9 89 Try.underlying56 Try.underlying9 mb D nm (ptr rf) rfl rfl rfl (Hm2.out : MapIs W mb _) ?_); intro w1 hm1 hc1 hz1)
    have Hp := Go.Lib.hid ((Hf2 w1).out hm1 (Chg.mono ⟨hc1.os, hc1.tape, hc1.output, hc1.size, hc1.block⟩ (fun _ _ h => h)))
    clear hm1 hc1 hz1
    go_wp2_with fail
    go_ret
    exact ⟨rfl, Hp.out⟩
  · have d1 : decide (200 ≤ (n : Int)) = false := by simpa using hlt
    go_enter Try.func64, Try.ntmps64
    go_wp2_with fail
    refine Hr.out.mono ?_
    rintro e w' ⟨rfl, rfl⟩
    go_wp2_with fail
    refine Hth.out.mono ?_
    rintro e w' ⟨rfl, rfl⟩
    go_wp2_with fail
    go_quiet (fail)
    rename_i nq
    go_wp2_with fail
    have Hf2 := Hfin nq
    have Hm2 := Hmap nq
    have s0' : (w.drewN nq).cell? ⟨s, 0, none⟩ = _ := s0
    have c0' : (w.drewN nq).cell? ⟨rb, 0, none⟩ = _ := c0
    have c1' : (w.drewN nq).cell? ⟨rb, 1, none⟩ = _ := c1
    clear Hfin Hmap hlk hln s0 c0 c1
    generalize w.drewN nq = W at *
    set_option maxRecDepth 100000 in go_still_tail 12, (by kernel_rfl)
    go_wp2_with (at_mapUpdate; go_must (refine wpList_update_str _ rfl _ _ _ _ rfl 9 89 Try.underlying56 Try.underlying9 mb D nm (ptr rf) rfl rfl rfl (Hm2.out : MapIs W mb _) ?_); intro w1 hm1 hc1 hz1)
    have Hp := Go.Lib.hid ((Hf2 w1).out hm1 (Chg.mono ⟨hc1.os, hc1.tape, hc1.output, hc1.size, hc1.block⟩ (fun _ _ h => h)))
    clear hm1 hc1 hz1
    go_wp2_with fail
    go_ret
    exact ⟨rfl, Hp.out⟩
end
end Go.Proofs.Ytggknljlibhkjaa
