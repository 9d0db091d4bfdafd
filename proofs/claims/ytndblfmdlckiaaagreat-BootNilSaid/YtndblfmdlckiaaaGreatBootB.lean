/- What is proved: a module that is not there is not linked; boot's Run and Step of such stores; BootNil. Conditions: none. -/
import Derived.Test.YtndblfmdlckiaaaGreatBootA
import Derived.WalkMore
import Derived.Laws.EntriesVeiled
namespace Go.Proofs.YtndblfmdlckiaaaGreat
open Go.RowKit
section
variable {w : World} {s : Nat}
theorem cell_at3 (w : World) (o0 o2 o3 o4 : Obj) (t : TypeId) (v : Value) (b : Nat) (hb : b = w.heap.size + 1) : (((((w.alloc o0).alloc (.cells #[v] t)).alloc o2).alloc o3).alloc o4).cell? ⟨b, 0, none⟩ = some v := by
  subst hb
  exact ((((Blk.new1 w o0 t #[v]).alloc o2).alloc o3).alloc o4).cell 0
theorem cell_at4 (w : World) (o1 o2 o3 o4 : Obj) (t : TypeId) (v : Value) (b : Nat) (hb : b = w.heap.size) : (((((w.alloc (.cells #[v] t)).alloc o1).alloc o2).alloc o3).alloc o4).cell? ⟨b, 0, none⟩ = some v := by
  subst hb
  exact (((((Blk.new w t #[v]).alloc o1).alloc o2).alloc o3).alloc o4).cell 0
/-- no object among none -/
theorem indexFunc_none (f : Value) : Calls Tryz.prog 55 #[.slice none 0 0, f] w fun e w' => e = .returned (.int .i64 (-1)) ∧ w = w' := by
  go_enter Tryz.func55, Tryz.ntmps55
  go_wp2_with fail
  refine wp_loop_rounds 1 ?_
  rw [rounds_succ]
  go_wp2_with fail
  go_ret
  exact ⟨rfl, rfl⟩
set_option maxHeartbeats 1000000 in
theorem loadedIn_none {b0 b1 b2 b3 : Nat} (h : NoFiles w s) (h0 : w.cell? ⟨b0, 0, none⟩ = some (.slice none 0 0)) (h1 : w.cell? ⟨b1, 0, none⟩ = some (ptr s)) :
    Calls Tryz.prog 54 #[.string nmMain, ptr b0, ptr b1, ptr b2, ptr b3] w (Quiet (.tuple #[.int .u32 0, .int .i64 6]) w) := by
  have Hl : Hid (∀ W, Chg NoB w W → Calls Tryz.prog 57 #[ptr s, .string nmMain] W (Quiet (.tuple #[objZ, .int .i64 6]) W)) := Go.Lib.hid fun W hW => load_none (h.quiet hW)
  have e0 : ∀ o, (w.alloc o).cell? ⟨b0, 0, none⟩ = some (.slice none 0 0) := fun o => (World.cell?_of_block (((Chg.refl NoB w).alloc o).block b0 (block_lt_of_cell h0) id)).trans h0
  have e1 : ∀ o, (w.alloc o).cell? ⟨b1, 0, none⟩ = some (ptr s) := fun o => (World.cell?_of_block (((Chg.refl NoB w).alloc o).block b1 (block_lt_of_cell h1) id)).trans h1
  clear h h0 h1
  unfold ptr at Hl e1 ⊢
  go_enter Tryz.func54, Tryz.ntmps54
  go_wp2_with fail
  go_step3
  go_wp2_with fail
  refine (indexFunc_none _).mono ?_
  rintro e w1 ⟨rfl, rfl⟩
  go_wp2_with fail
  refine (Hl.out _ ((Chg.refl NoB w).alloc _)).mono ?_
  rintro e w2 ⟨rfl, h2⟩
  have H2 := Go.Lib.hid (((Chg.refl NoB w).alloc _).trans h2)
  clear h2 Hl e0 e1
  unfold objZ
  go_wp2_with fail
  go_ret2
  exact ⟨rfl, H2.out.alloc _⟩
set_option maxHeartbeats 1000000 in
theorem loaded_none (h : NoFiles w s) : Calls Tryz.prog 21 #[ptr s, .string nmMain] w (Quiet (.tuple #[.slice none 0 0, .int .i64 6]) w) := by
  have Hl : Hid (∀ W b0 b1 b2 b3, Chg NoB w W → W.cell? ⟨b0, 0, none⟩ = some (.slice none 0 0) → W.cell? ⟨b1, 0, none⟩ = some (ptr s) → Calls Tryz.prog 54 #[.string nmMain, ptr b0, ptr b1, ptr b2, ptr b3] W (Quiet (.tuple #[.int .u32 0, .int .i64 6]) W)) := Go.Lib.hid fun W b0 b1 b2 b3 hW h0 h1 => loadedIn_none (h.quiet hW) h0 h1
  clear h
  have hmm := @run_makeMap Tryz.prog
  unfold ptr at Hl ⊢
  go_enter Tryz.func21, Tryz.ntmps21
  go_wp2_with fail
  refine (Hl.out _ _ _ _ _ (((((Chg.refl NoB w).alloc _).alloc _).alloc _).alloc _ |>.alloc _) ?_ ?_).mono ?_
  · exact cell_at3 _ _ _ _ _ _ _ _ rfl
  · exact cell_at4 _ _ _ _ _ _ _ _ rfl
  rintro e w1 ⟨rfl, h1⟩
  have H1 := Go.Lib.hid ((((((Chg.refl NoB w).alloc _).alloc _).alloc _).alloc _ |>.alloc _).trans h1)
  clear h1
  go_wp2_with fail
  go_ret2
  exact ⟨rfl, H1.out⟩
set_option maxHeartbeats 1000000 in
theorem link_none (h : NoFiles w s) : Calls Tryz.prog 9 #[ptr s, .string nmMain] w (Quiet (.tuple #[imgZ, .int .i64 6]) w) := by
  have Hl := Go.Lib.hid (fun (W : World) (hW : Chg NoB w W) => loaded_none (h.quiet hW))
  have HB := Go.Lib.hid (Blk.new w 44 #[.slice none 0 0, .slice none 0 0])
  clear h
  unfold ptr at Hl ⊢
  go_enter Tryz.func9, Tryz.ntmps9
  go_wp2_with fail
  refine (Hl.out _ ((Chg.refl NoB w).alloc _)).mono ?_
  rintro e w1 ⟨rfl, h1⟩
  have H1 := Go.Lib.hid (((Chg.refl NoB w).alloc _).trans h1)
  have hB := HB.out.chg h1 id
  have HB1 := Go.Lib.hid hB
  have c0 := hB.cell 0
  have c1 := hB.cell 1
  have z0 := hB.frozen 0
  have z1 := hB.frozen 1
  clear h1 hB
  go_wp2_with fail
  clear c0 c1 z0 z1
  have HB4 : Blk ((w1.setCell ⟨w.heap.size, 0, none⟩ (.slice none 0 0)).setCell ⟨w.heap.size, 1, none⟩ (.slice none 0 0)) w.heap.size 44 #[.slice none 0 0, .slice none 0 0] := by
    have h0 : Blk (w1.setCell ⟨w.heap.size, 0, none⟩ (.slice none 0 0)) w.heap.size 44 #[.slice none 0 0, .slice none 0 0] := by simpa using HB1.out.set_ 0 (.slice none 0 0)
    simpa using h0.set_ 1 (.slice none 0 0)
  have HC4 : Chg NoB w ((w1.setCell ⟨w.heap.size, 0, none⟩ (.slice none 0 0)).setCell ⟨w.heap.size, 1, none⟩ (.slice none 0 0)) := (H1.out.setCell (p := ⟨w.heap.size, 0, none⟩) (fun h => by simp at h) _).setCell (p := ⟨w.heap.size, 1, none⟩) (fun h => by simp at h) _
  generalize ((w1.setCell ⟨w.heap.size, 0, none⟩ _).setCell ⟨w.heap.size, 1, none⟩ _) = W4 at *
  have c0 := HB4.cell 0
  have c1 := HB4.cell 1
  refine bodyPost_ret (v := .tuple #[imgZ, .int .i64 6]) ?_ rfl ⟨rfl, HC4⟩
  simp [results, Tryz.results9, go_sem, c0, c1, imgZ]
end
end Go.Proofs.YtndblfmdlckiaaaGreat
