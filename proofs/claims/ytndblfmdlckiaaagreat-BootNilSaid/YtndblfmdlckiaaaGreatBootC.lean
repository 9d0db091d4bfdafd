/- What is proved: boot's Run and Step where there is no store, or no file; the law BootNil. Conditions: none. -/
import Derived.Test.YtndblfmdlckiaaaGreatBootB
namespace Go.Proofs.YtndblfmdlckiaaaGreat
open Go.RowKit
section
variable {w : World} {s : Nat}
theorem blk4 {W : World} {g : Nat} {T : TypeId} {v0 v1 v2 v3 : Value} (h : Blk W g T #[v0, v1, v2, v3]) :
    (W.cell? ⟨g, 0, none⟩ = some v0 ∧ W.cell? ⟨g, 1, none⟩ = some v1 ∧ W.cell? ⟨g, 2, none⟩ = some v2 ∧ W.cell? ⟨g, 3, none⟩ = some v3) ∧
    (W.frozen? ⟨g, 0, none⟩ = false ∧ W.frozen? ⟨g, 1, none⟩ = false ∧ W.frozen? ⟨g, 2, none⟩ = false ∧ W.frozen? ⟨g, 3, none⟩ = false) :=
  ⟨⟨h.cell 0, h.cell 1, h.cell 2, h.cell 3⟩, h.frozen 0, h.frozen 1, h.frozen 2, h.frozen 3⟩
@[reducible] def set4W (W : World) (g : Nat) (v0 v1 v2 v3 : Value) : World := (((W.setCell ⟨g, 0, none⟩ v0).setCell ⟨g, 1, none⟩ v1).setCell ⟨g, 2, none⟩ v2).setCell ⟨g, 3, none⟩ v3
theorem set4 {W : World} {g : Nat} {T : TypeId} {u0 u1 u2 u3 : Value} (v0 v1 v2 v3 : Value) (h : Blk W g T #[u0, u1, u2, u3]) : Blk (set4W W g v0 v1 v2 v3) g T #[v0, v1, v2, v3] := by
  have h0 : Blk (W.setCell ⟨g, 0, none⟩ v0) g T #[v0, u1, u2, u3] := by simpa using h.set_ 0 v0
  have h1 : Blk ((W.setCell ⟨g, 0, none⟩ v0).setCell ⟨g, 1, none⟩ v1) g T #[v0, v1, u2, u3] := by simpa using h0.set_ 1 v1
  have h2 : Blk (((W.setCell ⟨g, 0, none⟩ v0).setCell ⟨g, 1, none⟩ v1).setCell ⟨g, 2, none⟩ v2) g T #[v0, v1, v2, u3] := by simpa using h1.set_ 2 v2
  have h3 : Blk (set4W W g v0 v1 v2 v3) g T #[v0, v1, v2, v3] := by simpa using h2.set_ 3 v3
  exact h3
theorem set4_chg {F : Nat → Prop} {w0 W : World} {g : Nat} (v0 v1 v2 v3 : Value) (h : Chg F w0 W) (hF : g < w0.heap.size → F g) : Chg F w0 (set4W W g v0 v1 v2 v3) :=
  (((h.setCell (p := ⟨g, 0, none⟩) hF v0).setCell (p := ⟨g, 1, none⟩) hF v1).setCell (p := ⟨g, 2, none⟩) hF v2).setCell (p := ⟨g, 3, none⟩) hF v3
abbrev endB (w : World) : Prop := Blk (w.alloc (.cells #[.int .i64 0, .int .u32 0, .int .i64 0, .bool false] 31)) w.heap.size 31 #[.int .i64 0, .int .u32 0, .int .i64 0, .bool false]
set_option maxHeartbeats 1000000 in
theorem run_nil (t : Value) (n : Int) : Calls Tryz.prog 5 #[.pointer none, t, .int .i64 n] w (Quiet (.tuple #[endZ, .int .i64 1]) w) := by
  have Hc := Go.Lib.hid (fun (W : World) => no_Copy (Gone.nil W))
  have HB : Hid (endB w) := Go.Lib.hid (Blk.new w _ _)
  go_enter Tryz.func5, Tryz.ntmps5
  go_wp2_with fail
  refine (Hc.out _).mono ?_
  rintro e w1 ⟨rfl, h1⟩
  have H1 := Go.Lib.hid (((Chg.refl NoB w).alloc _).trans h1)
  have HB1 := Go.Lib.hid (HB.out.chg h1 id)
  clear h1
  obtain ⟨⟨c0, c1, c2, c3⟩, z0, z1, z2, z3⟩ := blk4 HB1.out
  go_wp2_with fail
  clear c0 c1 c2 c3 z0 z1 z2 z3
  have HB4 := set4 (.int .i64 0) (.int .u32 0) (.int .i64 0) (.bool false) HB1.out
  have HC4 := set4_chg (g := w.heap.size) (.int .i64 0) (.int .u32 0) (.int .i64 0) (.bool false) H1.out (fun h => by omega)
  unfold set4W at HB4 HC4
  generalize ((((w1.setCell ⟨w.heap.size, 0, none⟩ _).setCell ⟨w.heap.size, 1, none⟩ _).setCell ⟨w.heap.size, 2, none⟩ _).setCell ⟨w.heap.size, 3, none⟩ _) = W4 at *
  obtain ⟨⟨c0, c1, c2, c3⟩, _⟩ := blk4 HB4
  refine bodyPost_ret (v := .tuple #[endZ, .int .i64 1]) ?_ rfl ⟨rfl, HC4⟩
  simp [results, Tryz.results5, go_sem, c0, c1, c2, c3, endZ]
set_option maxHeartbeats 1000000 in
theorem run_snil (h : NoFiles w s) (n : Int) : Calls Tryz.prog 5 #[ptr s, .pointer none, .int .i64 n] w (Quiet (.tuple #[endZ, .int .i64 1]) w) := by
  have Hc := Go.Lib.hid (fun (W : World) => no_Copy (Gone.nil W))
  have Hs := Go.Lib.hid (fun (W : World) (hW : Chg NoB w W) => copy_q (h.quiet hW))
  have HB : Hid (endB w) := Go.Lib.hid (Blk.new w _ _)
  clear h
  unfold ptr at Hs ⊢
  go_enter Tryz.func5, Tryz.ntmps5
  go_wp2_with fail
  refine (Hs.out _ ((Chg.refl NoB w).alloc _)).mono ?_
  rintro e w1 ⟨c1, rfl, h1⟩
  have H1 := Go.Lib.hid (((Chg.refl NoB w).alloc _).trans h1)
  have HB1 := Go.Lib.hid (HB.out.chg h1 id)
  clear h1
  go_wp2_with fail
  refine (Hc.out _).mono ?_
  rintro e w2 ⟨rfl, h1⟩
  have H2 := Go.Lib.hid (H1.out.trans h1)
  have HB2 := Go.Lib.hid (HB1.out.chg h1 id)
  clear h1
  obtain ⟨⟨c0, c1, c2, c3⟩, z0, z1, z2, z3⟩ := blk4 HB2.out
  go_wp2_with fail
  clear c0 c1 c2 c3 z0 z1 z2 z3
  have HB4 := set4 (.int .i64 0) (.int .u32 0) (.int .i64 0) (.bool false) HB2.out
  have HC4 := set4_chg (g := w.heap.size) (.int .i64 0) (.int .u32 0) (.int .i64 0) (.bool false) H2.out (fun h => by omega)
  unfold set4W at HB4 HC4
  generalize ((((w2.setCell ⟨w.heap.size, 0, none⟩ _).setCell ⟨w.heap.size, 1, none⟩ _).setCell ⟨w.heap.size, 2, none⟩ _).setCell ⟨w.heap.size, 3, none⟩ _) = W4 at *
  obtain ⟨⟨c0, c1, c2, c3⟩, _⟩ := blk4 HB4
  refine bodyPost_ret (v := .tuple #[endZ, .int .i64 1]) ?_ rfl ⟨rfl, HC4⟩
  simp [results, Tryz.results5, go_sem, c0, c1, c2, c3, endZ]
set_option maxHeartbeats 1000000 in
theorem run_arg (h : NoFiles w s) : Calls Tryz.prog 5 #[ptr s, ptr s, .int .i64 (-1)] w (Quiet (.tuple #[endZ, .int .i64 2]) w) := by
  have Hs := Go.Lib.hid (fun (W : World) (hW : Chg NoB w W) => copy_q (h.quiet hW))
  have HB : Hid (endB w) := Go.Lib.hid (Blk.new w _ _)
  clear h
  unfold ptr at Hs ⊢
  go_enter Tryz.func5, Tryz.ntmps5
  go_wp2_with fail
  refine (Hs.out _ ((Chg.refl NoB w).alloc _)).mono ?_
  rintro e w1 ⟨c1, rfl, h1⟩
  have H1 := Go.Lib.hid (((Chg.refl NoB w).alloc _).trans h1)
  have HB1 := Go.Lib.hid (HB.out.chg h1 id)
  clear h1
  go_wp2_with fail
  refine (Hs.out _ H1.out).mono ?_
  rintro e w2 ⟨c2, rfl, h1⟩
  have H2 := Go.Lib.hid (H1.out.trans h1)
  have HB2 := Go.Lib.hid (HB1.out.chg h1 id)
  clear h1
  obtain ⟨⟨c0, c1, c2, c3⟩, z0, z1, z2, z3⟩ := blk4 HB2.out
  go_wp2_with fail
  clear c0 c1 c2 c3 z0 z1 z2 z3
  have HB4 := set4 (.int .i64 0) (.int .u32 0) (.int .i64 0) (.bool false) HB2.out
  have HC4 := set4_chg (g := w.heap.size) (.int .i64 0) (.int .u32 0) (.int .i64 0) (.bool false) H2.out (fun h => by omega)
  unfold set4W at HB4 HC4
  generalize ((((w2.setCell ⟨w.heap.size, 0, none⟩ _).setCell ⟨w.heap.size, 1, none⟩ _).setCell ⟨w.heap.size, 2, none⟩ _).setCell ⟨w.heap.size, 3, none⟩ _) = W4 at *
  obtain ⟨⟨c0, c1, c2, c3⟩, _⟩ := blk4 HB4
  refine bodyPost_ret (v := .tuple #[endZ, .int .i64 2]) ?_ rfl ⟨rfl, HC4⟩
  simp [results, Tryz.results5, go_sem, c0, c1, c2, c3, endZ]
set_option maxHeartbeats 1000000 in
theorem run_none (h : NoFiles w s) : Calls Tryz.prog 5 #[ptr s, ptr s, .int .i64 1] w (Quiet (.tuple #[endZ, .int .i64 6]) w) := by
  have Hs := Go.Lib.hid (fun (W : World) (hW : Chg NoB w W) => copy_q (h.quiet hW))
  have HL := Go.Lib.hid (fun (W : World) (hW : Chg NoB w W) => link_none (h.quiet hW))
  have HB : Hid (endB w) := Go.Lib.hid (Blk.new w _ _)
  clear h
  unfold ptr at Hs HL ⊢
  go_enter Tryz.func5, Tryz.ntmps5
  go_wp2_with fail
  refine (Hs.out _ ((Chg.refl NoB w).alloc _)).mono ?_
  rintro e w1 ⟨c1, rfl, h1⟩
  have H1 := Go.Lib.hid (((Chg.refl NoB w).alloc _).trans h1)
  have HB1 := Go.Lib.hid (HB.out.chg h1 id)
  clear h1
  go_wp2_with fail
  refine (Hs.out _ H1.out).mono ?_
  rintro e w2 ⟨c2, rfl, h1⟩
  have H2 := Go.Lib.hid (H1.out.trans h1)
  have HB2 := Go.Lib.hid (HB1.out.chg h1 id)
  clear h1
  go_wp2_with fail
  refine (HL.out _ H2.out).mono ?_
  rintro e w3 ⟨rfl, h1⟩
  have H3 := Go.Lib.hid (H2.out.trans h1)
  have HB3 := Go.Lib.hid (HB2.out.chg h1 id)
  clear h1
  unfold imgZ
  have HB3a := Go.Lib.hid (fun o => HB3.out.alloc o)
  obtain ⟨⟨c0, c1, c2, c3⟩, z0, z1, z2, z3⟩ := blk4 (HB3a.out (.cells #[.slice none 0 0, .slice none 0 0] 44))
  go_wp2_with fail
  clear c0 c1 c2 c3 z0 z1 z2 z3
  have HB4 := set4 (.int .i64 0) (.int .u32 0) (.int .i64 0) (.bool false) (HB3a.out (.cells #[.slice none 0 0, .slice none 0 0] 44))
  have HC4 := set4_chg (g := w.heap.size) (.int .i64 0) (.int .u32 0) (.int .i64 0) (.bool false) (H3.out.alloc (.cells #[.slice none 0 0, .slice none 0 0] 44)) (fun h => by omega)
  unfold set4W at HB4 HC4
  generalize (((((w3.alloc (.cells #[.slice none 0 0, .slice none 0 0] 44)).setCell ⟨w.heap.size, 0, none⟩ _).setCell ⟨w.heap.size, 1, none⟩ _).setCell ⟨w.heap.size, 2, none⟩ _).setCell ⟨w.heap.size, 3, none⟩ _) = W4 at *
  obtain ⟨⟨c0, c1, c2, c3⟩, _⟩ := blk4 HB4
  refine bodyPost_ret (v := .tuple #[endZ, .int .i64 6]) ?_ rfl ⟨rfl, HC4⟩
  simp [results, Tryz.results5, go_sem, c0, c1, c2, c3, endZ]
theorem step_nil (n : ByteArray) : Calls Tryz.prog 6 #[.pointer none, .pointer none, .string n] w (Quiet (.int .i64 1) w) := by
  have Hc := Go.Lib.hid (fun (W : World) => no_Copy (Gone.nil W))
  go_enter Tryz.func6, Tryz.ntmps6
  go_wp2_with fail
  refine (Hc.out _).mono ?_
  rintro e w1 ⟨rfl, h1⟩
  have H1 := Go.Lib.hid h1
  clear h1
  go_wp2_with fail
  go_ret
  exact ⟨rfl, H1.out⟩
theorem clamp_c (n : Int) (h0 : 0 ≤ n) (h1 : n ≤ 1073741824) (w : World) : Calls Tryz.prog 51 #[.int .i64 n] w fun e w' => e = .returned (.int .i64 n) ∧ w = w' := by
  go_enter Tryz.func51, Tryz.ntmps51
  go_wp2
  all_goals go_ret
  all_goals exact ⟨by first | rfl | (congr 2; simp; omega), rfl⟩
theorem known_c (w : World) : Calls Tryz.prog 7 #[] w fun e w' => e = .returned (.bool true) ∧ w = w' := by
  have H : Hid (∀ W, Calls Tryz.prog 14 #[.int .i64 10, .int .i64 0] W fun e w' => e = .returned (.int .i64 20600000) ∧ W = w') := Go.Lib.hid fun W => by
    go_enter Tryz.func14, Tryz.ntmps14
    go_wp2_with fail
    refine (clamp_c 10 (by omega) (by omega) _).mono ?_
    rintro e w' ⟨rfl, rfl⟩
    go_wp2_with fail
    refine (clamp_c 0 (by omega) (by omega) _).mono ?_
    rintro e w' ⟨rfl, rfl⟩
    go_wp2_with fail
    go_ret
    exact ⟨rfl, rfl⟩
  go_enter Tryz.func7, Tryz.ntmps7
  go_wp2_with fail
  refine (H.out _).mono ?_
  rintro e w' ⟨rfl, rfl⟩
  go_wp2_with fail
  go_ret
  exact ⟨rfl, rfl⟩
set_option maxHeartbeats 1000000 in
theorem bootNil_walk (w : World) : Calls Tryz.prog 3 #[] w (Quiet (.bool true) w) := by
  go_enter Tryz.func3, Tryz.ntmps3
  go_wp2_with fail
  refine (new_v 1000 (by decide) _).mono ?_
  rintro e w1 ⟨s, F, rfl, hs, h1⟩
  obtain ⟨S, φ, hS, hR, rfl⟩ := hs
  have hN : NoFiles w1 s := ⟨_, S, hS, by have := hR.dir; simpa using this⟩
  have HN := Go.Lib.hid hN
  have H1 := Go.Lib.hid h1
  clear hS hR hN h1
  unfold ptr
  go_wp2_with fail
  refine (run_nil _ _).mono ?_
  rintro e w2 ⟨rfl, h2⟩
  have HN2 := Go.Lib.hid ((HN.out.quiet h2).quiet ((Chg.refl NoB w2).alloc (.cells #[.int .i64 0, .int .u32 0, .int .i64 0, .bool false] 31)))
  have H2 := Go.Lib.hid ((H1.out.trans h2).alloc (.cells #[.int .i64 0, .int .u32 0, .int .i64 0, .bool false] 31))
  clear h2
  unfold endZ
  go_wp2_with fail
  have R3 := run_snil HN2.out 1
  unfold ptr at R3
  have HR3 := Go.Lib.hid R3
  clear R3
  refine HR3.out.mono ?_
  rintro e w3 ⟨rfl, h3⟩
  have HN3 := Go.Lib.hid ((HN2.out.quiet h3).quiet ((Chg.refl NoB w3).alloc (.cells #[.int .i64 0, .int .u32 0, .int .i64 0, .bool false] 31)))
  have H3 := Go.Lib.hid ((H2.out.trans h3).alloc (.cells #[.int .i64 0, .int .u32 0, .int .i64 0, .bool false] 31))
  clear h3 HR3
  unfold endZ
  go_wp2_with fail
  have R4 := run_arg HN3.out
  unfold ptr at R4
  have HR4 := Go.Lib.hid R4
  clear R4
  refine HR4.out.mono ?_
  rintro e w4 ⟨rfl, h4⟩
  have HN4 := Go.Lib.hid ((HN3.out.quiet h4).quiet ((Chg.refl NoB w4).alloc (.cells #[.int .i64 0, .int .u32 0, .int .i64 0, .bool false] 31)))
  have H4 := Go.Lib.hid ((H3.out.trans h4).alloc (.cells #[.int .i64 0, .int .u32 0, .int .i64 0, .bool false] 31))
  clear h4 HR4
  unfold endZ
  go_wp2_with fail
  have R5 := run_none HN4.out
  unfold ptr at R5
  have HR5 := Go.Lib.hid R5
  clear R5
  refine HR5.out.mono ?_
  rintro e w5 ⟨rfl, h5⟩
  have H5 := Go.Lib.hid ((H4.out.trans h5).alloc (.cells #[.int .i64 0, .int .u32 0, .int .i64 0, .bool false] 31))
  clear h5 HR5
  unfold endZ
  go_wp2_with fail
  refine (step_nil _).mono ?_
  rintro e w6 ⟨rfl, h6⟩
  have H6 := Go.Lib.hid (H5.out.trans h6)
  clear h6
  go_wp2_with fail
  refine (known_c _).mono ?_
  rintro e w7 ⟨rfl, rfl⟩
  go_wp2_with fail
  go_ret
  exact ⟨rfl, H6.out⟩
end
end Go.Proofs.YtndblfmdlckiaaaGreat
