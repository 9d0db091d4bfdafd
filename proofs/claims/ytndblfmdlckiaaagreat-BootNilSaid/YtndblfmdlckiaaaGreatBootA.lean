/- What is proved: what boot's Run, link's Link and Load answer of stores that are not there, or that hold no file. Conditions: as each theorem says. -/
import Derived.Test.YtndblfmdlckiaaaGreatCpD
import Derived.Test.YtndblfmdlckiaaaGreatNo
import Derived.Test.YtndblfmdlckiaaaGreatStoreS
import Derived.Test.YtndblfmdlckiaaaGreatStoreX0
import Derived.Test.YtndblfmdlckiaaaGreatObjName
namespace Go.Proofs.YtndblfmdlckiaaaGreat
open Go.RowKit
/-- a store without files -/
def NoFiles (w : World) (s : Nat) : Prop := ∃ base S, StoreAt base w s S ∧ S.dir = []
section
variable {w : World} {s : Nat}
theorem NoFiles.quiet {w' : World} (h : NoFiles w s) (hc : Chg NoB w w') : NoFiles w' s := by
  obtain ⟨b, S, h1, h2⟩ := h
  exact ⟨b, S, h1.chg hc (fun _ _ => id), h2⟩
theorem copy_q (h : NoFiles w s) : Calls Tryz.prog 8 #[ptr s] w fun e w' => ∃ c, e = .returned (ptr c) ∧ Chg NoB w w' := by
  obtain ⟨b, S, h1, _⟩ := h
  refine (copy_c h1).mono fun e w' hp => ?_
  obtain ⟨c, ov, om, S', l, D, he, hi, _⟩ := hp
  exact ⟨c, he, hi.chg⟩
theorem drop_q (h : NoFiles w s) : Calls Tryz.prog 16 #[ptr s, .string ⟨#[]⟩] w (Quiet (.int .i64 2) w) := by
  obtain ⟨b, S, h1, _⟩ := h
  exact drop_no h1 (by decide) (.inl ⟨by decide +kernel, rfl⟩)
def nmMain : ByteArray := ⟨#[77, 97, 105, 110]⟩
def nmMainO : ByteArray := ⟨#[77, 97, 105, 110, 46, 111]⟩
theorem main_ok : objName nmMain = true := by decide +kernel
theorem mainO_ok : mayName nmMainO = true := by decide +kernel
theorem getNo_q (h : NoFiles w s) : Calls Tryz.prog 17 #[ptr s, .string nmMainO] w (Quiet (.tuple #[.slice none 0 0, .int .i64 6]) w) := by
  obtain ⟨b, S, h1, h2⟩ := h
  exact get_no h1 (by decide) (.inr ⟨mainO_ok, by rw [h2]; rfl, rfl⟩)
theorem blk8 {W : World} {g : Nat} {T : TypeId} {v0 v1 v2 v3 v4 v5 v6 v7 : Value} (h : Blk W g T #[v0, v1, v2, v3, v4, v5, v6, v7]) :
    (W.cell? ⟨g, 0, none⟩ = some v0 ∧ W.cell? ⟨g, 1, none⟩ = some v1 ∧ W.cell? ⟨g, 2, none⟩ = some v2 ∧ W.cell? ⟨g, 3, none⟩ = some v3 ∧ W.cell? ⟨g, 4, none⟩ = some v4 ∧ W.cell? ⟨g, 5, none⟩ = some v5 ∧ W.cell? ⟨g, 6, none⟩ = some v6 ∧ W.cell? ⟨g, 7, none⟩ = some v7) ∧
    (W.frozen? ⟨g, 0, none⟩ = false ∧ W.frozen? ⟨g, 1, none⟩ = false ∧ W.frozen? ⟨g, 2, none⟩ = false ∧ W.frozen? ⟨g, 3, none⟩ = false ∧ W.frozen? ⟨g, 4, none⟩ = false ∧ W.frozen? ⟨g, 5, none⟩ = false ∧ W.frozen? ⟨g, 6, none⟩ = false ∧ W.frozen? ⟨g, 7, none⟩ = false) :=
  ⟨⟨h.cell 0, h.cell 1, h.cell 2, h.cell 3, h.cell 4, h.cell 5, h.cell 6, h.cell 7⟩, h.frozen 0, h.frozen 1, h.frozen 2, h.frozen 3, h.frozen 4, h.frozen 5, h.frozen 6, h.frozen 7⟩
theorem set8 {W : World} {g : Nat} {T : TypeId} {u0 u1 u2 u3 u4 u5 u6 u7 : Value} (v0 v1 v2 v3 v4 v5 v6 v7 : Value) (h : Blk W g T #[u0, u1, u2, u3, u4, u5, u6, u7]) :
    Blk ((((((((W.setCell ⟨g, 0, none⟩ v0).setCell ⟨g, 1, none⟩ v1).setCell ⟨g, 2, none⟩ v2).setCell ⟨g, 3, none⟩ v3).setCell ⟨g, 4, none⟩ v4).setCell ⟨g, 5, none⟩ v5).setCell ⟨g, 6, none⟩ v6).setCell ⟨g, 7, none⟩ v7) g T #[v0, v1, v2, v3, v4, v5, v6, v7] := by
  have h0 : Blk (W.setCell ⟨g, 0, none⟩ v0) g T #[v0, u1, u2, u3, u4, u5, u6, u7] := by simpa using h.set_ 0 v0
  have h1 : Blk ((W.setCell ⟨g, 0, none⟩ v0).setCell ⟨g, 1, none⟩ v1) g T #[v0, v1, u2, u3, u4, u5, u6, u7] := by simpa using h0.set_ 1 v1
  have h2 : Blk (((W.setCell ⟨g, 0, none⟩ v0).setCell ⟨g, 1, none⟩ v1).setCell ⟨g, 2, none⟩ v2) g T #[v0, v1, v2, u3, u4, u5, u6, u7] := by simpa using h1.set_ 2 v2
  have h3 : Blk ((((W.setCell ⟨g, 0, none⟩ v0).setCell ⟨g, 1, none⟩ v1).setCell ⟨g, 2, none⟩ v2).setCell ⟨g, 3, none⟩ v3) g T #[v0, v1, v2, v3, u4, u5, u6, u7] := by simpa using h2.set_ 3 v3
  have h4 : Blk (((((W.setCell ⟨g, 0, none⟩ v0).setCell ⟨g, 1, none⟩ v1).setCell ⟨g, 2, none⟩ v2).setCell ⟨g, 3, none⟩ v3).setCell ⟨g, 4, none⟩ v4) g T #[v0, v1, v2, v3, v4, u5, u6, u7] := by simpa using h3.set_ 4 v4
  have h5 : Blk ((((((W.setCell ⟨g, 0, none⟩ v0).setCell ⟨g, 1, none⟩ v1).setCell ⟨g, 2, none⟩ v2).setCell ⟨g, 3, none⟩ v3).setCell ⟨g, 4, none⟩ v4).setCell ⟨g, 5, none⟩ v5) g T #[v0, v1, v2, v3, v4, v5, u6, u7] := by simpa using h4.set_ 5 v5
  have h6 : Blk (((((((W.setCell ⟨g, 0, none⟩ v0).setCell ⟨g, 1, none⟩ v1).setCell ⟨g, 2, none⟩ v2).setCell ⟨g, 3, none⟩ v3).setCell ⟨g, 4, none⟩ v4).setCell ⟨g, 5, none⟩ v5).setCell ⟨g, 6, none⟩ v6) g T #[v0, v1, v2, v3, v4, v5, v6, u7] := by simpa using h5.set_ 6 v6
  have h7 : Blk ((((((((W.setCell ⟨g, 0, none⟩ v0).setCell ⟨g, 1, none⟩ v1).setCell ⟨g, 2, none⟩ v2).setCell ⟨g, 3, none⟩ v3).setCell ⟨g, 4, none⟩ v4).setCell ⟨g, 5, none⟩ v5).setCell ⟨g, 6, none⟩ v6).setCell ⟨g, 7, none⟩ v7) g T #[v0, v1, v2, v3, v4, v5, v6, v7] := by simpa using h6.set_ 7 v7
  exact h7
theorem set8_chg {F : Nat → Prop} {w0 W : World} {g : Nat} (v0 v1 v2 v3 v4 v5 v6 v7 : Value) (h : Chg F w0 W) (hF : g < w0.heap.size → F g) :
    Chg F w0 ((((((((W.setCell ⟨g, 0, none⟩ v0).setCell ⟨g, 1, none⟩ v1).setCell ⟨g, 2, none⟩ v2).setCell ⟨g, 3, none⟩ v3).setCell ⟨g, 4, none⟩ v4).setCell ⟨g, 5, none⟩ v5).setCell ⟨g, 6, none⟩ v6).setCell ⟨g, 7, none⟩ v7) :=
  (((((((h.setCell (p := ⟨g, 0, none⟩) hF v0).setCell (p := ⟨g, 1, none⟩) hF v1).setCell (p := ⟨g, 2, none⟩) hF v2).setCell (p := ⟨g, 3, none⟩) hF v3).setCell (p := ⟨g, 4, none⟩) hF v4).setCell (p := ⟨g, 5, none⟩) hF v5).setCell (p := ⟨g, 6, none⟩) hF v6).setCell (p := ⟨g, 7, none⟩) hF v7
/-- an object that is none -/
def objZ : Value := .agg #[.string ⟨#[]⟩, .int .u32 0, .slice none 0 0, .int .i64 0, .slice none 0 0, .slice none 0 0, .slice none 0 0, .slice none 0 0]
def endZ : Value := .agg #[.int .i64 0, .int .u32 0, .int .i64 0, .bool false]
def imgZ : Value := .agg #[.slice none 0 0, .slice none 0 0]
set_option maxHeartbeats 1000000 in
/-- no file: no object -/
theorem load_none (h : NoFiles w s) : Calls Tryz.prog 57 #[ptr s, .string nmMain] w (Quiet (.tuple #[objZ, .int .i64 6]) w) := by
  have Hm : Hid (∀ W, Calls Tryz.prog 109 #[.string nmMain] W fun e w' => e = .returned (.bool true) ∧ W = w') := Go.Lib.hid fun W => main_ok ▸ objName_c nmMain (by decide) W
  have Hf : Hid (∀ W, Calls Tryz.prog 50 #[.string nmMain] W fun e w' => e = .returned (.string nmMainO) ∧ W = w') := Go.Lib.hid fun W => objFile_c nmMain (by decide) W
  have HK := Go.Lib.hid h
  have Hd : Hid (∀ W, Chg NoB w W → Calls Tryz.prog 16 #[ptr s, .string ⟨#[]⟩] W (Quiet (.int .i64 2) W)) := Go.Lib.hid fun W hW => drop_q (h.quiet hW)
  have Hg : Hid (∀ W, Chg NoB w W → Calls Tryz.prog 17 #[ptr s, .string nmMainO] W (Quiet (.tuple #[.slice none 0 0, .int .i64 6]) W)) := Go.Lib.hid fun W hW => getNo_q (h.quiet hW)
  clear h
  have HB := Go.Lib.hid (Blk.new w 91 #[.string ⟨#[]⟩, .int .u32 0, .slice none 0 0, .int .i64 0, .slice none 0 0, .slice none 0 0, .slice none 0 0, .slice none 0 0])
  unfold ptr at Hd Hg ⊢
  go_enter Tryz.func57, Tryz.ntmps57
  go_wp2_with fail
  refine (Hd.out _ ((Chg.refl NoB w).alloc _)).mono ?_
  rintro e w1 ⟨rfl, h1⟩
  have H1 := Go.Lib.hid (((Chg.refl NoB w).alloc _).trans h1)
  have HB1 := Go.Lib.hid (HB.out.chg h1 id)
  clear h1
  go_wp2_with fail
  refine (Hm.out _).mono ?_
  rintro e w2 ⟨rfl, rfl⟩
  go_wp2_with fail
  refine (Hf.out _).mono ?_
  rintro e w2 ⟨rfl, rfl⟩
  go_wp2_with fail
  refine (Hg.out _ H1.out).mono ?_
  rintro e w3 ⟨rfl, h3⟩
  have H3 := Go.Lib.hid (H1.out.trans h3)
  have HB3 := Go.Lib.hid (HB1.out.chg h3 id)
  clear h3
  obtain ⟨⟨c0, c1, c2, c3, c4, c5, c6, c7⟩, z0, z1, z2, z3, z4, z5, z6, z7⟩ := blk8 HB3.out
  go_wp2_with fail
  clear c0 c1 c2 c3 c4 c5 c6 c7 z0 z1 z2 z3 z4 z5 z6 z7
  have HB4 := set8 (.string ⟨#[]⟩) (.int .u32 0) (.slice none 0 0) (.int .i64 0) (.slice none 0 0) (.slice none 0 0) (.slice none 0 0) (.slice none 0 0) HB3.out
  have HC4 := set8_chg (g := w.heap.size) (.string ⟨#[]⟩) (.int .u32 0) (.slice none 0 0) (.int .i64 0) (.slice none 0 0) (.slice none 0 0) (.slice none 0 0) (.slice none 0 0) H3.out (fun h => by omega)
  generalize ((((((((w3.setCell ⟨w.heap.size, 0, none⟩ _).setCell ⟨w.heap.size, 1, none⟩ _).setCell ⟨w.heap.size, 2, none⟩ _).setCell ⟨w.heap.size, 3, none⟩ _).setCell ⟨w.heap.size, 4, none⟩ _).setCell ⟨w.heap.size, 5, none⟩ _).setCell ⟨w.heap.size, 6, none⟩ _).setCell ⟨w.heap.size, 7, none⟩ _) = W4 at *
  obtain ⟨⟨c0, c1, c2, c3, c4, c5, c6, c7⟩, _⟩ := blk8 HB4
  refine bodyPost_ret (v := .tuple #[objZ, .int .i64 6]) ?_ rfl ⟨rfl, HC4⟩
  simp [results, Tryz.results57, go_sem, c0, c1, c2, c3, c4, c5, c6, c7, objZ]
end
end Go.Proofs.YtndblfmdlckiaaaGreat
