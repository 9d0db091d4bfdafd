/- What is proved: once, and nothing, of a store that is not there. Conditions: as each theorem says. -/
import Derived.Test.YtebcomijknffmaaFiR
import Derived.Test.YtebcomijknffmaaStoreX
namespace Go.Proofs.Ytebcomijknffmaa
open Go.RowKit Go.Shelf
attribute [local go_sem] Oper.semAt_some
section
variable {w : World} {sv : Value}
theorem leave_once0 {D g : Nat} {wF : World} {tmps : Array Value} {bb : Bool} (hK : wF.heap[D]? = some (.deferred (some []))) (hc : wF.cell? ⟨g, 0, none⟩ = some (.bool bb)) (hp : tmps.getD 6 undef = .pointer (some ⟨g, 0, none⟩)) (hw : Chg NoB w wF) (hD : w.heap.size ≤ D) :
    bodyPostM Fence.wide 9 Try.prog Try.f54 (Quiet (.bool bb) w) .ret { tmps := tmps, defers := [{ target := .collected D, args := #[] }] } wF := by
  refine ⟨by simp, .inl ⟨_, _, rfl, run_takeDeferred hK, ?_⟩⟩
  exact ⟨_, results_bool rfl _ hp (cell_kept hc (grownBy_putObj' _ D _) (fun r e => by cases e; exact ⟨_, hK, rfl⟩)), rfl, hw.grown (grownBy_putObj' _ D _) (fun k e hk => by cases e; omega)⟩
set_option maxRecDepth 100000 in
set_option maxHeartbeats 4000000 in
theorem once_no (h : Gone w sv) {r : Nat} (hr : Blk w r 56 #[.slice none 0 0, .slice none 0 0, .slice none 0 0, .int .i64 0]) :
    Calls Try.prog 54 #[sv, ptr r, .int .i64 0] w (Quiet (.bool true) w) := by
  have HF := Go.Lib.hid (fun (W : World) (hW : Chg NoB w W) => no_Files (h.quiet hW))
  have HR := Go.Lib.hid (fun (W : World) (hW : Chg NoB w W) => hr.chg hW id)
  have hrl := hr.lt
  clear h hr
  unfold ptr
  refine (callsIn_wide (n := 9)).1 (callsIn_of_wp_marks Try.func54 rfl trivial (wpIn_wide.2 ?_) rfl)
  simp only [Try.ntmps54, List.size_toArray, List.length_cons, List.length_nil, Nat.reduceAdd, Nat.reduceSub, Array.replicate_succ, Array.replicate_zero, List.push_toArray, List.append_toArray, List.nil_append, List.cons_append]
  go_wp2_with fail
  have hc0 : Chg NoB w ((((w.alloc (Obj.cells #[Value.pointer (some { block := r, off := 0 })] 51)).alloc (Obj.cells #[Value.int .i64 0] 3)).alloc (Obj.cells #[Value.bool false] 4)).alloc (Obj.cells #[Value.int .i64 0] 3)) := ((((Chg.refl NoB w).alloc _).alloc _).alloc _).alloc _
  have Hb : Hid (Blk ((((w.alloc (Obj.cells #[Value.pointer (some { block := r, off := 0 })] 51)).alloc (Obj.cells #[Value.int .i64 0] 3)).alloc (Obj.cells #[Value.bool false] 4)).alloc (Obj.cells #[Value.int .i64 0] 3)) w.heap.size 51 #[.pointer (some ⟨r, 0, none⟩)] ∧
      Blk ((((w.alloc (Obj.cells #[Value.pointer (some { block := r, off := 0 })] 51)).alloc (Obj.cells #[Value.int .i64 0] 3)).alloc (Obj.cells #[Value.bool false] 4)).alloc (Obj.cells #[Value.int .i64 0] 3)) (w.heap.size + 1 + 1) 4 #[.bool false] ∧
      Blk ((((w.alloc (Obj.cells #[Value.pointer (some { block := r, off := 0 })] 51)).alloc (Obj.cells #[Value.int .i64 0] 3)).alloc (Obj.cells #[Value.bool false] 4)).alloc (Obj.cells #[Value.int .i64 0] 3)) (w.heap.size + 1 + 1 + 1) 3 #[.int .i64 0]) := Go.Lib.hid (by
    refine ⟨(((Blk.new w _ _).alloc _).alloc _).alloc _, ?_, ?_⟩
    · have := (Blk.new ((w.alloc (Obj.cells #[Value.pointer (some { block := r, off := 0 })] 51)).alloc (Obj.cells #[Value.int .i64 0] 3)) 4 #[.bool false]).alloc (Obj.cells #[Value.int .i64 0] 3)
      simpa using this
    · have := Blk.new (((w.alloc (Obj.cells #[Value.pointer (some { block := r, off := 0 })] 51)).alloc (Obj.cells #[Value.int .i64 0] 3)).alloc (Obj.cells #[Value.bool false] 4)) 3 #[.int .i64 0]
      simpa using this)
  refine (HF.out _ hc0).mono ?_
  rintro e w4 ⟨a, b, rfl, hFA, hc4⟩
  obtain ⟨A, c, B, d, hX⟩ := hFA.x
  have HX := Go.Lib.hid hX
  have HC : Hid (Chg NoB w w4) := Go.Lib.hid (hc0.trans hc4)
  have HB : Hid (Blk w4 w.heap.size 51 #[.pointer (some ⟨r, 0, none⟩)] ∧ Blk w4 (w.heap.size + 1 + 1) 4 #[.bool false] ∧ Blk w4 (w.heap.size + 1 + 1 + 1) 3 #[.int .i64 0]) := Go.Lib.hid ⟨Hb.out.1.chg hc4 id, Hb.out.2.1.chg hc4 id, Hb.out.2.2.chg hc4 id⟩
  have hs4 : w.heap.size + 1 + 1 + 1 < w4.heap.size := by have := HB.out.2.2.lt; exact this
  have hfn := fun (x : Array Value) (W : World) => run_eql_seq_nil (.func 73) #[] x W
  clear hFA hX hc0 hc4 Hb HF
  unfold ptr
  go_wp2_with fail
  clear hfn
  refine (wpIn_wide (n := 9)).1 (wpIn_rangeFunc_ownH (n := 9) rfl (by omega) (gf := 73) (lb := #[.pointer (some ⟨a, 0, none⟩), .pointer (some ⟨b, 0, none⟩)]) (encs := fun x : Fin ([] : List (ByteArray × Nat)).length => encF ([] : List (ByteArray × Nat))[x]) rfl trivial (enters_of Try.func73 (by kernel_rfl) rfl)
    (files_stops (9 - 1) HX.out (by simp))
    (fun h k hx => k (h hx)) (fun W l o o' _ ho hc _ hx => hx.put o' ho hc) (Below.refl _ _) (fun _ => rfl)
    (fun pre W => Chg NoB w4 W)
    (fun cde pre W => False)
    (fun pre A B row hs hg hr => hs.grown hg (fun k e hk => by have := (hr k e).1; omega))
    (fun cde pre A B row hs hg hr => hs.elim)
    (Chg.refl _ _)
    (fun x a' W => False)
    (fun x a' _ A B row hs hg hr => hs.elim)
    ?assign ?body ?done ?stop)
  case assign =>
    rintro l pre x W K hI hK
    exact x.elim0
  case body =>
    rintro l pre x a' W _ _ hI h0 hlt
    exact h0.elim
  case done =>
    rintro D ys W hD rfl hI hK
    have hb := HB.out
    have hC := HC.out.trans hI
    have c0 := (hb.1.chg hI id).cell 0
    have b2 := hb.2.1.chg hI id
    have c2 := b2.cell 0
    have z2 := b2.frozen 0
    have c3 := (hb.2.2.chg hI id).cell 0
    have cr := (HR.out _ hC).cell 1
    have d0 : W.drew.cell? ⟨w.heap.size, 0, none⟩ = some (.pointer (some ⟨r, 0, none⟩)) := c0
    have HC2 := Go.Lib.hid hC
    have HK := Go.Lib.hid hK
    have HB2 := Go.Lib.hid b2
    simp only [List.getElem?_toArray, List.getElem?_cons_zero, List.getElem?_cons_succ] at c0 c2 c3 cr
    clear hb hC hI hK b2
    go_wp2_with fail
    have hrs : w.heap.size ≠ r := by omega
    have HS : Hid (∀ W' : World, (∀ k, k ≠ w.heap.size + 1 + 1 → k < W.heap.size → W'.heap[k]? = W.heap[k]?) → W'.cell? ⟨w.heap.size, 0, none⟩ = some (.pointer (some ⟨r, 0, none⟩)) ∧ W'.cell? ⟨w.heap.size + 1 + 1 + 1, 0, none⟩ = some (.int .i64 0) ∧ W'.cell? ⟨r, 1, none⟩ = some (.slice none 0 0)) := Go.Lib.hid (fun W' hW' =>
      ⟨(World.cell?_of_block (hW' w.heap.size (by omega) (block_lt_of_cell c0))).trans c0, (World.cell?_of_block (hW' (w.heap.size + 1 + 1 + 1) (by omega) (block_lt_of_cell c3))).trans c3, (World.cell?_of_block (hW' r (by omega) (block_lt_of_cell cr))).trans cr⟩)
    set_option maxRecDepth 100000 in
    go_region_held3 (fun W' => W'.cell? ⟨w.heap.size, 0, none⟩ = some (.pointer (some ⟨r, 0, none⟩)) ∧ W'.cell? ⟨w.heap.size + 1 + 1 + 1, 0, none⟩ = some (.int .i64 0) ∧ W'.cell? ⟨r, 1, none⟩ = some (.slice none 0 0))
      (first
        | exact HS.out _ (fun k _ _ => rfl)
        | exact HS.out _ (fun k hk _ => Below.heap_setCell _ _ _ k (by simpa using hk)))
      (fail)
    have hE : Chg NoB w (W.drew.setCell ⟨w.heap.size + 1 + 1, 0, none⟩ (.bool true)) := HC2.out.drew.setCell (p := ⟨w.heap.size + 1 + 1, 0, none⟩) (fun h => by simp at h; omega) _
    have hB3 : Blk W.drew (w.heap.size + 1 + 1) 4 #[.bool false] := HB2.out
    have hB4 := hB3.set_ 0 (.bool true)
    have hK4 : (W.drew.setCell ⟨w.heap.size + 1 + 1, 0, none⟩ (.bool true)).heap[D]? = some (.deferred (some [])) := (Below.heap_setCell W.drew _ _ D (by simp; omega)).trans HK.out
    have HE := Go.Lib.hid hE
    have HK4 := Go.Lib.hid hK4
    have HC4 := Go.Lib.hid (hB4.cell 0)
    clear hE hB3 hB4 hK4 c0 c2 c3 cr d0 z2 HS
    go_wp2_with fail
    exact leave_once0 HK4.out HC4.out rfl HE.out (by omega)
  case stop =>
    rintro D cde pre W hD hSp h0 hK
    exact h0.elim
end
end Go.Proofs.Ytebcomijknffmaa
