/- What is proved: what stands between two places of Scan, and the code of its switch. Conditions: none. -/
import Derived.Test.YtcmeciekadepjaaScanB
import Derived.Test.YtcmeciekadepjaaTake
import Derived.Deep.DeepCutAuto
import Derived.Deep.CutBlock
namespace Go.Proofs.Ytcmeciekadepjaa
open Go.RowKit
theorem SI.start (t nm : ByteArray) (w w5 : World) (g' c' : Nat) (hown : w5.ownsRow (w.heap.size + 1) CT 1 (.slice (some ⟨g', 0, none⟩) 57 c') 57 (wordsB.map Value.string ++ outsB.map Value.string))
    (hg : (((w.alloc (.cells #[.slice none 0 0, .slice none 0 0, .int .i64 0, .int .i64 0] RT)).alloc (.cells (wordsB.map Value.string).toArray CT)).alloc (.cells (outsB.map Value.string).toArray CT)).grownBy w5 (some (w.heap.size + 1))) :
    SI t nm w w5.heap.size 0 57 (.slice none 0 0) g' c' baseB [] (w5.alloc (.cells #[.slice none 0 0, .slice (some ⟨g', 0, none⟩) 57 c', .int .i64 0, .int .i64 0] RT)) := by
  have hs : w.heap.size < w5.heap.size := by have := hg.size; simp at this; omega
  have h0 : Blk (((w.alloc (.cells #[.slice none 0 0, .slice none 0 0, .int .i64 0, .int .i64 0] RT)).alloc (.cells (wordsB.map Value.string).toArray CT)).alloc (.cells (outsB.map Value.string).toArray CT)) w.heap.size RT #[.slice none 0 0, .slice none 0 0, .int .i64 0, .int .i64 0] := ((Blk.new _ _ _).alloc _).alloc _
  refine ⟨(((((Chg.refl _ _).alloc _).alloc _).alloc _).grown hg fun k e hk => by injection e with e; omega).alloc _, hs, Blk.new _ _ _, (h0.grown hg (by simp)).alloc _, World.ownsRow_nil _ _ _ _, ?_, rfl, by omega⟩
  have : baseB.map Value.string = wordsB.map Value.string ++ outsB.map Value.string := by unfold baseB; rw [List.map_append]
  rw [this]
  exact own_chg hown ((Chg.refl NoB w5).alloc _) fun _ _ => id
theorem bytes_text {W : World} {g : Nat} {t : ByteArray} (h : TextAt W g t) : Lib.Bytes W g 0 t := by
  intro q hq
  rw [Nat.zero_add, h q hq]
  unfold bt
  rw [if_pos (by omega)]
  simp [List.getElem?_eq_getElem, hq]
  rfl
/-- the stores into a symbol's cells 0 and k -/
theorem name_facts {U : World} {xb : Nat} {x0 x1 x2 x3 x4 : Value} (h : Blk U xb YT #[x0, x1, x2, x3, x4]) (u0 u3 : Value) :
    (U.cell? ⟨xb, 0, none⟩ = some x0 ∧ U.frozen? ⟨xb, 0, none⟩ = false) ∧ ((U.setCell ⟨xb, 0, none⟩ u0).cell? ⟨xb, 3, none⟩ = some x3 ∧ (U.setCell ⟨xb, 0, none⟩ u0).frozen? ⟨xb, 3, none⟩ = false) ∧
    Blk ((U.setCell ⟨xb, 0, none⟩ u0).setCell ⟨xb, 3, none⟩ u3) xb YT #[u0, x1, x2, u3, x4] := by
  have B1 := h.set_ 0 u0
  have B2 := B1.set_ 3 u3
  exact ⟨⟨h.cell 0, h.frozen 0⟩, ⟨B1.cell 3, B1.frozen 3⟩, B2⟩
theorem num_facts {U : World} {xb : Nat} {x0 x1 x2 x3 x4 : Value} (h : Blk U xb YT #[x0, x1, x2, x3, x4]) (u0 u2 : Value) :
    (U.cell? ⟨xb, 0, none⟩ = some x0 ∧ U.frozen? ⟨xb, 0, none⟩ = false) ∧ ((U.setCell ⟨xb, 0, none⟩ u0).cell? ⟨xb, 2, none⟩ = some x2 ∧ (U.setCell ⟨xb, 0, none⟩ u0).frozen? ⟨xb, 2, none⟩ = false) ∧
    Blk ((U.setCell ⟨xb, 0, none⟩ u0).setCell ⟨xb, 2, none⟩ u2) xb YT #[u0, x1, u2, x3, x4] := by
  have B1 := h.set_ 0 u0
  have B2 := B1.set_ 2 u2
  exact ⟨⟨h.cell 0, h.frozen 0⟩, ⟨B1.cell 2, B1.frozen 2⟩, B2⟩
/-- what is told behind the switch: the symbol stands in its block -/
def Mid (t nm : ByteArray) (w : World) (bx n : Nat) (v1 : Value) (cs : List Value) (xb j : Nat) (v4 : Value) (W : World) : Prop :=
  ∃ (nl i g2 c2 : Nat) (names : List ByteArray) (a b q d : Int) (s : ByteArray), v4 = .int .i64 i ∧ j < i ∧ i ≤ t.size ∧ SI t nm w bx n nl v1 g2 c2 names cs W ∧
    Blk W xb YT #[.int .i64 a, .int .i64 b, .int .i32 q, .int .i64 d, .string s] ∧ PI nm (n + 1) i names (cs ++ [.int .i64 a, .int .i64 b, .int .i32 q, .int .i64 d, .string s])
theorem ret_done {a : Act} {W : World} {b : Nat} {v1 v2 v3 v4 : Value} {R : Ending → World → Prop} (hb : Blk W b RT #[v1, v2, v3, v4]) (hp : a.tmps.getD 2 undef = .pointer (some ⟨b, 0, none⟩)) (hd : a.defers = []) (hR : R (.returned (.agg #[v1, v2, v3, v4])) W) : bodyPost Try.prog Try.f7 R .ret a W :=
  bodyPost_ret (results_cell_row rfl _ _ b RT _ _ _ hp hb Try.underlying29 rfl rfl) hd hR
def blk2 : Code → Option Code
  | .block n c => if n = 2 then some (.block n c) else blk2 c
  | .loop c => blk2 c
  | .seq a b => match blk2 a with
    | some c => some c
    | none => blk2 b
  | .scope c => blk2 c
  | .cond _ a b => match blk2 a with
    | some c => some c
    | none => blk2 b
  | _ => none
noncomputable def swC : Code := ((Try.f7.body).bind blk2).getD .skip
end Go.Proofs.Ytcmeciekadepjaa
