/- What is proved: a machine in memory, and what looks at it. Conditions: as each theorem says. -/
import Derived.Test.YtggknljlibhkjaaMcG
import Derived.Deep.MidRow
import Derived.Lib.EndianBits
namespace Go.Proofs.Ytggknljlibhkjaa
open Go Go.RowKit
/-- a memory's cells -/
def memArr (n : Nat) (M : Nat → Int) : Array Value := ((List.range n).map fun i => Value.int .u8 (M i)).toArray
theorem memArr_size (n : Nat) (M : Nat → Int) : (memArr n M).size = n := by simp [memArr]
theorem memArr_get {n : Nat} (M : Nat → Int) {i : Nat} (h : i < n) : (memArr n M)[i]? = some (.int .u8 (M i)) := by simp [memArr, h]
theorem memArr_set {n : Nat} (M : Nat → Int) (i : Nat) (x : Int) : (memArr n M).setIfInBounds i (.int .u8 x) = memArr n (upd M i x) := by
  apply Array.ext_getElem?
  intro j
  rw [Array.getElem?_setIfInBounds]
  simp only [memArr_size]
  by_cases hj : j < n
  · rw [memArr_get _ hj]
    by_cases e : i = j
    · subst e; rw [memArr_get _ hj]; simp [hj, upd]
    · rw [if_neg e, memArr_get _ hj]; simp [upd, Ne.symm e]
  · have h1 : (memArr n (upd M i x))[j]? = none := Array.getElem?_eq_none (by rw [memArr_size]; omega)
    have h2 : (memArr n M)[j]? = none := Array.getElem?_eq_none (by rw [memArr_size]; omega)
    rw [h1]
    split
    · rename_i e; subst e; rw [if_neg hj]
    · exact h2
theorem memArr_one (n : Nat) (M : Nat → Int) : ∀ v ∈ (memArr n M).toList, v.oneCell' = true := by
  intro v hv
  simp only [memArr, List.mem_map] at hv
  obtain ⟨i, _, rfl⟩ := hv
  rfl
/-- a machine -/
structure Mc where
  c : Cp
  n : Nat
  M : Nat → Int
  heap : Nat
  kind : Int
  code : Int
structure Mc.Ok (d : Mc) : Prop where
  c : d.c.Ok
  m : ∀ i, 0 ≤ d.M i ∧ d.M i < 256
  n : 64 ≤ d.n ∧ d.n ≤ 16777216 ∧ d.n % 4 = 0
  heap : d.heap < 4294967296
def codeL : List (Int × FuncId) := [(16, 25), (17, 26), (18, 27), (19, 28), (20, 29), (21, 30), (22, 31), (23, 32), (24, 33), (25, 34), (26, 35), (27, 36), (28, 37)]
def codeEs : Array MapEntry := (codeL.zipIdx.map fun x => (⟨.int .i64 x.1.1, .func (.func x.1.2) #[] #[], x.2⟩ : MapEntry)).toArray
abbrev MT : TypeId := 65
abbrev U8 : TypeId := 5
def Mc.arr (d : Mc) (mb s mm : Nat) : Array Value := d.c.arr ++ #[.slice (some ⟨mb, 0, none⟩) d.n d.n, .int .u32 d.heap, .pointer (some ⟨s, 0, none⟩), .int .i64 d.kind, .int .u32 d.code, .map (some mm)]
structure MAt (W : World) (p mb s mm : Nat) (d : Mc) : Prop where
  m : Blk W p MT (d.arr mb s mm)
  b : Blk W mb U8 (memArr d.n d.M)
  code : W.heap[mm]? = some (.map codeEs 13)
theorem arr_front (d : Mc) (mb s mm : Nat) {i : Nat} (h : i < 22) : (d.arr mb s mm)[i]? = d.c.arr[i]? := by
  unfold Mc.arr
  rw [Array.getElem?_append_left (by exact h)]
theorem Cp.size (c : Cp) : c.arr.size = 22 := rfl
section
variable {W W' : World} {p mb s mm : Nat} {d : Mc} {F : Nat → Prop}
theorem MAt.cells (h : MAt W p mb s mm d) : W.cell? ⟨p, 21, none⟩ = some (.int .u32 d.c.pc) ∧ W.cell? ⟨p, 22, none⟩ = some (.slice (some ⟨mb, 0, none⟩) d.n d.n) ∧ W.cell? ⟨p, 23, none⟩ = some (.int .u32 d.heap) ∧ W.cell? ⟨p, 24, none⟩ = some (.pointer (some ⟨s, 0, none⟩)) ∧ W.cell? ⟨p, 25, none⟩ = some (.int .i64 d.kind) ∧ W.cell? ⟨p, 26, none⟩ = some (.int .u32 d.code) ∧ W.cell? ⟨p, 27, none⟩ = some (.map (some mm)) :=
  ⟨h.m.cell 21, h.m.cell 22, h.m.cell 23, h.m.cell 24, h.m.cell 25, h.m.cell 26, h.m.cell 27⟩
theorem MAt.reg (h : MAt W p mb s mm d) {i : Nat} (hi : i < 16) : W.cell? ⟨p, i, none⟩ = some (.int .u32 (d.c.R i)) := by
  rw [h.m.cell i, arr_front d _ _ _ (by omega)]; exact d.c.reg hi
theorem MAt.byte (h : MAt W p mb s mm d) {i : Nat} (hi : i < d.n) : W.cell? ⟨mb, i, none⟩ = some (.int .u8 (d.M i)) := by rw [h.b.cell i, memArr_get _ hi]
theorem MAt.chg (h : MAt W p mb s mm d) (hc : Chg F W W') (h1 : ¬ F p) (h2 : ¬ F mb) (h3 : ¬ F mm) : MAt W' p mb s mm d :=
  ⟨h.m.chg hc h1, h.b.chg hc h2, (hc.block mm (Array.getElem?_eq_some_iff.1 h.code).1 h3).trans h.code⟩
theorem MAt.quiet (h : MAt W p mb s mm d) (hc : Chg NoB W W') : MAt W' p mb s mm d := h.chg hc id id id
theorem MAt.ne (h : MAt W p mb s mm d) : p ≠ mb ∧ mm ≠ p ∧ mm ≠ mb := by
  refine ⟨h.m.ne_ h.b (by decide), ?_, ?_⟩
  · rintro rfl; have := h.code; rw [show W.heap[mm]? = _ from h.m] at this; cases this
  · rintro rfl; have := h.code; rw [show W.heap[mm]? = _ from h.b] at this; cases this
theorem MAt.lt (h : MAt W p mb s mm d) : p < W.heap.size ∧ mb < W.heap.size ∧ mm < W.heap.size := ⟨h.m.lt, h.b.lt, (Array.getElem?_eq_some_iff.1 h.code).1⟩
theorem MAt.cpRange (h : MAt W p mb s mm d) : W.rangeAt p 0 d.c.arr.toList := fun j v hv => by
  have hj : j < 22 := (List.getElem?_eq_some_iff.1 hv).1
  rw [Nat.zero_add, h.m.cell j, arr_front d _ _ _ hj]
  simpa using hv
def memF (p mb : Nat) (k : Nat) : Prop := k = p ∨ k = mb
/-- a byte of memory is set -/
theorem MAt.setByte (h : MAt W p mb s mm d) (i : Nat) (x : Int) : MAt (W.setCell ⟨mb, i, none⟩ (.int .u8 x)) p mb s mm { d with M := upd d.M i x } :=
  ⟨h.m.far h.ne.1 _, by rw [← memArr_set]; exact h.b.set_ i _, (Below.heap_setCell _ _ _ _ h.ne.2.2).trans h.code⟩
theorem arr_heap (d : Mc) (mb s mm : Nat) (x : Nat) : (d.arr mb s mm).setIfInBounds 23 (.int .u32 x) = ({ d with heap := x } : Mc).arr mb s mm := rfl
theorem arr_kind (d : Mc) (mb s mm : Nat) (x : Int) : (d.arr mb s mm).setIfInBounds 25 (.int .i64 x) = ({ d with kind := x } : Mc).arr mb s mm := rfl
theorem arr_code (d : Mc) (mb s mm : Nat) (x : Int) : (d.arr mb s mm).setIfInBounds 26 (.int .u32 x) = ({ d with code := x } : Mc).arr mb s mm := rfl
theorem MAt.setHeap (h : MAt W p mb s mm d) (x : Nat) : MAt (W.setCell ⟨p, 23, none⟩ (.int .u32 x)) p mb s mm { d with heap := x } :=
  ⟨by rw [← arr_heap]; exact h.m.set_ 23 _, h.b.far (Ne.symm h.ne.1) _, (Below.heap_setCell _ _ _ _ h.ne.2.1).trans h.code⟩
theorem MAt.setStop (h : MAt W p mb s mm d) (k x : Int) : MAt ((W.setCell ⟨p, 25, none⟩ (.int .i64 k)).setCell ⟨p, 26, none⟩ (.int .u32 x)) p mb s mm { d with kind := k, code := x } :=
  ⟨by rw [← arr_code { d with kind := k }, ← arr_kind]; exact (h.m.set_ 25 _).set_ 26 _, (h.b.far (Ne.symm h.ne.1) _).far (Ne.symm h.ne.1) _, (Below.heap_setCell _ _ _ _ h.ne.2.1).trans ((Below.heap_setCell _ _ _ _ h.ne.2.1).trans h.code)⟩
theorem setCells_blk {g : Nat} {t : TypeId} : ∀ (vs : List Value) (o : Nat) (W : World) (cs : Array Value), Blk W g t cs → o + vs.length ≤ cs.size → Blk (W.setCells g o vs) g t (cs.toList.take o ++ vs ++ cs.toList.drop (o + vs.length)).toArray
  | [], o, W, cs, h, _ => by
    have : (cs.toList.take o ++ [] ++ cs.toList.drop (o + ([] : List Value).length)).toArray = cs := by simp
    rw [this]; exact h
  | v :: r, o, W, cs, h, hl => by
    rw [World.setCells]
    have h1 := setCells_blk r (o + 1) _ _ (h.set_ o v) (by simp at hl ⊢; omega)
    have e := list_seg_step cs.toList o v r (by simp at hl ⊢; omega)
    simp only [Array.toList_setIfInBounds] at h1
    rw [show (o + (v :: r).length) = o + 1 + r.length by simp; omega]
    rw [show cs.toList.take o ++ v :: r ++ cs.toList.drop (o + 1 + r.length) = (cs.toList.set o v).take (o + 1) ++ r ++ (cs.toList.set o v).drop (o + 1 + r.length) by
      rw [show o + 1 + r.length = o + (r.length + 1) by omega] at e ⊢
      simpa using e.symm]
    exact h1
theorem setCells_chg {g : Nat} (hF : F g) : ∀ (vs : List Value) (o : Nat) (W' : World), Chg F W W' → Chg F W (W'.setCells g o vs)
  | [], _, _, h => h
  | v :: r, o, W', h => by rw [World.setCells]; exact setCells_chg hF r (o + 1) _ (h.setCell (p := ⟨g, o, none⟩) (fun _ => hF) v)
theorem setCells_far {g k : Nat} (hk : k ≠ g) : ∀ (vs : List Value) (o : Nat) (W : World), (W.setCells g o vs).heap[k]? = W.heap[k]?
  | [], _, _ => rfl
  | v :: r, o, W => by rw [World.setCells, setCells_far hk r (o + 1) _]; exact Below.heap_setCell _ ⟨g, o, none⟩ v k hk
/-- the processor is set -/
theorem MAt.setCpu (h : MAt W p mb s mm d) (c : Cp) : MAt (W.setCells p 0 c.arr.toList) p mb s mm { d with c := c } :=
  ⟨by
    have := setCells_blk c.arr.toList 0 W _ h.m (by show 0 + 22 ≤ 28; omega)
    exact this, (setCells_far (Ne.symm h.ne.1) _ _ _).trans h.b, (setCells_far h.ne.2.1 _ _ _).trans h.code⟩
end
end Go.Proofs.Ytggknljlibhkjaa
