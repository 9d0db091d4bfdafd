import Derived.Test.YtggknljlibhkjaaGreatMcG
import Derived.Deep.MidRow
import Derived.Lib.EndianBits
import Derived.Laws.Cover3
import Derived.Lib.SliceRun
set_option linter.unusedSimpArgs false
set_option linter.unusedVariables false
namespace Go.Proofs.YtggknljlibhkjaaGreat
open Go Go.RowKit
def memArr (n : Nat) (M : Nat → Int) : Array Value := ((List.range n).map fun i => Value.int .u8 (M i)).toArray
theorem memArr_size (n : Nat) (M : Nat → Int) : (memArr n M).size = n := by simp [memArr]
theorem memArr_get {n : Nat} (M : Nat → Int) {i : Nat} (h : i < n) : (memArr n M)[i]? = some (.int .u8 (M i)) := by simp [memArr, h]
theorem memArr_set {n : Nat} (M : Nat → Int) (i : Nat) (x : Int) : (memArr n M).setIfInBounds i (.int .u8 x) = memArr n (upd M i x) := by
 apply Array.ext_getElem?
 intro j
 rw [Array.getElem?_setIfInBounds]
 simp only [memArr_size]
 by_cases hj : j < n
 ·rw [memArr_get _ hj]
  by_cases e : i = j
  ·subst e; rw [memArr_get _ hj]; simp [hj, upd]
  ·rw [if_neg e, memArr_get _ hj]; simp [upd, Ne.symm e]
 ·have h1 : (memArr n (upd M i x))[j]? = none := Array.getElem?_eq_none (by rw [memArr_size]; omega)
  have h2 : (memArr n M)[j]? = none := Array.getElem?_eq_none (by rw [memArr_size]; omega)
  rw [h1]
  split
  ·rename_i e; subst e; rw [if_neg hj]
  ·exact h2
structure Mc where
 c : Cp
 n : Nat
 M : Nat → Int
 heap : Nat
 kind : Int
 code : Int
structure Mc.Ok (d : Mc) : Prop where
 c : d.c.Ok
 m : ∀ i, 0 ≤ d.M i ∧ d.M i < 256
 n : 64 ≤ d.n ∧ d.n ≤ 16777216 ∧ d.n % 4 = 0
 heap : d.heap < 4294967296
def codeL : List (Int × FuncId) := [(16, 60), (17, 61), (18, 62), (19, 63), (20, 64), (21, 65), (22, 66), (23, 67), (24, 68), (25, 69), (26, 70), (27, 71), (28, 72)]
def codeEs : Array MapEntry := (codeL.zipIdx.map fun x => (⟨.int .i64 x.1.1, .func (.func x.1.2) #[] #[], x.2⟩ : MapEntry)).toArray
abbrev MT : TypeId := 91
abbrev U8 : TypeId := 5
def Mc.arr (d : Mc) (mb s mm : Nat) : Array Value := d.c.arr ++ #[.slice (some ⟨mb, 0, none⟩) d.n d.n, .int .u32 d.heap, .pointer (some ⟨s, 0, none⟩), .int .i64 d.kind, .int .u32 d.code, .map (some mm)]
structure MAt (W : World) (p mb s mm : Nat) (d : Mc) : Prop where
 m : Blk W p MT (d.arr mb s mm)
 b : Blk W mb U8 (memArr d.n d.M)
 code : W.heap[mm]? = some (.map codeEs 13)
theorem arr_front (d : Mc) (mb s mm : Nat) {i : Nat} (h : i < 22) : (d.arr mb s mm)[i]? = d.c.arr[i]? := by
 unfold Mc.arr
 rw [Array.getElem?_append_left (by exact h)]
theorem Cp.size (c : Cp) : c.arr.size = 22 := rfl
section
variable {W W' : World} {p mb s mm : Nat} {d : Mc} {F : Nat → Prop}
theorem MAt.cells (h : MAt W p mb s mm d) : W.cell? ⟨p, 21, none⟩ = some (.int .u32 d.c.pc) ∧ W.cell? ⟨p, 22, none⟩ = some (.slice (some ⟨mb, 0, none⟩) d.n d.n) ∧ W.cell? ⟨p, 23, none⟩ = some (.int .u32 d.heap) ∧ W.cell? ⟨p, 24, none⟩ = some (.pointer (some ⟨s, 0, none⟩)) ∧ W.cell? ⟨p, 25, none⟩ = some (.int .i64 d.kind) ∧ W.cell? ⟨p, 26, none⟩ = some (.int .u32 d.code) ∧ W.cell? ⟨p, 27, none⟩ = some (.map (some mm)) :=
 ⟨h.m.cell 21, h.m.cell 22, h.m.cell 23, h.m.cell 24, h.m.cell 25, h.m.cell 26, h.m.cell 27⟩
theorem MAt.reg (h : MAt W p mb s mm d) {i : Nat} (hi : i < 16) : W.cell? ⟨p, i, none⟩ = some (.int .u32 (d.c.R i)) := by
 rw [h.m.cell i, arr_front d _ _ _ (by omega)]; exact d.c.reg hi
theorem MAt.byte (h : MAt W p mb s mm d) {i : Nat} (hi : i < d.n) : W.cell? ⟨mb, i, none⟩ = some (.int .u8 (d.M i)) := by rw [h.b.cell i, memArr_get _ hi]
theorem MAt.chg (h : MAt W p mb s mm d) (hc : Chg F W W') (h1 : ¬ F p) (h2 : ¬ F mb) (h3 : ¬ F mm) : MAt W' p mb s mm d :=
 ⟨h.m.chg hc h1, h.b.chg hc h2, (hc.block mm (Array.getElem?_eq_some_iff.1 h.code).1 h3).trans h.code⟩
theorem MAt.quiet (h : MAt W p mb s mm d) (hc : Chg NoB W W') : MAt W' p mb s mm d := h.chg hc id id id
theorem MAt.ne (h : MAt W p mb s mm d) : p ≠ mb ∧ mm ≠ p ∧ mm ≠ mb := by
 refine ⟨h.m.ne_ h.b (by decide), ?_, ?_⟩
 ·rintro rfl; have := h.code; rw [show W.heap[mm]? = _ from h.m] at this; cases this
 ·rintro rfl; have := h.code; rw [show W.heap[mm]? = _ from h.b] at this; cases this
theorem MAt.lt (h : MAt W p mb s mm d) : p < W.heap.size ∧ mb < W.heap.size ∧ mm < W.heap.size := ⟨h.m.lt, h.b.lt, (Array.getElem?_eq_some_iff.1 h.code).1⟩
theorem MAt.cpRange (h : MAt W p mb s mm d) : W.rangeAt p 0 d.c.arr.toList := fun j v hv => by
 have hj : j < 22 := (List.getElem?_eq_some_iff.1 hv).1
 rw [Nat.zero_add, h.m.cell j, arr_front d _ _ _ hj]
 simpa using hv
def memF (p mb : Nat) (k : Nat) : Prop := k = p ∨ k = mb
theorem MAt.setByte (h : MAt W p mb s mm d) (i : Nat) (x : Int) : MAt (W.setCell ⟨mb, i, none⟩ (.int .u8 x)) p mb s mm { d with M := upd d.M i x } :=
 ⟨h.m.far h.ne.1 _, by rw [← memArr_set]; exact h.b.set_ i _, (Below.heap_setCell _ _ _ _ h.ne.2.2).trans h.code⟩
theorem arr_heap (d : Mc) (mb s mm : Nat) (x : Nat) : (d.arr mb s mm).setIfInBounds 23 (.int .u32 x) = ({ d with heap := x } : Mc).arr mb s mm := rfl
theorem arr_kind (d : Mc) (mb s mm : Nat) (x : Int) : (d.arr mb s mm).setIfInBounds 25 (.int .i64 x) = ({ d with kind := x } : Mc).arr mb s mm := rfl
theorem arr_code (d : Mc) (mb s mm : Nat) (x : Int) : (d.arr mb s mm).setIfInBounds 26 (.int .u32 x) = ({ d with code := x } : Mc).arr mb s mm := rfl
theorem MAt.setHeap (h : MAt W p mb s mm d) (x : Nat) : MAt (W.setCell ⟨p, 23, none⟩ (.int .u32 x)) p mb s mm { d with heap := x } :=
 ⟨by rw [← arr_heap]; exact h.m.set_ 23 _, h.b.far (Ne.symm h.ne.1) _, (Below.heap_setCell _ _ _ _ h.ne.2.1).trans h.code⟩
theorem MAt.setStop (h : MAt W p mb s mm d) (k x : Int) : MAt ((W.setCell ⟨p, 25, none⟩ (.int .i64 k)).setCell ⟨p, 26, none⟩ (.int .u32 x)) p mb s mm { d with kind := k, code := x } :=
 ⟨by rw [← arr_code { d with kind := k }, ← arr_kind]; exact (h.m.set_ 25 _).set_ 26 _, (h.b.far (Ne.symm h.ne.1) _).far (Ne.symm h.ne.1) _, (Below.heap_setCell _ _ _ _ h.ne.2.1).trans ((Below.heap_setCell _ _ _ _ h.ne.2.1).trans h.code)⟩
theorem setCells_blk {g : Nat} {t : TypeId} : ∀ (vs : List Value) (o : Nat) (W : World) (cs : Array Value), Blk W g t cs → o + vs.length ≤ cs.size → Blk (W.setCells g o vs) g t (cs.toList.take o ++ vs ++ cs.toList.drop (o + vs.length)).toArray
 | [], o, W, cs, h, _ => by
  have : (cs.toList.take o ++ [] ++ cs.toList.drop (o + ([] : List Value).length)).toArray = cs := by simp
  rw [this]; exact h
 | v :: r, o, W, cs, h, hl => by
  rw [World.setCells]
  have h1 := setCells_blk r (o + 1) _ _ (h.set_ o v) (by simp at hl ⊢; omega)
  have e := list_seg_step cs.toList o v r (by simp at hl ⊢; omega)
  simp only [Array.toList_setIfInBounds] at h1
  rw [show (o + (v :: r).length) = o + 1 + r.length by simp; omega]
  rw [show cs.toList.take o ++ v :: r ++ cs.toList.drop (o + 1 + r.length) = (cs.toList.set o v).take (o + 1) ++ r ++ (cs.toList.set o v).drop (o + 1 + r.length) by
   rw [show o + 1 + r.length = o + (r.length + 1) by omega] at e ⊢
   simpa using e.symm]
  exact h1
theorem setCells_chg {g : Nat} (hF : F g) : ∀ (vs : List Value) (o : Nat) (W' : World), Chg F W W' → Chg F W (W'.setCells g o vs)
 | [], _, _, h => h
 | v :: r, o, W', h => by rw [World.setCells]; exact setCells_chg hF r (o + 1) _ (h.setCell (p := ⟨g, o, none⟩) (fun _ => hF) v)
theorem setCells_far {g k : Nat} (hk : k ≠ g) : ∀ (vs : List Value) (o : Nat) (W : World), (W.setCells g o vs).heap[k]? = W.heap[k]?
 | [], _, _ => rfl
 | v :: r, o, W => by rw [World.setCells, setCells_far hk r (o + 1) _]; exact Below.heap_setCell _ ⟨g, o, none⟩ v k hk
theorem MAt.setCpu (h : MAt W p mb s mm d) (c : Cp) : MAt (W.setCells p 0 c.arr.toList) p mb s mm { d with c := c } :=
 ⟨by
  have := setCells_blk c.arr.toList 0 W _ h.m (by show 0 + 22 ≤ 28; omega)
  exact this, (setCells_far (Ne.symm h.ne.1) _ _ _).trans h.b, (setCells_far h.ne.2.1 _ _ _).trans h.code⟩
end
end Go.Proofs.YtggknljlibhkjaaGreat
set_option linter.unusedSimpArgs false
set_option linter.unusedVariables false
namespace Go.Proofs.YtggknljlibhkjaaGreat
open Go Go.RowKit
def wordAt (M : Nat → Int) (p : Nat) : Int := M p + M (p + 1) * 256 + M (p + 2) * 65536 + M (p + 3) * 16777216
def putWord (M : Nat → Int) (p : Nat) (w : Int) : Nat → Int := upd (upd (upd (upd M p (w % 256)) (p + 1) (w / 256 % 256)) (p + 2) (w / 65536 % 256)) (p + 3) (w / 16777216)
theorem wordAt_bd {M : Nat → Int} (h : ∀ i, 0 ≤ M i ∧ M i < 256) (p : Nat) : 0 ≤ wordAt M p ∧ wordAt M p < 4294967296 := by
 have h0 := h p
 have h1 := h (p + 1)
 have h2 := h (p + 2)
 have h3 := h (p + 3)
 unfold wordAt
 omega
section
variable {W W' : World} {p mb s mm : Nat} {d : Mc}
theorem mthere_c (h : MAt W p mb s mm d) : Calls Tryz.prog 33 #[.pointer (some ⟨p, 0, none⟩)] W fun e w' => e = .returned (.bool true) ∧ W = w' := by
 obtain ⟨_, k22, _⟩ := h.cells
 clear h
 generalize d.n = n at *
 have hne := Go.run_neq_slice_nil (P := Tryz.prog) W 44 5 (some ⟨mb, 0, none⟩) n n Tryz.underlying44
 go_enter Tryz.func33, Tryz.ntmps33
 go_wp2_with fail
 go_ret
 exact ⟨rfl, rfl⟩
theorem mend_c (h : MAt W p mb s mm d) (k x : Int) : Calls Tryz.prog 38 #[.pointer (some ⟨p, 0, none⟩), .int .i64 k, .int .u32 x] W fun e w' => e = .returned (.tuple #[.int .u32 0, .bool false]) ∧ MAt w' p mb s mm { d with kind := k, code := x } ∧ Chg (memF p mb) W w' := by
 obtain ⟨k21, k22, k23, k24, k25, k26, k27⟩ := h.cells
 have f25 := h.m.frozen 25
 have f26 := h.m.frozen 26
 have H := Go.Lib.hid (h.setStop k x)
 have HC := Go.Lib.hid (((Chg.refl (memF p mb) W).setCell (p := ⟨p, 25, none⟩) (fun _ => .inl rfl) (.int .i64 k)).setCell (p := ⟨p, 26, none⟩) (fun _ => .inl rfl) (.int .u32 x))
 clear h
 go_enter Tryz.func38, Tryz.ntmps38
 go_wp2_with fail
 go_ret2
 exact ⟨rfl, H.out, HC.out⟩
theorem minside_c (h : MAt W p mb s mm d) (hn : d.n ≤ 16777216) (pl : Nat) (hp : pl < 4294967296) (one : Bool) : Calls Tryz.prog 41 #[.pointer (some ⟨p, 0, none⟩), .int .u32 pl, .bool one] W fun e w' => e = .returned (.bool (decide (pl < d.n) && (one || decide (pl % 4 = 0)))) ∧ W = w' := by
 obtain ⟨k21, k22, k23, k24, k25, k26, k27⟩ := h.cells
 clear h
 have e4 : ((pl : Int) % 4 == 0) = decide (pl % 4 = 0) := by
  by_cases h : pl % 4 = 0
  ·have : (pl : Int) % 4 = 0 := by omega
   simp [h, this]
  ·have : ¬ ((pl : Int) % 4 = 0) := by omega
   simp [h, this]
 generalize d.n = n at *
 by_cases hlt : pl < n
 ·have hd : decide (pl < n) = true := by simpa using hlt
  rw [hd]
  obtain ⟨q, hq⟩ : ∃ q, decide (pl % 4 = 0) = q := ⟨_, rfl⟩
  rw [hq] at e4 ⊢
  clear hq hd
  cases one <;> cases q
  all_goals
   go_enter Tryz.func41, Tryz.ntmps41
   go_wp2_with fail
   go_ret
   exact ⟨rfl, rfl⟩
 ·have hd : decide (pl < n) = false := by simpa using hlt
  rw [hd]
  clear e4 hd
  go_enter Tryz.func41, Tryz.ntmps41
  go_wp2_with fail
  go_ret
  exact ⟨rfl, rfl⟩
theorem getByte_c (h : MAt W p mb s mm d) (hn : d.n ≤ 16777216) (hM : ∀ i, 0 ≤ d.M i ∧ d.M i < 256) (pl : Nat) (hp : pl < d.n) : Calls Tryz.prog 40 #[.pointer (some ⟨p, 0, none⟩), .int .u32 pl, .bool true] W fun e w' => e = .returned (.int .u32 (d.M pl)) ∧ W = w' := by
 obtain ⟨k21, k22, k23, k24, k25, k26, k27⟩ := h.cells
 have hb := h.byte hp
 have hm := hM pl
 clear h hM
 generalize d.n = n at *
 generalize d.M pl = x at *
 go_enter Tryz.func40, Tryz.ntmps40
 go_wp2_with fail
 go_ret
 exact ⟨rfl, rfl⟩
theorem mor4 (a b c e : Int) (h0 : 0 ≤ a ∧ a < 256) (h1 : 0 ≤ b ∧ b < 256) (h2 : 0 ≤ c ∧ c < 256) (h3 : 0 ≤ e ∧ e < 256) :
  bits .or .u32 (bits .or .u32 (bits .or .u32 a (b * 256)) (c * 65536)) (e * 16777216) = a + b * 256 + c * 65536 + e * 16777216 := by
 rw [u32_or8 a (b * 256) h0.1 h0.2 (by omega) (by omega) (by omega), u32_or16 (a + b * 256) (c * 65536) (by omega) (by omega) (by omega) (by omega) (by omega), u32_or24 (a + b * 256 + c * 65536) (e * 16777216) (by omega) (by omega) (by omega) (by omega) (by omega)]
theorem getWord_c (h : MAt W p mb s mm d) (hn : d.n ≤ 16777216) (hM : ∀ i, 0 ≤ d.M i ∧ d.M i < 256) (pl : Nat) (hp : pl + 4 ≤ d.n) : Calls Tryz.prog 40 #[.pointer (some ⟨p, 0, none⟩), .int .u32 pl, .bool false] W fun e w' => e = .returned (.int .u32 (wordAt d.M pl)) ∧ ∃ k, w' = W.drewN k := by
 obtain ⟨k21, k22, k23, k24, k25, k26, k27⟩ := h.cells
 have hb0 := h.byte (i := pl) (by omega)
 have hb1 := h.byte (i := pl + 1) (by omega)
 have hb2 := h.byte (i := pl + 2) (by omega)
 have hb3 := h.byte (i := pl + 3) (by omega)
 have m0 := hM pl
 have m1 := hM (pl + 1)
 have m2 := hM (pl + 2)
 have m3 := hM (pl + 3)
 unfold wordAt
 clear h hM
 generalize d.n = n at *
 generalize d.M pl = x0 at *
 generalize d.M (pl + 1) = x1 at *
 generalize d.M (pl + 2) = x2 at *
 generalize d.M (pl + 3) = x3 at *
 have ho := mor4 x0 x1 x2 x3 m0 m1 m2 m3
 obtain ⟨r, hr⟩ : ∃ r, x0 + x1 * 256 + x2 * 65536 + x3 * 16777216 = r := ⟨_, rfl⟩
 rw [hr] at ho ⊢
 clear hr
 go_enter Tryz.func40, Tryz.ntmps40
 go_wp2_with fail
 go_quiet (fail)
 go_wp2_with fail
 go_ret
 exact ⟨rfl, _, rfl⟩
theorem putByte_c (h : MAt W p mb s mm d) (hn : d.n ≤ 16777216) (pl : Nat) (hp : pl < d.n) (w : Int) (hw : 0 ≤ w ∧ w < 4294967296) : Calls Tryz.prog 37 #[.pointer (some ⟨p, 0, none⟩), .int .u32 pl, .int .u32 w, .bool true] W fun e w' => e = .returned (.tuple #[]) ∧ MAt w' p mb s mm { d with M := upd d.M pl (w % 256) } ∧ Chg (memF p mb) W w' := by
 obtain ⟨_, k22, _⟩ := h.cells
 have hb := h.byte hp
 have hf := h.b.frozen pl
 have H := Go.Lib.hid (h.setByte pl (w % 256))
 have HC := Go.Lib.hid ((Chg.refl (memF p mb) W).setCell (p := ⟨mb, pl, none⟩) (fun _ => .inr rfl) (.int .u8 (w % 256)))
 clear h
 generalize d.n = n at *
 go_enter Tryz.func37, Tryz.ntmps37
 go_wp2_with fail
 exact bodyPost_ret (v := .tuple #[]) (results_none rfl _ _ _) rfl ⟨rfl, H.out, HC.out⟩
theorem MAt.putWord (h : MAt W p mb s mm d) (pl : Nat) (w : Int) : MAt ((((W.setCell ⟨mb, pl, none⟩ (.int .u8 (w % 256))).setCell ⟨mb, pl + 1, none⟩ (.int .u8 (w / 256 % 256))).setCell ⟨mb, pl + 2, none⟩ (.int .u8 (w / 65536 % 256))).setCell ⟨mb, pl + 3, none⟩ (.int .u8 (w / 16777216))) p mb s mm { d with M := Go.Proofs.YtggknljlibhkjaaGreat.putWord d.M pl w } :=
 (((h.setByte pl _).setByte (pl + 1) _).setByte (pl + 2) _).setByte (pl + 3) _
theorem putWord_c (h : MAt W p mb s mm d) (hn : d.n ≤ 16777216) (pl : Nat) (hp : pl + 4 ≤ d.n) (w : Int) (hw : 0 ≤ w ∧ w < 4294967296) : Calls Tryz.prog 37 #[.pointer (some ⟨p, 0, none⟩), .int .u32 pl, .int .u32 w, .bool false] W fun e w' => e = .returned (.tuple #[]) ∧ MAt w' p mb s mm { d with M := putWord d.M pl w } ∧ Chg (memF p mb) W w' := by
 obtain ⟨_, k22, _⟩ := h.cells
 have hb0 := h.byte (i := pl) (by omega)
 have hb1 := h.byte (i := pl + 1) (by omega)
 have hb2 := h.byte (i := pl + 2) (by omega)
 have hb3 := h.byte (i := pl + 3) (by omega)
 have hf0 := h.b.frozen pl
 have hf1 := h.b.frozen (pl + 1)
 have hf2 := h.b.frozen (pl + 2)
 have hf3 := h.b.frozen (pl + 3)
 have H := Go.Lib.hid (h.putWord pl w)
 have HC := Go.Lib.hid (((((Chg.refl (memF p mb) W).setCell (p := ⟨mb, pl, none⟩) (fun _ => .inr rfl) (.int .u8 (w % 256))).setCell (p := ⟨mb, pl + 1, none⟩) (fun _ => .inr rfl) (.int .u8 (w / 256 % 256))).setCell (p := ⟨mb, pl + 2, none⟩) (fun _ => .inr rfl) (.int .u8 (w / 65536 % 256))).setCell (p := ⟨mb, pl + 3, none⟩) (fun _ => .inr rfl) (.int .u8 (w / 16777216)))
 clear h
 generalize d.n = n at *
 go_enter Tryz.func37, Tryz.ntmps37
 go_wp2_with fail
 go_end0
 exact ⟨rfl, H.out, HC.out⟩
end
end Go.Proofs.YtggknljlibhkjaaGreat
set_option linter.unusedSimpArgs false
set_option linter.unusedVariables false
namespace Go.Proofs.YtggknljlibhkjaaGreat
open Go Go.RowKit
abbrev StopT : TypeId := 75
def stopVal (k c : Int) : Value := .agg #[.int .i64 k, .int .u32 c]
section
variable {W W' : World} {p mb s mm : Nat} {d : Mc}
def MQ (p mb s mm : Nat) (d : Mc) (r : Value) (W : World) (e : Ending) (w' : World) : Prop := e = .returned r ∧ Chg NoB W w'
theorem word_c (h : MAt W p mb s mm d) (hd : d.Ok) (pl : Nat) (hp : pl < 4294967296) : Calls Tryz.prog 24 #[.pointer (some ⟨p, 0, none⟩), .int .u32 pl] W (Quiet (if pl < d.n ∧ pl % 4 = 0 then .tuple #[.int .u32 (wordAt d.M pl), .int .i64 0] else .tuple #[.int .u32 0, .int .i64 2]) W) := by
 have HT := Go.Lib.hid (mthere_c h)
 have HI := Go.Lib.hid (minside_c h hd.n.2.1 pl hp false)
 have HG := Go.Lib.hid (fun hp4 => getWord_c h hd.n.2.1 hd.m pl hp4)
 have hn4 := hd.n.2.2
 clear h hd
 have hq : (decide (pl < d.n) && (false || decide (pl % 4 = 0))) = decide (pl < d.n ∧ pl % 4 = 0) := by simp
 rw [hq] at HI
 clear hq
 by_cases hin : pl < d.n ∧ pl % 4 = 0
 ·rw [if_pos hin]
  have HG' := Go.Lib.hid (HG.out (by omega))
  have e1 : decide (pl < d.n ∧ pl % 4 = 0) = true := by simpa using hin
  rw [e1] at HI
  clear HG e1 hin
  generalize wordAt d.M pl = x at *
  go_enter Tryz.func24, Tryz.ntmps24
  go_wp2_with fail
  refine HT.out.mono ?_
  rintro e w1 ⟨rfl, rfl⟩
  go_wp2_with fail
  refine HI.out.mono ?_
  rintro e w1 ⟨rfl, rfl⟩
  go_wp2_with fail
  refine HG'.out.mono ?_
  rintro e w1 ⟨rfl, k, rfl⟩
  go_wp2_with fail
  go_ret2
  exact ⟨rfl, (Chg.refl _ _).drewN _⟩
 ·rw [if_neg hin]
  have e1 : decide (pl < d.n ∧ pl % 4 = 0) = false := by simpa using hin
  rw [e1] at HI
  clear HG e1 hin
  go_enter Tryz.func24, Tryz.ntmps24
  go_wp2_with fail
  refine HT.out.mono ?_
  rintro e w1 ⟨rfl, rfl⟩
  go_wp2_with fail
  refine HI.out.mono ?_
  rintro e w1 ⟨rfl, rfl⟩
  go_wp2_with fail
  go_ret2
  exact ⟨rfl, Chg.refl _ _⟩
def MPost (p mb s mm : Nat) (r : Value) (d : Mc) (W : World) (e : Ending) (w' : World) : Prop := e = .returned r ∧ MAt w' p mb s mm d ∧ Chg (memF p mb) W w'
theorem setWord_c (h : MAt W p mb s mm d) (hd : d.Ok) (pl : Nat) (hp : pl < 4294967296) (x : Int) (hx : 0 ≤ x ∧ x < 4294967296) : Calls Tryz.prog 13 #[.pointer (some ⟨p, 0, none⟩), .int .u32 pl, .int .u32 x] W (MPost p mb s mm (if pl < d.n ∧ pl % 4 = 0 then .int .i64 0 else .int .i64 2) (if pl < d.n ∧ pl % 4 = 0 then { d with M := putWord d.M pl x } else d) W) := by
 have HW := Go.Lib.hid (word_c h hd pl hp)
 have HP := Go.Lib.hid (fun W' hc hp4 => putWord_c (W := W') (h.quiet hc) hd.n.2.1 pl hp4 x hx)
 have hn4 := hd.n.2.2
 have HH := Go.Lib.hid h
 clear h hd
 by_cases hin : pl < d.n ∧ pl % 4 = 0
 ·simp only [if_pos hin] at HW ⊢
  have HP' := Go.Lib.hid (fun W' hc => HP.out W' hc (by omega))
  clear HP hin
  go_enter Tryz.func13, Tryz.ntmps13
  go_wp2_with fail
  refine HW.out.mono ?_
  rintro e w1 ⟨rfl, h1⟩
  have H1 := Go.Lib.hid h1
  clear h1
  go_wp2_with fail
  refine (HP'.out _ H1.out).mono ?_
  rintro e w2 ⟨rfl, h2, h3⟩
  have H2 := Go.Lib.hid (And.intro h2 h3)
  clear h2 h3
  go_wp2_with fail
  go_ret
  exact ⟨rfl, H2.out.1, (H1.out.mono (fun _ _ h => h.elim)).trans H2.out.2⟩
 ·simp only [if_neg hin] at HW ⊢
  clear HP hin
  go_enter Tryz.func13, Tryz.ntmps13
  go_wp2_with fail
  refine HW.out.mono ?_
  rintro e w1 ⟨rfl, h1⟩
  have H1 := Go.Lib.hid h1
  clear h1
  go_wp2_with fail
  go_ret
  exact ⟨rfl, HH.out.quiet H1.out, H1.out.mono (fun _ _ h => h.elim)⟩
theorem stopped_c (h : MAt W p mb s mm d) : Calls Tryz.prog 29 #[.pointer (some ⟨p, 0, none⟩)] W (Quiet (stopVal d.kind d.code) W) := by
 have HT := Go.Lib.hid (fun o => mthere_c (h.quiet ((Chg.refl NoB W).alloc o)))
 obtain ⟨_, _, _, _, k25, k26, _⟩ := h.cells
 have hlt := h.lt.1
 clear h
 unfold stopVal
 generalize d.kind = k at *
 generalize d.code = x at *
 go_enter Tryz.func29, Tryz.ntmps29
 go_wp2_with fail
 refine (HT.out _).mono ?_
 rintro e w1 ⟨rfl, rfl⟩
 go_wp2_with fail
 exact bodyPost_ret (v := .agg #[.int .i64 k, .int .u32 x]) (by simp [results, Tryz.results29, go_sem]) rfl ⟨rfl, (Chg.refl _ _).alloc _⟩
end
end Go.Proofs.YtggknljlibhkjaaGreat
set_option linter.unusedSimpArgs false
set_option linter.unusedVariables false
namespace Go.Proofs.YtggknljlibhkjaaGreat
open Go Go.RowKit
theorem results_row_tmp {P : Program} {fn : Func} {p q : Tmp} {tp : TypeId} (h : fn.results = #[.cell p tp, .tmp q]) (tmps : Array Value) (w : World) {g : Nat} {t : TypeId} {cs : Array Value} {d : TypeDesc}
  (hp : tmps.getD p undef = .pointer (some ⟨g, 0, none⟩)) {x : Value} (hq : tmps.getD q undef = x) (hg : Blk w g t cs)
  (hu : P.underlying tp = some d) (hd : (match d with | .struct _ | .array _ _ => true | _ => false) = true) (hi : (P.info? tp).map (·.size) = some cs.size) :
  (results fn tmps).run P w = .ok (.tuple #[.agg cs, x]) w := by
 have hp' : tmps[p]?.getD undef = .pointer (some ⟨g, 0, none⟩) := by simpa using hp
 have hq' : tmps[q]?.getD undef = x := by simpa using hq
 simp [results, h, hp', hq', asAddr, run_loadVar_row w g t tp cs (0, 0) d hg hu hd hi]
theorem results_row {P : Program} {fn : Func} {p : Tmp} {tp : TypeId} (h : fn.results = #[.cell p tp]) (tmps : Array Value) (w : World) {g : Nat} {t : TypeId} {cs : Array Value} {d : TypeDesc}
  (hp : tmps.getD p undef = .pointer (some ⟨g, 0, none⟩)) (hg : Blk w g t cs)
  (hu : P.underlying tp = some d) (hd : (match d with | .struct _ | .array _ _ => true | _ => false) = true) (hi : (P.info? tp).map (·.size) = some cs.size) :
  (results fn tmps).run P w = .ok (.agg cs) w := by
 have hp' : tmps[p]?.getD undef = .pointer (some ⟨g, 0, none⟩) := by simpa using hp
 simp [results, h, hp', asAddr, run_loadVar_row w g t tp cs (0, 0) d hg hu hd hi]
section
variable {W W' : World} {p mb s mm : Nat} {d : Mc}
theorem cpu_c (h : MAt W p mb s mm d) : Calls Tryz.prog 11 #[.pointer (some ⟨p, 0, none⟩)] W (Quiet d.c.val W) := by
 have HT := Go.Lib.hid (fun o => mthere_c (h.quiet ((Chg.refl NoB W).alloc o)))
 have HR := Go.Lib.hid (fun o => (h.quiet ((Chg.refl NoB W).alloc o)).cpRange)
 have HB := Go.Lib.hid (fun cs => (Blk.new W CpT cs))
 have hlt := h.lt.1
 clear h
 go_enter Tryz.func11, Tryz.ntmps11
 go_wp2_with fail
 refine (HT.out _).mono ?_
 rintro e w1 ⟨rfl, rfl⟩
 go_wp2_with (first
  | (refine wpList_load_mid rfl 42 (.tmp 9) rfl p 0 rfl d.c.arr.toList _ (HR.out _) Tryz.underlying42 rfl (by kernel_rfl) ?_)
  | (refine wpList_store_row rfl 42 (.tmp 2) (.tmp 10) rfl W.heap.size d.c.arr rfl rfl CpT Cp.zero.arr (HB.out _) (by kernel_rfl) (by rfl) (by kernel_rfl) ?_))
 refine bodyPost_ret (v := d.c.val) (results_row (t := CpT) (cs := d.c.arr) (g := W.heap.size) rfl _ _ ?_ ((HB.out _).setRow _) Tryz.underlying42 rfl (by kernel_rfl)) rfl ⟨rfl, ((Chg.refl NoB W).alloc _).setRow (fun h => absurd h (by omega)) _⟩ <;> rfl
theorem setCpu_c (h : MAt W p mb s mm d) (c : Cp) : Calls Tryz.prog 14 #[.pointer (some ⟨p, 0, none⟩), c.val] W (MPost p mb s mm (.int .i64 0) { d with c := c } W) := by
 have HT := Go.Lib.hid (fun o => mthere_c (h.quiet ((Chg.refl NoB W).alloc o)))
 have HH := Go.Lib.hid (fun o => (h.quiet ((Chg.refl NoB W).alloc o)))
 have HR : Hid (∀ o, World.there (W.alloc o) p 0 c.arr.size) := Go.Lib.hid fun o j hj => by
  have hM := (h.quiet ((Chg.refl NoB W).alloc o)).m
  have hj : j < 22 := hj
  refine ⟨?_, hM.frozen _⟩
  rw [Nat.zero_add, hM.cell j, arr_front d _ _ _ hj]
  have : j < d.c.arr.size := hj
  simp [Array.getElem?_eq_getElem this]
 have HB := Go.Lib.hid (Blk.new W CpT c.arr)
 have HC := Go.Lib.hid (fun o => setCells_chg (F := memF p mb) (g := p) (.inl rfl) c.arr.toList 0 (W.alloc o) ((Chg.refl _ W).alloc o))
 clear h
 unfold Cp.val
 go_enter Tryz.func14, Tryz.ntmps14
 go_wp2_with fail
 refine (HT.out _).mono ?_
 rintro e w1 ⟨rfl, rfl⟩
 go_wp2_with (first
  | (refine wpList_load_row rfl 42 (.tmp 3) rfl W.heap.size rfl CpT c.arr (0, 0) _ HB.out Tryz.underlying42 rfl (by kernel_rfl) ?_)
  | (refine wpList_store_mid rfl 42 (.tmp 11) (.tmp 9) rfl p 0 c.arr rfl rfl (HR.out _) (by kernel_rfl) (by kernel_rfl) ?_))
 go_ret
 exact ⟨rfl, (HH.out _).setCpu c, HC.out _⟩
end
theorem loaded_c (c : Cp) (ra : Nat) (hr : ra < 16) (x : Int) (h0 : 0 ≤ x) (h1 : x < 4294967296) (w : World) : Calls Tryz.prog 42 #[c.val, .int .i64 ra, .int .u32 x] w (Quiet (.tuple #[(c.set ra x).val, .int .i64 0]) w) := by
 have HB := Go.Lib.hid (fun o => (Blk.new w CpT c.arr).alloc o)
 have HS := Go.Lib.hid (fun o => set_c (c := c) (b := w.heap.size) ((Blk.new w CpT c.arr).alloc o) hr x h0 h1)
 have HZ := Go.Lib.hid (Blk.new1 w (.cells c.arr CpT) CpT Cp.zero.arr)
 have hr0 : (0 : Int) ≤ ra := by omega
 have hr1 : (ra : Int) ≤ 15 := by omega
 have HC0 := Go.Lib.hid (((Chg.refl NoB w).alloc (.cells c.arr CpT)).alloc (.cells Cp.zero.arr CpT))
 clear hr
 unfold Cp.val SetPost ptr at *
 go_enter Tryz.func42, Tryz.ntmps42
 go_wp2_with fail
 refine (HS.out _).mono ?_
 rintro e w1 ⟨rfl, h2, h3⟩
 have HZ1 := Go.Lib.hid (HZ.out.chg h3 (by omega))
 have H2 := Go.Lib.hid h2
 have HC1 := Go.Lib.hid (HC0.out.step h3 (fun k hk e => absurd hk (by omega)))
 clear h2 h3
 go_wp2_with (first
  | (refine wpList_load_row rfl 42 (.tmp 3) rfl w.heap.size rfl CpT (c.set ra x).arr (0, 0) _ H2.out Tryz.underlying42 rfl (by kernel_rfl) ?_)
  | (refine wpList_store_row rfl 42 (.tmp 6) (.tmp 18) rfl (w.heap.size + 1) (c.set ra x).arr rfl rfl CpT Cp.zero.arr HZ1.out (by kernel_rfl) (by rfl) (by kernel_rfl) ?_))
 refine bodyPost_ret (v := .tuple #[(c.set ra x).val, .int .i64 0]) (results_row_tmp (t := CpT) (cs := (c.set ra x).arr) (g := w.heap.size + 1) rfl _ _ ?_ ?_ (HZ1.out.setRow _) Tryz.underlying42 rfl (by kernel_rfl)) rfl ⟨rfl, HC1.out.setRow (fun h => absurd h (by omega)) _⟩ <;> rfl
theorem answered_c (c : Cp) (x : Int) (w : World) : Calls Tryz.prog 97 #[c.val, .int .u32 x] w (Quiet ({ c with R := upd c.R 0 x } : Cp).val w) := by
 have e0 : c.arr[0]? = some (.int .u32 (c.R 0)) := rfl
 have HB := Go.Lib.hid (show Blk ((w.alloc (.cells (c.arr.setIfInBounds 0 (.int .u32 x)) CpT)).alloc (.cells Cp.zero.arr CpT)) w.heap.size CpT ({ c with R := upd c.R 0 x } : Cp).arr from (Cp.setReg c (i := 0) (by decide) x ▸ Blk.new w CpT (c.arr.setIfInBounds 0 (.int .u32 x))).alloc _)
 have HZ := Go.Lib.hid (Blk.new1 w (.cells (c.arr.setIfInBounds 0 (.int .u32 x)) CpT) CpT Cp.zero.arr)
 have HC0 := Go.Lib.hid (((Chg.refl NoB w).alloc (.cells (c.arr.setIfInBounds 0 (.int .u32 x)) CpT)).alloc (.cells Cp.zero.arr CpT))
 unfold Cp.val
 go_enter Tryz.func97, Tryz.ntmps97
 go_wp2_with (first
  | (refine wpList_load_row rfl 42 (.tmp 2) rfl w.heap.size rfl CpT ({ c with R := upd c.R 0 x } : Cp).arr (0, 0) _ HB.out Tryz.underlying42 rfl (by kernel_rfl) ?_)
  | (refine wpList_store_row rfl 42 (.tmp 4) (.tmp 8) rfl (w.heap.size + 1) ({ c with R := upd c.R 0 x } : Cp).arr rfl rfl CpT Cp.zero.arr HZ.out (by kernel_rfl) (by rfl) (by kernel_rfl) ?_))
 refine bodyPost_ret (v := ({ c with R := upd c.R 0 x } : Cp).val) (results_row (t := CpT) (cs := ({ c with R := upd c.R 0 x } : Cp).arr) (g := w.heap.size + 1) rfl _ _ ?_ (HZ.out.setRow _) Tryz.underlying42 rfl (by kernel_rfl)) rfl ⟨rfl, HC0.out.setRow (fun h => absurd h (by omega)) _⟩ <;> rfl
end Go.Proofs.YtggknljlibhkjaaGreat
set_option linter.unusedSimpArgs false
set_option linter.unusedVariables false
namespace Go.Proofs.YtggknljlibhkjaaGreat
open Go Go.RowKit
section
variable {P : Program}
theorem run_clear_any (w : World) (t e ty : TypeId) (z : Value) (ht : P.underlying t = some (.slice e)) (hv : ∀ w, (zeroValue e).run P w = .ok z w) (hz : z.cells = #[z]) (h1 : z.oneCell' = true) (b o n c : Nat)
  (hc : ∀ j, j < n → (w.cell? ⟨b, o + j, none⟩).isSome = true) (hf : ∀ j, j < n → w.frozen? ⟨b, o + j, none⟩ = false) :
  (Builtin.clear_ #[t] ty #[.slice (some ⟨b, o, none⟩) n c]).run P w = .ok (.tuple #[]) (w.setCells b o (List.replicate n z)) := by
 rcases Nat.eq_zero_or_pos n with h0 | h0
 ·subst h0
  simp [Builtin.clear_, run_underlying ht, World.setCells]
 ·exact Go.Lib.run_clear_slice w t e ty z ht hv hz h1 b o n c h0 hc hf
theorem exec_clear {o : Oper} {a : Act} {w : World} (x : Operand) (t e : TypeId) (z : Value) (ho : o.op = .call { callee := .builtin .clear, args := #[x], argTypes := #[t] }) (ht : P.underlying t = some (.slice e)) (hv : ∀ w, (zeroValue e).run P w = .ok z w) (hz : z.cells = #[z]) (h1 : z.oneCell' = true) (b f n c : Nat) (hx : a.eval x = .slice (some ⟨b, f, none⟩) n c)
  (hc : ∀ j, j < n → (w.cell? ⟨b, f + j, none⟩).isSome = true) (hf : ∀ j, j < n → w.frozen? ⟨b, f + j, none⟩ = false) : (execOp a.eval o).run P w = .ok (.value (.tuple #[])) (w.setCells b f (List.replicate n z)) := by
 unfold execOp
 simp only [ho, resolve, invoke, builtin, Sem.run_bind, Sem.run_pure, Result.andThen_ok, List.map_toArray, List.map_cons, List.map_nil, hx, run_clear_any w t e o.type z ht hv hz h1 b f n c hc hf]
end
def clr (M : Nat → Int) (a t : Nat) : Nat → Int := fun i => if a ≤ i ∧ i < t then 0 else M i
theorem memArr_clr {n : Nat} (M : Nat → Int) {a t : Nat} (h : a ≤ t) (ht : t ≤ n) : ((memArr n M).toList.take a ++ List.replicate (t - a) (Value.int .u8 0) ++ (memArr n M).toList.drop (a + (List.replicate (t - a) (Value.int .u8 0)).length)).toArray = memArr n (clr M a t) := by
 apply Array.ext_getElem?
 intro j
 simp only [List.getElem?_toArray, List.length_replicate]
 rcases Nat.lt_or_ge j n with hj | hj
 ·rw [memArr_get _ hj]
  have hg : (memArr n M).toList[j]? = some (.int .u8 (M j)) := by rw [Array.getElem?_toList, memArr_get _ hj]
  have hl : (memArr n M).toList.length = n := by rw [Array.length_toList, memArr_size]
  rcases Nat.lt_or_ge j a with h1 | h1
  ·rw [List.getElem?_append_left (by simp [hl]; omega), List.getElem?_append_left (by simp [hl]; omega), List.getElem?_take, if_pos h1, hg]
   simp [clr, show ¬ a ≤ j by omega]
  ·rcases Nat.lt_or_ge j t with h2 | h2
   ·rw [List.getElem?_append_left (by simp [hl]; omega), List.getElem?_append_right (by simp [hl]; omega), List.getElem?_replicate, if_pos (by simp [hl]; omega)]
    simp [clr, h1, h2]
   ·rw [List.getElem?_append_right (by simp [hl]; omega), List.getElem?_drop]
    simp only [List.length_append, List.length_take, List.length_replicate, hl]
    rw [show a + (t - a) + (j - (min a n + (t - a))) = j by omega, hg]
    simp [clr, show ¬ j < t by omega]
 ·rw [Array.getElem?_eq_none (by rw [memArr_size]; omega), List.getElem?_eq_none]
  simp [memArr_size]
  omega
section
variable {W W' : World} {p mb s mm : Nat} {d : Mc}
theorem MAt.clear (h : MAt W p mb s mm d) {a t : Nat} (h1 : a ≤ t) (h2 : t ≤ d.n) : MAt (W.setCells mb a (List.replicate (t - a) (Value.int .u8 0))) p mb s mm { d with M := clr d.M a t } :=
 ⟨(setCells_far h.ne.1 _ _ _).trans h.m, by
  have := setCells_blk (List.replicate (t - a) (Value.int .u8 0)) a W _ h.b (by rw [memArr_size, List.length_replicate]; omega)
  rw [memArr_clr d.M h1 h2] at this
  exact this, (setCells_far h.ne.2.2 _ _ _).trans h.code⟩
theorem halt_c (h : MAt W p mb s mm d) (a b : Int) : Calls Tryz.prog 60 #[.pointer (some ⟨p, 0, none⟩), .int .u32 a, .int .u32 b] W (MPost p mb s mm (.tuple #[.int .u32 0, .bool false]) { d with kind := 1, code := a } W) := by
 have HE := Go.Lib.hid (mend_c h 1 a)
 clear h
 go_enter Tryz.func60, Tryz.ntmps60
 go_wp2_with fail
 refine HE.out.mono ?_
 rintro e w1 ⟨rfl, h1, h2⟩
 have H := Go.Lib.hid (And.intro h1 h2)
 clear h1 h2
 go_wp2_with fail
 go_ret2
 exact ⟨rfl, H.out.1, H.out.2⟩
def topOf (d : Mc) (a : Nat) : Nat := d.heap + (a + 3) / 4 * 4
def makeRes (d : Mc) (a : Nat) : Value := if d.c.R 14 < (topOf d a : Nat) ∨ d.n < topOf d a then .tuple #[.int .u32 0, .bool false] else .tuple #[.int .u32 d.heap, .bool true]
def makeF (d : Mc) (a : Nat) : Mc := if d.c.R 14 < (topOf d a : Nat) ∨ d.n < topOf d a then { d with kind := 4, code := 0 } else { d with heap := topOf d a, M := clr d.M d.heap (topOf d a) }
set_option maxRecDepth 100000 in
theorem make_c (h : MAt W p mb s mm d) (hd : d.Ok) (hh : d.heap ≤ d.n) (a : Nat) (ha : a < 4294967296) (b : Int) : Calls Tryz.prog 61 #[.pointer (some ⟨p, 0, none⟩), .int .u32 a, .int .u32 b] W (MPost p mb s mm (makeRes d a) (makeF d a) W) := by
 have HE := Go.Lib.hid (mend_c h 4 0)
 obtain ⟨_, k22, k23, _⟩ := h.cells
 have k14 := h.reg (i := 14) (by decide)
 have f23 := h.m.frozen 23
 have hr := hd.c.r 14
 have hn := hd.n.2.1
 have HH := Go.Lib.hid h
 unfold makeRes makeF
 clear h hd
 by_cases hc : d.c.R 14 < (topOf d a : Nat) ∨ d.n < topOf d a
 ·rw [if_pos hc, if_pos hc]
  unfold topOf at hc
  generalize d.c.R 14 = r at *
  generalize d.heap = hp at *
  generalize d.n = n at *
  have FIN : ∀ e w1, e = Ending.returned (.tuple #[.int .u32 0, .bool false]) ∧ MAt w1 p mb s mm { c := d.c, n := n, M := d.M, heap := hp, kind := 4, code := 0 } ∧ Chg (memF p mb) W w1 → MPost p mb s mm (.tuple #[.int .u32 0, .bool false]) { c := d.c, n := n, M := d.M, heap := hp, kind := 4, code := 0 } W e w1 := fun _ _ h => h
  have FIN' := Go.Lib.hid FIN
  clear FIN
  by_cases hc1 : r < ((hp + (a + 3) / 4 * 4 : Nat) : Int)
  ·clear hc
   go_enter Tryz.func61, Tryz.ntmps61
   go_wp2_with fail
   refine HE.out.mono ?_
   rintro e w1 ⟨rfl, h1, h2⟩
   have H := Go.Lib.hid (And.intro h1 h2)
   clear h1 h2
   go_wp2_with fail
   go_ret2
   exact FIN'.out _ _ ⟨rfl, H.out.1, H.out.2⟩
  ·have hc2 : n < hp + (a + 3) / 4 * 4 := by omega
   clear hc
   go_enter Tryz.func61, Tryz.ntmps61
   go_wp2_with fail
   refine HE.out.mono ?_
   rintro e w1 ⟨rfl, h1, h2⟩
   have H := Go.Lib.hid (And.intro h1 h2)
   clear h1 h2
   go_wp2_with fail
   go_ret2
   exact FIN'.out _ _ ⟨rfl, H.out.1, H.out.2⟩
 ·rw [if_neg hc, if_neg hc]
  have hc1 : ((topOf d a : Nat) : Int) ≤ d.c.R 14 := by omega
  have hc2 : topOf d a ≤ d.n := by omega
  have hle : d.heap ≤ topOf d a := by unfold topOf; omega
  clear hc HE
  have H1 := (HH.out.clear hle hc2).setHeap (topOf d a)
  have HC := (setCells_chg (F := memF p mb) (g := mb) (.inr rfl) (List.replicate (topOf d a - d.heap) (Value.int .u8 0)) d.heap W (Chg.refl _ W)).setCell (p := ⟨p, 23, none⟩) (fun _ => .inl rfl) (.int .u32 (topOf d a : Nat))
  have HB := HH.out.b
  have HP1 := (HH.out.clear hle hc2).m
  have hFin := Go.Lib.hid (And.intro H1 HC)
  have HCl : ∀ j, j < topOf d a - d.heap → (W.cell? ⟨mb, d.heap + j, none⟩).isSome = true := fun j hj => by rw [HH.out.byte (by omega)]; rfl
  have HFr : ∀ j, j < topOf d a - d.heap → W.frozen? ⟨mb, d.heap + j, none⟩ = false := fun j hj => HB.frozen _
  have HCF := Go.Lib.hid (And.intro HCl HFr)
  have HP := Go.Lib.hid HP1
  have ht : topOf d a = d.heap + (a + 3) / 4 * 4 := rfl
  clear H1 HC HB HP1 HCl HFr f23
  have c23 := HP.out.cell 23
  have f23 := HP.out.frozen 23
  rw [show (({ d with M := clr d.M d.heap (topOf d a) } : Mc).arr mb s mm)[23]? = some (.int .u32 d.heap) from rfl] at c23
  have hq0 : topOf d a - d.heap = (a + 3) / 4 * 4 := by omega
  have heq : ((a : Int) + 3) / 4 * 4 = (((a + 3) / 4 * 4 : Nat) : Int) := by omega
  rw [hq0] at c23 f23 hFin HP
  have HCF2 : Hid ((∀ j, j < (a + 3) / 4 * 4 → (W.cell? ⟨mb, d.heap + j, none⟩).isSome = true) ∧ ∀ j, j < (a + 3) / 4 * 4 → W.frozen? ⟨mb, d.heap + j, none⟩ = false) := by rw [← hq0]; exact HCF
  have hqb : (a + 3) / 4 * 4 ≤ 4294967298 := by omega
  clear HCF hq0
  generalize clr d.M d.heap (topOf d a) = M' at *
  generalize topOf d a = t at *
  generalize d.c.R 14 = r at *
  generalize d.heap = hp at *
  generalize d.n = n at *
  generalize (a + 3) / 4 * 4 = q at *
  subst ht
  have hc1' : (hp : Int) + (q : Int) ≤ r := by omega
  have HZ := Go.Lib.hid (show ∀ w, (zeroValue 5).run Tryz.prog w = .ok (.int .u8 0) w from fun w => by kernel_rfl)
  clear hle hc1
  by_cases hcap : hp = n
  ·have h0 : q = 0 := by omega
   subst h0 hcap
   go_enter Tryz.func61, Tryz.ntmps61
   simp only [List.replicate, World.setCells] at c23 f23 hFin
   go_wp2_with ((refine wpList_val _ rfl (.tuple #[]) W ?hxd ?_); (case hxd => ((refine exec_clear (.tmp 56) 44 5 (.int .u8 0) ?_ Tryz.underlying44 HZ.out rfl rfl mb 0 0 0 ?_ (fun j h => absurd h (by omega)) (fun j h => absurd h (by omega))) <;> rfl)))
   exact bodyPost_ret (v := .tuple #[.int .u32 hp, .bool true]) (by simp [results, Tryz.results61, go_sem]) rfl ⟨rfl, hFin.out.1, hFin.out.2⟩
  ·have hlt : hp < n := by omega
   have HCX : Hid (∀ (o : Oper) (a : Act), o.op = .call { callee := .builtin .clear, args := #[.tmp 56], argTypes := #[44] } → a.eval (.tmp 56) = .slice (some ⟨mb, hp, none⟩) (hp + q - hp) (n - hp) → (execOp a.eval o).run Tryz.prog W = .ok (.value (.tuple #[])) (W.setCells mb hp (List.replicate q (Value.int .u8 0)))) := Go.Lib.hid fun o a ho hx => by
    rw [show hp + q - hp = q by omega] at hx
    exact exec_clear (.tmp 56) 44 5 (.int .u8 0) ho Tryz.underlying44 HZ.out rfl rfl mb hp q (n - hp) hx HCF2.out.1 HCF2.out.2
   go_enter Tryz.func61, Tryz.ntmps61
   go_wp2_with ((refine wpList_val _ rfl (.tuple #[]) (W.setCells mb hp (List.replicate q (Value.int .u8 0))) ?hxc ?_); (case hxc => ((refine HCX.out _ _ ?_ ?_) <;> rfl)))
   go_ret2
   exact ⟨rfl, hFin.out.1, hFin.out.2⟩
end
end Go.Proofs.YtggknljlibhkjaaGreat
