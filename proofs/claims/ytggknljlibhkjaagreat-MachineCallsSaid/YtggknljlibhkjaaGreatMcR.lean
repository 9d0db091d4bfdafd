import Derived.Test.YtggknljlibhkjaaGreatMcO
import Derived.Test.YtggknljlibhkjaaGreatGStB
import Derived.Deep.AppendLies
import Derived.Test.YtggknljlibhkjaaGreatStoreX0
import Derived.Test.YtggknljlibhkjaaGreatStoreS
import Derived.Laws.MakeOwn
import Derived.Laws.CopyRow
set_option linter.unusedSimpArgs false
set_option linter.unusedVariables false
namespace Go.Proofs.YtggknljlibhkjaaGreat
open Go Go.RowKit
def wb : List Int → List Int
 | [] => []
 | x :: r => x % 256 :: x / 256 % 256 :: x / 65536 % 256 :: x / 16777216 :: wb r
theorem wb_len : ∀ l : List Int, (wb l).length = 4 * l.length
 | [] => rfl
 | _ :: r => by simp only [wb, List.length_cons, wb_len r]; omega
theorem wb_snoc : ∀ (l : List Int) (x : Int), wb (l ++ [x]) = wb l ++ [x % 256, x / 256 % 256, x / 65536 % 256, x / 16777216]
 | [], _ => rfl
 | y :: r, x => by simp [wb, wb_snoc r x]
def u8s (l : List Int) : List Value := l.map fun x => .int .u8 x
def u32s (l : List Int) : List Value := l.map fun x => .int .u32 x
def BytesPost (l : List Int) (w : World) (e : Ending) (w' : World) : Prop := ∃ v, e = .returned v ∧ w'.ownsRow w.heap.size 5 1 v (4 * l.length) (u8s (wb l)) ∧ Chg NoB w w'
set_option maxRecDepth 100000 in
set_option maxHeartbeats 1000000 in
theorem bytes_c (w : World) (A : Option Addr) (c : Nat) (l : List Int) (hl : l.length ≤ 4194304) (hb : ∀ x ∈ l, 0 ≤ x ∧ x < 4294967296) (h : CellsAt w A (u32s l)) : Calls Tryz.prog 59 #[.slice A l.length c] w (BytesPost l w) := by
 have H := Go.Lib.hid h
 have HB := Go.Lib.hid hb
 obtain ⟨i0, hi0, hz0, hz1, hz2⟩ := info_parts u8info
 have Hi := Go.Lib.hid (And.intro hi0 (And.intro hz0 (And.intro hz1 hz2)))
 clear h hb hi0 hz0 hz1 hz2
 go_enter Tryz.func59, Tryz.ntmps59
 go_wp2_with fail
 go_loopw [3, 5, 8] (fun v3 _ v8 wr => ∃ (k : Nat) (rv : Value), k ≤ l.length ∧ rv = v3 ∧ v8 = .int .i64 k ∧ wr.ownsRow w.heap.size 5 1 v3 (4 * k) (u8s (wb (l.take k))) ∧ Chg NoB w wr) (fun _ _ v8 _ => l.length - (intOf v8).toNat)
 case atStart => exact ⟨0, _, Nat.zero_le _, rfl, rfl, by simpa [wb, u8s] using World.ownsRow_nil _ _ _ _, Chg.refl _ _⟩
 case round =>
  obtain ⟨k, rv, hk, rfl, rfl, hown, hc⟩ := hrel
  have HO := Go.Lib.hid (And.intro hown hc)
  clear hown hc
  by_cases hlt : k < l.length
  ·obtain ⟨ad, rfl, hcell⟩ := H.out (by simp [u32s]; omega)
   have hbk := HB.out l[k] (List.getElem_mem _)
   have hck : wr.cell? (ad.add k) = some (.int .u32 l[k]) := by
    have h1 := hcell k (.int .u32 l[k]) (by simp [u32s, hlt])
    exact (World.cell?_of_block (HO.out.2.block _ (World.block_lt_of_cell? w _ h1) id)).trans h1
   have hsn : l.take (k + 1) = l.take k ++ [l[k]] := by rw [List.take_succ_eq_append_getElem hlt]
   have HS := Go.Lib.hid hsn
   clear hsn hcell
   generalize l[k] = x at *
   go_wp2_with (at_builtin; go_must (refine wpList_app _ rfl (.tmp 12) (.tmp 24) _ rfl w.heap.size 5 i0 _ 1 Tryz.underlying44 Hi.out.1 Hi.out.2.1 Hi.out.2.2.1 Hi.out.2.2.2 rfl rv (4 * k) (u8s (wb (l.take k))) rfl (HO.out.1.alloc _) (some ⟨wr.heap.size, 0, none⟩) 4 4 [.int .u8 (x % 256), .int .u8 (x / 256 % 256), .int .u8 (x / 65536 % 256), .int .u8 (x / 16777216)] rfl rfl (cells_of_blk (Blk.new wr _ _)) (by simp [Value.oneCell']) (by unfold maxLen; omega) (by omega) (by have := HO.out.2.size; simp; omega) ?_); intro v1 w1 own1 gr1 at1)
   refine ⟨⟨k + 1, _, hlt, rfl, by simp, ?_, (HO.out.2.alloc _).grown gr1 fun j hj hlt => ?_⟩, ?_⟩
   ·have e1 : 4 * (k + 1) = 4 * k + 4 := by omega
    rw [e1, HS.out, wb_snoc]
    unfold u8s at own1 ⊢
    rw [List.map_append]
    exact own1
   ·rcases HO.out.1.2 with ⟨rfl, _⟩ | ⟨g, cap, cur, rfl, hb, _⟩
    ·simp [Value.ownBlock] at hj
    ·have : g = j := by simpa [Value.ownBlock] using hj
     omega
   ·simp only [intOf]
    omega
  ·have hkl : k = l.length := by omega
   subst hkl
   have hnn : decide ((l.length : Int) < l.length) = false := by simp
   go_wp2_with fail
   go_ret
   have h1 := HO.out.1
   rw [List.take_length] at h1
   exact ⟨_, rfl, h1, HO.out.2⟩
def zeroR : Nat → Int := fun _ => 0
def Mc.new (n : Nat) (l : List Int) : Mc := ⟨⟨upd zeroR 14 n, 0, false, false, false, false, 0⟩, n, fun i => (wb l).getD i 0, 4 * l.length, 0, 0⟩
def Mc.arr0 (d : Mc) (mb s : Nat) : Array Value := d.c.arr ++ #[.slice (some ⟨mb, 0, none⟩) d.n d.n, .int .u32 d.heap, .pointer (some ⟨s, 0, none⟩), .int .i64 d.kind, .int .u32 d.code, .map none]
theorem copy_list (n : Nat) (l : List Int) (h : l.length ≤ n) : ((memArr n zeroR).toList.take 0 ++ u8s l ++ (memArr n zeroR).toList.drop (0 + (u8s l).length)).toArray = memArr n (fun i => l.getD i 0) := by
 apply Array.ext_getElem?
 intro j
 have e : (u8s l).length = l.length := by simp [u8s]
 by_cases hj : j < n
 ·rw [memArr_get _ hj]
  simp only [List.take_zero, List.nil_append, List.getElem?_toArray, List.getElem?_append, List.getElem?_drop, e]
  split
  ·rename_i hl
   simp [u8s, hl]
  ·rename_i hl
   rw [show 0 + l.length + (j - l.length) = j by omega, Array.getElem?_toList, memArr_get _ hj]
   simp [zeroR, List.getElem?_eq_none (Nat.le_of_not_lt hl)]
 ·have h1 : (memArr n (fun i => l.getD i 0))[j]? = none := Array.getElem?_eq_none (by rw [memArr_size]; omega)
  rw [h1]
  refine Array.getElem?_eq_none ?_
  have := memArr_size n zeroR
  simp [e]
  omega
def codeAt (k : Nat) : Array MapEntry := ((codeL.take k).zipIdx.map fun x => (⟨.int .i64 x.1.1, .func (.func x.1.2) #[] #[], x.2⟩ : MapEntry)).toArray
theorem ins_code {W : World} {mm : Nat} (k : Nat) (key : Int) (fn : FuncId) (h : W.heap[mm]? = some (.map (codeAt k) k)) (hf : Instr.findNow (.int .i64) (.int .i64 key) (codeAt k).toList 0 = some none)
  (he : (codeAt k).push ⟨.int .i64 key, .func (.func fn) #[] #[], k⟩ = codeAt (k + 1)) :
  ∃ W', (Instr.mapUpdate MapT (.map (some mm)) (.int .i64 key) (.func (.func fn) #[] #[])).run Tryz.prog W = .ok () W' ∧ W'.heap[mm]? = some (.map (codeAt (k + 1)) (k + 1)) ∧ Chg (fun j => j = mm) W W' := by
 have hc : ∀ e, (Instr.checkKey e 10000 3 (.int .i64 key)).run Tryz.prog W = .ok () W := fun e => MapKept.run_checkKey Tryz.underlying3 (isKey_i64 key) e 9999
 have hlt : mm < W.heap.size := (Array.getElem?_eq_some_iff.1 h).1
 refine ⟨{ W with heap := W.heap.setIfInBounds mm (.map (codeAt (k + 1)) (k + 1)) }, ?_, by simp [hlt], ⟨rfl, rfl, rfl, by simp, fun j hj hn => by rw [Array.getElem?_setIfInBounds]; rw [if_neg (fun e => hn e.symm)]⟩⟩
 have hf' := MapKept.run_findKey (P := Tryz.prog) (w := W) Tryz.underlying3 hf
 simp only [Instr.mapUpdate, run_underlying Tryz.underlying89, Sem.run_bind, MapKept.run_getObj_map h, hc, hf', Result.andThen, MapKept.run_setObj_map _ h, he]
theorem ins_all (W0 : World) (mm : Nat) (h0 : W0.heap[mm]? = some (.map #[] 0)) : ∃ W1 W2 W3 W4 W5 W6 W7 W8 W9 W10 W11 W12 W13,
  (Instr.mapUpdate MapT (.map (some mm)) (.int .i64 16) (.func (.func 60) #[] #[])).run Tryz.prog W0 = .ok () W1 ∧
  (Instr.mapUpdate MapT (.map (some mm)) (.int .i64 17) (.func (.func 61) #[] #[])).run Tryz.prog W1 = .ok () W2 ∧
  (Instr.mapUpdate MapT (.map (some mm)) (.int .i64 18) (.func (.func 62) #[] #[])).run Tryz.prog W2 = .ok () W3 ∧
  (Instr.mapUpdate MapT (.map (some mm)) (.int .i64 19) (.func (.func 63) #[] #[])).run Tryz.prog W3 = .ok () W4 ∧
  (Instr.mapUpdate MapT (.map (some mm)) (.int .i64 20) (.func (.func 64) #[] #[])).run Tryz.prog W4 = .ok () W5 ∧
  (Instr.mapUpdate MapT (.map (some mm)) (.int .i64 21) (.func (.func 65) #[] #[])).run Tryz.prog W5 = .ok () W6 ∧
  (Instr.mapUpdate MapT (.map (some mm)) (.int .i64 22) (.func (.func 66) #[] #[])).run Tryz.prog W6 = .ok () W7 ∧
  (Instr.mapUpdate MapT (.map (some mm)) (.int .i64 23) (.func (.func 67) #[] #[])).run Tryz.prog W7 = .ok () W8 ∧
  (Instr.mapUpdate MapT (.map (some mm)) (.int .i64 24) (.func (.func 68) #[] #[])).run Tryz.prog W8 = .ok () W9 ∧
  (Instr.mapUpdate MapT (.map (some mm)) (.int .i64 25) (.func (.func 69) #[] #[])).run Tryz.prog W9 = .ok () W10 ∧
  (Instr.mapUpdate MapT (.map (some mm)) (.int .i64 26) (.func (.func 70) #[] #[])).run Tryz.prog W10 = .ok () W11 ∧
  (Instr.mapUpdate MapT (.map (some mm)) (.int .i64 27) (.func (.func 71) #[] #[])).run Tryz.prog W11 = .ok () W12 ∧
  (Instr.mapUpdate MapT (.map (some mm)) (.int .i64 28) (.func (.func 72) #[] #[])).run Tryz.prog W12 = .ok () W13 ∧
  W13.heap[mm]? = some (.map codeEs 13) ∧ Chg (fun j => j = mm) W0 W13 := by
 obtain ⟨W1, r0, h1, c0⟩ := ins_code (W := W0) (mm := mm) 0 16 60 h0 (by rfl) (by rfl)
 obtain ⟨W2, r1, h2, c1⟩ := ins_code (W := W1) (mm := mm) 1 17 61 h1 (by rfl) (by rfl)
 obtain ⟨W3, r2, h3, c2⟩ := ins_code (W := W2) (mm := mm) 2 18 62 h2 (by rfl) (by rfl)
 obtain ⟨W4, r3, h4, c3⟩ := ins_code (W := W3) (mm := mm) 3 19 63 h3 (by rfl) (by rfl)
 obtain ⟨W5, r4, h5, c4⟩ := ins_code (W := W4) (mm := mm) 4 20 64 h4 (by rfl) (by rfl)
 obtain ⟨W6, r5, h6, c5⟩ := ins_code (W := W5) (mm := mm) 5 21 65 h5 (by rfl) (by rfl)
 obtain ⟨W7, r6, h7, c6⟩ := ins_code (W := W6) (mm := mm) 6 22 66 h6 (by rfl) (by rfl)
 obtain ⟨W8, r7, h8, c7⟩ := ins_code (W := W7) (mm := mm) 7 23 67 h7 (by rfl) (by rfl)
 obtain ⟨W9, r8, h9, c8⟩ := ins_code (W := W8) (mm := mm) 8 24 68 h8 (by rfl) (by rfl)
 obtain ⟨W10, r9, h10, c9⟩ := ins_code (W := W9) (mm := mm) 9 25 69 h9 (by rfl) (by rfl)
 obtain ⟨W11, r10, h11, c10⟩ := ins_code (W := W10) (mm := mm) 10 26 70 h10 (by rfl) (by rfl)
 obtain ⟨W12, r11, h12, c11⟩ := ins_code (W := W11) (mm := mm) 11 27 71 h11 (by rfl) (by rfl)
 obtain ⟨W13, r12, h13, c12⟩ := ins_code (W := W12) (mm := mm) 12 28 72 h12 (by rfl) (by rfl)
 exact ⟨W1, W2, W3, W4, W5, W6, W7, W8, W9, W10, W11, W12, W13, r0, r1, r2, r3, r4, r5, r6, r7, r8, r9, r10, r11, r12, h13, ((((((((((((c0.trans c1).trans c2).trans c3).trans c4).trans c5).trans c6).trans c7).trans c8).trans c9).trans c10).trans c11).trans c12)⟩
theorem copy_mem {w : World} {base g pb n : Nat} {T : TypeId} {cs : Array Value} {v : Value} {l : List Int} (ho : w.ownsRow base U8 1 v l.length (u8s l)) (hb : Blk w g U8 (memArr n zeroR)) (hp : Blk w pb T cs) (hT : T ≠ U8) (hl : l.length ≤ n) (hg : g < base) :
  ∃ w', (Builtin.copy_ #[44, 44] 3 #[.slice (some ⟨g, 0, none⟩) n n, v]).run Tryz.prog w = .ok (.int .i64 l.length) w' ∧ Blk w' g U8 (memArr n (fun i => l.getD i 0)) ∧ Chg (fun k => k = g) w w' ∧ Blk w' pb T cs := by
 have hpg : pb ≠ g := hp.ne_ hb hT
 have hle : (u8s l).length = l.length := by simp [u8s]
 have ho' := ho
 rcases ho.2 with ⟨rfl, h0⟩ | ⟨g', cap, cur, rfl, hb', hg', _⟩
 ·obtain rfl : l = [] := List.eq_nil_of_length_eq_zero (by omega)
  refine ⟨w, run_copy_nil _ w _ _ _ U8 ⟨g, 0, none⟩ n n Tryz.underlying44 (by rw [u8size]; rfl), ?_, Chg.refl _ _, hp⟩
  exact hb
 ·have hsrc := CellsAt.of_own ho'
  have hr := run_copy_row Tryz.prog w 44 44 3 U8 g 0 n n ⟨g', 0, none⟩ l.length cap (memArr n zeroR) U8 (u8s l) Tryz.underlying44 u8size hb (by rw [hle]; exact (Nat.min_eq_left hl).symm) (fun j u hj => by
   obtain ⟨ad, had, hc⟩ := hsrc (by have := (List.getElem?_eq_some_iff.1 hj).1; omega)
   obtain rfl := Option.some.inj had
   exact hc j u hj) (by rw [memArr_size]; omega) (fun u hu => by
   simp only [u8s, List.mem_map] at hu
   obtain ⟨x, _, rfl⟩ := hu
   rfl)
  rw [copy_list n l hl, hle] at hr
  exact ⟨_, hr, hb.setRow _, (Chg.refl (fun k => k = g) w).setRow (fun _ => rfl) _, hp.farRow hpg _⟩
set_option maxRecDepth 100000 in
theorem made_u8 (n : Nat) : madeCells #[.int .u8 0] (n * 1) = memArr n zeroR := by
 apply Array.ext_getElem?
 intro j
 by_cases hj : j < n
 ·rw [memArr_get _ hj]
  simp [madeCells, hj, zeroR, Nat.mod_one]
 ·have h1 : (memArr n zeroR)[j]? = none := Array.getElem?_eq_none (by rw [memArr_size]; omega)
  have h2 : (madeCells #[Value.int .u8 0] (n * 1))[j]? = none := Array.getElem?_eq_none (by simp [madeCells]; omega)
  rw [h1, h2]
def MNewPost (s n : Nat) (l : List Int) (base : Nat) (v : V) (F : Nat → Prop) (w : World) (e : Ending) (w' : World) : Prop :=
 ∃ p mb mm, e = .returned (.tuple #[.pointer (some ⟨p, 0, none⟩), .int .i64 0]) ∧ MAt w' p mb s mm (Mc.new n l) ∧ StoreV base w' s v F ∧ Chg NoB w w' ∧ w.heap.size ≤ p ∧ w.heap.size ≤ mb ∧ w.heap.size ≤ mm
section
variable {base s : Nat} {w : World} {v : V} {F : Nat → Prop}
theorem drop_empty (h : StoreV base w s v F) : Calls Tryz.prog 58 #[.pointer (some ⟨s, 0, none⟩), .string ⟨#[]⟩] w (Quiet (.int .i64 2) w) := by
 obtain ⟨S, φ, h1, h2, rfl⟩ := h
 exact drop_no h1 (by decide) (.inl ⟨by decide, rfl⟩)
set_option maxRecDepth 100000 in
set_option maxHeartbeats 2000000 in
theorem mnew_c (h : StoreV base w s v F) (n : Nat) (A : Option Addr) (c : Nat) (l : List Int) (hn : 64 ≤ n ∧ n ≤ 16777216 ∧ n % 4 = 0) (hl : l.length ≤ n / 4) (hb : ∀ x ∈ l, 0 ≤ x ∧ x < 4294967296) (hc : CellsAt w A (u32s l)) :
  Calls Tryz.prog 21 #[.int .i64 n, .slice A l.length c, .pointer (some ⟨s, 0, none⟩)] w (MNewPost s n l base v F w) := by
 have HD := Go.Lib.hid (drop_empty h)
 have H := Go.Lib.hid (And.intro h (And.intro hb hc))
 have g1 : decide ((n : Int) < 64) = false := by simp; omega
 have g2 : decide ((n : Int) > 16777216) = false := by simp; omega
 have g3 : ((n : Int) % 4 != 0) = false := by
  have : (n : Int) % 4 = 0 := by omega
  rw [this]; rfl
 have g4 : decide ((n : Int) / 4 < (l.length : Int)) = false := by simp; omega
 obtain ⟨i0, hi0, hz0, hz1, hz2⟩ := info_parts u8info
 have HM : Hid (∀ W : World, (Instr.makeSlice 44 (.int .i64 n) (.int .i64 n)).run Tryz.prog W = .ok (.slice (some ⟨W.heap.size, 0, none⟩) n n) (W.alloc (.cells (memArr n zeroR) U8))) := Go.Lib.hid (fun W => by
  have := run_make (P := Tryz.prog) W 44 U8 i0 _ Tryz.underlying44 hi0 hz0 .i64 .i64 n n (by omega) (by omega) (by rw [hz2]; omega) (by omega)
  rw [this, hz1, ← made_u8]
  rfl)
 have hl2 : (4 * (l.length : Int)) % 4294967296 = 4 * l.length := by omega
 clear h hb hc
 go_enter Tryz.func21, Tryz.ntmps21
 go_wp2_with fail
 refine HD.out.mono ?_
 rintro e w1 ⟨rfl, hc1⟩
 have H1 := Go.Lib.hid hc1
 clear hc1
 go_wp2_with fail
 rw [HM.out]
 go_wp2_with fail
 have hb0 : Blk ((w1.alloc (.cells (memArr n zeroR) U8)).alloc (.cells ((⟨⟨zeroR, 0, false, false, false, false, 0⟩, n, zeroR, 4 * l.length, 0, 0⟩ : Mc).arr0 w1.heap.size s) MT)) (w1.heap.size + 1) MT _ := Blk.new1 _ _ _ _
 have hb1 : Blk ((w1.alloc (.cells (memArr n zeroR) U8)).alloc (.cells ((⟨⟨zeroR, 0, false, false, false, false, 0⟩, n, zeroR, 4 * l.length, 0, 0⟩ : Mc).arr0 w1.heap.size s) MT)) w1.heap.size U8 (memArr n zeroR) := (Blk.new _ _ _).alloc _
 have hch : Chg NoB w ((w1.alloc (.cells (memArr n zeroR) U8)).alloc (.cells ((⟨⟨zeroR, 0, false, false, false, false, 0⟩, n, zeroR, 4 * l.length, 0, 0⟩ : Mc).arr0 w1.heap.size s) MT)) := (H1.out.alloc _).alloc _
 have hsz := H1.out.size
 have hz : ((w1.alloc (.cells (memArr n zeroR) U8)).alloc (.cells ((⟨⟨zeroR, 0, false, false, false, false, 0⟩, n, zeroR, 4 * l.length, 0, 0⟩ : Mc).arr0 w1.heap.size s) MT)).heap.size = w1.heap.size + 2 := by simp
 change (Code.wp _ _ _ _ ((w1.alloc (.cells (memArr n zeroR) U8)).alloc (.cells ((⟨⟨zeroR, 0, false, false, false, false, 0⟩, n, zeroR, 4 * l.length, 0, 0⟩ : Mc).arr0 w1.heap.size s) MT)))
 generalize (w1.alloc (.cells (memArr n zeroR) U8)).alloc (.cells ((⟨⟨zeroR, 0, false, false, false, false, 0⟩, n, zeroR, 4 * l.length, 0, 0⟩ : Mc).arr0 w1.heap.size s) MT) = W at *
 generalize w1.heap.size = mb at *
 have HB : Hid (∀ W', Chg NoB w W' → Calls Tryz.prog 59 #[.slice A l.length c] W' (BytesPost l W')) := Go.Lib.hid fun W' hc' => bytes_c W' A c l (by omega) H.out.2.1 (H.out.2.2.chg hc' (fun _ _ => id))
 have h22 : Hid (((⟨⟨zeroR, 0, false, false, false, false, 0⟩, n, zeroR, 4 * l.length, 0, 0⟩ : Mc).arr0 mb s)[22]? = some (Value.slice (some ⟨mb, 0, none⟩) n n)) := Go.Lib.hid rfl
 generalize har : (Mc.arr0 ⟨⟨zeroR, 0, false, false, false, false, 0⟩, n, zeroR, 4 * l.length, 0, 0⟩ mb s) = AR at *
 refine regionH (fun V' => Blk V' (mb + 1) MT AR) (by kernel_rfl) hb0.drew (fun hS => ?_)
 refine takeH (i := 0) (t := 39) (v := ?v0y1) rfl (by kernel_rfl) (fun _ _ _ h => h) rfl (Or.inl ⟨by rfl, ?h0y1⟩) hS ?r0y1
 case h0y1 => (intro V' hSw; go_simp; try with_reducible rfl)
 try simp only [sw1, sw2, sw3]
 refine takeH (i := 1) (t := 40) (v := ?v1y2) rfl (by kernel_rfl) (fun _ _ _ h => h) rfl (Or.inl ⟨by rfl, ?h1y2⟩) hS ?r1y2
 case h1y2 => (intro V' hSw; go_simp; try with_reducible rfl)
 try simp only [sw1, sw2, sw3]
 refine takeH (i := 2) (t := 41) (v := ?v2y3) rfl (by kernel_rfl) (fun _ _ _ h => h) rfl (Or.inl ⟨by rfl, ?h2y3⟩) hS ?r2y3
 case h2y3 => (intro V' hSw; go_simp; try with_reducible rfl)
 try simp only [sw1, sw2, sw3]
 refine takeH (i := 3) (t := 42) (v := ?v3y4) rfl (by kernel_rfl) (fun _ _ _ h => h) rfl (Or.inl ⟨by rfl, ?h3y4⟩) hS ?r3y4
 case h3y4 => (intro V' hSw; have z22 := hSw.cell 22; rw [h22.out] at z22; clear hSw; go_simp; try with_reducible rfl)
 try simp only [sw1, sw2, sw3]
 refine takeH (i := 4) (t := 43) (v := ?v4y5) rfl (by kernel_rfl) (fun _ _ _ h => h) rfl (Or.inl ⟨by rfl, ?h4y5⟩) hS ?r4y5
 case h4y5 => (intro V' hSw; go_simp; try with_reducible rfl)
 try simp only [sw1, sw2, sw3]
 refine manyH (i := 5) (l := []) (by kernel_rfl) ?hm
 case hm =>
  intro j hj
  obtain rfl : j = 5 := by simpa using hj
  refine opCallH (t := 44) (f := 59) (args := #[.slice A l.length c]) rfl rfl (by rfl) ?hx ?hc
  case hx => (go_simp; try rfl)
  case hc =>
   refine (HB.out W.drew (hch.drew)).mono ?_
   rintro ee w2 ⟨rv, rfl, hown, hq⟩
   have hS := hS.chg hq (fun h => h)
   have hB1 := hb1.drew.chg hq (fun h => h)
   have HC2 := Go.Lib.hid (hch.drew.trans hq)
   refine ⟨_, rfl, hS, ?_⟩
   try simp only [sw1, sw2, sw3]
   refine manyH (i := 6) (l := []) (by kernel_rfl) ?hm
   case hm =>
    intro j hj
    obtain rfl : j = 6 := by simpa using hj
    obtain ⟨w3, hrun, hb3, hc3, hS3⟩ := copy_mem (by rw [wb_len]; exact hown) hB1 hS (by decide) (by rw [wb_len]; omega) (show mb < W.heap.size by omega)
    refine opValH (t := 45) (v := .int .i64 (4 * l.length)) (w' := w3) rfl rfl (by rfl) ?hx hS3 ?hn
    case hx => (go_simp; rw [wb_len]; omega)
    case hn =>
     try simp only [sw1, sw2, sw3]
     refine wpAnyH_done (by kernel_rfl) ?_ _
     have HR := Go.Lib.hid (And.intro hS3 (And.intro hb3 (HC2.out.step hc3 (fun i hi h => absurd hi (by omega)))))
     have c14 : w3.cell? ⟨mb + 1, 14, none⟩ = some (.int .u32 0) := by
      rw [hS3.cell 14, ← har]; rfl
     have z14 := hS3.frozen 14
     have hn32 : (n : Int) % 4294967296 = n := by omega
     clear hrun hb3 hc3 hS3 hB1 hS hown hq hb1 hch hb0 hj
     go_wp2_with fail
     clear c14 z14
     obtain ⟨hS4, hb4, hc4⟩ := HR.out
     have hB := hS4.set_ 14 (.int .u32 n)
     have hB1 := hb4.far (p := ⟨mb + 1, 14, none⟩) (show mb ≠ mb + 1 by omega) (.int .u32 n)
     have hC := hc4.setCell (p := ⟨mb + 1, 14, none⟩) (fun h => absurd h (show ¬ mb + 1 < w.heap.size by omega)) (.int .u32 n)
     clear hS4 hb4 hc4 HR
     generalize w3.setCell ⟨mb + 1, 14, none⟩ (.int .u32 n) = W4 at *
     have hmm : (Instr.makeMap MapT none).run Tryz.prog W4 = .ok (.map (some W4.heap.size)) (W4.alloc (.map #[] 0)) := run_makeMap _ W4
     have hM0 : (W4.alloc (.map #[] 0)).heap[W4.heap.size]? = some (.map #[] 0) := heap_alloc_new W4 _
     have hB := hB.alloc (.map #[] 0)
     have hlt := hB1.lt
     have hlt2 := hC.size
     have hB1 := hB1.alloc (.map #[] 0)
     have hC := hC.alloc (.map #[] 0)
     have hmn : W4.heap.size ≠ mb + 1 := fun e => by
      have := hM0; rw [e] at this; rw [show _ = _ from hB] at this; cases this
     generalize W4.alloc (.map #[] 0) = W5 at *
     generalize hmmE : W4.heap.size = mm at *
     obtain ⟨W6, W7, W8, W9, W10, W11, W12, W13, W14, W15, W16, W17, W18, i0, i1, i2, i3, i4, i5, i6, i7, i8, i9, i10, i11, i12, hM, hCM⟩ := ins_all W5 mm hM0
     have hB := hB.chg hCM (fun e => hmn e.symm)
     have hB1 := hB1.chg hCM (show ¬ mb = mm by omega)
     have hC := hC.step hCM (fun i hi h => absurd hi (by omega))
     have k27 : W18.cell? ⟨mb + 1, 27, none⟩ = some (.map none) := by
      rw [hB.cell 27, ← har]; rfl
     have z27 := hB.frozen 27
     have HR := Go.Lib.hid (And.intro hB (And.intro hB1 (And.intro hC hM)))
     clear hB hB1 hC hM hCM hM0
     rw [hmm]
     go_wp2_with fail
     go_ret2
     obtain ⟨hB, hB1, hC, hM⟩ := HR.out
     have hl4 : (((4 * l.length : Nat) : Int)) = 4 * (l.length : Int) := by omega
     refine ⟨mb + 1, mb, mm, rfl, ⟨?_, hB1.far (p := ⟨mb + 1, 27, none⟩) (show mb ≠ mb + 1 by omega) _, (Below.heap_setCell _ _ _ _ (show mm ≠ mb + 1 from hmn)).trans hM⟩, H.out.1.quiet (hC.setCell (p := ⟨mb + 1, 27, none⟩) (fun h => absurd h (show ¬ mb + 1 < w.heap.size by omega)) _), hC.setCell (p := ⟨mb + 1, 27, none⟩) (fun h => absurd h (show ¬ mb + 1 < w.heap.size by omega)) _, by omega, by omega, by omega⟩
     have := hB.set_ 27 (.map (some mm))
     rw [← har] at this
     exact this
end
end Go.Proofs.YtggknljlibhkjaaGreat
