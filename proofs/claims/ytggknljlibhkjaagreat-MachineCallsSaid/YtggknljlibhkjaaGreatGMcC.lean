import Derived.Test.YtggknljlibhkjaaGreatMcP
import Derived.Test.YtggknljlibhkjaaGreatMcR
import Derived.Test.YtggknljlibhkjaaGreatMcU
import Derived.Test.YtggknljlibhkjaaGreatStoreX0
set_option linter.unusedSimpArgs false
set_option linter.unusedVariables false
namespace Go.Proofs.YtggknljlibhkjaaGreat
open Go Go.RowKit
theorem u32info : (Tryz.prog.info? 23).map (fun i => (i.zero, i.size, i.bytes)) = some (some (.int .u32 0), 1, 4) := by kernel_rfl
def wordsPost (xs : List Int) (W : World) (e : Ending) (w' : World) : Prop := ∃ A c, e = .returned (.slice A xs.length c) ∧ CellsAt w' A (u32s xs) ∧ Chg NoB W w'
def wordsOwn (xs : List Int) (W : World) (e : Ending) (w' : World) : Prop := ∃ A c, e = .returned (.slice A xs.length c) ∧ w'.ownsRow W.heap.size 23 1 (.slice A xs.length c) xs.length (u32s xs) ∧ Chg NoB W w'
def WordOf (i : In) (x : Int) : Prop := ∀ W, Calls Tryz.prog 32 #[i.val] W (Quiet (.int .u32 x) W)
set_option maxRecDepth 100000 in
set_option maxHeartbeats 1000000 in
theorem words1_c (i : In) (x : Int) (hw : WordOf i x) (W : World) (g : Nat) (hg : Blk W g InT i.arr) : Calls Tryz.prog 8 #[.slice (some ⟨g, 0, none⟩) 1 1] W (wordsPost [x] W) := by
 obtain ⟨i0, hi0, hz0, hz1, hz2⟩ := info_parts u32info
 have Hi := Go.Lib.hid (And.intro hi0 (And.intro hz0 (And.intro hz1 hz2)))
 have HW := Go.Lib.hid hw
 have HR : Hid (W.rangeAt g 0 i.arr.toList) := Go.Lib.hid fun j v hv => by
  rw [Nat.zero_add, hg.cell j]; simpa using hv
 clear hi0 hz0 hz1 hz2 hw hg
 unfold WordOf at HW
 go_enter Tryz.func8, Tryz.ntmps8
 go_wp2_with fail
 refine wp_loop_rounds 2 ?_
 rw [rounds_succ]
 go_wp2_with (refine wpList_load_mid rfl 33 (.tmp 14) rfl g 0 rfl i.arr.toList _ HR.out Tryz.underlying33 rfl (by kernel_rfl) ?_)
 refine (HW.out W).mono ?_
 rintro e w1 ⟨rfl, hc1⟩
 have H1 := Go.Lib.hid hc1
 have hsz := hc1.size
 clear hc1
 go_wp2_with (at_builtin; go_must (refine wpList_app _ rfl (.tmp 11) (.tmp 17) _ rfl W.heap.size 23 i0 _ 4 Tryz.underlying29 Hi.out.1 Hi.out.2.1 Hi.out.2.2.1 Hi.out.2.2.2 rfl (.slice none 0 0) 0 [] rfl (World.ownsRow_nil _ _ _ _) (some ⟨w1.heap.size, 0, none⟩) 1 1 [.int .u32 x] rfl rfl (cells_of_blk (Blk.new w1 _ _)) (by simp [Value.oneCell']) (by unfold maxLen; omega) (by omega) (by simp; omega) ?_); intro v1 w2 own1 gr1 at1)
 obtain ⟨A, c, rfl⟩ := own_slice own1
 have H2 := Go.Lib.hid ((H1.out.alloc _).grown gr1 (by simp [Value.ownBlock]))
 have HO := Go.Lib.hid own1
 clear own1 gr1 at1
 rw [rounds_succ]
 go_wp2_with fail
 go_ret
 exact ⟨A, c, rfl, CellsAt.of_own HO.out, H2.out⟩
set_option maxRecDepth 100000 in
set_option maxHeartbeats 2000000 in
theorem words2_o (i j : In) (x y : Int) (hw : WordOf i x) (hw' : WordOf j y) (W : World) (g : Nat) (hg : Blk W g InT (i.arr ++ j.arr)) : Calls Tryz.prog 8 #[.slice (some ⟨g, 0, none⟩) 2 2] W (wordsOwn [x, y] W) := by
 obtain ⟨i0, hi0, hz0, hz1, hz2⟩ := info_parts u32info
 have Hi := Go.Lib.hid (And.intro hi0 (And.intro hz0 (And.intro hz1 hz2)))
 have HW := Go.Lib.hid hw
 have HW' := Go.Lib.hid hw'
 have HR : Hid (W.rangeAt g 0 i.arr.toList) := Go.Lib.hid fun k v hv => by
  have hk : k < 11 := (List.getElem?_eq_some_iff.1 hv).1
  rw [Nat.zero_add, hg.cell k, Array.getElem?_append_left (by exact hk)]
  simpa using hv
 have HR' : Hid (∀ W', Chg NoB W W' → W'.rangeAt g 11 j.arr.toList) := Go.Lib.hid fun W' hc k v hv => by
  rw [(hg.chg hc (fun h => h)).cell (11 + k), Array.getElem?_append_right (by show i.arr.size ≤ 11 + k; exact Nat.le_add_right 11 k)]
  have e : 11 + k - i.arr.size = k := by show 11 + k - 11 = k; omega
  rw [e]
  simpa using hv
 clear hi0 hz0 hz1 hz2 hw hg hw'
 unfold WordOf at HW HW'
 go_enter Tryz.func8, Tryz.ntmps8
 go_wp2_with fail
 refine wp_loop_rounds 3 ?_
 rw [rounds_succ]
 go_wp2_with (refine wpList_load_mid rfl 33 (.tmp 14) rfl g 0 rfl i.arr.toList _ HR.out Tryz.underlying33 rfl (by kernel_rfl) ?_)
 refine (HW.out W).mono ?_
 rintro e w1 ⟨rfl, hc1⟩
 have H1 := Go.Lib.hid hc1
 have hsz := hc1.size
 clear hc1
 go_wp2_with (at_builtin; go_must (refine wpList_app _ rfl (.tmp 11) (.tmp 17) _ rfl W.heap.size 23 i0 _ 4 Tryz.underlying29 Hi.out.1 Hi.out.2.1 Hi.out.2.2.1 Hi.out.2.2.2 rfl (.slice none 0 0) 0 [] rfl (World.ownsRow_nil _ _ _ _) (some ⟨w1.heap.size, 0, none⟩) 1 1 [.int .u32 x] rfl rfl (cells_of_blk (Blk.new w1 _ _)) (by simp [Value.oneCell']) (by unfold maxLen; omega) (by omega) (by simp; omega) ?_); intro v1 w2 own1 gr1 at1)
 have H2 := Go.Lib.hid ((H1.out.alloc _).grown gr1 (by simp [Value.ownBlock]))
 have HO := Go.Lib.hid own1
 have hsz2 := H2.out.size
 clear own1 gr1 at1
 rw [rounds_succ]
 go_wp2_with (refine wpList_load_mid rfl 33 (.tmp 14) rfl g 11 rfl j.arr.toList _ (HR'.out _ H2.out) Tryz.underlying33 rfl (by kernel_rfl) ?_)
 refine (HW'.out w2).mono ?_
 rintro e w3 ⟨rfl, hc3⟩
 have H3 := Go.Lib.hid (H2.out.trans hc3)
 have HO3 := Go.Lib.hid (own_chg HO.out hc3 (fun _ _ => id))
 have hsz3 := hc3.size
 clear hc3 HO
 go_wp2_with (at_builtin; go_must (refine wpList_app _ rfl (.tmp 11) (.tmp 17) _ rfl W.heap.size 23 i0 _ 4 Tryz.underlying29 Hi.out.1 Hi.out.2.1 Hi.out.2.2.1 Hi.out.2.2.2 rfl v1 (0 + 1) ([] ++ [.int .u32 x]) rfl (HO3.out.alloc _) (some ⟨w3.heap.size, 0, none⟩) 1 1 [.int .u32 y] rfl rfl (cells_of_blk (Blk.new w3 _ _)) (by simp [Value.oneCell']) (by unfold maxLen; omega) (by omega) (by simp; omega) ?_); intro v2 w4 own2 gr2 at2)
 obtain ⟨A, c, rfl⟩ := own_slice own2
 have H4 := Go.Lib.hid ((H3.out.alloc _).grown gr2 fun k hk hlt => by
  rcases HO3.out.2 with ⟨rfl, _⟩ | ⟨g', cap, cur, rfl, hb, _⟩
  ·simp [Value.ownBlock] at hk
  ·have : g' = k := by simpa [Value.ownBlock] using hk
   omega)
 have HO4 := Go.Lib.hid own2
 clear own2 gr2 at2
 rw [rounds_succ]
 go_wp2_with fail
 go_ret
 exact ⟨A, c, rfl, HO4.out, H4.out⟩
theorem words2_c (i j : In) (x y : Int) (hw : WordOf i x) (hw' : WordOf j y) (W : World) (g : Nat) (hg : Blk W g InT (i.arr ++ j.arr)) : Calls Tryz.prog 8 #[.slice (some ⟨g, 0, none⟩) 2 2] W (wordsPost [x, y] W) :=
 (words2_o i j x y hw hw' W g hg).mono fun e w' hq => by
  obtain ⟨A, c, he, ho, hc⟩ := hq
  exact ⟨A, c, he, CellsAt.of_own ho, hc⟩
theorem num_c (n : Int) (W : World) : Calls Tryz.prog 12 #[.int .i64 n] W (Still (.int .i64 n) W) := by
 go_enter Tryz.func12, Tryz.ntmps12
 go_wp2_with fail
 go_ret
 exact ⟨rfl, rfl⟩
end Go.Proofs.YtggknljlibhkjaaGreat
set_option linter.unusedSimpArgs false
set_option linter.unusedVariables false
namespace Go.Proofs.YtggknljlibhkjaaGreat
open Go Go.RowKit
def Mc.iter (d : Mc) : Nat → Mc
 | 0 => d
 | k + 1 => (d.iter k).next
theorem iter_ok {d : Mc} (hd : d.Ok) (hh : d.heap ≤ d.n) : ∀ k, (d.iter k).Ok ∧ (d.iter k).heap ≤ (d.iter k).n
 | 0 => ⟨hd, hh⟩
 | k + 1 => next_ok (iter_ok hd hh k).1 (iter_ok hd hh k).2
def RunPost (p mb s mm : Nat) (d : Mc) (n : Nat) (W : World) (e : Ending) (w' : World) : Prop :=
 ∃ k : Nat, k ≤ n ∧ e = .returned (.int .i64 k) ∧ MAt w' p mb s mm (d.iter k) ∧ Chg (memF p mb) W w' ∧ (∀ j < k, (d.iter j).kind = 0) ∧ (k = n ∨ (d.iter k).kind ≠ 0)
set_option maxRecDepth 100000 in
set_option maxHeartbeats 1000000 in
theorem run_c {W : World} {p mb s mm : Nat} {d : Mc} (h : MAt W p mb s mm d) (hd : d.Ok) (hh : d.heap ≤ d.n) (n : Nat) (hn : n < 1000000) (ha : ∀ j < n, (d.iter j).alone) : Calls Tryz.prog 28 #[.pointer (some ⟨p, 0, none⟩), .int .i64 n] W (RunPost p mb s mm d n W) := by
 have H := Go.Lib.hid h
 have HN : Hid (∀ (k : Nat) (wr : World), k < n → MAt wr p mb s mm (d.iter k) → Calls Tryz.prog 15 #[.pointer (some ⟨p, 0, none⟩)] wr (MPost p mb s mm (.bool (decide ((d.iter (k + 1)).kind = 0))) (d.iter (k + 1)) wr)) := Go.Lib.hid fun k wr hk hm => next_c hm (iter_ok hd hh k).1 (iter_ok hd hh k).2 (ha k hk)
 clear h hd hh ha
 go_enter Tryz.func28, Tryz.ntmps28
 go_wp2_with fail
 go_loopw [5] (fun v5 wr => ∃ k : Nat, k ≤ n ∧ v5 = .int .i64 k ∧ MAt wr p mb s mm (d.iter k) ∧ Chg (memF p mb) W wr ∧ (∀ j < k, (d.iter j).kind = 0)) (fun v5 _ => n - (intOf v5).toNat)
 case atStart => exact ⟨0, Nat.zero_le _, rfl, H.out, Chg.refl _ _, fun j hj => absurd hj (Nat.not_lt_zero _)⟩
 case round =>
  obtain ⟨k, hk, rfl, hm, hc, hj⟩ := hrel
  have HM := Go.Lib.hid (And.intro hm (And.intro hc hj))
  have HT := Go.Lib.hid (mthere_c hm)
  obtain ⟨_, _, _, _, k25, _, _⟩ := hm.cells
  clear hm hc hj
  by_cases hlt : k < n
  ·have g1 : decide ((k : Int) < n) = true := by simp; omega
   have HS := Go.Lib.hid (HN.out k wr hlt HM.out.1)
   by_cases h0 : (d.iter k).kind = 0
   ·rw [h0] at k25
    have H0 := Go.Lib.hid h0
    clear h0
    go_wp2_with fail
    refine HT.out.mono ?_
    rintro e w1 ⟨rfl, rfl⟩
    go_wp2_with fail
    refine HS.out.mono ?_
    rintro e w2 ⟨rfl, h1, h2⟩
    have H3 := Go.Lib.hid (And.intro h1 (HM.out.2.1.trans h2))
    clear h1 h2
    go_wp2_with fail
    refine ⟨⟨k + 1, hlt, by simp, H3.out.1, H3.out.2, fun j hj => ?_⟩, by simp only [intOf]; omega⟩
    by_cases e : j = k
    ·rw [e]; exact H0.out
    ·exact HM.out.2.2 j (by omega)
   ·have g2 : ((d.iter k).kind == 0) = false := by simpa using h0
    have H0 := Go.Lib.hid h0
    clear h0
    go_wp2_with fail
    refine HT.out.mono ?_
    rintro e w1 ⟨rfl, rfl⟩
    go_wp2_with fail
    go_ret
    exact ⟨k, hk, rfl, HM.out.1, HM.out.2.1, HM.out.2.2, .inr H0.out⟩
  ·have g1 : decide ((k : Int) < n) = false := by simp; omega
   go_wp2_with fail
   go_ret
   exact ⟨k, hk, rfl, HM.out.1, HM.out.2.1, HM.out.2.2, .inl (by omega)⟩
end Go.Proofs.YtggknljlibhkjaaGreat
set_option linter.unusedSimpArgs false
set_option linter.unusedVariables false
namespace Go.Proofs.YtggknljlibhkjaaGreat
open Go Go.RowKit
def m1 : Mc := Mc.new 64 [1073741831, 3607101708]
def m2 : Mc := Mc.new 64 [2700083196, 2699034624]
theorem m1_0 : (m1.iter 0).kind = 0 := by decide +kernel
theorem m1_1 : (m1.iter 1).kind = 0 := by decide +kernel
theorem m1_2 : (m1.iter 2).kind = 1 ∧ (m1.iter 2).code = 7 := by decide +kernel
theorem m2_1 : (m2.iter 1).kind = 0 := by decide +kernel
theorem m2_2 : (m2.iter 2).kind = 3 ∧ (m2.iter 2).code = 0 := by decide +kernel
theorem next_stop {d : Mc} (h : d.kind ≠ 0) : d.next = d := by unfold Mc.next; rw [if_pos h]
theorem iter_stop {d : Mc} {k : Nat} (h : (d.iter k).kind ≠ 0) : ∀ j, d.iter (k + j) = d.iter k
 | 0 => rfl
 | j + 1 => by show (d.iter (k + j)).next = _; rw [iter_stop h j, next_stop h]
theorem alone_of {d : Mc} {k n : Nat} (h : (d.iter k).kind ≠ 0) (h' : ∀ j < k, (d.iter j).alone) : ∀ j < n, (d.iter j).alone := fun j _ => by
 by_cases hj : j < k
 ·exact h' j hj
 ·obtain ⟨i, rfl⟩ : ∃ i, j = k + i := ⟨j - k, by omega⟩
  rw [iter_stop h i]
  exact fun h0 => absurd h0 h
theorem m1_alone : ∀ j < 9, (m1.iter j).alone := alone_of (k := 2) (by rw [m1_2.1]; decide) fun j hj => by
 have : j = 0 ∨ j = 1 := by omega
 rcases this with rfl | rfl
 ·intro _ _ h; exact absurd h (by decide +kernel)
 ·intro _ _ _; exact .inl (by decide +kernel)
theorem m2_alone : ∀ j < 9, (m2.iter j).alone := alone_of (k := 2) (by rw [m2_2.1]; decide) fun j hj => by
 have : j = 0 ∨ j = 1 := by omega
 rcases this with rfl | rfl
 ·intro _ _ h; exact absurd h (by decide +kernel)
 ·intro _ _ h; exact absurd h (by decide +kernel)
theorem wb_bd : ∀ (l : List Int), (∀ x ∈ l, 0 ≤ x ∧ x < 4294967296) → ∀ y ∈ wb l, 0 ≤ y ∧ y < 256
 | [], _, y, hy => by cases hy
 | x :: r, h, y, hy => by
  have hx := h x (by simp)
  simp only [wb, List.mem_cons] at hy
  rcases hy with rfl | rfl | rfl | rfl | hy
  ·omega
  ·omega
  ·omega
  ·omega
  ·exact wb_bd r (fun z hz => h z (by simp [hz])) y hy
theorem mnew_ok (n : Nat) (l : List Int) (hn : 64 ≤ n ∧ n ≤ 16777216 ∧ n % 4 = 0) (hl : l.length ≤ n / 4) (hb : ∀ x ∈ l, 0 ≤ x ∧ x < 4294967296) : (Mc.new n l).Ok ∧ (Mc.new n l).heap ≤ (Mc.new n l).n := by
 refine ⟨⟨⟨fun i => ?_, (show (0:Int) ≤ 0 ∧ (0:Int) < 4294967296 by decide), (show (0:Int) ≤ 0 ∧ (0:Int) < 4294967296 by decide)⟩, fun i => ?_, hn, by show 4 * l.length < 4294967296; omega⟩, by show 4 * l.length ≤ n; omega⟩
 ·show 0 ≤ upd zeroR 14 n i ∧ upd zeroR 14 n i < 4294967296
  unfold upd zeroR
  split <;> omega
 ·show 0 ≤ (wb l).getD i 0 ∧ (wb l).getD i 0 < 256
  by_cases hi : i < (wb l).length
  ·rw [List.getD_eq_getElem?_getD, List.getElem?_eq_getElem hi]
   exact wb_bd l hb _ (List.getElem_mem hi)
  ·rw [List.getD_eq_getElem?_getD, List.getElem?_eq_none (by omega)]
   exact ⟨by decide, by decide⟩
def newW : Int := 3607101724
theorem wordAt_clr (M : Nat → Int) {a t j : Nat} (ha : a % 4 = 0) (ht : t % 4 = 0) : wordAt (clr M a t) (4 * j) = if a ≤ 4 * j ∧ 4 * j < t then 0 else wordAt M (4 * j) := by
 by_cases h : a ≤ 4 * j ∧ 4 * j < t
 ·rw [if_pos h]
  simp only [wordAt, clr]
  rw [if_pos (by omega), if_pos (by omega), if_pos (by omega), if_pos (by omega)]
  rfl
 ·rw [if_neg h]
  simp only [wordAt, clr]
  rw [if_neg (by omega), if_neg (by omega), if_neg (by omega), if_neg (by omega)]
theorem putWord_bd {M : Nat → Int} (h : ∀ i, 0 ≤ M i ∧ M i < 256) (p : Nat) {x : Int} (hx : 0 ≤ x ∧ x < 4294967296) : ∀ i, 0 ≤ putWord M p x i ∧ putWord M p x i < 256 := by
 unfold putWord
 exact upd_bd (upd_bd (upd_bd (upd_bd h _ (by omega)) _ (by omega)) _ (by omega)) _ (by omega)
structure FI (n : Nat) (f : Int) (d : Mc) : Prop where
 ok : d.Ok
 nn : d.n = n
 kind : d.kind = 0
 code : d.code = 0
 r14 : d.c.R 14 = n
 lo : 4 ≤ d.heap
 hi : d.heap ≤ n
 al : d.heap % 4 = 0
 w0 : wordAt d.M 0 = newW
 ws : ∀ j, 1 ≤ j → 4 * j < n → wordAt d.M (4 * j) = if 4 * j < d.heap then 0 else f
def call1 (d : Mc) (z : Nat) : Mc := { d with c := { d.c with R := upd d.c.R 0 z, pc := 0 } }
section
variable {n : Nat} {f : Int} {d : Mc} {z : Nat}
theorem stepNew (c : Cp) (h : c.pc = 0) : stepF c newW = ({ c with pc := 1 }, ⟨4, 0, false, 0, 0, 17⟩) := by
 have e : ofW newW = some in_new := by kernel_rfl
 unfold stepF
 rw [e]
 show insF c.next in_new = _
 unfold insF
 rw [if_neg (by decide), if_neg (by decide), if_neg (by decide), if_pos (by decide)]
 have hh : ∀ c' : Cp, holds c' in_new.co = true := fun c' => by simp [holds, in_new]
 rw [if_pos (hh _)]
 unfold Cp.next
 rw [h]
 rfl
theorem FI.callOk (h : FI n f d) (hz : z < 4294967296) : (call1 d z).Ok ∧ (call1 d z).heap ≤ (call1 d z).n := by
 refine ⟨⟨⟨fun i => ?_, h.ok.c.h, (show (0:Int) ≤ 0 ∧ (0:Int) < 4294967296 by decide)⟩, h.ok.m, h.ok.n, h.ok.heap⟩, by show d.heap ≤ d.n; rw [h.nn]; exact h.hi⟩
 show 0 ≤ upd d.c.R 0 z i ∧ upd d.c.R 0 z i < 4294967296
 have := h.ok.c.r i
 unfold upd
 split <;> omega
theorem FI.ev (h : FI n f d) : (call1 d z).ev = ({ (call1 d z).c with pc := 1 }, ⟨4, 0, false, 0, 0, 17⟩) := by
 have e : wordAt (call1 d z).M (4 * (call1 d z).c.pc.toNat) = newW := h.w0
 unfold Mc.ev
 rw [e]
 exact stepNew _ rfl
theorem FI.alone (h : FI n f d) : (call1 d z).alone := fun _ _ _ => by rw [h.ev]; exact .inl (show (17 : Int) < 18 by decide)
theorem FI.next (h : FI n f d) : (call1 d z).next = newF { call1 d z with c := { (call1 d z).c with pc := 1 } } z := by
 unfold Mc.next
 have h1 : ¬ (call1 d z).kind ≠ 0 := fun e => e h.kind
 have h2 : ¬ (call1 d z).n ≤ 4 * (call1 d z).c.pc.toNat := by
  show ¬ d.n ≤ 4 * (0 : Int).toNat
  have := h.ok.n; simp; omega
 rw [if_neg h1, if_neg h2, h.ev]
 unfold Mc.act
 simp only
 rw [if_neg (by decide), if_neg (by decide), if_neg (by decide), if_pos trivial, if_neg (by decide), if_pos trivial]
 congr 1
def newTop (d : Mc) (z : Nat) : Nat := d.heap + (z + 3) / 4 * 4
theorem FI.fits (h : FI n f d) (hz : z < 4294967296) (ht : newTop d z ≤ n) : FI n f (call1 d z).next ∧ (call1 d z).next.heap = newTop d z ∧ (call1 d z).next.c.R 0 = d.heap := by
 have ho := (next_ok (h.callOk hz).1 (h.callOk hz).2).1
 have e : (call1 d z).next = { call1 d z with heap := newTop d z, M := clr d.M d.heap (newTop d z), c := { (call1 d z).c with pc := 1, R := upd (upd d.c.R 0 z) 0 d.heap } } := by
  rw [h.next]
  unfold newF
  rw [if_neg ?_]
  ·rfl
  ·have h14 : upd d.c.R 0 z 14 = n := by
    show (if 14 = 0 then (z : Int) else d.c.R 14) = n
    rw [if_neg (by decide)]; exact h.r14
   show ¬ (upd d.c.R 0 z 14 < ((d.heap + (z + 3) / 4 * 4 : Nat) : Int) ∨ d.n < d.heap + (z + 3) / 4 * 4)
   have : d.heap + (z + 3) / 4 * 4 ≤ n := ht
   rw [h14, h.nn]
   omega
 have hal := h.al
 have hta : newTop d z % 4 = 0 := by unfold newTop; omega
 have hlo := h.lo
 have htl : d.heap ≤ newTop d z := by unfold newTop; omega
 rw [e] at ho ⊢
 refine ⟨⟨ho, h.nn, h.kind, h.code, ?_, ?_, ht, hta, ?_, ?_⟩, rfl, rfl⟩
 ·show (if 14 = 0 then (d.heap : Int) else if 14 = 0 then (z : Int) else d.c.R 14) = n
  rw [if_neg (by decide), if_neg (by decide)]; exact h.r14
 ·show 4 ≤ newTop d z
  omega
 ·show wordAt (clr d.M d.heap (newTop d z)) (4 * 0) = newW
  rw [wordAt_clr _ hal hta, if_neg (by omega)]
  exact h.w0
 ·intro j h1 h2
  show wordAt (clr d.M d.heap (newTop d z)) (4 * j) = if 4 * j < newTop d z then 0 else f
  rw [wordAt_clr _ hal hta, h.ws j h1 h2]
  by_cases a : 4 * j < d.heap
  ·rw [if_pos a, if_neg (by omega), if_pos (by omega)]
  ·by_cases b : 4 * j < newTop d z
   ·rw [if_pos (by omega), if_pos b]
   ·rw [if_neg (by omega), if_neg b, if_neg a]
end
def fillM (M : Nat → Int) (f : Int) : Nat → Nat → Int
 | 0 => M
 | k + 1 => putWord (fillM M f k) (4 * (k + 1)) f
def fillD (n : Nat) (f : Int) (k : Nat) : Mc := { Mc.new n [newW] with M := fillM (Mc.new n [newW]).M f k }
end Go.Proofs.YtggknljlibhkjaaGreat
set_option linter.unusedSimpArgs false
set_option linter.unusedVariables false
namespace Go.Proofs.YtggknljlibhkjaaGreat
open Go Go.RowKit
theorem m1_ok : m1.Ok ∧ m1.heap ≤ m1.n := mnew_ok _ _ (by decide) (by decide) (by decide)
theorem m2_ok : m2.Ok ∧ m2.heap ≤ m2.n := mnew_ok _ _ (by decide) (by decide) (by decide)
theorem m1_run : ∀ j < 2, (m1.iter j).kind = 0 := fun j hj => by
 have : j = 0 ∨ j = 1 := by omega
 rcases this with rfl | rfl
 ·exact m1_0
 ·exact m1_1
theorem m2_run : ∀ j < 2, (m2.iter j).kind = 0 := fun j hj => by
 have : j = 0 ∨ j = 1 := by omega
 rcases this with rfl | rfl
 ·rfl
 ·exact m2_1
theorem run_len {d : Mc} {n m k : Nat} (hm : m < n) (h : ∀ j < m, (d.iter j).kind = 0) (hs : (d.iter m).kind ≠ 0) (hk : k ≤ n) (h1 : ∀ j < k, (d.iter j).kind = 0) (h2 : k = n ∨ (d.iter k).kind ≠ 0) : k = m := by
 rcases Nat.lt_trichotomy k m with hlt | rfl | hgt
 ·rcases h2 with rfl | h2
  ·omega
  ·exact absurd (h k hlt) h2
 ·rfl
 ·exact absurd (h1 m hgt) hs
theorem run_m {W : World} {p mb s mm : Nat} {d : Mc} (h : MAt W p mb s mm d) (ho : d.Ok ∧ d.heap ≤ d.n) {m : Nat} (hm : m < 9) (ha : ∀ j < 9, (d.iter j).alone) (h1 : ∀ j < m, (d.iter j).kind = 0) (h2 : (d.iter m).kind ≠ 0) :
  Calls Tryz.prog 28 #[.pointer (some ⟨p, 0, none⟩), .int .i64 9] W fun e w' => e = .returned (.int .i64 m) ∧ MAt w' p mb s mm (d.iter m) ∧ Chg (memF p mb) W w' := by
 have := run_c h ho.1 ho.2 9 (by decide) ha
 refine Calls.mono this fun e w' hq => ?_
 obtain ⟨k, hk, rfl, h3, h4, h5, h6⟩ := hq
 obtain rfl : k = m := run_len hm h1 h2 hk h5 h6
 exact ⟨rfl, h3, h4⟩
set_option maxRecDepth 100000 in
set_option maxHeartbeats 2000000 in
theorem known_c (w : World) : Calls Tryz.prog 6 #[] w (Quiet (.bool true) w) := by
 have HN := Go.Lib.hid (new_v 100 (by decide) w)
 have HW1 : Hid (∀ W g, Blk W g InT (in_im7.arr ++ in_halt.arr) → Calls Tryz.prog 8 #[.slice (some ⟨g, 0, none⟩) 2 2] W (wordsPost [1073741831, 3607101708] W)) := Go.Lib.hid fun W g h => words2_c in_im7 in_halt _ _ (fun W => word_im7 W) (fun W => word_halt W) W g h
 have HW2 : Hid (∀ W g, Blk W g InT (in_st4.arr ++ in_st0.arr) → Calls Tryz.prog 8 #[.slice (some ⟨g, 0, none⟩) 2 2] W (wordsPost [2700083196, 2699034624] W)) := Go.Lib.hid fun W g h => words2_c in_st4 in_st0 _ _ (fun W => word_st4 W) (fun W => word_st0 W) W g h
 unfold ptr at HN
 go_enter Tryz.func6, Tryz.ntmps6
 go_wp2_with fail
 refine HN.out.mono ?_
 rintro e w1 ⟨s, F, rfl, hS, hc1⟩
 have H1 := Go.Lib.hid (And.intro hS hc1)
 clear hS hc1 HN
 go_wp2_with fail
 refine (HW1.out _ _ (Blk.new _ _ _)).mono ?_
 rintro e w2 ⟨A, c, rfl, hcl, hq⟩
 have hc2 := (H1.out.2.alloc _).trans hq
 have hS2 := H1.out.1.quiet ((Chg.refl NoB w1).alloc _ |>.trans hq)
 have HM : Hid (Calls Tryz.prog 21 #[.int .i64 64, .slice A 2 c, .pointer (some ⟨s, 0, none⟩)] w2 (MNewPost s 64 [1073741831, 3607101708] w.heap.size ⟨100, [], [], []⟩ F w2)) := Go.Lib.hid (mnew_c hS2 64 A c [1073741831, 3607101708] (by decide) (by decide) (by decide) hcl)
 have H2 := Go.Lib.hid hc2
 clear hcl hq hc2 hS2 H1 HW1
 go_wp2_with fail
 refine HM.out.mono ?_
 rintro e w3 ⟨p, mb, mm, rfl, hm, hS3, hc3, hp, hmb, hmm⟩
 have H3 := Go.Lib.hid (And.intro hm (And.intro hS3 (H2.out.trans hc3)))
 have hlt := hm.lt
 have hsz := H2.out.size
 clear hm hS3 hc3 HM H2 hmm
 go_wp2_with fail
 refine (HW2.out _ _ (Blk.new _ _ _)).mono ?_
 rintro e w4 ⟨A2, c2, rfl, hcl, hq⟩
 have hq4 := ((Chg.refl NoB w3).alloc _).trans hq
 have hS4 := H3.out.2.1.quiet hq4
 have HM : Hid (Calls Tryz.prog 21 #[.int .i64 64, .slice A2 2 c2, .pointer (some ⟨s, 0, none⟩)] w4 (MNewPost s 64 [2700083196, 2699034624] w.heap.size ⟨100, [], [], []⟩ F w4)) := Go.Lib.hid (mnew_c hS4 64 A2 c2 [2700083196, 2699034624] (by decide) (by decide) (by decide) hcl)
 have H4 := Go.Lib.hid hq4
 clear hcl hq hq4 hS4 HW2
 go_wp2_with fail
 refine HM.out.mono ?_
 rintro e w5 ⟨p2, mb2, mm2, rfl, hm2, hS5, hc5, hp2, hmb2, hmm2⟩
 have hq5 := H4.out.trans hc5
 have h45 := H4.out.size
 have hm5 := H3.out.1.quiet hq5
 have hw5 := H3.out.2.2.trans hq5
 clear H3 H4 HM hS5 hc5
 have HR1 := Go.Lib.hid (run_m (d := m1) hm5 m1_ok (m := 2) (by decide) m1_alone m1_run (by rw [m1_2.1]; decide))
 have HB := Go.Lib.hid (And.intro hm2 hw5)
 clear hm5 hm2 hw5 hq5
 go_wp2_with fail
 refine (num_c 0 _).mono ?_
 rintro e w' ⟨rfl, rfl⟩
 go_wp2_with fail
 refine (num_c 0 _).mono ?_
 rintro e w' ⟨rfl, rfl⟩
 go_wp2_with fail
 refine HR1.out.mono ?_
 rintro e w6 ⟨rfl, hm6, hc6⟩
 have hm26 := HB.out.1.chg hc6 (by unfold memF; omega) (by unfold memF; omega) (by unfold memF; omega)
 have HR2 := Go.Lib.hid (run_m (d := m2) hm26 m2_ok (m := 2) (by decide) m2_alone m2_run (by rw [m2_2.1]; decide))
 have hw6 := HB.out.2.step hc6 (fun i hi h => absurd h (by unfold memF; omega))
 have H6 := Go.Lib.hid (And.intro hm6 hw6)
 clear hm6 hw6 hc6 hm26 HB HR1
 go_wp2_with fail
 refine HR2.out.mono ?_
 rintro e w7 ⟨rfl, hm7, hc7⟩
 have hm17 := H6.out.1.chg hc7 (by unfold memF; omega) (by unfold memF; omega) (by unfold memF; omega)
 have hw7 := H6.out.2.step hc7 (fun i hi h => absurd h (by unfold memF; omega))
 have HS1 := Go.Lib.hid (stopped_c hm17)
 have HB := Go.Lib.hid (And.intro hm7 hw7)
 rw [m1_2.1, m1_2.2] at HS1
 clear hm17 hw7 hc7 hm7 H6 HR2
 unfold stopVal at HS1
 go_wp2_with fail
 refine HS1.out.mono ?_
 rintro e w8 ⟨rfl, hc8⟩
 have HS2 := Go.Lib.hid (stopped_c (HB.out.1.quiet hc8))
 have HW8 := Go.Lib.hid (HB.out.2.trans hc8)
 rw [m2_2.1, m2_2.2] at HS2
 clear hc8 HB HS1
 unfold stopVal at HS2
 go_wp2_with fail
 refine HS2.out.mono ?_
 rintro e w9 ⟨rfl, hc9⟩
 have HW9 := Go.Lib.hid (HW8.out.trans hc9)
 clear hc9 HW8 HS2
 go_wp2_with fail
 go_ret
 exact ⟨rfl, HW9.out⟩
end Go.Proofs.YtggknljlibhkjaaGreat
