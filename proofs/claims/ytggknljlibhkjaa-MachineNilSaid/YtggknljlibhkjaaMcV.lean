/- What is proved: selfsamelaw05.words of one and of two instructions; May, num; Machine.Run. Conditions: as each theorem says. -/
import Derived.Test.YtggknljlibhkjaaMcP
import Derived.Test.YtggknljlibhkjaaMcR
import Derived.Test.YtggknljlibhkjaaMcU
set_option linter.unusedSimpArgs false
set_option linter.unusedVariables false
namespace Go.Proofs.Ytggknljlibhkjaa
open Go Go.RowKit
theorem u32info : (Try.prog.info? 23).map (fun i => (i.zero, i.size, i.bytes)) = some (some (.int .u32 0), 1, 4) := by kernel_rfl
def wordsPost (xs : List Int) (W : World) (e : Ending) (w' : World) : Prop := ∃ A c, e = .returned (.slice A xs.length c) ∧ CellsAt w' A (u32s xs) ∧ Chg NoB W w'
def wordsOwn (xs : List Int) (W : World) (e : Ending) (w' : World) : Prop := ∃ A c, e = .returned (.slice A xs.length c) ∧ w'.ownsRow W.heap.size 23 1 (.slice A xs.length c) xs.length (u32s xs) ∧ Chg NoB W w'
def WordOf (i : In) (x : Int) : Prop := ∀ W, Calls Try.prog 38 #[i.val] W (Quiet (.int .u32 x) W)
set_option maxRecDepth 100000 in
set_option maxHeartbeats 1000000 in
theorem words1_c (i : In) (x : Int) (hw : WordOf i x) (W : World) (g : Nat) (hg : Blk W g InT i.arr) : Calls Try.prog 10 #[.slice (some ⟨g, 0, none⟩) 1 1] W (wordsPost [x] W) := by
  obtain ⟨i0, hi0, hz0, hz1, hz2⟩ := info_parts u32info
  have Hi := Go.Lib.hid (And.intro hi0 (And.intro hz0 (And.intro hz1 hz2)))
  have HW := Go.Lib.hid hw
  have HR : Hid (W.rangeAt g 0 i.arr.toList) := Go.Lib.hid fun j v hv => by
    rw [Nat.zero_add, hg.cell j]; simpa using hv
  clear hi0 hz0 hz1 hz2 hw hg
  unfold WordOf at HW
  go_enter Try.func10, Try.ntmps10
  go_wp2_with fail
  refine wp_loop_rounds 2 ?_
  rw [rounds_succ]
  go_wp2_with (refine wpList_load_mid rfl 36 (.tmp 14) rfl g 0 rfl i.arr.toList _ HR.out Try.underlying36 rfl (by kernel_rfl) ?_)
  refine (HW.out W).mono ?_
  rintro e w1 ⟨rfl, hc1⟩
  have H1 := Go.Lib.hid hc1
  have hsz := hc1.size
  clear hc1
  go_wp2_with (at_builtin; go_must (refine wpList_app _ rfl (.tmp 11) (.tmp 17) _ rfl W.heap.size 23 i0 _ 4 Try.underlying22 Hi.out.1 Hi.out.2.1 Hi.out.2.2.1 Hi.out.2.2.2 rfl (.slice none 0 0) 0 [] rfl (World.ownsRow_nil _ _ _ _) (some ⟨w1.heap.size, 0, none⟩) 1 1 [.int .u32 x] rfl rfl (cells_of_blk (Blk.new w1 _ _)) (by simp [Value.oneCell']) (by unfold maxLen; omega) (by omega) (by simp; omega) ?_); intro v1 w2 own1 gr1 at1)
  obtain ⟨A, c, rfl⟩ := own_slice own1
  have H2 := Go.Lib.hid ((H1.out.alloc _).grown gr1 (by simp [Value.ownBlock]))
  have HO := Go.Lib.hid own1
  clear own1 gr1 at1
  rw [rounds_succ]
  go_wp2_with fail
  go_ret
  exact ⟨A, c, rfl, CellsAt.of_own HO.out, H2.out⟩
set_option maxRecDepth 100000 in
set_option maxHeartbeats 2000000 in
theorem words2_o (i j : In) (x y : Int) (hw : WordOf i x) (hw' : WordOf j y) (W : World) (g : Nat) (hg : Blk W g InT (i.arr ++ j.arr)) : Calls Try.prog 10 #[.slice (some ⟨g, 0, none⟩) 2 2] W (wordsOwn [x, y] W) := by
  obtain ⟨i0, hi0, hz0, hz1, hz2⟩ := info_parts u32info
  have Hi := Go.Lib.hid (And.intro hi0 (And.intro hz0 (And.intro hz1 hz2)))
  have HW := Go.Lib.hid hw
  have HW' := Go.Lib.hid hw'
  have HR : Hid (W.rangeAt g 0 i.arr.toList) := Go.Lib.hid fun k v hv => by
    have hk : k < 11 := (List.getElem?_eq_some_iff.1 hv).1
    rw [Nat.zero_add, hg.cell k, Array.getElem?_append_left (by exact hk)]
    simpa using hv
  have HR' : Hid (∀ W', Chg NoB W W' → W'.rangeAt g 11 j.arr.toList) := Go.Lib.hid fun W' hc k v hv => by
    rw [(hg.chg hc (fun h => h)).cell (11 + k), Array.getElem?_append_right (by show i.arr.size ≤ 11 + k; exact Nat.le_add_right 11 k)]
    have e : 11 + k - i.arr.size = k := by show 11 + k - 11 = k; omega
    rw [e]
    simpa using hv
  clear hi0 hz0 hz1 hz2 hw hg hw'
  unfold WordOf at HW HW'
  go_enter Try.func10, Try.ntmps10
  go_wp2_with fail
  refine wp_loop_rounds 3 ?_
  rw [rounds_succ]
  go_wp2_with (refine wpList_load_mid rfl 36 (.tmp 14) rfl g 0 rfl i.arr.toList _ HR.out Try.underlying36 rfl (by kernel_rfl) ?_)
  refine (HW.out W).mono ?_
  rintro e w1 ⟨rfl, hc1⟩
  have H1 := Go.Lib.hid hc1
  have hsz := hc1.size
  clear hc1
  go_wp2_with (at_builtin; go_must (refine wpList_app _ rfl (.tmp 11) (.tmp 17) _ rfl W.heap.size 23 i0 _ 4 Try.underlying22 Hi.out.1 Hi.out.2.1 Hi.out.2.2.1 Hi.out.2.2.2 rfl (.slice none 0 0) 0 [] rfl (World.ownsRow_nil _ _ _ _) (some ⟨w1.heap.size, 0, none⟩) 1 1 [.int .u32 x] rfl rfl (cells_of_blk (Blk.new w1 _ _)) (by simp [Value.oneCell']) (by unfold maxLen; omega) (by omega) (by simp; omega) ?_); intro v1 w2 own1 gr1 at1)
  have H2 := Go.Lib.hid ((H1.out.alloc _).grown gr1 (by simp [Value.ownBlock]))
  have HO := Go.Lib.hid own1
  have hsz2 := H2.out.size
  clear own1 gr1 at1
  rw [rounds_succ]
  go_wp2_with (refine wpList_load_mid rfl 36 (.tmp 14) rfl g 11 rfl j.arr.toList _ (HR'.out _ H2.out) Try.underlying36 rfl (by kernel_rfl) ?_)
  refine (HW'.out w2).mono ?_
  rintro e w3 ⟨rfl, hc3⟩
  have H3 := Go.Lib.hid (H2.out.trans hc3)
  have HO3 := Go.Lib.hid (own_chg HO.out hc3 (fun _ _ => id))
  have hsz3 := hc3.size
  clear hc3 HO
  go_wp2_with (at_builtin; go_must (refine wpList_app _ rfl (.tmp 11) (.tmp 17) _ rfl W.heap.size 23 i0 _ 4 Try.underlying22 Hi.out.1 Hi.out.2.1 Hi.out.2.2.1 Hi.out.2.2.2 rfl v1 (0 + 1) ([] ++ [.int .u32 x]) rfl (HO3.out.alloc _) (some ⟨w3.heap.size, 0, none⟩) 1 1 [.int .u32 y] rfl rfl (cells_of_blk (Blk.new w3 _ _)) (by simp [Value.oneCell']) (by unfold maxLen; omega) (by omega) (by simp; omega) ?_); intro v2 w4 own2 gr2 at2)
  obtain ⟨A, c, rfl⟩ := own_slice own2
  have H4 := Go.Lib.hid ((H3.out.alloc _).grown gr2 fun k hk hlt => by
    rcases HO3.out.2 with ⟨rfl, _⟩ | ⟨g', cap, cur, rfl, hb, _⟩
    · simp [Value.ownBlock] at hk
    · have : g' = k := by simpa [Value.ownBlock] using hk
      omega)
  have HO4 := Go.Lib.hid own2
  clear own2 gr2 at2
  rw [rounds_succ]
  go_wp2_with fail
  go_ret
  exact ⟨A, c, rfl, HO4.out, H4.out⟩
theorem words2_c (i j : In) (x y : Int) (hw : WordOf i x) (hw' : WordOf j y) (W : World) (g : Nat) (hg : Blk W g InT (i.arr ++ j.arr)) : Calls Try.prog 10 #[.slice (some ⟨g, 0, none⟩) 2 2] W (wordsPost [x, y] W) :=
  (words2_o i j x y hw hw' W g hg).mono fun e w' hq => by
    obtain ⟨A, c, he, ho, hc⟩ := hq
    exact ⟨A, c, he, CellsAt.of_own ho, hc⟩
theorem num_c (n : Int) (W : World) : Calls Try.prog 11 #[.int .i64 n] W (Still (.int .i64 n) W) := by
  go_enter Try.func11, Try.ntmps11
  go_wp2_with fail
  go_ret
  exact ⟨rfl, rfl⟩
theorem may_c (n : Int) (W : World) : Calls Try.prog 6 #[.int .i64 n] W (Still (.bool (decide (64 ≤ n ∧ n ≤ 16777216 ∧ n % 4 = 0))) W) := by
  by_cases h0 : 64 ≤ n
  · have g0 : decide (n ≥ 64) = true := by simpa using h0
    by_cases h1 : n ≤ 16777216
    · have g1 : decide (n ≤ 16777216) = true := by simpa using h1
      have e : decide (64 ≤ n ∧ n ≤ 16777216 ∧ n % 4 = 0) = (n % 4 == 0) := by
        by_cases hm : n % 4 = 0
        · rw [decide_eq_true (by omega)]; simp [hm]
        · rw [decide_eq_false (by omega)]; simp [hm]
      have ht : n.tmod 4 = n % 4 := Int.tmod_eq_emod_of_nonneg (by omega)
      rw [e]
      clear e
      go_enter Try.func6, Try.ntmps6
      go_wp2_with fail
      go_ret
      exact ⟨rfl, rfl⟩
    · have g1 : decide (n ≤ 16777216) = false := by simpa using h1
      rw [decide_eq_false (show ¬(64 ≤ n ∧ n ≤ 16777216 ∧ n % 4 = 0) by omega)]
      go_enter Try.func6, Try.ntmps6
      go_wp2_with fail
      go_ret
      exact ⟨rfl, rfl⟩
  · have g0 : decide (n ≥ 64) = false := by simpa using h0
    rw [decide_eq_false (show ¬(64 ≤ n ∧ n ≤ 16777216 ∧ n % 4 = 0) by omega)]
    go_enter Try.func6, Try.ntmps6
    go_wp2_with fail
    go_ret
    exact ⟨rfl, rfl⟩
end Go.Proofs.Ytggknljlibhkjaa
