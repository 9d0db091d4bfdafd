import Derived.Test.YtggknljlibhkjaaGreatMcF
import Derived.Test.YtggknljlibhkjaaGreatGStB
import Derived.BigQuiet
set_option linter.unusedSimpArgs false
set_option linter.unusedVariables false
namespace Go.Proofs.YtggknljlibhkjaaGreat
open Go Go.RowKit
def Still (r : Value) (w : World) (e : Ending) (w' : World) : Prop := e = .returned r ∧ w' = w
theorem tm_lo (n p : Int) (hp : 0 < p) (h : n.tmod p < 0) : n.tmod p + p = n % p := by
 have h1 := Int.tmod_eq_emod (a := n) (b := p)
 have h2 := Int.emod_nonneg n (show p ≠ 0 by omega)
 have h3 := Int.emod_lt_of_pos n hp
 split at h1 <;> omega
theorem tm_hi (n p : Int) (hp : 0 < p) (h : ¬ n.tmod p < 0) : n.tmod p = n % p := by
 have h1 := Int.tmod_eq_emod (a := n) (b := p)
 have h2 := Int.emod_nonneg n (show p ≠ 0 by omega)
 have h3 := Int.emod_lt_of_pos n hp
 split at h1 <;> omega
theorem one_c (b : Bool) (W : World) : Calls Tryz.prog 92 #[.bool b] W (Still (.int .i64 (if b then 1 else 0)) W) := by
 cases b
 all_goals
  go_enter Tryz.func92, Tryz.ntmps92
  go_wp2_with fail
  go_ret
  exact ⟨rfl, rfl⟩
theorem field1_c (x n : Int) (hx : 0 ≤ x) (hb : x * 2 + 2 ≤ 18446744073709551616) (hn : -4611686018427387904 ≤ n ∧ n ≤ 4611686018427387904) (W : World) : Calls Tryz.prog 91 #[.int .u64 x, .int .i64 n, .int .i64 1] W (Still (.int .u64 (x * 2 + n % 2)) W) := by
 have hw : (x * 2) % 18446744073709551616 = x * 2 := by omega
 by_cases h0 : n.tmod 2 < 0
 ·have h1 : decide (n.tmod 2 < 0) = true := by simpa using h0
  have h2 : n.tmod 2 + 2 = n % 2 := tm_lo n 2 (by decide) h0
  have h3 : (x * 2 + n % 2) % 18446744073709551616 = x * 2 + n % 2 := by omega
  go_enter Tryz.func91, Tryz.ntmps91
  go_wp2_with fail
  go_ret
  exact ⟨rfl, rfl⟩
 ·have h1 : decide (n.tmod 2 < 0) = false := by simpa using h0
  have h2 : n.tmod 2 = n % 2 := tm_hi n 2 (by decide) h0
  have h3 : (x * 2 + n % 2) % 18446744073709551616 = x * 2 + n % 2 := by omega
  go_enter Tryz.func91, Tryz.ntmps91
  go_wp2_with fail
  go_ret
  exact ⟨rfl, rfl⟩
theorem field2_c (x n : Int) (hx : 0 ≤ x) (hb : x * 4 + 4 ≤ 18446744073709551616) (hn : -4611686018427387904 ≤ n ∧ n ≤ 4611686018427387904) (W : World) : Calls Tryz.prog 91 #[.int .u64 x, .int .i64 n, .int .i64 2] W (Still (.int .u64 (x * 4 + n % 4)) W) := by
 have hw : (x * 4) % 18446744073709551616 = x * 4 := by omega
 by_cases h0 : n.tmod 4 < 0
 ·have h1 : decide (n.tmod 4 < 0) = true := by simpa using h0
  have h2 : n.tmod 4 + 4 = n % 4 := tm_lo n 4 (by decide) h0
  have h3 : (x * 4 + n % 4) % 18446744073709551616 = x * 4 + n % 4 := by omega
  go_enter Tryz.func91, Tryz.ntmps91
  go_wp2_with fail
  go_ret
  exact ⟨rfl, rfl⟩
 ·have h1 : decide (n.tmod 4 < 0) = false := by simpa using h0
  have h2 : n.tmod 4 = n % 4 := tm_hi n 4 (by decide) h0
  have h3 : (x * 4 + n % 4) % 18446744073709551616 = x * 4 + n % 4 := by omega
  go_enter Tryz.func91, Tryz.ntmps91
  go_wp2_with fail
  go_ret
  exact ⟨rfl, rfl⟩
theorem field4_c (x n : Int) (hx : 0 ≤ x) (hb : x * 16 + 16 ≤ 18446744073709551616) (hn : -4611686018427387904 ≤ n ∧ n ≤ 4611686018427387904) (W : World) : Calls Tryz.prog 91 #[.int .u64 x, .int .i64 n, .int .i64 4] W (Still (.int .u64 (x * 16 + n % 16)) W) := by
 have hw : (x * 16) % 18446744073709551616 = x * 16 := by omega
 by_cases h0 : n.tmod 16 < 0
 ·have h1 : decide (n.tmod 16 < 0) = true := by simpa using h0
  have h2 : n.tmod 16 + 16 = n % 16 := tm_lo n 16 (by decide) h0
  have h3 : (x * 16 + n % 16) % 18446744073709551616 = x * 16 + n % 16 := by omega
  go_enter Tryz.func91, Tryz.ntmps91
  go_wp2_with fail
  go_ret
  exact ⟨rfl, rfl⟩
 ·have h1 : decide (n.tmod 16 < 0) = false := by simpa using h0
  have h2 : n.tmod 16 = n % 16 := tm_hi n 16 (by decide) h0
  have h3 : (x * 16 + n % 16) % 18446744073709551616 = x * 16 + n % 16 := by omega
  go_enter Tryz.func91, Tryz.ntmps91
  go_wp2_with fail
  go_ret
  exact ⟨rfl, rfl⟩
theorem field8_c (x n : Int) (hx : 0 ≤ x) (hb : x * 256 + 256 ≤ 18446744073709551616) (hn : -4611686018427387904 ≤ n ∧ n ≤ 4611686018427387904) (W : World) : Calls Tryz.prog 91 #[.int .u64 x, .int .i64 n, .int .i64 8] W (Still (.int .u64 (x * 256 + n % 256)) W) := by
 have hw : (x * 256) % 18446744073709551616 = x * 256 := by omega
 by_cases h0 : n.tmod 256 < 0
 ·have h1 : decide (n.tmod 256 < 0) = true := by simpa using h0
  have h2 : n.tmod 256 + 256 = n % 256 := tm_lo n 256 (by decide) h0
  have h3 : (x * 256 + n % 256) % 18446744073709551616 = x * 256 + n % 256 := by omega
  go_enter Tryz.func91, Tryz.ntmps91
  go_wp2_with fail
  go_ret
  exact ⟨rfl, rfl⟩
 ·have h1 : decide (n.tmod 256 < 0) = false := by simpa using h0
  have h2 : n.tmod 256 = n % 256 := tm_hi n 256 (by decide) h0
  have h3 : (x * 256 + n % 256) % 18446744073709551616 = x * 256 + n % 256 := by omega
  go_enter Tryz.func91, Tryz.ntmps91
  go_wp2_with fail
  go_ret
  exact ⟨rfl, rfl⟩
theorem field12_c (x n : Int) (hx : 0 ≤ x) (hb : x * 4096 + 4096 ≤ 18446744073709551616) (hn : -4611686018427387904 ≤ n ∧ n ≤ 4611686018427387904) (W : World) : Calls Tryz.prog 91 #[.int .u64 x, .int .i64 n, .int .i64 12] W (Still (.int .u64 (x * 4096 + n % 4096)) W) := by
 have hw : (x * 4096) % 18446744073709551616 = x * 4096 := by omega
 by_cases h0 : n.tmod 4096 < 0
 ·have h1 : decide (n.tmod 4096 < 0) = true := by simpa using h0
  have h2 : n.tmod 4096 + 4096 = n % 4096 := tm_lo n 4096 (by decide) h0
  have h3 : (x * 4096 + n % 4096) % 18446744073709551616 = x * 4096 + n % 4096 := by omega
  go_enter Tryz.func91, Tryz.ntmps91
  go_wp2_with fail
  go_ret
  exact ⟨rfl, rfl⟩
 ·have h1 : decide (n.tmod 4096 < 0) = false := by simpa using h0
  have h2 : n.tmod 4096 = n % 4096 := tm_hi n 4096 (by decide) h0
  have h3 : (x * 4096 + n % 4096) % 18446744073709551616 = x * 4096 + n % 4096 := by omega
  go_enter Tryz.func91, Tryz.ntmps91
  go_wp2_with fail
  go_ret
  exact ⟨rfl, rfl⟩
theorem field16_c (x n : Int) (hx : 0 ≤ x) (hb : x * 65536 + 65536 ≤ 18446744073709551616) (hn : -4611686018427387904 ≤ n ∧ n ≤ 4611686018427387904) (W : World) : Calls Tryz.prog 91 #[.int .u64 x, .int .i64 n, .int .i64 16] W (Still (.int .u64 (x * 65536 + n % 65536)) W) := by
 have hw : (x * 65536) % 18446744073709551616 = x * 65536 := by omega
 by_cases h0 : n.tmod 65536 < 0
 ·have h1 : decide (n.tmod 65536 < 0) = true := by simpa using h0
  have h2 : n.tmod 65536 + 65536 = n % 65536 := tm_lo n 65536 (by decide) h0
  have h3 : (x * 65536 + n % 65536) % 18446744073709551616 = x * 65536 + n % 65536 := by omega
  go_enter Tryz.func91, Tryz.ntmps91
  go_wp2_with fail
  go_ret
  exact ⟨rfl, rfl⟩
 ·have h1 : decide (n.tmod 65536 < 0) = false := by simpa using h0
  have h2 : n.tmod 65536 = n % 65536 := tm_hi n 65536 (by decide) h0
  have h3 : (x * 65536 + n % 65536) % 18446744073709551616 = x * 65536 + n % 65536 := by omega
  go_enter Tryz.func91, Tryz.ntmps91
  go_wp2_with fail
  go_ret
  exact ⟨rfl, rfl⟩
theorem field20_c (x n : Int) (hx : 0 ≤ x) (hb : x * 1048576 + 1048576 ≤ 18446744073709551616) (hn : -4611686018427387904 ≤ n ∧ n ≤ 4611686018427387904) (W : World) : Calls Tryz.prog 91 #[.int .u64 x, .int .i64 n, .int .i64 20] W (Still (.int .u64 (x * 1048576 + n % 1048576)) W) := by
 have hw : (x * 1048576) % 18446744073709551616 = x * 1048576 := by omega
 by_cases h0 : n.tmod 1048576 < 0
 ·have h1 : decide (n.tmod 1048576 < 0) = true := by simpa using h0
  have h2 : n.tmod 1048576 + 1048576 = n % 1048576 := tm_lo n 1048576 (by decide) h0
  have h3 : (x * 1048576 + n % 1048576) % 18446744073709551616 = x * 1048576 + n % 1048576 := by omega
  go_enter Tryz.func91, Tryz.ntmps91
  go_wp2_with fail
  go_ret
  exact ⟨rfl, rfl⟩
 ·have h1 : decide (n.tmod 1048576 < 0) = false := by simpa using h0
  have h2 : n.tmod 1048576 = n % 1048576 := tm_hi n 1048576 (by decide) h0
  have h3 : (x * 1048576 + n % 1048576) % 18446744073709551616 = x * 1048576 + n % 1048576 := by omega
  go_enter Tryz.func91, Tryz.ntmps91
  go_wp2_with fail
  go_ret
  exact ⟨rfl, rfl⟩
def in_im7 : In := ⟨1, false, false, 0, 0, 0, 0, 7, 0, 0, 0⟩
set_option maxRecDepth 100000 in
set_option maxHeartbeats 4000000 in
theorem word_im7 (w : World) : Calls Tryz.prog 32 #[in_im7.val] w (Quiet (.int .u32 1073741831) w) := by
 have F0 : Hid (∀ W, Calls Tryz.prog 91 #[.int .u64 0, .int .i64 1, .int .i64 2] W fun e w' => e = .returned (.int .u64 1) ∧ w' = W) := Go.Lib.hid fun W => field2_c 0 1 (by decide) (by decide) (by decide) W
 have F1 : Hid (∀ W, Calls Tryz.prog 91 #[.int .u64 1, .int .i64 0, .int .i64 1] W fun e w' => e = .returned (.int .u64 2) ∧ w' = W) := Go.Lib.hid fun W => field1_c 1 0 (by decide) (by decide) (by decide) W
 have F2 : Hid (∀ W, Calls Tryz.prog 91 #[.int .u64 2, .int .i64 0, .int .i64 1] W fun e w' => e = .returned (.int .u64 4) ∧ w' = W) := Go.Lib.hid fun W => field1_c 2 0 (by decide) (by decide) (by decide) W
 have F3 : Hid (∀ W, Calls Tryz.prog 91 #[.int .u64 4, .int .i64 0, .int .i64 4] W fun e w' => e = .returned (.int .u64 64) ∧ w' = W) := Go.Lib.hid fun W => field4_c 4 0 (by decide) (by decide) (by decide) W
 have F4 : Hid (∀ W, Calls Tryz.prog 91 #[.int .u64 64, .int .i64 0, .int .i64 4] W fun e w' => e = .returned (.int .u64 1024) ∧ w' = W) := Go.Lib.hid fun W => field4_c 64 0 (by decide) (by decide) (by decide) W
 have F5 : Hid (∀ W, Calls Tryz.prog 91 #[.int .u64 1024, .int .i64 0, .int .i64 4] W fun e w' => e = .returned (.int .u64 16384) ∧ w' = W) := Go.Lib.hid fun W => field4_c 1024 0 (by decide) (by decide) (by decide) W
 have F6 : Hid (∀ W, Calls Tryz.prog 91 #[.int .u64 16384, .int .i64 7, .int .i64 16] W fun e w' => e = .returned (.int .u64 1073741831) ∧ w' = W) := Go.Lib.hid fun W => field16_c 16384 7 (by decide) (by decide) (by decide) W
 have O0 : Hid (∀ W, Calls Tryz.prog 92 #[.bool false] W fun e w' => e = .returned (.int .i64 0) ∧ w' = W) := Go.Lib.hid fun W => one_c false W
 have O1 : Hid (∀ W, Calls Tryz.prog 92 #[.bool true] W fun e w' => e = .returned (.int .i64 1) ∧ w' = W) := Go.Lib.hid fun W => one_c true W
 unfold in_im7 In.val In.arr
 go_enter Tryz.func32, Tryz.ntmps32
 go_wp2_with fail
 go_quiet ((first | (with_reducible exact Calls.quiet_of_same (F0.out _)) | (with_reducible exact Calls.quiet_of_same (F1.out _)) | (with_reducible exact Calls.quiet_of_same (F2.out _)) | (with_reducible exact Calls.quiet_of_same (F3.out _)) | (with_reducible exact Calls.quiet_of_same (F4.out _)) | (with_reducible exact Calls.quiet_of_same (F5.out _)) | (with_reducible exact Calls.quiet_of_same (F6.out _)) | (with_reducible exact Calls.quiet_of_same (O0.out _)) | (with_reducible exact Calls.quiet_of_same (O1.out _))))
 go_wp2_with fail
 refine (F6.out _).mono ?_
 rintro e w' ⟨rfl, rfl⟩
 go_wp2_with fail
 go_ret
 exact ⟨rfl, ((Chg.refl NoB w).alloc _).drewN _⟩
def in_halt : In := ⟨6, false, false, 0, 0, 0, 0, 0, 0, 7, 16⟩
set_option maxRecDepth 100000 in
set_option maxHeartbeats 4000000 in
theorem word_halt (w : World) : Calls Tryz.prog 32 #[in_halt.val] w (Quiet (.int .u32 3607101708) w) := by
 have F0 : Hid (∀ W, Calls Tryz.prog 91 #[.int .u64 0, .int .i64 3, .int .i64 2] W fun e w' => e = .returned (.int .u64 3) ∧ w' = W) := Go.Lib.hid fun W => field2_c 0 3 (by decide) (by decide) (by decide) W
 have F1 : Hid (∀ W, Calls Tryz.prog 91 #[.int .u64 3, .int .i64 0, .int .i64 1] W fun e w' => e = .returned (.int .u64 6) ∧ w' = W) := Go.Lib.hid fun W => field1_c 3 0 (by decide) (by decide) (by decide) W
 have F2 : Hid (∀ W, Calls Tryz.prog 91 #[.int .u64 6, .int .i64 1, .int .i64 1] W fun e w' => e = .returned (.int .u64 13) ∧ w' = W) := Go.Lib.hid fun W => field1_c 6 1 (by decide) (by decide) (by decide) W
 have F3 : Hid (∀ W, Calls Tryz.prog 91 #[.int .u64 13, .int .i64 7, .int .i64 4] W fun e w' => e = .returned (.int .u64 215) ∧ w' = W) := Go.Lib.hid fun W => field4_c 13 7 (by decide) (by decide) (by decide) W
 have F4 : Hid (∀ W, Calls Tryz.prog 91 #[.int .u64 215, .int .i64 0, .int .i64 12] W fun e w' => e = .returned (.int .u64 880640) ∧ w' = W) := Go.Lib.hid fun W => field12_c 215 0 (by decide) (by decide) (by decide) W
 have F5 : Hid (∀ W, Calls Tryz.prog 91 #[.int .u64 880640, .int .i64 16, .int .i64 8] W fun e w' => e = .returned (.int .u64 225443856) ∧ w' = W) := Go.Lib.hid fun W => field8_c 880640 16 (by decide) (by decide) (by decide) W
 have F6 : Hid (∀ W, Calls Tryz.prog 91 #[.int .u64 225443856, .int .i64 12, .int .i64 4] W fun e w' => e = .returned (.int .u64 3607101708) ∧ w' = W) := Go.Lib.hid fun W => field4_c 225443856 12 (by decide) (by decide) (by decide) W
 have O0 : Hid (∀ W, Calls Tryz.prog 92 #[.bool false] W fun e w' => e = .returned (.int .i64 0) ∧ w' = W) := Go.Lib.hid fun W => one_c false W
 have O1 : Hid (∀ W, Calls Tryz.prog 92 #[.bool true] W fun e w' => e = .returned (.int .i64 1) ∧ w' = W) := Go.Lib.hid fun W => one_c true W
 unfold in_halt In.val In.arr
 go_enter Tryz.func32, Tryz.ntmps32
 go_wp2_with fail
 go_quiet ((first | (with_reducible exact Calls.quiet_of_same (F0.out _)) | (with_reducible exact Calls.quiet_of_same (F1.out _)) | (with_reducible exact Calls.quiet_of_same (F2.out _)) | (with_reducible exact Calls.quiet_of_same (F3.out _)) | (with_reducible exact Calls.quiet_of_same (F4.out _)) | (with_reducible exact Calls.quiet_of_same (F5.out _)) | (with_reducible exact Calls.quiet_of_same (F6.out _)) | (with_reducible exact Calls.quiet_of_same (O0.out _)) | (with_reducible exact Calls.quiet_of_same (O1.out _))))
 go_wp2_with fail
 go_ret
 exact ⟨rfl, ((Chg.refl NoB w).alloc _).drewN _⟩
def in_new : In := ⟨6, false, false, 0, 0, 0, 0, 0, 0, 7, 17⟩
def in_st4 : In := ⟨3, false, false, 0, 14, 0, 0, 0, -4, 0, 0⟩
set_option maxRecDepth 100000 in
set_option maxHeartbeats 4000000 in
theorem word_st4 (w : World) : Calls Tryz.prog 32 #[in_st4.val] w (Quiet (.int .u32 2700083196) w) := by
 have F0 : Hid (∀ W, Calls Tryz.prog 91 #[.int .u64 0, .int .i64 2, .int .i64 2] W fun e w' => e = .returned (.int .u64 2) ∧ w' = W) := Go.Lib.hid fun W => field2_c 0 2 (by decide) (by decide) (by decide) W
 have F1 : Hid (∀ W, Calls Tryz.prog 91 #[.int .u64 2, .int .i64 1, .int .i64 1] W fun e w' => e = .returned (.int .u64 5) ∧ w' = W) := Go.Lib.hid fun W => field1_c 2 1 (by decide) (by decide) (by decide) W
 have F2 : Hid (∀ W, Calls Tryz.prog 91 #[.int .u64 5, .int .i64 0, .int .i64 1] W fun e w' => e = .returned (.int .u64 10) ∧ w' = W) := Go.Lib.hid fun W => field1_c 5 0 (by decide) (by decide) (by decide) W
 have F3 : Hid (∀ W, Calls Tryz.prog 91 #[.int .u64 10, .int .i64 0, .int .i64 4] W fun e w' => e = .returned (.int .u64 160) ∧ w' = W) := Go.Lib.hid fun W => field4_c 10 0 (by decide) (by decide) (by decide) W
 have F4 : Hid (∀ W, Calls Tryz.prog 91 #[.int .u64 160, .int .i64 14, .int .i64 4] W fun e w' => e = .returned (.int .u64 2574) ∧ w' = W) := Go.Lib.hid fun W => field4_c 160 14 (by decide) (by decide) (by decide) W
 have F5 : Hid (∀ W, Calls Tryz.prog 91 #[.int .u64 2574, .int .i64 (-4), .int .i64 20] W fun e w' => e = .returned (.int .u64 2700083196) ∧ w' = W) := Go.Lib.hid fun W => field20_c 2574 (-4) (by decide) (by decide) (by decide) W
 have O0 : Hid (∀ W, Calls Tryz.prog 92 #[.bool false] W fun e w' => e = .returned (.int .i64 0) ∧ w' = W) := Go.Lib.hid fun W => one_c false W
 have O1 : Hid (∀ W, Calls Tryz.prog 92 #[.bool true] W fun e w' => e = .returned (.int .i64 1) ∧ w' = W) := Go.Lib.hid fun W => one_c true W
 unfold in_st4 In.val In.arr
 go_enter Tryz.func32, Tryz.ntmps32
 go_wp2_with fail
 go_quiet ((first | (with_reducible exact Calls.quiet_of_same (F0.out _)) | (with_reducible exact Calls.quiet_of_same (F1.out _)) | (with_reducible exact Calls.quiet_of_same (F2.out _)) | (with_reducible exact Calls.quiet_of_same (F3.out _)) | (with_reducible exact Calls.quiet_of_same (F4.out _)) | (with_reducible exact Calls.quiet_of_same (F5.out _)) | (with_reducible exact Calls.quiet_of_same (O0.out _)) | (with_reducible exact Calls.quiet_of_same (O1.out _))))
 go_wp2_with fail
 refine (F5.out _).mono ?_
 rintro e w' ⟨rfl, rfl⟩
 go_wp2_with fail
 go_ret
 exact ⟨rfl, ((Chg.refl NoB w).alloc _).drewN _⟩
def in_st0 : In := ⟨3, false, false, 0, 14, 0, 0, 0, 0, 0, 0⟩
set_option maxRecDepth 100000 in
set_option maxHeartbeats 4000000 in
theorem word_st0 (w : World) : Calls Tryz.prog 32 #[in_st0.val] w (Quiet (.int .u32 2699034624) w) := by
 have F0 : Hid (∀ W, Calls Tryz.prog 91 #[.int .u64 0, .int .i64 2, .int .i64 2] W fun e w' => e = .returned (.int .u64 2) ∧ w' = W) := Go.Lib.hid fun W => field2_c 0 2 (by decide) (by decide) (by decide) W
 have F1 : Hid (∀ W, Calls Tryz.prog 91 #[.int .u64 2, .int .i64 1, .int .i64 1] W fun e w' => e = .returned (.int .u64 5) ∧ w' = W) := Go.Lib.hid fun W => field1_c 2 1 (by decide) (by decide) (by decide) W
 have F2 : Hid (∀ W, Calls Tryz.prog 91 #[.int .u64 5, .int .i64 0, .int .i64 1] W fun e w' => e = .returned (.int .u64 10) ∧ w' = W) := Go.Lib.hid fun W => field1_c 5 0 (by decide) (by decide) (by decide) W
 have F3 : Hid (∀ W, Calls Tryz.prog 91 #[.int .u64 10, .int .i64 0, .int .i64 4] W fun e w' => e = .returned (.int .u64 160) ∧ w' = W) := Go.Lib.hid fun W => field4_c 10 0 (by decide) (by decide) (by decide) W
 have F4 : Hid (∀ W, Calls Tryz.prog 91 #[.int .u64 160, .int .i64 14, .int .i64 4] W fun e w' => e = .returned (.int .u64 2574) ∧ w' = W) := Go.Lib.hid fun W => field4_c 160 14 (by decide) (by decide) (by decide) W
 have F5 : Hid (∀ W, Calls Tryz.prog 91 #[.int .u64 2574, .int .i64 0, .int .i64 20] W fun e w' => e = .returned (.int .u64 2699034624) ∧ w' = W) := Go.Lib.hid fun W => field20_c 2574 0 (by decide) (by decide) (by decide) W
 have O0 : Hid (∀ W, Calls Tryz.prog 92 #[.bool false] W fun e w' => e = .returned (.int .i64 0) ∧ w' = W) := Go.Lib.hid fun W => one_c false W
 have O1 : Hid (∀ W, Calls Tryz.prog 92 #[.bool true] W fun e w' => e = .returned (.int .i64 1) ∧ w' = W) := Go.Lib.hid fun W => one_c true W
 unfold in_st0 In.val In.arr
 go_enter Tryz.func32, Tryz.ntmps32
 go_wp2_with fail
 go_quiet ((first | (with_reducible exact Calls.quiet_of_same (F0.out _)) | (with_reducible exact Calls.quiet_of_same (F1.out _)) | (with_reducible exact Calls.quiet_of_same (F2.out _)) | (with_reducible exact Calls.quiet_of_same (F3.out _)) | (with_reducible exact Calls.quiet_of_same (F4.out _)) | (with_reducible exact Calls.quiet_of_same (F5.out _)) | (with_reducible exact Calls.quiet_of_same (O0.out _)) | (with_reducible exact Calls.quiet_of_same (O1.out _))))
 go_wp2_with fail
 refine (F5.out _).mono ?_
 rintro e w' ⟨rfl, rfl⟩
 go_wp2_with fail
 go_ret
 exact ⟨rfl, ((Chg.refl NoB w).alloc _).drewN _⟩
def in_stw : In := ⟨3, false, false, 2, 3, 0, 0, 0, 0, 0, 0⟩
def in_stb : In := ⟨3, false, true, 2, 3, 0, 0, 0, 0, 0, 0⟩
def in_ldw : In := ⟨2, false, false, 4, 3, 0, 0, 0, 0, 0, 0⟩
def in_ldb : In := ⟨2, false, true, 4, 3, 0, 0, 0, 0, 0, 0⟩
end Go.Proofs.YtggknljlibhkjaaGreat
