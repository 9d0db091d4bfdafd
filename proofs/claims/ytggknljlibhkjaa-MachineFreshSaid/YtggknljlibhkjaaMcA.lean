/- What is proved: an instruction's fields out of a word. Conditions: as each theorem says. -/
import Derived.Test.YtggknljlibhkjaaStoreI
import Derived.Test.YtggknljlibhkjaaProg
import Derived.WalkKit
import Derived.IntWalk
import Derived.Lib.Hide
import Derived.Laws.BitsLemmas
namespace Go.Proofs.Ytggknljlibhkjaa
open Go.RowKit
/-- an instruction -/
structure In where
  fo : Int
  u : Bool
  v : Bool
  a : Int
  b : Int
  c : Int
  op : Int
  im : Int
  off : Int
  co : Int
  n : Int
def In.arr (i : In) : Array Value := #[.int .i64 i.fo, .bool i.u, .bool i.v, .int .i64 i.a, .int .i64 i.b, .int .i64 i.c, .int .i64 i.op, .int .i64 i.im, .int .i64 i.off, .int .i64 i.co, .int .i64 i.n]
def In.val (i : In) : Value := .agg i.arr
def In.zero : In := ⟨0, false, false, 0, 0, 0, 0, 0, 0, 0, 0⟩
theorem wraps_u32 (n : Int) (h₀ : 0 ≤ n) (h₁ : n < 2 ^ 32) : IntKind.u32.wrap n = n := by rw [IntKind.wrap_u32]; omega
theorem u32_and (i : Nat) (hi : i ≤ 32) (x : Int) (h₀ : 0 ≤ x) (h₁ : x < 4294967296) : bits .and .u32 x (2 ^ i - 1) = x % 2 ^ i := bits_mask .u32 32 (by decide) wraps_u32 i hi x h₀ h₁
theorem u32_and1 (x : Int) (h₀ : 0 ≤ x) (h₁ : x < 4294967296) : bits .and .u32 x 1 = x % 2 := u32_and 1 (by decide) x h₀ h₁
theorem u32_and15 (x : Int) (h₀ : 0 ≤ x) (h₁ : x < 4294967296) : bits .and .u32 x 15 = x % 16 := u32_and 4 (by decide) x h₀ h₁
theorem u32_and65535 (x : Int) (h₀ : 0 ≤ x) (h₁ : x < 4294967296) : bits .and .u32 x 65535 = x % 65536 := u32_and 16 (by decide) x h₀ h₁
theorem u32_and20 (x : Int) (h₀ : 0 ≤ x) (h₁ : x < 4294967296) : bits .and .u32 x 1048575 = x % 1048576 := u32_and 20 (by decide) x h₀ h₁
theorem u32_and24 (x : Int) (h₀ : 0 ≤ x) (h₁ : x < 4294967296) : bits .and .u32 x 16777215 = x % 16777216 := u32_and 24 (by decide) x h₀ h₁
/-- the lowest bits as a signed number -/
def sext (p : Int) (w : Int) : Int := if w % (2 * p) < p then w % (2 * p) else w % (2 * p) - 2 * p
theorem ext20_c (a : Int) (h0 : 0 ≤ a) (h1 : a < 4294967296) (w : World) : Calls Try.prog 91 #[.int .u32 a, .int .i64 20] w fun e w' => e = .returned (.int .u32 (sext 524288 a % 4294967296)) ∧ w = w' := by
  obtain ⟨r, hr⟩ : ∃ r, sext 524288 a % 4294967296 = r := ⟨_, rfl⟩
  rw [hr]
  have H := Go.Lib.hid (show wrap32 (a * 4096 % 4294967296) / 4096 % 4294967296 = r by
    unfold sext at hr
    unfold wrap32
    subst hr
    split <;> omega)
  clear hr
  go_enter Try.func91, Try.ntmps91
  go_wp2_with fail
  go_ret
  exact ⟨by rw [H.out]; rfl, rfl⟩
theorem ext24_c (a : Int) (h0 : 0 ≤ a) (h1 : a < 4294967296) (w : World) : Calls Try.prog 91 #[.int .u32 a, .int .i64 24] w fun e w' => e = .returned (.int .u32 (sext 8388608 a % 4294967296)) ∧ w = w' := by
  obtain ⟨r, hr⟩ : ∃ r, sext 8388608 a % 4294967296 = r := ⟨_, rfl⟩
  rw [hr]
  have H := Go.Lib.hid (show wrap32 (a * 256 % 4294967296) / 256 % 4294967296 = r by
    unfold sext at hr
    unfold wrap32
    subst hr
    split <;> omega)
  clear hr
  go_enter Try.func91, Try.ntmps91
  go_wp2_with fail
  go_ret
  exact ⟨by rw [H.out]; rfl, rfl⟩
theorem sext_bd (p w : Int) (hp : 0 < p) : -p ≤ sext p w ∧ sext p w < p := by
  unfold sext
  have := Int.emod_lt_of_pos w (b := 2 * p) (by omega)
  have := Int.emod_nonneg w (b := 2 * p) (by omega)
  split <;> omega
theorem sext_back (x : Int) (h : -2147483648 ≤ x ∧ x < 2147483648) : wrap32 (x % 4294967296) = x := by unfold wrap32; omega
/-- the fields of a word -/
def fieldsOf (w : Int) : In :=
  let t := w / 536870912
  let v := (w / 268435456 % 2 == 1)
  let a := w / 16777216 % 16
  let b := w / 1048576 % 16
  if t = 0 ∨ t = 1 then ⟨0, t == 1, v, a, b, w % 65536, w / 65536 % 16, 0, 0, 0, 0⟩
  else if t = 2 ∨ t = 3 then ⟨1, t == 3, v, a, b, 0, w / 65536 % 16, w % 65536, 0, 0, 0⟩
  else if t = 4 ∨ t = 5 then ⟨2 + t % 2, false, v, a, b, 0, 0, 0, sext 524288 w, 0, 0⟩
  else if t = 7 then ⟨4, false, v, 0, 0, 0, 0, 0, sext 8388608 w, a, 0⟩
  else if v = true ∧ w % 16 = 12 then ⟨6, false, false, 0, 0, 0, 0, 0, 0, a, w / 16 % 1048576⟩
  else ⟨5, false, v, 0, 0, w % 16777216, 0, 0, 0, a, 0⟩

set_option maxHeartbeats 2000000 in
theorem fields_c (x : Int) (h0 : 0 ≤ x) (h1 : x < 4294967296) (w : World) : Calls Try.prog 79 #[.int .u32 x] w fun e w' => e = .returned (fieldsOf x).val ∧ w' = w.alloc (.cells (fieldsOf x).arr 36) := by
  have e28 := u32_and1 (x / 268435456) (by omega) (by omega)
  have e24 := u32_and15 (x / 16777216) (by omega) (by omega)
  have e20 := u32_and15 (x / 1048576) (by omega) (by omega)
  have e16 := u32_and15 (x / 65536) (by omega) (by omega)
  have e0 := u32_and65535 x (by omega) (by omega)
  have e4 := u32_and20 (x / 16) (by omega) (by omega)
  have ec := u32_and15 x (by omega) (by omega)
  have et := u32_and24 x (by omega) (by omega)
  have e29 := u32_and1 (x / 536870912) (by omega) (by omega)
  have X20 := Go.Lib.hid (ext20_c x h0 h1)
  have X24 := Go.Lib.hid (ext24_c x h0 h1)
  have b20 := sext_bd 524288 x (by omega)
  have b24 := sext_bd 8388608 x (by omega)
  have s20 := sext_back (sext 524288 x) (by omega)
  have s24 := sext_back (sext 8388608 x) (by omega)
  unfold fieldsOf
  have ht : 0 ≤ x / 536870912 ∧ x / 536870912 ≤ 7 := by omega
  generalize sext 524288 x = x20 at *
  generalize sext 8388608 x = x24 at *
  generalize Et : x / 536870912 = t at *
  generalize Ey28 : x / 268435456 = y28 at *
  generalize Ey24 : x / 16777216 = y24 at *
  generalize Ey20 : x / 1048576 = y20 at *
  generalize Ey16 : x / 65536 = y16 at *
  generalize Ey4 : x / 16 = y4 at *
  have hv : 0 ≤ y28 % 2 ∧ y28 % 2 < 2 := by omega
  have ha : 0 ≤ y24 % 16 ∧ y24 % 16 < 16 := by omega
  have hb : 0 ≤ y20 % 16 ∧ y20 % 16 < 16 := by omega
  have hop : 0 ≤ y16 % 16 ∧ y16 % 16 < 16 := by omega
  have h4 : 0 ≤ y4 % 1048576 ∧ y4 % 1048576 < 1048576 := by omega
  have hz : 0 ≤ x % 65536 ∧ x % 65536 < 65536 := by omega
  have hc : 0 ≤ x % 16 ∧ x % 16 < 16 := by omega
  have h24 : 0 ≤ x % 16777216 ∧ x % 16777216 < 16777216 := by omega
  generalize y28 % 2 = v at *
  generalize y24 % 16 = a at *
  generalize y20 % 16 = b at *
  generalize y16 % 16 = op at *
  generalize y4 % 1048576 = n at *
  generalize x % 65536 = lo at *
  generalize x % 16 = c at *
  generalize x % 16777216 = l24 at *
  have hcase : t = 0 ∨ t = 1 ∨ t = 2 ∨ t = 3 ∨ t = 4 ∨ t = 5 ∨ t = 6 ∨ t = 7 := by omega
  clear ht
  have hvb : v = 0 ∨ v = 1 := by omega
  clear hv
  unfold In.val In.arr
  rcases hcase with rfl | rfl | rfl | rfl | rfl | rfl | rfl | rfl
  ·
    go_enter Try.func79, Try.ntmps79
    go_wp2_with fail
    exact bodyPost_ret (v := .agg #[.int .i64 (0), .bool (false), .bool (v == 1), .int .i64 (a), .int .i64 (b), .int .i64 (lo), .int .i64 (op), .int .i64 (0), .int .i64 (0), .int .i64 (0), .int .i64 (0)]) (by simp [results, Try.results79, go_sem]) rfl ⟨rfl, rfl⟩
  ·
    go_enter Try.func79, Try.ntmps79
    go_wp2_with fail
    exact bodyPost_ret (v := .agg #[.int .i64 (0), .bool (true), .bool (v == 1), .int .i64 (a), .int .i64 (b), .int .i64 (lo), .int .i64 (op), .int .i64 (0), .int .i64 (0), .int .i64 (0), .int .i64 (0)]) (by simp [results, Try.results79, go_sem]) rfl ⟨rfl, rfl⟩
  ·
    go_enter Try.func79, Try.ntmps79
    go_wp2_with fail
    exact bodyPost_ret (v := .agg #[.int .i64 (1), .bool (false), .bool (v == 1), .int .i64 (a), .int .i64 (b), .int .i64 (0), .int .i64 (op), .int .i64 (lo), .int .i64 (0), .int .i64 (0), .int .i64 (0)]) (by simp [results, Try.results79, go_sem]) rfl ⟨rfl, rfl⟩
  ·
    go_enter Try.func79, Try.ntmps79
    go_wp2_with fail
    exact bodyPost_ret (v := .agg #[.int .i64 (1), .bool (true), .bool (v == 1), .int .i64 (a), .int .i64 (b), .int .i64 (0), .int .i64 (op), .int .i64 (lo), .int .i64 (0), .int .i64 (0), .int .i64 (0)]) (by simp [results, Try.results79, go_sem]) rfl ⟨rfl, rfl⟩
  ·
    go_enter Try.func79, Try.ntmps79
    go_wp2_with fail
    refine (X20.out _).mono ?_
    rintro e w1 ⟨rfl, rfl⟩
    go_wp2_with fail
    exact bodyPost_ret (v := .agg #[.int .i64 (2), .bool (false), .bool (v == 1), .int .i64 (a), .int .i64 (b), .int .i64 (0), .int .i64 (0), .int .i64 (0), .int .i64 (x20), .int .i64 (0), .int .i64 (0)]) (by simp [results, Try.results79, go_sem]) rfl ⟨rfl, rfl⟩
  ·
    go_enter Try.func79, Try.ntmps79
    go_wp2_with fail
    refine (X20.out _).mono ?_
    rintro e w1 ⟨rfl, rfl⟩
    go_wp2_with fail
    exact bodyPost_ret (v := .agg #[.int .i64 (3), .bool (false), .bool (v == 1), .int .i64 (a), .int .i64 (b), .int .i64 (0), .int .i64 (0), .int .i64 (0), .int .i64 (x20), .int .i64 (0), .int .i64 (0)]) (by simp [results, Try.results79, go_sem]) rfl ⟨rfl, rfl⟩
  · rcases hvb with rfl | rfl
    ·
      go_enter Try.func79, Try.ntmps79
      go_wp2_with fail
      exact bodyPost_ret (v := .agg #[.int .i64 (5), .bool (false), .bool (false), .int .i64 (0), .int .i64 (0), .int .i64 (l24), .int .i64 (0), .int .i64 (0), .int .i64 (0), .int .i64 (a), .int .i64 (0)]) (by simp [results, Try.results79, go_sem]) rfl ⟨rfl, rfl⟩
    · by_cases h12 : c = 12
      · subst h12
        go_enter Try.func79, Try.ntmps79
        go_wp2_with fail
        exact bodyPost_ret (v := .agg #[.int .i64 (6), .bool (false), .bool (false), .int .i64 (0), .int .i64 (0), .int .i64 (0), .int .i64 (0), .int .i64 (0), .int .i64 (0), .int .i64 (a), .int .i64 (n)]) (by simp [results, Try.results79, go_sem]) rfl ⟨rfl, rfl⟩
      · have h12b : (c == 12) = false := by simpa using h12
        have h12d : decide (c = 12) = false := by simpa using h12
        go_enter Try.func79, Try.ntmps79
        go_wp2_with fail
        exact bodyPost_ret (v := .agg #[.int .i64 (5), .bool (false), .bool (true), .int .i64 (0), .int .i64 (0), .int .i64 (l24), .int .i64 (0), .int .i64 (0), .int .i64 (0), .int .i64 (a), .int .i64 (0)]) (by simp [results, Try.results79, go_sem]) rfl ⟨rfl, rfl⟩
  ·
    go_enter Try.func79, Try.ntmps79
    go_wp2_with fail
    refine (X24.out _).mono ?_
    rintro e w1 ⟨rfl, rfl⟩
    go_wp2_with fail
    exact bodyPost_ret (v := .agg #[.int .i64 (4), .bool (false), .bool (v == 1), .int .i64 (0), .int .i64 (0), .int .i64 (0), .int .i64 (0), .int .i64 (0), .int .i64 (x24), .int .i64 (a), .int .i64 (0)]) (by simp [results, Try.results79, go_sem]) rfl ⟨rfl, rfl⟩

end Go.Proofs.Ytggknljlibhkjaa
