/- What is proved: the words' operations. Conditions: as each theorem says. -/
import Derived.Test.YtggknljlibhkjaaMcC
namespace Go.Proofs.Ytggknljlibhkjaa
open Go.RowKit
def wLeft (a b : Int) : Int := a * 2 ^ (b % 32).toNat % 4294967296
def wRight (a b : Int) : Int := wrap32 a / 2 ^ (b % 32).toNat % 4294967296
def wTurn (a b : Int) : Int := bits .or .u32 (a * 2 ^ ((32 - b % 32) % 32).toNat % 4294967296) (a / 2 ^ (32 - (32 - b % 32) % 32).toNat)
def one (c : Bool) : Int := if c = true then 1 else 0
def wAdd (a b : Int) (c : Bool) : Int := (a + b + one c) % 4294967296
def cAdd (a b : Int) (c : Bool) : Bool := (a + b + one c) / 4294967296 == 1
def vAdd (a b n : Int) : Bool := decide (wrap32 (bits .and .u32 (bits .xor .u32 a n) (bits .xor .u32 b n)) < 0)
def wSub (a b : Int) (c : Bool) : Int := (a - b - one c) % 4294967296
def bSub (a b n : Int) : Int := bits .or .u32 (bits .and .u32 (bits .xor .u32 IntKind.u32.max a) b) (bits .and .u32 (bits .xor .u32 IntKind.u32.max (bits .xor .u32 a b)) n) / 2147483648
def vSub (a b n : Int) : Bool := decide (wrap32 (bits .and .u32 (bits .xor .u32 a b) (bits .xor .u32 a n)) < 0)
def pMul (a b : Int) (s : Bool) : Int := if s = true then IntKind.u64.wrap (wrap64 (wrap64 (wrap32 a) * wrap64 (wrap32 b))) else IntKind.u64.wrap (a * b)
set_option linter.unusedSectionVars false
section
variable (a b : Int) (h0 : 0 ≤ a ∧ a < 4294967296) (h1 : 0 ≤ b ∧ b < 4294967296) (w : World)
include h0 h1
theorem left_c : Calls Try.prog 82 #[.int .u32 a, .int .u32 b] w fun e w' => e = .returned (.int .u32 (wLeft a b)) ∧ w = w' := by
  go_enter Try.func82, Try.ntmps82
  go_wp2_with fail
  go_ret
  exact ⟨rfl, rfl⟩
theorem right_c : Calls Try.prog 83 #[.int .u32 a, .int .u32 b] w fun e w' => e = .returned (.int .u32 (wRight a b)) ∧ w = w' := by
  go_enter Try.func83, Try.ntmps83
  go_wp2_with fail
  go_ret
  exact ⟨rfl, rfl⟩
omit h1 in
theorem rol_c (k m : Int) (hk : -32 < k ∧ k ≤ 0) (hm : m = (32 + k) % 32) : Calls Try.prog 94 #[.int .u32 a, .int .i64 k] w fun e w' => e = .returned (.int .u32 (bits .or .u32 (a * 2 ^ m.toNat % 4294967296) (a / 2 ^ (32 - m).toNat))) ∧ w = w' := by
  have hb : 0 ≤ m ∧ m < 32 := by omega
  have e5 : bits .and .u64 (IntKind.u64.wrap k) 31 = m := by
    have hw : IntKind.u64.wrap k = k % 18446744073709551616 := by simp [IntKind.wrap, IntKind.bits, IntKind.signed]
    rw [hw, show (31 : Int) = 2 ^ 5 - 1 by rfl, bits_mask .u64 64 (by decide) (fun n h h' => by simp [IntKind.wrap, IntKind.bits, IntKind.signed]; omega) 5 (by decide) _ (by omega) (by omega)]
    omega
  clear hm
  go_enter Try.func94, Try.ntmps94
  go_wp2_with fail
  go_ret
  exact ⟨rfl, rfl⟩
theorem turn_c : Calls Try.prog 84 #[.int .u32 a, .int .u32 b] w fun e w' => e = .returned (.int .u32 (wTurn a b)) ∧ w = w' := by
  have HT := Go.Lib.hid (fun W => rol_c a h0 W (-(b % 32)) ((32 - b % 32) % 32) (by omega) (by omega))
  obtain ⟨r, hr⟩ : ∃ r, wTurn a b = r := ⟨_, rfl⟩
  rw [hr]
  unfold wTurn at hr
  rw [hr] at HT
  clear hr
  go_enter Try.func84, Try.ntmps84
  go_wp2_with fail
  refine (HT.out _).mono ?_
  rintro e w1 ⟨rfl, rfl⟩
  go_wp2_with fail
  go_ret
  exact ⟨rfl, rfl⟩
theorem add32_c (c : Int) (hc : 0 ≤ c ∧ c ≤ 1) : Calls Try.prog 95 #[.int .u32 a, .int .u32 b, .int .u32 c] w fun e w' => e = .returned (.tuple #[.int .u32 ((a + b + c) % 4294967296), .int .u32 ((a + b + c) / 4294967296)]) ∧ w = w' := by
  go_enter Try.func95, Try.ntmps95
  go_wp2_with fail
  go_ret2
  exact ⟨rfl, rfl⟩
theorem sub32_c (c : Int) (hc : 0 ≤ c ∧ c ≤ 1) : Calls Try.prog 96 #[.int .u32 a, .int .u32 b, .int .u32 c] w fun e w' => e = .returned (.tuple #[.int .u32 ((a - b - c) % 4294967296), .int .u32 (bSub a b ((a - b - c) % 4294967296))]) ∧ w = w' := by
  have hs : IntKind.u32.signed = false := rfl
  obtain ⟨n, hn⟩ : ∃ n, (a - b - c) % 4294967296 = n := ⟨_, rfl⟩
  have hn2 : ((a - b) % 4294967296 - c) % 4294967296 = n := by omega
  rw [hn]
  go_enter Try.func96, Try.ntmps96
  go_wp2_with fail
  go_ret2
  exact ⟨by simp [hn2, bSub], rfl⟩
theorem add_c (c : Bool) : Calls Try.prog 85 #[.int .u32 a, .int .u32 b, .bool c] w fun e w' => e = .returned (.tuple #[.int .u32 (wAdd a b c), .bool (cAdd a b c), .bool (vAdd a b (wAdd a b c))]) ∧ w = w' := by
  have HA := Go.Lib.hid (fun W => add32_c a b h0 h1 W (one c) (by unfold one; split <;> omega))
  unfold vAdd
  have e1 : (a + b + one c) % 4294967296 = wAdd a b c := rfl
  unfold cAdd
  rw [e1] at HA
  clear e1
  generalize wAdd a b c = n at *
  generalize (a + b + one c) / 4294967296 = k at *
  cases c
  all_goals
    have HB := Go.Lib.hid (by simpa [one] using HA.out : _)
    clear HA
    go_enter Try.func85, Try.ntmps85
    go_wp2_with fail
    refine (HB.out _).mono ?_
    rintro e w1 ⟨rfl, rfl⟩
    go_wp2_with fail
    exact bodyPost_ret (by simp [results, Try.results85, go_sem]) rfl ⟨rfl, rfl⟩
theorem sub_c (c : Bool) : Calls Try.prog 86 #[.int .u32 a, .int .u32 b, .bool c] w fun e w' => e = .returned (.tuple #[.int .u32 (wSub a b c), .bool (bSub a b (wSub a b c) == 1), .bool (vSub a b (wSub a b c))]) ∧ w = w' := by
  have HA := Go.Lib.hid (fun W => sub32_c a b h0 h1 W (one c) (by unfold one; split <;> omega))
  unfold vSub
  have e1 : (a - b - one c) % 4294967296 = wSub a b c := rfl
  rw [e1] at HA
  clear e1
  generalize wSub a b c = n at *
  generalize bSub a b n = k at *
  cases c
  all_goals
    have HB := Go.Lib.hid (by simpa [one] using HA.out : _)
    clear HA
    go_enter Try.func86, Try.ntmps86
    go_wp2_with fail
    refine (HB.out _).mono ?_
    rintro e w1 ⟨rfl, rfl⟩
    go_wp2_with fail
    exact bodyPost_ret (by simp [results, Try.results86, go_sem]) rfl ⟨rfl, rfl⟩
theorem mul_c (c : Bool) : Calls Try.prog 87 #[.int .u32 a, .int .u32 b, .bool c] w fun e w' => e = .returned (.tuple #[.int .u32 (pMul a b c % 4294967296), .int .u32 (pMul a b c / 4294967296 % 4294967296)]) ∧ w = w' := by
  unfold pMul
  cases c
  all_goals
    simp only [Bool.false_eq_true, if_false, if_true]
    go_enter Try.func87, Try.ntmps87
    go_wp2_with fail
    go_ret2
    exact ⟨rfl, rfl⟩
omit h0 h1 in
theorem div_facts (x y : Int) (hy : 0 < y) : ((x / y = if x.tmod y < 0 then x.tdiv y - 1 else x.tdiv y) ∧ x % y = if x.tmod y < 0 then x.tmod y + y else x.tmod y) ∧ (-2147483648 ≤ x ∧ x ≤ 2147483647 → -2147483648 ≤ x.tdiv y ∧ x.tdiv y ≤ 2147483647) ∧ -y < x.tmod y ∧ x.tmod y < y := by
  have h1 : y * x.tdiv y + x.tmod y = x := Int.mul_tdiv_add_tmod x y
  have h2 := Int.lt_tmod_of_pos x hy
  have h3 := Int.tmod_lt_of_pos x hy
  have e0 := Int.mul_ediv_add_emod x y
  have e1 := Int.emod_nonneg x (show y ≠ 0 by omega)
  have e2 := Int.emod_lt_of_pos x hy
  generalize x.tmod y = r at *
  generalize x.tdiv y = q at *
  have key : ∀ Q R : Int, y * Q + R = x → 0 ≤ R → R < y → x / y = Q ∧ x % y = R := fun Q R hx h0 hl =>
    (Int.ediv_emod_unique hy).2 ⟨by omega, h0, hl⟩
  refine ⟨?_, ?_, h2, h3⟩
  · split
    · exact key (q - 1) (r + y) (by rw [Int.mul_sub]; omega) (by omega) (by omega)
    · exact key q r h1 (by omega) h3
  · rintro ⟨a1, a2⟩
    constructor
    · by_cases h : q < -2147483648
      · have : y * q ≤ y * (-2147483649) := Int.mul_le_mul_of_nonneg_left (by omega) (by omega)
        have : y * (-2147483649) ≤ -2147483649 + (1 - y) := by omega
        omega
      · omega
    · by_cases h : 2147483647 < q
      · have : y * 2147483648 ≤ y * q := Int.mul_le_mul_of_nonneg_left (by omega) (by omega)
        omega
      · omega
def divRes (a b : Int) : Value := if wrap32 b ≤ 0 then .tuple #[.int .u32 0, .int .u32 0, .int .i64 2] else .tuple #[.int .u32 (wrap32 a / wrap32 b % 4294967296), .int .u32 (wrap32 a % wrap32 b % 4294967296), .int .i64 0]
theorem div_c : Calls Try.prog 88 #[.int .u32 a, .int .u32 b] w fun e w' => e = .returned (divRes a b) ∧ ∃ k, w' = w.drewN k := by
  obtain ⟨x, hx⟩ : ∃ x, wrap32 a = x := ⟨_, rfl⟩
  obtain ⟨y, hy⟩ : ∃ y, wrap32 b = y := ⟨_, rfl⟩
  have bx : -2147483648 ≤ x ∧ x ≤ 2147483647 := by unfold wrap32 at hx; omega
  have bY : -2147483648 ≤ y ∧ y ≤ 2147483647 := by unfold wrap32 at hy; omega
  unfold divRes
  rw [hx, hy]
  by_cases hp : y ≤ 0
  · rw [if_pos hp]
    go_enter Try.func88, Try.ntmps88
    go_wp2_with fail
    exact bodyPost_ret (by simp [results, Try.results88, go_sem]) rfl ⟨rfl, 0, rfl⟩
  · rw [if_neg hp]
    have h64 : wrap64 x = x := IntWalk.wrap64_in _ (by omega)
    have h64y : wrap64 y = y := IntWalk.wrap64_in _ (by omega)
    obtain ⟨⟨d1, d2⟩, hq, hb⟩ := div_facts x y (by omega)
    have hq := hq bx
    generalize eq : x.tdiv y = q at *
    generalize er : x.tmod y = r at *
    by_cases h0r : r < 0
    all_goals
      simp only [h0r, if_true, if_false] at d1 d2
      have D := Go.Lib.hid (And.intro d1 d2)
      clear d1 d2
      go_enter Try.func88, Try.ntmps88
      go_wp2_with fail
      go_quiet (fail)
      go_wp2_with fail
      exact bodyPost_ret (v := .tuple #[.int .u32 (x / y % 4294967296), .int .u32 (x % y % 4294967296), .int .i64 0]) (by (simp [results, Try.results88, go_sem, D.out.1, D.out.2]) <;> omega) rfl ⟨rfl, _, rfl⟩
end
end Go.Proofs.Ytggknljlibhkjaa
