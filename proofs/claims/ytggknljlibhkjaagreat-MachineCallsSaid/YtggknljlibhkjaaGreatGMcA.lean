import Derived.Test.YtggknljlibhkjaaGreatGStB
import Derived.Test.YtggknljlibhkjaaGreatProg
import Derived.WalkKit
import Derived.IntWalk
import Derived.Lib.Hide
import Derived.Laws.BitsLemmas
import Derived.Deep.QuietTactic
import Derived.BigQuiet
set_option linter.unusedSimpArgs false
set_option linter.unusedVariables false
namespace Go.Proofs.YtggknljlibhkjaaGreat
open Go.RowKit
structure In where
 fo : Int
 u : Bool
 v : Bool
 a : Int
 b : Int
 c : Int
 op : Int
 im : Int
 off : Int
 co : Int
 n : Int
def In.arr (i : In) : Array Value := #[.int .i64 i.fo, .bool i.u, .bool i.v, .int .i64 i.a, .int .i64 i.b, .int .i64 i.c, .int .i64 i.op, .int .i64 i.im, .int .i64 i.off, .int .i64 i.co, .int .i64 i.n]
def In.val (i : In) : Value := .agg i.arr
def In.zero : In := ⟨0, false, false, 0, 0, 0, 0, 0, 0, 0, 0⟩
theorem wraps_u32 (n : Int) (h₀ : 0 ≤ n) (h₁ : n < 2 ^ 32) : IntKind.u32.wrap n = n := by rw [IntKind.wrap_u32]; omega
theorem u32_and (i : Nat) (hi : i ≤ 32) (x : Int) (h₀ : 0 ≤ x) (h₁ : x < 4294967296) : bits .and .u32 x (2 ^ i - 1) = x % 2 ^ i := bits_mask .u32 32 (by decide) wraps_u32 i hi x h₀ h₁
theorem u32_and1 (x : Int) (h₀ : 0 ≤ x) (h₁ : x < 4294967296) : bits .and .u32 x 1 = x % 2 := u32_and 1 (by decide) x h₀ h₁
theorem u32_and15 (x : Int) (h₀ : 0 ≤ x) (h₁ : x < 4294967296) : bits .and .u32 x 15 = x % 16 := u32_and 4 (by decide) x h₀ h₁
theorem u32_and65535 (x : Int) (h₀ : 0 ≤ x) (h₁ : x < 4294967296) : bits .and .u32 x 65535 = x % 65536 := u32_and 16 (by decide) x h₀ h₁
theorem u32_and20 (x : Int) (h₀ : 0 ≤ x) (h₁ : x < 4294967296) : bits .and .u32 x 1048575 = x % 1048576 := u32_and 20 (by decide) x h₀ h₁
theorem u32_and24 (x : Int) (h₀ : 0 ≤ x) (h₁ : x < 4294967296) : bits .and .u32 x 16777215 = x % 16777216 := u32_and 24 (by decide) x h₀ h₁
def sext (p : Int) (w : Int) : Int := if w % (2 * p) < p then w % (2 * p) else w % (2 * p) - 2 * p
theorem ext20_c (a : Int) (h0 : 0 ≤ a) (h1 : a < 4294967296) (w : World) : Calls Tryz.prog 136 #[.int .u32 a, .int .i64 20] w fun e w' => e = .returned (.int .u32 (sext 524288 a % 4294967296)) ∧ w = w' := by
 obtain ⟨r, hr⟩ : ∃ r, sext 524288 a % 4294967296 = r := ⟨_, rfl⟩
 rw [hr]
 have H := Go.Lib.hid (show wrap32 (a * 4096 % 4294967296) / 4096 % 4294967296 = r by
  unfold sext at hr
  unfold wrap32
  subst hr
  split <;> omega)
 clear hr
 go_enter Tryz.func136, Tryz.ntmps136
 go_wp2_with fail
 go_ret
 exact ⟨by rw [H.out]; rfl, rfl⟩
theorem ext24_c (a : Int) (h0 : 0 ≤ a) (h1 : a < 4294967296) (w : World) : Calls Tryz.prog 136 #[.int .u32 a, .int .i64 24] w fun e w' => e = .returned (.int .u32 (sext 8388608 a % 4294967296)) ∧ w = w' := by
 obtain ⟨r, hr⟩ : ∃ r, sext 8388608 a % 4294967296 = r := ⟨_, rfl⟩
 rw [hr]
 have H := Go.Lib.hid (show wrap32 (a * 256 % 4294967296) / 256 % 4294967296 = r by
  unfold sext at hr
  unfold wrap32
  subst hr
  split <;> omega)
 clear hr
 go_enter Tryz.func136, Tryz.ntmps136
 go_wp2_with fail
 go_ret
 exact ⟨by rw [H.out]; rfl, rfl⟩
theorem sext_bd (p w : Int) (hp : 0 < p) : -p ≤ sext p w ∧ sext p w < p := by
 unfold sext
 have := Int.emod_lt_of_pos w (b := 2 * p) (by omega)
 have := Int.emod_nonneg w (b := 2 * p) (by omega)
 split <;> omega
theorem sext_back (x : Int) (h : -2147483648 ≤ x ∧ x < 2147483648) : wrap32 (x % 4294967296) = x := by unfold wrap32; omega
def fieldsOf (w : Int) : In :=
 let t := w / 536870912
 let v := (w / 268435456 % 2 == 1)
 let a := w / 16777216 % 16
 let b := w / 1048576 % 16
 if t = 0 ∨ t = 1 then ⟨0, t == 1, v, a, b, w % 65536, w / 65536 % 16, 0, 0, 0, 0⟩
 else if t = 2 ∨ t = 3 then ⟨1, t == 3, v, a, b, 0, w / 65536 % 16, w % 65536, 0, 0, 0⟩
 else if t = 4 ∨ t = 5 then ⟨2 + t % 2, false, v, a, b, 0, 0, 0, sext 524288 w, 0, 0⟩
 else if t = 7 then ⟨4, false, v, 0, 0, 0, 0, 0, sext 8388608 w, a, 0⟩
 else if v = true ∧ w % 16 = 12 then ⟨6, false, false, 0, 0, 0, 0, 0, 0, a, w / 16 % 1048576⟩
 else ⟨5, false, v, 0, 0, w % 16777216, 0, 0, 0, a, 0⟩
set_option maxHeartbeats 2000000 in
theorem fields_c (x : Int) (h0 : 0 ≤ x) (h1 : x < 4294967296) (w : World) : Calls Tryz.prog 120 #[.int .u32 x] w fun e w' => e = .returned (fieldsOf x).val ∧ w' = w.alloc (.cells (fieldsOf x).arr 33) := by
 have e28 := u32_and1 (x / 268435456) (by omega) (by omega)
 have e24 := u32_and15 (x / 16777216) (by omega) (by omega)
 have e20 := u32_and15 (x / 1048576) (by omega) (by omega)
 have e16 := u32_and15 (x / 65536) (by omega) (by omega)
 have e0 := u32_and65535 x (by omega) (by omega)
 have e4 := u32_and20 (x / 16) (by omega) (by omega)
 have ec := u32_and15 x (by omega) (by omega)
 have et := u32_and24 x (by omega) (by omega)
 have e29 := u32_and1 (x / 536870912) (by omega) (by omega)
 have X20 := Go.Lib.hid (ext20_c x h0 h1)
 have X24 := Go.Lib.hid (ext24_c x h0 h1)
 have b20 := sext_bd 524288 x (by omega)
 have b24 := sext_bd 8388608 x (by omega)
 have s20 := sext_back (sext 524288 x) (by omega)
 have s24 := sext_back (sext 8388608 x) (by omega)
 unfold fieldsOf
 have ht : 0 ≤ x / 536870912 ∧ x / 536870912 ≤ 7 := by omega
 generalize sext 524288 x = x20 at *
 generalize sext 8388608 x = x24 at *
 generalize Et : x / 536870912 = t at *
 generalize Ey28 : x / 268435456 = y28 at *
 generalize Ey24 : x / 16777216 = y24 at *
 generalize Ey20 : x / 1048576 = y20 at *
 generalize Ey16 : x / 65536 = y16 at *
 generalize Ey4 : x / 16 = y4 at *
 have hv : 0 ≤ y28 % 2 ∧ y28 % 2 < 2 := by omega
 have ha : 0 ≤ y24 % 16 ∧ y24 % 16 < 16 := by omega
 have hb : 0 ≤ y20 % 16 ∧ y20 % 16 < 16 := by omega
 have hop : 0 ≤ y16 % 16 ∧ y16 % 16 < 16 := by omega
 have h4 : 0 ≤ y4 % 1048576 ∧ y4 % 1048576 < 1048576 := by omega
 have hz : 0 ≤ x % 65536 ∧ x % 65536 < 65536 := by omega
 have hc : 0 ≤ x % 16 ∧ x % 16 < 16 := by omega
 have h24 : 0 ≤ x % 16777216 ∧ x % 16777216 < 16777216 := by omega
 generalize y28 % 2 = v at *
 generalize y24 % 16 = a at *
 generalize y20 % 16 = b at *
 generalize y16 % 16 = op at *
 generalize y4 % 1048576 = n at *
 generalize x % 65536 = lo at *
 generalize x % 16 = c at *
 generalize x % 16777216 = l24 at *
 have hcase : t = 0 ∨ t = 1 ∨ t = 2 ∨ t = 3 ∨ t = 4 ∨ t = 5 ∨ t = 6 ∨ t = 7 := by omega
 clear ht
 have hvb : v = 0 ∨ v = 1 := by omega
 clear hv
 unfold In.val In.arr
 rcases hcase with rfl | rfl | rfl | rfl | rfl | rfl | rfl | rfl
 ·
  go_enter Tryz.func120, Tryz.ntmps120
  go_wp2_with fail
  exact bodyPost_ret (v := .agg #[.int .i64 (0), .bool (false), .bool (v == 1), .int .i64 (a), .int .i64 (b), .int .i64 (lo), .int .i64 (op), .int .i64 (0), .int .i64 (0), .int .i64 (0), .int .i64 (0)]) (by simp [results, Tryz.results120, go_sem]) rfl ⟨rfl, rfl⟩
 ·
  go_enter Tryz.func120, Tryz.ntmps120
  go_wp2_with fail
  exact bodyPost_ret (v := .agg #[.int .i64 (0), .bool (true), .bool (v == 1), .int .i64 (a), .int .i64 (b), .int .i64 (lo), .int .i64 (op), .int .i64 (0), .int .i64 (0), .int .i64 (0), .int .i64 (0)]) (by simp [results, Tryz.results120, go_sem]) rfl ⟨rfl, rfl⟩
 ·
  go_enter Tryz.func120, Tryz.ntmps120
  go_wp2_with fail
  exact bodyPost_ret (v := .agg #[.int .i64 (1), .bool (false), .bool (v == 1), .int .i64 (a), .int .i64 (b), .int .i64 (0), .int .i64 (op), .int .i64 (lo), .int .i64 (0), .int .i64 (0), .int .i64 (0)]) (by simp [results, Tryz.results120, go_sem]) rfl ⟨rfl, rfl⟩
 ·
  go_enter Tryz.func120, Tryz.ntmps120
  go_wp2_with fail
  exact bodyPost_ret (v := .agg #[.int .i64 (1), .bool (true), .bool (v == 1), .int .i64 (a), .int .i64 (b), .int .i64 (0), .int .i64 (op), .int .i64 (lo), .int .i64 (0), .int .i64 (0), .int .i64 (0)]) (by simp [results, Tryz.results120, go_sem]) rfl ⟨rfl, rfl⟩
 ·
  go_enter Tryz.func120, Tryz.ntmps120
  go_wp2_with fail
  refine (X20.out _).mono ?_
  rintro e w1 ⟨rfl, rfl⟩
  go_wp2_with fail
  exact bodyPost_ret (v := .agg #[.int .i64 (2), .bool (false), .bool (v == 1), .int .i64 (a), .int .i64 (b), .int .i64 (0), .int .i64 (0), .int .i64 (0), .int .i64 (x20), .int .i64 (0), .int .i64 (0)]) (by simp [results, Tryz.results120, go_sem]) rfl ⟨rfl, rfl⟩
 ·
  go_enter Tryz.func120, Tryz.ntmps120
  go_wp2_with fail
  refine (X20.out _).mono ?_
  rintro e w1 ⟨rfl, rfl⟩
  go_wp2_with fail
  exact bodyPost_ret (v := .agg #[.int .i64 (3), .bool (false), .bool (v == 1), .int .i64 (a), .int .i64 (b), .int .i64 (0), .int .i64 (0), .int .i64 (0), .int .i64 (x20), .int .i64 (0), .int .i64 (0)]) (by simp [results, Tryz.results120, go_sem]) rfl ⟨rfl, rfl⟩
 ·rcases hvb with rfl | rfl
  ·
   go_enter Tryz.func120, Tryz.ntmps120
   go_wp2_with fail
   exact bodyPost_ret (v := .agg #[.int .i64 (5), .bool (false), .bool (false), .int .i64 (0), .int .i64 (0), .int .i64 (l24), .int .i64 (0), .int .i64 (0), .int .i64 (0), .int .i64 (a), .int .i64 (0)]) (by simp [results, Tryz.results120, go_sem]) rfl ⟨rfl, rfl⟩
  ·by_cases h12 : c = 12
   ·subst h12
    go_enter Tryz.func120, Tryz.ntmps120
    go_wp2_with fail
    exact bodyPost_ret (v := .agg #[.int .i64 (6), .bool (false), .bool (false), .int .i64 (0), .int .i64 (0), .int .i64 (0), .int .i64 (0), .int .i64 (0), .int .i64 (0), .int .i64 (a), .int .i64 (n)]) (by simp [results, Tryz.results120, go_sem]) rfl ⟨rfl, rfl⟩
   ·have h12b : (c == 12) = false := by simpa using h12
    have h12d : decide (c = 12) = false := by simpa using h12
    go_enter Tryz.func120, Tryz.ntmps120
    go_wp2_with fail
    exact bodyPost_ret (v := .agg #[.int .i64 (5), .bool (false), .bool (true), .int .i64 (0), .int .i64 (0), .int .i64 (l24), .int .i64 (0), .int .i64 (0), .int .i64 (0), .int .i64 (a), .int .i64 (0)]) (by simp [results, Tryz.results120, go_sem]) rfl ⟨rfl, rfl⟩
 ·
  go_enter Tryz.func120, Tryz.ntmps120
  go_wp2_with fail
  refine (X24.out _).mono ?_
  rintro e w1 ⟨rfl, rfl⟩
  go_wp2_with fail
  exact bodyPost_ret (v := .agg #[.int .i64 (4), .bool (false), .bool (v == 1), .int .i64 (0), .int .i64 (0), .int .i64 (0), .int .i64 (0), .int .i64 (0), .int .i64 (x24), .int .i64 (a), .int .i64 (0)]) (by simp [results, Tryz.results120, go_sem]) rfl ⟨rfl, rfl⟩
end Go.Proofs.YtggknljlibhkjaaGreat
set_option linter.unusedSimpArgs false
set_option linter.unusedVariables false
namespace Go.Proofs.YtggknljlibhkjaaGreat
open Go.RowKit
def mayOp (i : In) : Bool :=
 if i.op = 0 then (i.b == 0) && (!i.u || (!i.v && ((i.fo == 1) || decide (i.c ≤ 1)))) else if i.op = 8 ∨ i.op = 9 ∨ i.op = 10 then true else !i.u
theorem mayOp_c (i : In) (w : World) : Calls Tryz.prog 121 #[i.val] w fun e w' => e = .returned (.bool (mayOp i)) ∧ w' = w.alloc (.cells i.arr 33) := by
 obtain ⟨fo, u, v, a, b, c, op, im, off, co, n⟩ := i
 unfold In.val In.arr mayOp
 simp only
 by_cases h0 : op = 0
 ·subst h0
  rw [if_pos rfl]
  obtain ⟨q1, e1⟩ : ∃ q, (b == 0) = q := ⟨_, rfl⟩
  obtain ⟨q2, e2⟩ : ∃ q, (fo == 1) = q := ⟨_, rfl⟩
  obtain ⟨q3, e3⟩ : ∃ q, decide (c ≤ 1) = q := ⟨_, rfl⟩
  rw [e1, e2, e3]
  cases q1
  ·go_enter Tryz.func121, Tryz.ntmps121
   go_wp2_with fail
   go_ret
   exact ⟨rfl, rfl⟩
  ·cases u
   ·go_enter Tryz.func121, Tryz.ntmps121
    go_wp2_with fail
    go_ret
    exact ⟨rfl, rfl⟩
   ·cases v
    ·cases q2 <;> cases q3
     all_goals
      go_enter Tryz.func121, Tryz.ntmps121
      go_wp2_with fail
      go_ret
      exact ⟨rfl, rfl⟩
    ·go_enter Tryz.func121, Tryz.ntmps121
     go_wp2_with fail
     go_ret
     exact ⟨rfl, rfl⟩
 ·rw [if_neg h0]
  have e0 : (op == 0) = false := by simpa using h0
  by_cases h8 : op = 8 ∨ op = 9 ∨ op = 10
  ·rw [if_pos h8]
   rcases h8 with rfl | rfl | rfl
   all_goals
    clear e0 h0
    go_enter Tryz.func121, Tryz.ntmps121
    go_wp2_with fail
    go_ret
    exact ⟨rfl, rfl⟩
  ·rw [if_neg h8]
   have e8 : (op == 8) = false := by simp; omega
   have e9 : (op == 9) = false := by simp; omega
   have e10 : (op == 10) = false := by simp; omega
   clear h8 h0
   go_enter Tryz.func121, Tryz.ntmps121
   go_wp2_with fail
   go_ret
   exact ⟨rfl, rfl⟩
theorem lt_or (x y : Int) : decide (x < y) = true ∨ decide (x < y) = false := by cases decide (x < y) <;> simp
theorem le_or (x y : Int) : decide (x ≤ y) = true ∨ decide (x ≤ y) = false := by cases decide (x ≤ y) <;> simp
def ofOk (i : In) : Bool :=
 if i.fo = 0 then !i.v && decide (i.c < 16) && decide (i.op ≤ 11) && mayOp i
 else if i.fo = 1 then decide (i.op ≤ 11) && mayOp i
 else if i.fo = 5 then decide (i.c < 16)
 else if i.fo = 6 then decide (i.n < 256) else true
def ofW (x : Int) : Option In := if ofOk (fieldsOf x) = true then some (fieldsOf x) else none
def ofRes (o : Option In) : Value := match o with | some i => .tuple #[i.val, .int .i64 0] | none => .tuple #[In.zero.val, .int .i64 4]
theorem fo_bd (x : Int) (h0 : 0 ≤ x) (h1 : x < 4294967296) : 0 ≤ (fieldsOf x).fo ∧ (fieldsOf x).fo ≤ 6 := by
 unfold fieldsOf
 simp only
 split
 ·exact ⟨by simp only; omega, by simp only; omega⟩
 ·split
  ·exact ⟨by simp only; omega, by simp only; omega⟩
  ·split
   ·simp only; omega
   ·split
    ·exact ⟨by simp only; omega, by simp only; omega⟩
    ·split
     ·exact ⟨by simp only; omega, by simp only; omega⟩
     ·exact ⟨by simp only; omega, by simp only; omega⟩
set_option maxHeartbeats 2000000 in
theorem of_c (x : Int) (h0 : 0 ≤ x) (h1 : x < 4294967296) (w : World) : Calls Tryz.prog 93 #[.int .u32 x] w (Quiet (ofRes (ofW x)) w) := by
 have HF := Go.Lib.hid (fun W => fields_c x h0 h1 W)
 have hfo := fo_bd x h0 h1
 unfold ofW
 generalize fieldsOf x = i at *
 have HM := Go.Lib.hid (fun W => mayOp_c i W)
 unfold ofOk
 generalize mayOp i = m at *
 obtain ⟨fo, u, v, a, b, c, op, im, off, co, n⟩ := i
 unfold In.val In.arr Quiet at *
 simp only at *
 have HW : Hid (∀ (o1 o2 : Obj) (W : World), Chg NoB ((w.alloc o1).alloc o2) W → Chg NoB w W) := Go.Lib.hid fun o1 o2 W h => (((Chg.refl NoB w).alloc o1).alloc o2).trans h
 clear h0 h1
 have hc : fo = 0 ∨ fo = 1 ∨ fo = 2 ∨ fo = 3 ∨ fo = 4 ∨ fo = 5 ∨ fo = 6 := by omega
 clear hfo HW
 generalize hr : ofRes _ = r
 have HR := Go.Lib.hid hr
 clear hr
 rcases hc with rfl | rfl | rfl | rfl | rfl | rfl | rfl
 ·cases v
  ·rcases lt_or c 16 with hc | hc
   ·rcases le_or op 11 with ho | ho
    ·cases m
     ·go_enter Tryz.func93, Tryz.ntmps93
      go_wp2_with fail
      refine (HF.out _).mono ?_
      rintro e w1 ⟨rfl, rfl⟩
      go_wp2_with fail
      refine (HM.out _).mono ?_
      rintro e w2 ⟨rfl, rfl⟩
      go_wp2_with fail
      refine bodyPost_ret (v := .tuple #[.agg #[.int .i64 0, .bool false, .bool false, .int .i64 0, .int .i64 0, .int .i64 0, .int .i64 0, .int .i64 0, .int .i64 0, .int .i64 0, .int .i64 0], .int .i64 4]) (by simp [results, Tryz.results93, go_sem]) rfl ⟨?_, by first | exact ((Chg.refl _ _).alloc _).alloc _ | exact (((Chg.refl _ _).alloc _).alloc _).alloc _ | exact ((((Chg.refl _ _).alloc _).alloc _).alloc _).alloc _⟩
      (rw [← HR.out]; simp [ofRes, In.val, In.arr, In.zero, *])
     ·go_enter Tryz.func93, Tryz.ntmps93
      go_wp2_with fail
      refine (HF.out _).mono ?_
      rintro e w1 ⟨rfl, rfl⟩
      go_wp2_with fail
      refine (HM.out _).mono ?_
      rintro e w2 ⟨rfl, rfl⟩
      go_wp2_with fail
      refine bodyPost_ret (v := .tuple #[.agg #[.int .i64 0, .bool u, .bool false, .int .i64 a, .int .i64 b, .int .i64 c, .int .i64 op, .int .i64 im, .int .i64 off, .int .i64 co, .int .i64 n], .int .i64 0]) (by simp [results, Tryz.results93, go_sem]) rfl ⟨?_, by first | exact ((Chg.refl _ _).alloc _).alloc _ | exact (((Chg.refl _ _).alloc _).alloc _).alloc _ | exact ((((Chg.refl _ _).alloc _).alloc _).alloc _).alloc _⟩
      (rw [← HR.out]; simp [ofRes, In.val, In.arr, In.zero, *])
    ·go_enter Tryz.func93, Tryz.ntmps93
     go_wp2_with fail
     refine (HF.out _).mono ?_
     rintro e w1 ⟨rfl, rfl⟩
     go_wp2_with fail
     refine bodyPost_ret (v := .tuple #[.agg #[.int .i64 0, .bool false, .bool false, .int .i64 0, .int .i64 0, .int .i64 0, .int .i64 0, .int .i64 0, .int .i64 0, .int .i64 0, .int .i64 0], .int .i64 4]) (by simp [results, Tryz.results93, go_sem]) rfl ⟨?_, by first | exact ((Chg.refl _ _).alloc _).alloc _ | exact (((Chg.refl _ _).alloc _).alloc _).alloc _ | exact ((((Chg.refl _ _).alloc _).alloc _).alloc _).alloc _⟩
     (rw [← HR.out]; simp [ofRes, In.val, In.arr, In.zero, *])
   ·go_enter Tryz.func93, Tryz.ntmps93
    go_wp2_with fail
    refine (HF.out _).mono ?_
    rintro e w1 ⟨rfl, rfl⟩
    go_wp2_with fail
    refine bodyPost_ret (v := .tuple #[.agg #[.int .i64 0, .bool false, .bool false, .int .i64 0, .int .i64 0, .int .i64 0, .int .i64 0, .int .i64 0, .int .i64 0, .int .i64 0, .int .i64 0], .int .i64 4]) (by simp [results, Tryz.results93, go_sem]) rfl ⟨?_, by first | exact ((Chg.refl _ _).alloc _).alloc _ | exact (((Chg.refl _ _).alloc _).alloc _).alloc _ | exact ((((Chg.refl _ _).alloc _).alloc _).alloc _).alloc _⟩
    (rw [← HR.out]; simp [ofRes, In.val, In.arr, In.zero, *])
  ·go_enter Tryz.func93, Tryz.ntmps93
   go_wp2_with fail
   refine (HF.out _).mono ?_
   rintro e w1 ⟨rfl, rfl⟩
   go_wp2_with fail
   refine bodyPost_ret (v := .tuple #[.agg #[.int .i64 0, .bool false, .bool false, .int .i64 0, .int .i64 0, .int .i64 0, .int .i64 0, .int .i64 0, .int .i64 0, .int .i64 0, .int .i64 0], .int .i64 4]) (by simp [results, Tryz.results93, go_sem]) rfl ⟨?_, by first | exact ((Chg.refl _ _).alloc _).alloc _ | exact (((Chg.refl _ _).alloc _).alloc _).alloc _ | exact ((((Chg.refl _ _).alloc _).alloc _).alloc _).alloc _⟩
   (rw [← HR.out]; simp [ofRes, In.val, In.arr, In.zero, *])
 ·rcases le_or op 11 with ho | ho
  ·cases m
   ·go_enter Tryz.func93, Tryz.ntmps93
    go_wp2_with fail
    refine (HF.out _).mono ?_
    rintro e w1 ⟨rfl, rfl⟩
    go_wp2_with fail
    refine (HM.out _).mono ?_
    rintro e w2 ⟨rfl, rfl⟩
    go_wp2_with fail
    refine bodyPost_ret (v := .tuple #[.agg #[.int .i64 0, .bool false, .bool false, .int .i64 0, .int .i64 0, .int .i64 0, .int .i64 0, .int .i64 0, .int .i64 0, .int .i64 0, .int .i64 0], .int .i64 4]) (by simp [results, Tryz.results93, go_sem]) rfl ⟨?_, by first | exact ((Chg.refl _ _).alloc _).alloc _ | exact (((Chg.refl _ _).alloc _).alloc _).alloc _ | exact ((((Chg.refl _ _).alloc _).alloc _).alloc _).alloc _⟩
    (rw [← HR.out]; simp [ofRes, In.val, In.arr, In.zero, *])
   ·go_enter Tryz.func93, Tryz.ntmps93
    go_wp2_with fail
    refine (HF.out _).mono ?_
    rintro e w1 ⟨rfl, rfl⟩
    go_wp2_with fail
    refine (HM.out _).mono ?_
    rintro e w2 ⟨rfl, rfl⟩
    go_wp2_with fail
    refine bodyPost_ret (v := .tuple #[.agg #[.int .i64 1, .bool u, .bool v, .int .i64 a, .int .i64 b, .int .i64 c, .int .i64 op, .int .i64 im, .int .i64 off, .int .i64 co, .int .i64 n], .int .i64 0]) (by simp [results, Tryz.results93, go_sem]) rfl ⟨?_, by first | exact ((Chg.refl _ _).alloc _).alloc _ | exact (((Chg.refl _ _).alloc _).alloc _).alloc _ | exact ((((Chg.refl _ _).alloc _).alloc _).alloc _).alloc _⟩
    (rw [← HR.out]; simp [ofRes, In.val, In.arr, In.zero, *])
  ·go_enter Tryz.func93, Tryz.ntmps93
   go_wp2_with fail
   refine (HF.out _).mono ?_
   rintro e w1 ⟨rfl, rfl⟩
   go_wp2_with fail
   refine bodyPost_ret (v := .tuple #[.agg #[.int .i64 0, .bool false, .bool false, .int .i64 0, .int .i64 0, .int .i64 0, .int .i64 0, .int .i64 0, .int .i64 0, .int .i64 0, .int .i64 0], .int .i64 4]) (by simp [results, Tryz.results93, go_sem]) rfl ⟨?_, by first | exact ((Chg.refl _ _).alloc _).alloc _ | exact (((Chg.refl _ _).alloc _).alloc _).alloc _ | exact ((((Chg.refl _ _).alloc _).alloc _).alloc _).alloc _⟩
   (rw [← HR.out]; simp [ofRes, In.val, In.arr, In.zero, *])
 ·go_enter Tryz.func93, Tryz.ntmps93
  go_wp2_with fail
  refine (HF.out _).mono ?_
  rintro e w1 ⟨rfl, rfl⟩
  go_wp2_with fail
  refine bodyPost_ret (v := .tuple #[.agg #[.int .i64 2, .bool u, .bool v, .int .i64 a, .int .i64 b, .int .i64 c, .int .i64 op, .int .i64 im, .int .i64 off, .int .i64 co, .int .i64 n], .int .i64 0]) (by simp [results, Tryz.results93, go_sem]) rfl ⟨?_, by first | exact ((Chg.refl _ _).alloc _).alloc _ | exact (((Chg.refl _ _).alloc _).alloc _).alloc _ | exact ((((Chg.refl _ _).alloc _).alloc _).alloc _).alloc _⟩
  (rw [← HR.out]; simp [ofRes, In.val, In.arr, In.zero, *])
 ·go_enter Tryz.func93, Tryz.ntmps93
  go_wp2_with fail
  refine (HF.out _).mono ?_
  rintro e w1 ⟨rfl, rfl⟩
  go_wp2_with fail
  refine bodyPost_ret (v := .tuple #[.agg #[.int .i64 3, .bool u, .bool v, .int .i64 a, .int .i64 b, .int .i64 c, .int .i64 op, .int .i64 im, .int .i64 off, .int .i64 co, .int .i64 n], .int .i64 0]) (by simp [results, Tryz.results93, go_sem]) rfl ⟨?_, by first | exact ((Chg.refl _ _).alloc _).alloc _ | exact (((Chg.refl _ _).alloc _).alloc _).alloc _ | exact ((((Chg.refl _ _).alloc _).alloc _).alloc _).alloc _⟩
  (rw [← HR.out]; simp [ofRes, In.val, In.arr, In.zero, *])
 ·go_enter Tryz.func93, Tryz.ntmps93
  go_wp2_with fail
  refine (HF.out _).mono ?_
  rintro e w1 ⟨rfl, rfl⟩
  go_wp2_with fail
  refine bodyPost_ret (v := .tuple #[.agg #[.int .i64 4, .bool u, .bool v, .int .i64 a, .int .i64 b, .int .i64 c, .int .i64 op, .int .i64 im, .int .i64 off, .int .i64 co, .int .i64 n], .int .i64 0]) (by simp [results, Tryz.results93, go_sem]) rfl ⟨?_, by first | exact ((Chg.refl _ _).alloc _).alloc _ | exact (((Chg.refl _ _).alloc _).alloc _).alloc _ | exact ((((Chg.refl _ _).alloc _).alloc _).alloc _).alloc _⟩
  (rw [← HR.out]; simp [ofRes, In.val, In.arr, In.zero, *])
 ·rcases lt_or c 16 with hc | hc
  ·go_enter Tryz.func93, Tryz.ntmps93
   go_wp2_with fail
   refine (HF.out _).mono ?_
   rintro e w1 ⟨rfl, rfl⟩
   go_wp2_with fail
   refine bodyPost_ret (v := .tuple #[.agg #[.int .i64 5, .bool u, .bool v, .int .i64 a, .int .i64 b, .int .i64 c, .int .i64 op, .int .i64 im, .int .i64 off, .int .i64 co, .int .i64 n], .int .i64 0]) (by simp [results, Tryz.results93, go_sem]) rfl ⟨?_, by first | exact ((Chg.refl _ _).alloc _).alloc _ | exact (((Chg.refl _ _).alloc _).alloc _).alloc _ | exact ((((Chg.refl _ _).alloc _).alloc _).alloc _).alloc _⟩
   (rw [← HR.out]; simp [ofRes, In.val, In.arr, In.zero, *])
  ·go_enter Tryz.func93, Tryz.ntmps93
   go_wp2_with fail
   refine (HF.out _).mono ?_
   rintro e w1 ⟨rfl, rfl⟩
   go_wp2_with fail
   refine bodyPost_ret (v := .tuple #[.agg #[.int .i64 0, .bool false, .bool false, .int .i64 0, .int .i64 0, .int .i64 0, .int .i64 0, .int .i64 0, .int .i64 0, .int .i64 0, .int .i64 0], .int .i64 4]) (by simp [results, Tryz.results93, go_sem]) rfl ⟨?_, by first | exact ((Chg.refl _ _).alloc _).alloc _ | exact (((Chg.refl _ _).alloc _).alloc _).alloc _ | exact ((((Chg.refl _ _).alloc _).alloc _).alloc _).alloc _⟩
   (rw [← HR.out]; simp [ofRes, In.val, In.arr, In.zero, *])
 ·rcases lt_or n 256 with hc | hc
  ·go_enter Tryz.func93, Tryz.ntmps93
   go_wp2_with fail
   refine (HF.out _).mono ?_
   rintro e w1 ⟨rfl, rfl⟩
   go_wp2_with fail
   refine bodyPost_ret (v := .tuple #[.agg #[.int .i64 6, .bool u, .bool v, .int .i64 a, .int .i64 b, .int .i64 c, .int .i64 op, .int .i64 im, .int .i64 off, .int .i64 co, .int .i64 n], .int .i64 0]) (by simp [results, Tryz.results93, go_sem]) rfl ⟨?_, by first | exact ((Chg.refl _ _).alloc _).alloc _ | exact (((Chg.refl _ _).alloc _).alloc _).alloc _ | exact ((((Chg.refl _ _).alloc _).alloc _).alloc _).alloc _⟩
   (rw [← HR.out]; simp [ofRes, In.val, In.arr, In.zero, *])
  ·go_enter Tryz.func93, Tryz.ntmps93
   go_wp2_with fail
   refine (HF.out _).mono ?_
   rintro e w1 ⟨rfl, rfl⟩
   go_wp2_with fail
   refine bodyPost_ret (v := .tuple #[.agg #[.int .i64 0, .bool false, .bool false, .int .i64 0, .int .i64 0, .int .i64 0, .int .i64 0, .int .i64 0, .int .i64 0, .int .i64 0, .int .i64 0], .int .i64 4]) (by simp [results, Tryz.results93, go_sem]) rfl ⟨?_, by first | exact ((Chg.refl _ _).alloc _).alloc _ | exact (((Chg.refl _ _).alloc _).alloc _).alloc _ | exact ((((Chg.refl _ _).alloc _).alloc _).alloc _).alloc _⟩
   (rw [← HR.out]; simp [ofRes, In.val, In.arr, In.zero, *])
end Go.Proofs.YtggknljlibhkjaaGreat
set_option linter.unusedSimpArgs false
set_option linter.unusedVariables false
namespace Go.Proofs.YtggknljlibhkjaaGreat
open Go.RowKit
structure Cp where
 R : Nat → Int
 h : Int
 n : Bool
 z : Bool
 c : Bool
 v : Bool
 pc : Int
def Cp.arr (c : Cp) : Array Value := #[.int .u32 (c.R 0), .int .u32 (c.R 1), .int .u32 (c.R 2), .int .u32 (c.R 3), .int .u32 (c.R 4), .int .u32 (c.R 5), .int .u32 (c.R 6), .int .u32 (c.R 7), .int .u32 (c.R 8), .int .u32 (c.R 9), .int .u32 (c.R 10), .int .u32 (c.R 11), .int .u32 (c.R 12), .int .u32 (c.R 13), .int .u32 (c.R 14), .int .u32 (c.R 15), .int .u32 c.h, .bool c.n, .bool c.z, .bool c.c, .bool c.v, .int .u32 c.pc]
def Cp.val (c : Cp) : Value := .agg c.arr
structure Cp.Ok (c : Cp) : Prop where
 r : ∀ i, 0 ≤ c.R i ∧ c.R i < 4294967296
 h : 0 ≤ c.h ∧ c.h < 4294967296
 pc : 0 ≤ c.pc ∧ c.pc < 4294967296
def upd (R : Nat → Int) (i : Nat) (x : Int) : Nat → Int := fun j => if j = i then x else R j
theorem lt16 {i : Nat} (h : i < 16) : i = 0 ∨ i = 1 ∨ i = 2 ∨ i = 3 ∨ i = 4 ∨ i = 5 ∨ i = 6 ∨ i = 7 ∨ i = 8 ∨ i = 9 ∨ i = 10 ∨ i = 11 ∨ i = 12 ∨ i = 13 ∨ i = 14 ∨ i = 15 := by omega
theorem Cp.reg (c : Cp) {i : Nat} (h : i < 16) : c.arr[i]? = some (.int .u32 (c.R i)) := by
 rcases lt16 h with rfl | rfl | rfl | rfl | rfl | rfl | rfl | rfl | rfl | rfl | rfl | rfl | rfl | rfl | rfl | rfl <;> rfl
theorem Cp.setReg (c : Cp) {i : Nat} (h : i < 16) (x : Int) : c.arr.setIfInBounds i (.int .u32 x) = ({ c with R := upd c.R i x } : Cp).arr := by
 rcases lt16 h with rfl | rfl | rfl | rfl | rfl | rfl | rfl | rfl | rfl | rfl | rfl | rfl | rfl | rfl | rfl | rfl <;> rfl
theorem Cp.setH (c : Cp) (x : Int) : c.arr.setIfInBounds 16 (.int .u32 x) = ({ c with h := x } : Cp).arr := rfl
theorem Cp.setN (c : Cp) (x : Bool) : c.arr.setIfInBounds 17 (.bool x) = ({ c with n := x } : Cp).arr := rfl
theorem Cp.setZ (c : Cp) (x : Bool) : c.arr.setIfInBounds 18 (.bool x) = ({ c with z := x } : Cp).arr := rfl
def CpT : TypeId := 42
abbrev CpAt (w : World) (b : Nat) (c : Cp) : Prop := Blk w b CpT c.arr
section
variable {w w' : World} {b : Nat} {c : Cp}
theorem CpAt.cells (h : CpAt w b c) : w.cell? ⟨b, 16, none⟩ = some (.int .u32 c.h) ∧ w.cell? ⟨b, 17, none⟩ = some (.bool c.n) ∧ w.cell? ⟨b, 18, none⟩ = some (.bool c.z) ∧ w.cell? ⟨b, 19, none⟩ = some (.bool c.c) ∧ w.cell? ⟨b, 20, none⟩ = some (.bool c.v) ∧ w.cell? ⟨b, 21, none⟩ = some (.int .u32 c.pc) :=
 ⟨h.cell 16, h.cell 17, h.cell 18, h.cell 19, h.cell 20, h.cell 21⟩
theorem CpAt.reg (h : CpAt w b c) {i : Nat} (hi : i < 16) : w.cell? ⟨b, i, none⟩ = some (.int .u32 (c.R i)) := (h.cell i).trans (c.reg hi)
def Cp.set (c : Cp) (i : Nat) (x : Int) : Cp := { c with R := upd c.R i x, n := decide (wrap32 x < 0), z := (x == 0) }
def SetPost (b : Nat) (v : Value) (c : Cp) (w : World) (e : Ending) (w' : World) : Prop := e = .returned v ∧ CpAt w' b c ∧ Chg (fun k => k = b) w w'
theorem set_c (h : CpAt w b c) {reg : Nat} (hr : reg < 16) (x : Int) (h0 : 0 ≤ x) (h1 : x < 4294967296) : Calls Tryz.prog 96 #[ptr b, .int .i64 reg, .int .u32 x] w (SetPost b (.tuple #[]) (c.set reg x) w) := by
 obtain ⟨_, c17, c18, _⟩ := h.cells
 have cr := h.reg hr
 have fr := h.frozen reg
 have f17 := h.frozen 17
 have f18 := h.frozen 18
 have HB := Go.Lib.hid h
 clear h
 unfold ptr
 go_enter Tryz.func96, Tryz.ntmps96
 go_wp2_with fail
 have H1 := HB.out.set_ reg (.int .u32 x)
 rw [Cp.setReg _ hr] at H1
 have H2 := H1.set_ 17 (.bool (decide (wrap32 x < 0)))
 rw [Cp.setN] at H2
 have H3 := H2.set_ 18 (.bool (x == 0))
 rw [Cp.setZ] at H3
 have HC := (((Chg.refl (fun k => k = b) w).setCell (p := ⟨b, reg, none⟩) (fun _ => rfl) (.int .u32 x)).setCell (p := ⟨b, 17, none⟩) (fun _ => rfl) (.bool (decide (wrap32 x < 0)))).setCell (p := ⟨b, 18, none⟩) (fun _ => rfl) (.bool (x == 0))
 go_end0
 exact ⟨rfl, H3, HC⟩
def holds (c : Cp) (co : Int) : Bool :=
 let m := co % 8
 ((if m = 0 then c.n else if m = 1 then c.z else if m = 2 then c.c else if m = 3 then c.v else if m = 4 then c.c || c.z else if m = 5 then (c.n != c.v) else if m = 6 then c.z || (c.n != c.v) else true) != decide (8 ≤ co))
theorem holds_c (c : Cp) (co : Int) (h0 : 0 ≤ co) (h1 : co < 16) (w : World) : Calls Tryz.prog 95 #[c.val, .int .i64 co] w fun e w' => e = .returned (.bool (holds c co)) ∧ w' = w.alloc (.cells c.arr CpT) := by
 have e1 : bits .and .i64 co 15 = co := by
  rw [show (15 : Int) = 2 ^ 4 - 1 by rfl, bits_mask .i64 62 (by decide) (fun n h h' => by rw [IntKind.wrap_i64]; omega) 4 (by decide) co h0 (by omega)]
  omega
 have e2 : bits .and .i64 co 7 = co % 8 := by
  rw [show (7 : Int) = 2 ^ 3 - 1 by rfl, bits_mask .i64 62 (by decide) (fun n h h' => by rw [IntKind.wrap_i64]; omega) 3 (by decide) co h0 (by omega)]
  rfl
 obtain ⟨r, hr⟩ : ∃ r, holds c co = r := ⟨_, rfl⟩
 have HR := Go.Lib.hid hr
 rw [hr]
 clear hr
 obtain ⟨k, hk⟩ : ∃ k, co % 8 = k := ⟨_, rfl⟩
 rw [hk] at e2
 have HK := Go.Lib.hid hk
 have hkb : k = 0 ∨ k = 1 ∨ k = 2 ∨ k = 3 ∨ k = 4 ∨ k = 5 ∨ k = 6 ∨ k = 7 := by omega
 clear hk
 have c17 : c.arr[17]? = some (.bool c.n) := rfl
 have c18 : c.arr[18]? = some (.bool c.z) := rfl
 have c19 : c.arr[19]? = some (.bool c.c) := rfl
 have c20 : c.arr[20]? = some (.bool c.v) := rfl
 obtain ⟨q8, h8⟩ : ∃ q, decide (8 ≤ co) = q := ⟨_, rfl⟩
 unfold Cp.val CpT
 rcases hkb with rfl | rfl | rfl | rfl | rfl | rfl | rfl | rfl
 ·
  go_enter Tryz.func95, Tryz.ntmps95
  go_wp2_with fail
  go_ret
  exact ⟨(by rw [← HR.out, ← h8]; unfold holds; simp [HK.out]; try (generalize decide (8 ≤ co) = z8; generalize c.n = a1; generalize c.z = a2; generalize c.c = a3; generalize c.v = a4; cases z8 <;> cases a1 <;> cases a2 <;> cases a3 <;> cases a4 <;> rfl)), rfl⟩
 ·
  go_enter Tryz.func95, Tryz.ntmps95
  go_wp2_with fail
  go_ret
  exact ⟨(by rw [← HR.out, ← h8]; unfold holds; simp [HK.out]; try (generalize decide (8 ≤ co) = z8; generalize c.n = a1; generalize c.z = a2; generalize c.c = a3; generalize c.v = a4; cases z8 <;> cases a1 <;> cases a2 <;> cases a3 <;> cases a4 <;> rfl)), rfl⟩
 ·
  go_enter Tryz.func95, Tryz.ntmps95
  go_wp2_with fail
  go_ret
  exact ⟨(by rw [← HR.out, ← h8]; unfold holds; simp [HK.out]; try (generalize decide (8 ≤ co) = z8; generalize c.n = a1; generalize c.z = a2; generalize c.c = a3; generalize c.v = a4; cases z8 <;> cases a1 <;> cases a2 <;> cases a3 <;> cases a4 <;> rfl)), rfl⟩
 ·
  go_enter Tryz.func95, Tryz.ntmps95
  go_wp2_with fail
  go_ret
  exact ⟨(by rw [← HR.out, ← h8]; unfold holds; simp [HK.out]; try (generalize decide (8 ≤ co) = z8; generalize c.n = a1; generalize c.z = a2; generalize c.c = a3; generalize c.v = a4; cases z8 <;> cases a1 <;> cases a2 <;> cases a3 <;> cases a4 <;> rfl)), rfl⟩
 ·
  obtain ⟨qa, ha⟩ : ∃ q, c.c = q := ⟨_, rfl⟩
  have Ha := Go.Lib.hid ha
  rw [ha] at c19
  clear ha
  cases qa
  all_goals
   go_enter Tryz.func95, Tryz.ntmps95
   go_wp2_with fail
   go_ret
   exact ⟨(by rw [← HR.out, ← h8]; unfold holds; simp [HK.out, Ha.out]; try (generalize decide (8 ≤ co) = z8; generalize c.n = a1; generalize c.z = a2; generalize c.c = a3; generalize c.v = a4; cases z8 <;> cases a1 <;> cases a2 <;> cases a3 <;> cases a4 <;> rfl)), rfl⟩
 ·
  go_enter Tryz.func95, Tryz.ntmps95
  go_wp2_with fail
  go_ret
  exact ⟨(by rw [← HR.out, ← h8]; unfold holds; simp [HK.out]; try (generalize decide (8 ≤ co) = z8; generalize c.n = a1; generalize c.z = a2; generalize c.c = a3; generalize c.v = a4; cases z8 <;> cases a1 <;> cases a2 <;> cases a3 <;> cases a4 <;> rfl)), rfl⟩
 ·
  obtain ⟨qa, ha⟩ : ∃ q, c.z = q := ⟨_, rfl⟩
  have Ha := Go.Lib.hid ha
  rw [ha] at c18
  clear ha
  cases qa
  all_goals
   go_enter Tryz.func95, Tryz.ntmps95
   go_wp2_with fail
   go_ret
   exact ⟨(by rw [← HR.out, ← h8]; unfold holds; simp [HK.out, Ha.out]; try (generalize decide (8 ≤ co) = z8; generalize c.n = a1; generalize c.z = a2; generalize c.c = a3; generalize c.v = a4; cases z8 <;> cases a1 <;> cases a2 <;> cases a3 <;> cases a4 <;> rfl)), rfl⟩
 ·
  go_enter Tryz.func95, Tryz.ntmps95
  go_wp2_with fail
  go_ret
  exact ⟨(by rw [← HR.out, ← h8]; unfold holds; simp [HK.out]; try (generalize decide (8 ≤ co) = z8; generalize c.n = a1; generalize c.z = a2; generalize c.c = a3; generalize c.v = a4; cases z8 <;> cases a1 <;> cases a2 <;> cases a3 <;> cases a4 <;> rfl)), rfl⟩
end
end Go.Proofs.YtggknljlibhkjaaGreat
set_option linter.unusedSimpArgs false
set_option linter.unusedVariables false
namespace Go.Proofs.YtggknljlibhkjaaGreat
open Go.RowKit
def wLeft (a b : Int) : Int := a * 2 ^ (b % 32).toNat % 4294967296
def wRight (a b : Int) : Int := wrap32 a / 2 ^ (b % 32).toNat % 4294967296
def wTurn (a b : Int) : Int := bits .or .u32 (a * 2 ^ ((32 - b % 32) % 32).toNat % 4294967296) (a / 2 ^ (32 - (32 - b % 32) % 32).toNat)
def one (c : Bool) : Int := if c = true then 1 else 0
def wAdd (a b : Int) (c : Bool) : Int := (a + b + one c) % 4294967296
def cAdd (a b : Int) (c : Bool) : Bool := (a + b + one c) / 4294967296 == 1
def vAdd (a b n : Int) : Bool := decide (wrap32 (bits .and .u32 (bits .xor .u32 a n) (bits .xor .u32 b n)) < 0)
def wSub (a b : Int) (c : Bool) : Int := (a - b - one c) % 4294967296
def bSub (a b n : Int) : Int := bits .or .u32 (bits .and .u32 (bits .xor .u32 IntKind.u32.max a) b) (bits .and .u32 (bits .xor .u32 IntKind.u32.max (bits .xor .u32 a b)) n) / 2147483648
def vSub (a b n : Int) : Bool := decide (wrap32 (bits .and .u32 (bits .xor .u32 a b) (bits .xor .u32 a n)) < 0)
def pMul (a b : Int) (s : Bool) : Int := if s = true then IntKind.u64.wrap (wrap64 (wrap64 (wrap32 a) * wrap64 (wrap32 b))) else IntKind.u64.wrap (a * b)
set_option linter.unusedSectionVars false
section
variable (a b : Int) (h0 : 0 ≤ a ∧ a < 4294967296) (h1 : 0 ≤ b ∧ b < 4294967296) (w : World)
include h0 h1
theorem left_c : Calls Tryz.prog 123 #[.int .u32 a, .int .u32 b] w fun e w' => e = .returned (.int .u32 (wLeft a b)) ∧ w = w' := by
 go_enter Tryz.func123, Tryz.ntmps123
 go_wp2_with fail
 go_ret
 exact ⟨rfl, rfl⟩
theorem right_c : Calls Tryz.prog 124 #[.int .u32 a, .int .u32 b] w fun e w' => e = .returned (.int .u32 (wRight a b)) ∧ w = w' := by
 go_enter Tryz.func124, Tryz.ntmps124
 go_wp2_with fail
 go_ret
 exact ⟨rfl, rfl⟩
omit h1 in
theorem rol_c (k m : Int) (hk : -32 < k ∧ k ≤ 0) (hm : m = (32 + k) % 32) : Calls Tryz.prog 139 #[.int .u32 a, .int .i64 k] w fun e w' => e = .returned (.int .u32 (bits .or .u32 (a * 2 ^ m.toNat % 4294967296) (a / 2 ^ (32 - m).toNat))) ∧ w = w' := by
 have hb : 0 ≤ m ∧ m < 32 := by omega
 have e5 : bits .and .u64 (IntKind.u64.wrap k) 31 = m := by
  have hw : IntKind.u64.wrap k = k % 18446744073709551616 := by simp [IntKind.wrap, IntKind.bits, IntKind.signed]
  rw [hw, show (31 : Int) = 2 ^ 5 - 1 by rfl, bits_mask .u64 64 (by decide) (fun n h h' => by simp [IntKind.wrap, IntKind.bits, IntKind.signed]; omega) 5 (by decide) _ (by omega) (by omega)]
  omega
 clear hm
 go_enter Tryz.func139, Tryz.ntmps139
 go_wp2_with fail
 go_ret
 exact ⟨rfl, rfl⟩
theorem turn_c : Calls Tryz.prog 125 #[.int .u32 a, .int .u32 b] w fun e w' => e = .returned (.int .u32 (wTurn a b)) ∧ w = w' := by
 have HT := Go.Lib.hid (fun W => rol_c a h0 W (-(b % 32)) ((32 - b % 32) % 32) (by omega) (by omega))
 obtain ⟨r, hr⟩ : ∃ r, wTurn a b = r := ⟨_, rfl⟩
 rw [hr]
 unfold wTurn at hr
 rw [hr] at HT
 clear hr
 go_enter Tryz.func125, Tryz.ntmps125
 go_wp2_with fail
 refine (HT.out _).mono ?_
 rintro e w1 ⟨rfl, rfl⟩
 go_wp2_with fail
 go_ret
 exact ⟨rfl, rfl⟩
theorem add32_c (c : Int) (hc : 0 ≤ c ∧ c ≤ 1) : Calls Tryz.prog 140 #[.int .u32 a, .int .u32 b, .int .u32 c] w fun e w' => e = .returned (.tuple #[.int .u32 ((a + b + c) % 4294967296), .int .u32 ((a + b + c) / 4294967296)]) ∧ w = w' := by
 go_enter Tryz.func140, Tryz.ntmps140
 go_wp2_with fail
 go_ret2
 exact ⟨rfl, rfl⟩
theorem sub32_c (c : Int) (hc : 0 ≤ c ∧ c ≤ 1) : Calls Tryz.prog 141 #[.int .u32 a, .int .u32 b, .int .u32 c] w fun e w' => e = .returned (.tuple #[.int .u32 ((a - b - c) % 4294967296), .int .u32 (bSub a b ((a - b - c) % 4294967296))]) ∧ w = w' := by
 have hs : IntKind.u32.signed = false := rfl
 obtain ⟨n, hn⟩ : ∃ n, (a - b - c) % 4294967296 = n := ⟨_, rfl⟩
 have hn2 : ((a - b) % 4294967296 - c) % 4294967296 = n := by omega
 rw [hn]
 go_enter Tryz.func141, Tryz.ntmps141
 go_wp2_with fail
 go_ret2
 exact ⟨by simp [hn2, bSub], rfl⟩
theorem add_c (c : Bool) : Calls Tryz.prog 126 #[.int .u32 a, .int .u32 b, .bool c] w fun e w' => e = .returned (.tuple #[.int .u32 (wAdd a b c), .bool (cAdd a b c), .bool (vAdd a b (wAdd a b c))]) ∧ w = w' := by
 have HA := Go.Lib.hid (fun W => add32_c a b h0 h1 W (one c) (by unfold one; split <;> omega))
 unfold vAdd
 have e1 : (a + b + one c) % 4294967296 = wAdd a b c := rfl
 unfold cAdd
 rw [e1] at HA
 clear e1
 generalize wAdd a b c = n at *
 generalize (a + b + one c) / 4294967296 = k at *
 cases c
 all_goals
  have HB := Go.Lib.hid (by simpa [one] using HA.out : _)
  clear HA
  go_enter Tryz.func126, Tryz.ntmps126
  go_wp2_with fail
  refine (HB.out _).mono ?_
  rintro e w1 ⟨rfl, rfl⟩
  go_wp2_with fail
  exact bodyPost_ret (by simp [results, Tryz.results126, go_sem]) rfl ⟨rfl, rfl⟩
theorem sub_c (c : Bool) : Calls Tryz.prog 127 #[.int .u32 a, .int .u32 b, .bool c] w fun e w' => e = .returned (.tuple #[.int .u32 (wSub a b c), .bool (bSub a b (wSub a b c) == 1), .bool (vSub a b (wSub a b c))]) ∧ w = w' := by
 have HA := Go.Lib.hid (fun W => sub32_c a b h0 h1 W (one c) (by unfold one; split <;> omega))
 unfold vSub
 have e1 : (a - b - one c) % 4294967296 = wSub a b c := rfl
 rw [e1] at HA
 clear e1
 generalize wSub a b c = n at *
 generalize bSub a b n = k at *
 cases c
 all_goals
  have HB := Go.Lib.hid (by simpa [one] using HA.out : _)
  clear HA
  go_enter Tryz.func127, Tryz.ntmps127
  go_wp2_with fail
  refine (HB.out _).mono ?_
  rintro e w1 ⟨rfl, rfl⟩
  go_wp2_with fail
  exact bodyPost_ret (by simp [results, Tryz.results127, go_sem]) rfl ⟨rfl, rfl⟩
theorem mul_c (c : Bool) : Calls Tryz.prog 128 #[.int .u32 a, .int .u32 b, .bool c] w fun e w' => e = .returned (.tuple #[.int .u32 (pMul a b c % 4294967296), .int .u32 (pMul a b c / 4294967296 % 4294967296)]) ∧ w = w' := by
 unfold pMul
 cases c
 all_goals
  simp only [Bool.false_eq_true, if_false, if_true]
  go_enter Tryz.func128, Tryz.ntmps128
  go_wp2_with fail
  go_ret2
  exact ⟨rfl, rfl⟩
omit h0 h1 in
theorem div_facts (x y : Int) (hy : 0 < y) : ((x / y = if x.tmod y < 0 then x.tdiv y - 1 else x.tdiv y) ∧ x % y = if x.tmod y < 0 then x.tmod y + y else x.tmod y) ∧ (-2147483648 ≤ x ∧ x ≤ 2147483647 → -2147483648 ≤ x.tdiv y ∧ x.tdiv y ≤ 2147483647) ∧ -y < x.tmod y ∧ x.tmod y < y := by
 have h1 : y * x.tdiv y + x.tmod y = x := Int.mul_tdiv_add_tmod x y
 have h2 := Int.lt_tmod_of_pos x hy
 have h3 := Int.tmod_lt_of_pos x hy
 have e0 := Int.mul_ediv_add_emod x y
 have e1 := Int.emod_nonneg x (show y ≠ 0 by omega)
 have e2 := Int.emod_lt_of_pos x hy
 generalize x.tmod y = r at *
 generalize x.tdiv y = q at *
 have key : ∀ Q R : Int, y * Q + R = x → 0 ≤ R → R < y → x / y = Q ∧ x % y = R := fun Q R hx h0 hl =>
  (Int.ediv_emod_unique hy).2 ⟨by omega, h0, hl⟩
 refine ⟨?_, ?_, h2, h3⟩
 ·split
  ·exact key (q - 1) (r + y) (by rw [Int.mul_sub]; omega) (by omega) (by omega)
  ·exact key q r h1 (by omega) h3
 ·rintro ⟨a1, a2⟩
  constructor
  ·by_cases h : q < -2147483648
   ·have : y * q ≤ y * (-2147483649) := Int.mul_le_mul_of_nonneg_left (by omega) (by omega)
    have : y * (-2147483649) ≤ -2147483649 + (1 - y) := by omega
    omega
   ·omega
  ·by_cases h : 2147483647 < q
   ·have : y * 2147483648 ≤ y * q := Int.mul_le_mul_of_nonneg_left (by omega) (by omega)
    omega
   ·omega
def divRes (a b : Int) : Value := if wrap32 b ≤ 0 then .tuple #[.int .u32 0, .int .u32 0, .int .i64 2] else .tuple #[.int .u32 (wrap32 a / wrap32 b % 4294967296), .int .u32 (wrap32 a % wrap32 b % 4294967296), .int .i64 0]
theorem div_c : Calls Tryz.prog 129 #[.int .u32 a, .int .u32 b] w fun e w' => e = .returned (divRes a b) ∧ ∃ k, w' = w.drewN k := by
 obtain ⟨x, hx⟩ : ∃ x, wrap32 a = x := ⟨_, rfl⟩
 obtain ⟨y, hy⟩ : ∃ y, wrap32 b = y := ⟨_, rfl⟩
 have bx : -2147483648 ≤ x ∧ x ≤ 2147483647 := by unfold wrap32 at hx; omega
 have bY : -2147483648 ≤ y ∧ y ≤ 2147483647 := by unfold wrap32 at hy; omega
 unfold divRes
 rw [hx, hy]
 by_cases hp : y ≤ 0
 ·rw [if_pos hp]
  go_enter Tryz.func129, Tryz.ntmps129
  go_wp2_with fail
  exact bodyPost_ret (by simp [results, Tryz.results129, go_sem]) rfl ⟨rfl, 0, rfl⟩
 ·rw [if_neg hp]
  have h64 : wrap64 x = x := IntWalk.wrap64_in _ (by omega)
  have h64y : wrap64 y = y := IntWalk.wrap64_in _ (by omega)
  obtain ⟨⟨d1, d2⟩, hq, hb⟩ := div_facts x y (by omega)
  have hq := hq bx
  generalize eq : x.tdiv y = q at *
  generalize er : x.tmod y = r at *
  by_cases h0r : r < 0
  all_goals
   simp only [h0r, if_true, if_false] at d1 d2
   have D := Go.Lib.hid (And.intro d1 d2)
   clear d1 d2
   go_enter Tryz.func129, Tryz.ntmps129
   go_wp2_with fail
   go_quiet (fail)
   go_wp2_with fail
   exact bodyPost_ret (v := .tuple #[.int .u32 (x / y % 4294967296), .int .u32 (x % y % 4294967296), .int .i64 0]) (by (simp [results, Tryz.results129, go_sem, D.out.1, D.out.2]) <;> omega) rfl ⟨rfl, _, rfl⟩
end
end Go.Proofs.YtggknljlibhkjaaGreat
set_option linter.unusedSimpArgs false
set_option linter.unusedVariables false
namespace Go.Proofs.YtggknljlibhkjaaGreat
open Go.RowKit
def flN (b : Nat → Bool) : Nat → Int
 | 0 => 0
 | k + 1 => if b k = true then bits .or .u32 (flN b k) (2 ^ (31 - k)) else flN b k
theorem flN_bd (b : Nat → Bool) : ∀ k, 0 ≤ flN b k ∧ flN b k < 4294967296
 | 0 => ⟨by simp [flN], by simp [flN]⟩
 | k + 1 => by
  unfold flN
  split
  ·unfold bits; simp only [IntKind.wrap_u32]; omega
  ·exact flN_bd b k
theorem bits4_c (w : World) (g : Nat) (b : Nat → Bool) (h : ∀ i, i < 4 → w.cell? ⟨g, i, none⟩ = some (.bool (b i))) : Calls Tryz.prog 145 #[.slice (some ⟨g, 0, none⟩) 4 4] w fun e w' => e = .returned (.int .u32 (flN b 4)) ∧ w = w' := by
 have H := Go.Lib.hid h
 have HB := Go.Lib.hid (flN_bd b)
 clear h
 obtain ⟨r, hr⟩ : ∃ r, flN b 4 = r := ⟨_, rfl⟩
 have HR := Go.Lib.hid hr
 rw [hr]
 clear hr
 go_enter Tryz.func145, Tryz.ntmps145
 go_wp2_with fail
 go_loop [3, 8] (fun v3 v8 => ∃ k : Nat, k ≤ 4 ∧ v8 = .int .i64 k ∧ v3 = .int .u32 (flN b k)) (fun _ v8 => 4 - (intOf v8).toNat)
 case atStart => exact ⟨0, by omega, rfl, rfl⟩
 case round =>
  obtain ⟨k, hk, rfl, rfl⟩ := hrel
  by_cases hlt : k < 4
  ·have hc := H.out k hlt
   have hn : Hid (flN b (k + 1) = if b k = true then bits .or .u32 (flN b k) (2 ^ (31 - k)) else flN b k) := Go.Lib.hid rfl
   have hb := HB.out k
   generalize flN b k = n at *
   have hs : (31 - (k : Int)).toNat = 31 - k := by omega
   have hp : (2 : Int) ^ (31 - k) < 4294967296 ∧ 0 < (2 : Int) ^ (31 - k) := by
    have hk4 : k = 0 ∨ k = 1 ∨ k = 2 ∨ k = 3 := by omega
    rcases hk4 with rfl | rfl | rfl | rfl <;> decide
   obtain ⟨q, hq⟩ : ∃ q, b k = q := ⟨_, rfl⟩
   rw [hq] at hc
   have HQ := Go.Lib.hid hq
   clear hq
   cases q
   all_goals
    go_wp2_with fail
    go_round
    case rel => exact ⟨k + 1, by omega, by go_num, by rw [hn.out, HQ.out]; simp⟩
    case measure => simp [intOf]; omega
  ·obtain rfl : k = 4 := by omega
   rw [HR.out]
   clear hlt hk
   go_wp2_with fail
   go_ret
   exact ⟨rfl, rfl⟩
def flB (c : Cp) : Nat → Bool := fun k => if k = 0 then c.n else if k = 1 then c.z else if k = 2 then c.c else c.v
def flagsOf (c : Cp) : Int := flN (flB c) 4
theorem flags_c (c : Cp) (w : World) : Calls Tryz.prog 138 #[c.val] w (Quiet (.int .u32 (flagsOf c)) w) := by
 have HB := Go.Lib.hid (fun W g h => bits4_c W g (flB c) h)
 unfold flagsOf
 generalize flN (flB c) 4 = r at *
 have c17 : c.arr[17]? = some (.bool c.n) := rfl
 have c18 : c.arr[18]? = some (.bool c.z) := rfl
 have c19 : c.arr[19]? = some (.bool c.c) := rfl
 have c20 : c.arr[20]? = some (.bool c.v) := rfl
 have HC := Go.Lib.hid (fun o1 o2 => ((Chg.refl NoB w).alloc o1).alloc o2)
 unfold Cp.val
 go_enter Tryz.func138, Tryz.ntmps138
 go_wp2_with fail
 refine (HB.out _ _ (fun i hi => ?_)).mono ?_
 ·have hk : i = 0 ∨ i = 1 ∨ i = 2 ∨ i = 3 := by omega
  have hN := (Blk.new (w.alloc (.cells c.arr CpT)) 4 #[.bool c.n, .bool c.z, .bool c.c, .bool c.v]).cell i
  rw [show (w.alloc (.cells c.arr CpT)).heap.size = w.heap.size + 1 by simp] at hN
  refine hN.trans ?_
  rcases hk with rfl | rfl | rfl | rfl <;> rfl
 ·rintro e w1 ⟨rfl, rfl⟩
  go_wp2_with fail
  go_ret
  exact ⟨rfl, HC.out _ _⟩
end Go.Proofs.YtggknljlibhkjaaGreat
