/- What is proved: link.halt and link.jump tell their words; the closure of link.fill fills in a word's low part. Conditions: the memory holds the image. -/
import Derived.Test.YteleglkoagnmcaaLkU
import Derived.Test.YteleglkoagnmcaaLkT
import Derived.Test.YteleglkoagnmcaaIsB
import Derived.Laws.BitsAllLaws
set_option linter.unusedSimpArgs false
set_option linter.unusedVariables false
namespace Go.Proofs.Yteleglkoagnmcaa
open Go Go.RowKit
theorem and_hi (k j w : Nat) (hw : w < 2 ^ (k + j)) : w &&& ((2 ^ j - 1) <<< k) = w / 2 ^ k * 2 ^ k := by
  rw [← Nat.shiftRight_eq_div_pow, ← Nat.shiftLeft_eq]
  apply Nat.eq_of_testBit_eq
  intro i
  rw [Nat.testBit_and, Nat.testBit_shiftLeft, Nat.testBit_shiftLeft, Nat.testBit_shiftRight, Nat.testBit_two_pow_sub_one]
  by_cases h : k ≤ i
  · rw [show k + (i - k) = i by omega]
    by_cases h2 : i - k < j
    · simp [h, h2]
    · have : w.testBit i = false := Nat.testBit_lt_two_pow (Nat.lt_of_lt_of_le hw (Nat.pow_le_pow_right (by decide) (by omega)))
      simp [this]
  · simp [h]
theorem or_lo (k a b : Nat) (hb : b < 2 ^ k) : (a * 2 ^ k) ||| b = a * 2 ^ k + b := by
  rw [Nat.mul_comm, Nat.two_pow_add_eq_or_of_lt hb]
theorem bAndNot16 (w : Nat) (hw : w < 4294967296) : bits .andNot .u32 (w : Int) 65535 = ((w / 65536 * 65536 : Nat) : Int) := by
  have h := u32_andNot_nat w 65535 hw (by decide)
  rw [show 4294967295 - 65535 = 4294901760 from rfl, show w &&& 4294901760 = w / 65536 * 65536 from and_hi 16 16 w hw] at h
  exact h
theorem bAnd16 (w : Nat) (hw : w < 4294967296) : bits .and .u32 (w : Int) 65535 = ((w % 65536 : Nat) : Int) := by
  have h := u32_and_nat w 65535 hw (by decide)
  rw [show w &&& 65535 = w % 65536 from Nat.and_two_pow_sub_one_eq_mod w 16] at h
  exact h
theorem bOr16 (a b : Nat) (hb : b < 65536) (ha : a * 65536 < 4294967296) : bits .or .u32 ((a * 65536 : Nat) : Int) (b : Int) = ((a * 65536 + b : Nat) : Int) := by
  have h := u32_or_nat (a * 65536) b ha (by omega)
  rw [show a * 65536 ||| b = a * 65536 + b from or_lo 16 a b hb] at h
  exact h
theorem bAndNot24 (w : Nat) (hw : w < 4294967296) : bits .andNot .u32 (w : Int) 16777215 = ((w / 16777216 * 16777216 : Nat) : Int) := by
  have h := u32_andNot_nat w 16777215 hw (by decide)
  rw [show 4294967295 - 16777215 = 4278190080 from rfl, show w &&& 4278190080 = w / 16777216 * 16777216 from and_hi 24 8 w hw] at h
  exact h
theorem bAnd24 (w : Nat) (hw : w < 4294967296) : bits .and .u32 (w : Int) 16777215 = ((w % 16777216 : Nat) : Int) := by
  have h := u32_and_nat w 16777215 hw (by decide)
  rw [show w &&& 16777215 = w % 16777216 from Nat.and_two_pow_sub_one_eq_mod w 24] at h
  exact h
theorem bOr24 (a b : Nat) (hb : b < 16777216) (ha : a * 16777216 < 4294967296) : bits .or .u32 ((a * 16777216 : Nat) : Int) (b : Int) = ((a * 16777216 + b : Nat) : Int) := by
  have h := u32_or_nat (a * 16777216) b ha (by omega)
  rw [show a * 16777216 ||| b = a * 16777216 + b from or_lo 24 a b hb] at h
  exact h
def haltW : List Nat := [1073741824, 3607101708]
set_option maxRecDepth 100000 in
theorem halt_c (W : World) : Calls Try.prog 63 #[] W fun e w' => ∃ A, e = .returned (.slice A 2 2) ∧ CellsAt w' A (codeCells haltW) ∧ Chg NoB W w' := by
  go_enter Try.func63, Try.ntmps63
  go_wp2_with fail
  refine (isaWord_im _).mono ?_
  rintro e w1 ⟨rfl, hc1⟩
  have HC1 := Go.Lib.hid hc1
  clear hc1
  go_wp2_with fail
  refine (isaWord_sys _).mono ?_
  rintro e w2 ⟨rfl, hc2⟩
  have HC2 := Go.Lib.hid (HC1.out.trans hc2)
  clear hc2
  go_wp2_with fail
  go_ret
  exact ⟨_, rfl, cells_of_blk (Blk.new w2 U32T #[.int .u32 1073741824, .int .u32 3607101708]), HC2.out.alloc _⟩
set_option maxRecDepth 100000 in
theorem jump_c (W : World) (k : Int) : Calls Try.prog 62 #[.int .i64 k] W (Quiet (.int .u32 (jumpW k : Nat)) W) := by
  obtain ⟨m, hm⟩ : ∃ m : Nat, k % 16777216 = (m : Int) := ⟨(k % 16777216).toNat, by omega⟩
  obtain ⟨J, hJ⟩ : ∃ J : Nat, jumpW k = J := ⟨_, rfl⟩
  have e1 : bits .and .u32 (k % 4294967296) 16777215 = (m : Int) := by
    have h := bAnd24 (k % 4294967296).toNat (by omega)
    rw [show (((k % 4294967296).toNat : Nat) : Int) = k % 4294967296 by omega] at h
    rw [h]
    omega
  have e2 : bits .or .u32 4143972352 (m : Int) = (J : Int) := by
    have h := bOr24 247 m (by omega) (by decide)
    have h2 : jumpW k = 247 * 16777216 + m := by unfold jumpW; omega
    rw [← hJ, h2]
    exact h
  rw [hJ]
  clear hJ hm
  have HE := Go.Lib.hid (And.intro e1 e2)
  clear e1 e2
  go_enter Try.func62, Try.ntmps62
  go_wp2_with fail
  refine (isaWord_jump _).mono ?_
  rintro e w1 ⟨rfl, hc1⟩
  have HC1 := Go.Lib.hid hc1
  obtain ⟨e1, e2⟩ := HE.out
  clear hc1
  go_wp2_with fail
  go_ret
  exact ⟨rfl, HC1.out⟩
abbrev IMT : TypeId := 36
set_option maxRecDepth 100000 in
theorem set16_c {W : World} {pb ib g at_ wl wc w n : Nat} {mv : Value} (hp : W.cell? ⟨pb, 0, none⟩ = some (.pointer (some ⟨ib, 0, none⟩))) (hi : W.cell? ⟨ib, 0, none⟩ = some (.slice (some ⟨g, 0, none⟩) wl wc)) (hg : W.cell? ⟨g, at_, none⟩ = some (.int .u32 w)) (hf : W.frozen? ⟨g, at_, none⟩ = false) (hlt : at_ < wl) (hw : w < 4294967296) (hn : n < 4294967296) :
    Calls Try.prog 85 #[.int .i64 at_, .int .u32 65535, .int .u32 n, .pointer (some ⟨pb, 0, none⟩)] W fun e w' => e = .returned (.tuple #[]) ∧ w' = W.drew.setCell ⟨g, at_, none⟩ (.int .u32 ((w / 65536 * 65536 + n % 65536 : Nat) : Int)) := by
  have HE1 := Go.Lib.hid (bAndNot16 w hw)
  have HE2 := Go.Lib.hid (bAnd16 n hn)
  have HE3 := Go.Lib.hid (bOr16 (w / 65536) (n % 65536) (by omega) (by omega))
  have HLT := Go.Lib.hid hlt
  have HS := Go.Lib.hid (And.intro hp (And.intro hi hg))
  have HF := Go.Lib.hid hf
  clear hp hi hg hf hlt hw hn
  go_enter Try.func85, Try.ntmps85
  go_wp2_with fail
  refine regionT 19 (fun V' => V'.cell? ⟨pb, 0, none⟩ = some (.pointer (some ⟨ib, 0, none⟩)) ∧ V'.cell? ⟨ib, 0, none⟩ = some (.slice (some ⟨g, 0, none⟩) wl wc) ∧ V'.cell? ⟨g, at_, none⟩ = some (.int .u32 w)) (by kernel_rfl) (by decide) (HS.out) (fun inv hHeld => ?_)
  refine tkT 0 7 ?v1440 inv hHeld ?h1440 ?_
  case h1440 => (intro V' hSw; obtain ⟨z1, z2, z3⟩ := hSw; have hlt := HLT.out; go_simp; try with_reducible rfl)
  clear inv; intro inv; try simp only [sw1, sw2, sw3]
  refine tkT 1 8 ?v1441 inv hHeld ?h1441 ?_
  case h1441 => (intro V' hSw; obtain ⟨z1, z2, z3⟩ := hSw; have hlt := HLT.out; go_simp; try with_reducible rfl)
  clear inv; intro inv; try simp only [sw1, sw2, sw3]
  refine tkT 2 9 ?v1442 inv hHeld ?h1442 ?_
  case h1442 => (intro V' hSw; obtain ⟨z1, z2, z3⟩ := hSw; have hlt := HLT.out; go_simp; try with_reducible rfl)
  clear inv; intro inv; try simp only [sw1, sw2, sw3]
  refine tkT 3 10 ?v1443 inv hHeld ?h1443 ?_
  case h1443 => (intro V' hSw; obtain ⟨z1, z2, z3⟩ := hSw; have hlt := HLT.out; go_simp; try with_reducible rfl)
  clear inv; intro inv; try simp only [sw1, sw2, sw3]
  refine tkT 4 11 ?v1444 inv hHeld ?h1444 ?_
  case h1444 => (intro V' hSw; obtain ⟨z1, z2, z3⟩ := hSw; have hlt := HLT.out; go_simp; try with_reducible rfl)
  clear inv; intro inv; try simp only [sw1, sw2, sw3]
  refine tkT 5 12 ?v1445 inv hHeld ?h1445 ?_
  case h1445 => (intro V' hSw; obtain ⟨z1, z2, z3⟩ := hSw; have hlt := HLT.out; go_simp; try with_reducible rfl)
  clear inv; intro inv; try simp only [sw1, sw2, sw3]
  refine tkT 6 13 ?v1446 inv hHeld ?h1446 ?_
  case h1446 => (intro V' hSw; obtain ⟨z1, z2, z3⟩ := hSw; have hlt := HLT.out; go_simp; try with_reducible rfl)
  clear inv; intro inv; try simp only [sw1, sw2, sw3]
  refine tkT 7 14 ?v1447 inv hHeld ?h1447 ?_
  case h1447 => (intro V' hSw; obtain ⟨z1, z2, z3⟩ := hSw; have hlt := HLT.out; go_simp; try with_reducible rfl)
  clear inv; intro inv; try simp only [sw1, sw2, sw3]
  refine tkT 8 15 ?v1448 inv hHeld ?h1448 ?_
  case h1448 => (intro V' hSw; obtain ⟨z1, z2, z3⟩ := hSw; have hlt := HLT.out; go_simp; try with_reducible rfl)
  clear inv; intro inv; try simp only [sw1, sw2, sw3]
  refine tkT 9 16 ?v1449 inv hHeld ?h1449 ?_
  case h1449 => (intro V' hSw; obtain ⟨z1, z2, z3⟩ := hSw; have hlt := HLT.out; go_simp; try with_reducible rfl)
  clear inv; intro inv; try simp only [sw1, sw2, sw3]
  refine tkT 10 17 ?v1450 inv hHeld ?h1450 ?_
  case h1450 => (intro V' hSw; obtain ⟨z1, z2, z3⟩ := hSw; have hlt := HLT.out; go_simp; try with_reducible rfl)
  clear inv; intro inv; try simp only [sw1, sw2, sw3]
  refine tkT 11 18 ?v1451 inv hHeld ?h1451 ?_
  case h1451 => (intro V' hSw; obtain ⟨z1, z2, z3⟩ := hSw; have hlt := HLT.out; go_simp; try with_reducible rfl)
  clear inv; intro inv; try simp only [sw1, sw2, sw3]
  refine tkT 12 19 ?v1452 inv hHeld ?h1452 ?_
  case h1452 => (intro V' hSw; obtain ⟨z1, z2, z3⟩ := hSw; have hlt := HLT.out; go_simp; try with_reducible rfl)
  clear inv; intro inv; try simp only [sw1, sw2, sw3]
  refine tkT 13 20 (.int .u32 ((w / 65536 * 65536 : Nat) : Int)) inv hHeld ?h1453 ?_
  case h1453 => (intro V' hSw; clear hSw; have e := HE1.out; go_simp; first | done | exact e | rfl)
  clear inv; intro inv; try simp only [sw1, sw2, sw3]
  refine tkT 14 21 ?v1454 inv hHeld ?h1454 ?_
  case h1454 => (intro V' hSw; obtain ⟨z1, z2, z3⟩ := hSw; have hlt := HLT.out; go_simp; try with_reducible rfl)
  clear inv; intro inv; try simp only [sw1, sw2, sw3]
  refine tkT 15 22 ?v1455 inv hHeld ?h1455 ?_
  case h1455 => (intro V' hSw; obtain ⟨z1, z2, z3⟩ := hSw; have hlt := HLT.out; go_simp; try with_reducible rfl)
  clear inv; intro inv; try simp only [sw1, sw2, sw3]
  refine tkT 16 23 (.int .u32 ((n % 65536 : Nat) : Int)) inv hHeld ?h1456 ?_
  case h1456 => (intro V' hSw; clear hSw; have e := HE2.out; go_simp; first | done | exact e | rfl)
  clear inv; intro inv; try simp only [sw1, sw2, sw3]
  refine tkT 17 24 (.int .u32 ((w / 65536 * 65536 + n % 65536 : Nat) : Int)) inv hHeld ?h1457 ?_
  case h1457 => (intro V' hSw; clear hSw; have e := HE3.out; go_simp; first | done | exact e | rfl)
  clear inv; intro inv; try simp only [sw1, sw2, sw3]
  refine tkT 18 25 ?v1458 inv hHeld ?h1458 ?_
  case h1458 => (intro V' hSw; obtain ⟨z1, z2, z3⟩ := hSw; have hlt := HLT.out; go_simp; try with_reducible rfl)
  clear inv; intro inv; try simp only [sw1, sw2, sw3]
  refine lastT (i := 19) (w' := W.drew.setCell ⟨g, at_, none⟩ (.int .u32 ((w / 65536 * 65536 + n % 65536 : Nat) : Int))) rfl (by kernel_rfl) rfl (by rfl) ?hx20 (by decide) (by kernel_rfl) ?_
  case hx20 => (obtain ⟨z1, z2, z3⟩ := HS.out; have zf := HF.out; have hlt := HLT.out; go_simp; try with_reducible rfl)
  clear inv
  go_wp2_with fail
  go_end0
  exact ⟨rfl, rfl⟩
set_option maxRecDepth 100000 in
theorem set24_c {W : World} {pb ib g at_ wl wc w n : Nat} {mv : Value} (hp : W.cell? ⟨pb, 0, none⟩ = some (.pointer (some ⟨ib, 0, none⟩))) (hi : W.cell? ⟨ib, 0, none⟩ = some (.slice (some ⟨g, 0, none⟩) wl wc)) (hg : W.cell? ⟨g, at_, none⟩ = some (.int .u32 w)) (hf : W.frozen? ⟨g, at_, none⟩ = false) (hlt : at_ < wl) (hw : w < 4294967296) (hn : n < 4294967296) :
    Calls Try.prog 85 #[.int .i64 at_, .int .u32 16777215, .int .u32 n, .pointer (some ⟨pb, 0, none⟩)] W fun e w' => e = .returned (.tuple #[]) ∧ w' = W.drew.setCell ⟨g, at_, none⟩ (.int .u32 ((w / 16777216 * 16777216 + n % 16777216 : Nat) : Int)) := by
  have HE1 := Go.Lib.hid (bAndNot24 w hw)
  have HE2 := Go.Lib.hid (bAnd24 n hn)
  have HE3 := Go.Lib.hid (bOr24 (w / 16777216) (n % 16777216) (by omega) (by omega))
  have HLT := Go.Lib.hid hlt
  have HS := Go.Lib.hid (And.intro hp (And.intro hi hg))
  have HF := Go.Lib.hid hf
  clear hp hi hg hf hlt hw hn
  go_enter Try.func85, Try.ntmps85
  go_wp2_with fail
  refine regionT 19 (fun V' => V'.cell? ⟨pb, 0, none⟩ = some (.pointer (some ⟨ib, 0, none⟩)) ∧ V'.cell? ⟨ib, 0, none⟩ = some (.slice (some ⟨g, 0, none⟩) wl wc) ∧ V'.cell? ⟨g, at_, none⟩ = some (.int .u32 w)) (by kernel_rfl) (by decide) (HS.out) (fun inv hHeld => ?_)
  refine tkT 0 7 ?v1459 inv hHeld ?h1459 ?_
  case h1459 => (intro V' hSw; obtain ⟨z1, z2, z3⟩ := hSw; have hlt := HLT.out; go_simp; try with_reducible rfl)
  clear inv; intro inv; try simp only [sw1, sw2, sw3]
  refine tkT 1 8 ?v1460 inv hHeld ?h1460 ?_
  case h1460 => (intro V' hSw; obtain ⟨z1, z2, z3⟩ := hSw; have hlt := HLT.out; go_simp; try with_reducible rfl)
  clear inv; intro inv; try simp only [sw1, sw2, sw3]
  refine tkT 2 9 ?v1461 inv hHeld ?h1461 ?_
  case h1461 => (intro V' hSw; obtain ⟨z1, z2, z3⟩ := hSw; have hlt := HLT.out; go_simp; try with_reducible rfl)
  clear inv; intro inv; try simp only [sw1, sw2, sw3]
  refine tkT 3 10 ?v1462 inv hHeld ?h1462 ?_
  case h1462 => (intro V' hSw; obtain ⟨z1, z2, z3⟩ := hSw; have hlt := HLT.out; go_simp; try with_reducible rfl)
  clear inv; intro inv; try simp only [sw1, sw2, sw3]
  refine tkT 4 11 ?v1463 inv hHeld ?h1463 ?_
  case h1463 => (intro V' hSw; obtain ⟨z1, z2, z3⟩ := hSw; have hlt := HLT.out; go_simp; try with_reducible rfl)
  clear inv; intro inv; try simp only [sw1, sw2, sw3]
  refine tkT 5 12 ?v1464 inv hHeld ?h1464 ?_
  case h1464 => (intro V' hSw; obtain ⟨z1, z2, z3⟩ := hSw; have hlt := HLT.out; go_simp; try with_reducible rfl)
  clear inv; intro inv; try simp only [sw1, sw2, sw3]
  refine tkT 6 13 ?v1465 inv hHeld ?h1465 ?_
  case h1465 => (intro V' hSw; obtain ⟨z1, z2, z3⟩ := hSw; have hlt := HLT.out; go_simp; try with_reducible rfl)
  clear inv; intro inv; try simp only [sw1, sw2, sw3]
  refine tkT 7 14 ?v1466 inv hHeld ?h1466 ?_
  case h1466 => (intro V' hSw; obtain ⟨z1, z2, z3⟩ := hSw; have hlt := HLT.out; go_simp; try with_reducible rfl)
  clear inv; intro inv; try simp only [sw1, sw2, sw3]
  refine tkT 8 15 ?v1467 inv hHeld ?h1467 ?_
  case h1467 => (intro V' hSw; obtain ⟨z1, z2, z3⟩ := hSw; have hlt := HLT.out; go_simp; try with_reducible rfl)
  clear inv; intro inv; try simp only [sw1, sw2, sw3]
  refine tkT 9 16 ?v1468 inv hHeld ?h1468 ?_
  case h1468 => (intro V' hSw; obtain ⟨z1, z2, z3⟩ := hSw; have hlt := HLT.out; go_simp; try with_reducible rfl)
  clear inv; intro inv; try simp only [sw1, sw2, sw3]
  refine tkT 10 17 ?v1469 inv hHeld ?h1469 ?_
  case h1469 => (intro V' hSw; obtain ⟨z1, z2, z3⟩ := hSw; have hlt := HLT.out; go_simp; try with_reducible rfl)
  clear inv; intro inv; try simp only [sw1, sw2, sw3]
  refine tkT 11 18 ?v1470 inv hHeld ?h1470 ?_
  case h1470 => (intro V' hSw; obtain ⟨z1, z2, z3⟩ := hSw; have hlt := HLT.out; go_simp; try with_reducible rfl)
  clear inv; intro inv; try simp only [sw1, sw2, sw3]
  refine tkT 12 19 ?v1471 inv hHeld ?h1471 ?_
  case h1471 => (intro V' hSw; obtain ⟨z1, z2, z3⟩ := hSw; have hlt := HLT.out; go_simp; try with_reducible rfl)
  clear inv; intro inv; try simp only [sw1, sw2, sw3]
  refine tkT 13 20 (.int .u32 ((w / 16777216 * 16777216 : Nat) : Int)) inv hHeld ?h1472 ?_
  case h1472 => (intro V' hSw; clear hSw; have e := HE1.out; go_simp; first | done | exact e | rfl)
  clear inv; intro inv; try simp only [sw1, sw2, sw3]
  refine tkT 14 21 ?v1473 inv hHeld ?h1473 ?_
  case h1473 => (intro V' hSw; obtain ⟨z1, z2, z3⟩ := hSw; have hlt := HLT.out; go_simp; try with_reducible rfl)
  clear inv; intro inv; try simp only [sw1, sw2, sw3]
  refine tkT 15 22 ?v1474 inv hHeld ?h1474 ?_
  case h1474 => (intro V' hSw; obtain ⟨z1, z2, z3⟩ := hSw; have hlt := HLT.out; go_simp; try with_reducible rfl)
  clear inv; intro inv; try simp only [sw1, sw2, sw3]
  refine tkT 16 23 (.int .u32 ((n % 16777216 : Nat) : Int)) inv hHeld ?h1475 ?_
  case h1475 => (intro V' hSw; clear hSw; have e := HE2.out; go_simp; first | done | exact e | rfl)
  clear inv; intro inv; try simp only [sw1, sw2, sw3]
  refine tkT 17 24 (.int .u32 ((w / 16777216 * 16777216 + n % 16777216 : Nat) : Int)) inv hHeld ?h1476 ?_
  case h1476 => (intro V' hSw; clear hSw; have e := HE3.out; go_simp; first | done | exact e | rfl)
  clear inv; intro inv; try simp only [sw1, sw2, sw3]
  refine tkT 18 25 ?v1477 inv hHeld ?h1477 ?_
  case h1477 => (intro V' hSw; obtain ⟨z1, z2, z3⟩ := hSw; have hlt := HLT.out; go_simp; try with_reducible rfl)
  clear inv; intro inv; try simp only [sw1, sw2, sw3]
  refine lastT (i := 19) (w' := W.drew.setCell ⟨g, at_, none⟩ (.int .u32 ((w / 16777216 * 16777216 + n % 16777216 : Nat) : Int))) rfl (by kernel_rfl) rfl (by rfl) ?hx40 (by decide) (by kernel_rfl) ?_
  case hx40 => (obtain ⟨z1, z2, z3⟩ := HS.out; have zf := HF.out; have hlt := HLT.out; go_simp; try with_reducible rfl)
  clear inv
  go_wp2_with fail
  go_end0
  exact ⟨rfl, rfl⟩
end Go.Proofs.Yteleglkoagnmcaa
