/- What is proved: the flags as a word. Conditions: as each theorem says. -/
import Derived.Test.YtggknljlibhkjaaMcD
namespace Go.Proofs.Ytggknljlibhkjaa
open Go.RowKit
/-- truths as a word's highest bits -/
def flN (b : Nat → Bool) : Nat → Int
  | 0 => 0
  | k + 1 => if b k = true then bits .or .u32 (flN b k) (2 ^ (31 - k)) else flN b k
theorem flN_bd (b : Nat → Bool) : ∀ k, 0 ≤ flN b k ∧ flN b k < 4294967296
  | 0 => ⟨by simp [flN], by simp [flN]⟩
  | k + 1 => by
    unfold flN
    split
    · unfold bits; simp only [IntKind.wrap_u32]; omega
    · exact flN_bd b k
theorem bits4_c (w : World) (g : Nat) (b : Nat → Bool) (h : ∀ i, i < 4 → w.cell? ⟨g, i, none⟩ = some (.bool (b i))) : Calls Try.prog 98 #[.slice (some ⟨g, 0, none⟩) 4 4] w fun e w' => e = .returned (.int .u32 (flN b 4)) ∧ w = w' := by
  have H := Go.Lib.hid h
  have HB := Go.Lib.hid (flN_bd b)
  clear h
  obtain ⟨r, hr⟩ : ∃ r, flN b 4 = r := ⟨_, rfl⟩
  have HR := Go.Lib.hid hr
  rw [hr]
  clear hr
  go_enter Try.func98, Try.ntmps98
  go_wp2_with fail
  go_loop [3, 8] (fun v3 v8 => ∃ k : Nat, k ≤ 4 ∧ v8 = .int .i64 k ∧ v3 = .int .u32 (flN b k)) (fun _ v8 => 4 - (intOf v8).toNat)
  case atStart => exact ⟨0, by omega, rfl, rfl⟩
  case round =>
    obtain ⟨k, hk, rfl, rfl⟩ := hrel
    by_cases hlt : k < 4
    · have hc := H.out k hlt
      have hn : Hid (flN b (k + 1) = if b k = true then bits .or .u32 (flN b k) (2 ^ (31 - k)) else flN b k) := Go.Lib.hid rfl
      have hb := HB.out k
      generalize flN b k = n at *
      have hs : (31 - (k : Int)).toNat = 31 - k := by omega
      have hp : (2 : Int) ^ (31 - k) < 4294967296 ∧ 0 < (2 : Int) ^ (31 - k) := by
        have hk4 : k = 0 ∨ k = 1 ∨ k = 2 ∨ k = 3 := by omega
        rcases hk4 with rfl | rfl | rfl | rfl <;> decide
      obtain ⟨q, hq⟩ : ∃ q, b k = q := ⟨_, rfl⟩
      rw [hq] at hc
      have HQ := Go.Lib.hid hq
      clear hq
      cases q
      all_goals
        go_wp2_with fail
        go_round
        case rel => exact ⟨k + 1, by omega, by go_num, by rw [hn.out, HQ.out]; simp⟩
        case measure => simp [intOf]; omega
    · obtain rfl : k = 4 := by omega
      rw [HR.out]
      clear hlt hk
      go_wp2_with fail
      go_ret
      exact ⟨rfl, rfl⟩
def flB (c : Cp) : Nat → Bool := fun k => if k = 0 then c.n else if k = 1 then c.z else if k = 2 then c.c else c.v
def flagsOf (c : Cp) : Int := flN (flB c) 4
theorem flags_c (c : Cp) (w : World) : Calls Try.prog 93 #[c.val] w (Quiet (.int .u32 (flagsOf c)) w) := by
  have HB := Go.Lib.hid (fun W g h => bits4_c W g (flB c) h)
  unfold flagsOf
  generalize flN (flB c) 4 = r at *
  have c17 : c.arr[17]? = some (.bool c.n) := rfl
  have c18 : c.arr[18]? = some (.bool c.z) := rfl
  have c19 : c.arr[19]? = some (.bool c.c) := rfl
  have c20 : c.arr[20]? = some (.bool c.v) := rfl
  have HC := Go.Lib.hid (fun o1 o2 => ((Chg.refl NoB w).alloc o1).alloc o2)
  unfold Cp.val
  go_enter Try.func93, Try.ntmps93
  go_wp2_with fail
  refine (HB.out _ _ (fun i hi => ?_)).mono ?_
  · have hk : i = 0 ∨ i = 1 ∨ i = 2 ∨ i = 3 := by omega
    have hN := (Blk.new (w.alloc (.cells c.arr CpT)) 4 #[.bool c.n, .bool c.z, .bool c.c, .bool c.v]).cell i
    rw [show (w.alloc (.cells c.arr CpT)).heap.size = w.heap.size + 1 by simp] at hN
    refine hN.trans ?_
    rcases hk with rfl | rfl | rfl | rfl <;> rfl
  · rintro e w1 ⟨rfl, rfl⟩
    go_wp2_with fail
    go_ret
    exact ⟨rfl, HC.out _ _⟩
end Go.Proofs.Ytggknljlibhkjaa
