/- What is proved: which names, imports, objects may be, as the reference of layer 7 answers. Conditions: the memory holds the object. -/
import Derived.Test.YteleglkoagnmcaaLkA
set_option linter.unusedSimpArgs false
set_option linter.unusedVariables false
namespace Go.Proofs.Yteleglkoagnmcaa
open Go Go.RowKit
set_option maxHeartbeats 4000000 in
theorem refName7_c (s : ByteArray) (hn : s.size ≤ maxLen) (w : World) : Calls Try.prog 10 #[.string s] w fun e w' => e = .returned (.bool (objName s)) ∧ w = w' := by
  unfold maxLen at hn
  go_enter Try.func10, Try.ntmps10
  go_wp2_with fail
  go_loop [3] (fun i => ∃ k : Nat, k ≤ s.size ∧ i = .int .i64 k ∧ objFrom 0 (s.data.toList.take k) = true) (fun i => s.size - (intOf i).toNat)
  case atStart => exact ⟨0, Nat.zero_le _, rfl, rfl⟩
  case round =>
    obtain ⟨k, hk, rfl, hall⟩ := hrel
    have Hall := Go.Lib.hid hall
    clear hall
    by_cases hlt : k < s.size
    · have hstep := obj_step s k hlt
      have hno := obj_no s (k + 1)
      have hcs := ob_cases s[k]
      rw [Hall.out, Bool.true_and] at hstep
      have Hno := Go.Lib.hid hno
      have Ok : Hid (∀ b, (isLetter s[k] || (decide (k ≠ 0) && isDigit s[k])) = b → objFrom 0 (s.data.toList.take (k + 1)) = b) := Go.Lib.hid fun b h => hstep.trans h
      clear hstep hno
      have hkk := hlt
      rcases hcs with ⟨h1, h2, hl⟩ | ⟨h1, h2, h3, hl⟩ | ⟨h1, h2, hl, hd⟩ | ⟨h1, hl, hd⟩ | ⟨h1, h2, hl, hd⟩ | ⟨h1, h2, hl, hd⟩ | ⟨h1, hl, hd⟩
      · have d0 : decide (65 ≤ (s[k].toNat : Int)) = true := by simp; omega
        have d1 : decide ((s[k].toNat : Int) ≤ 90) = true := by simp; omega
        have d2 : decide (97 ≤ (s[k].toNat : Int)) = false := by simp; omega
        have d3 : decide ((s[k].toNat : Int) ≤ 122) = true := by simp; omega
        have d4 : decide (48 ≤ (s[k].toNat : Int)) = true := by simp; omega
        have d5 : decide ((s[k].toNat : Int) ≤ 57) = false := by simp; omega
        have Hg := Go.Lib.hid (Ok.out true (by rw [hl]; rfl))
        clear hl h1 h2
        go_wp2_with fail
        go_round
        case rel => exact ⟨k + 1, by omega, by go_num, Hg.out⟩
        case measure => simp [intOf]; omega
      · have d0 : decide (65 ≤ (s[k].toNat : Int)) = true := by simp; omega
        have d1 : decide ((s[k].toNat : Int) ≤ 90) = false := by simp; omega
        have d2 : decide (97 ≤ (s[k].toNat : Int)) = true := by simp; omega
        have d3 : decide ((s[k].toNat : Int) ≤ 122) = true := by simp; omega
        have d4 : decide (48 ≤ (s[k].toNat : Int)) = true := by simp; omega
        have d5 : decide ((s[k].toNat : Int) ≤ 57) = false := by simp; omega
        have Hg := Go.Lib.hid (Ok.out true (by rw [hl]; rfl))
        clear hl h1 h2 h3
        go_wp2_with fail
        go_round
        case rel => exact ⟨k + 1, by omega, by go_num, Hg.out⟩
        case measure => simp [intOf]; omega
      · have d0 : decide (65 ≤ (s[k].toNat : Int)) = false := by simp; omega
        have d1 : decide ((s[k].toNat : Int) ≤ 90) = true := by simp; omega
        have d2 : decide (97 ≤ (s[k].toNat : Int)) = false := by simp; omega
        have d3 : decide ((s[k].toNat : Int) ≤ 122) = true := by simp; omega
        have d4 : decide (48 ≤ (s[k].toNat : Int)) = true := by simp; omega
        have d5 : decide ((s[k].toNat : Int) ≤ 57) = true := by simp; omega
        by_cases hk0 : k = 0
        · have Hg := Go.Lib.hid (Hno.out (Ok.out false (by rw [hl, decide_eq_false (show ¬ k ≠ 0 from fun h => h hk0)]; rfl)))
          subst hk0
          clear hl hd h1 h2
          go_wp2_with fail
          go_ret
          exact ⟨by rw [Hg.out]; rfl, rfl⟩
        · have Hg := Go.Lib.hid (Ok.out true (by rw [hl, hd]; simp [hk0]))
          have hz : decide (0 < (k : Int)) = true := by simp; omega
          have hz2 : decide (0 < k) = true := by simp; omega
          clear hl hd h1 h2
          go_wp2_with fail
          go_round
          case rel => exact ⟨k + 1, by omega, by go_num, Hg.out⟩
          case measure => simp [intOf]; omega
      · have d0 : decide (65 ≤ (s[k].toNat : Int)) = false := by simp; omega
        have d1 : decide ((s[k].toNat : Int) ≤ 90) = true := by simp; omega
        have d2 : decide (97 ≤ (s[k].toNat : Int)) = false := by simp; omega
        have d3 : decide ((s[k].toNat : Int) ≤ 122) = true := by simp; omega
        have d4 : decide (48 ≤ (s[k].toNat : Int)) = false := by simp; omega
        have d5 : decide ((s[k].toNat : Int) ≤ 57) = true := by simp; omega
        have Hg := Go.Lib.hid (Hno.out (Ok.out false (by rw [hl, hd]; simp)))
        clear hl hd h1
        go_wp2_with fail
        go_ret
        exact ⟨by rw [Hg.out]; rfl, rfl⟩
      · have d0 : decide (65 ≤ (s[k].toNat : Int)) = false := by simp; omega
        have d1 : decide ((s[k].toNat : Int) ≤ 90) = true := by simp; omega
        have d2 : decide (97 ≤ (s[k].toNat : Int)) = false := by simp; omega
        have d3 : decide ((s[k].toNat : Int) ≤ 122) = true := by simp; omega
        have d4 : decide (48 ≤ (s[k].toNat : Int)) = true := by simp; omega
        have d5 : decide ((s[k].toNat : Int) ≤ 57) = false := by simp; omega
        have Hg := Go.Lib.hid (Hno.out (Ok.out false (by rw [hl, hd]; simp)))
        clear hl hd h1 h2
        go_wp2_with fail
        go_ret
        exact ⟨by rw [Hg.out]; rfl, rfl⟩
      · have d0 : decide (65 ≤ (s[k].toNat : Int)) = true := by simp; omega
        have d1 : decide ((s[k].toNat : Int) ≤ 90) = false := by simp; omega
        have d2 : decide (97 ≤ (s[k].toNat : Int)) = false := by simp; omega
        have d3 : decide ((s[k].toNat : Int) ≤ 122) = true := by simp; omega
        have d4 : decide (48 ≤ (s[k].toNat : Int)) = true := by simp; omega
        have d5 : decide ((s[k].toNat : Int) ≤ 57) = false := by simp; omega
        have Hg := Go.Lib.hid (Hno.out (Ok.out false (by rw [hl, hd]; simp)))
        clear hl hd h1 h2
        go_wp2_with fail
        go_ret
        exact ⟨by rw [Hg.out]; rfl, rfl⟩
      · have d0 : decide (65 ≤ (s[k].toNat : Int)) = true := by simp; omega
        have d1 : decide ((s[k].toNat : Int) ≤ 90) = false := by simp; omega
        have d2 : decide (97 ≤ (s[k].toNat : Int)) = true := by simp; omega
        have d3 : decide ((s[k].toNat : Int) ≤ 122) = false := by simp; omega
        have d4 : decide (48 ≤ (s[k].toNat : Int)) = true := by simp; omega
        have d5 : decide ((s[k].toNat : Int) ≤ 57) = false := by simp; omega
        have Hg := Go.Lib.hid (Hno.out (Ok.out false (by rw [hl, hd]; simp)))
        clear hl hd h1
        go_wp2_with fail
        go_ret
        exact ⟨by rw [Hg.out]; rfl, rfl⟩
    · obtain rfl : k = s.size := by omega
      have Hr : Hid (objName s = (decide (1 ≤ s.size) && decide (s.size ≤ 15))) := Go.Lib.hid (by
        unfold objName
        have := Hall.out
        rw [List.take_of_length_le (by simp)] at this
        rw [this, Bool.true_and])
      by_cases h1 : 1 ≤ s.size
      · by_cases h2 : s.size ≤ 15
        · go_wp2_with fail
          go_ret
          exact ⟨by rw [Hr.out, decide_eq_true h1, decide_eq_true h2]; simp; omega, rfl⟩
        · have d2 : decide ((s.size : Int) ≤ 15) = false := by simp; omega
          go_wp2_with fail
          go_ret
          exact ⟨by rw [Hr.out, decide_eq_true h1, decide_eq_false h2]; rfl, rfl⟩
      · have d1 : decide (1 ≤ (s.size : Int)) = false := by simp; omega
        have e0 : s.size = 0 := by omega
        go_wp2_with fail
        go_ret
        exact ⟨by rw [Hr.out, decide_eq_false h1]; rfl, rfl⟩
end Go.Proofs.Yteleglkoagnmcaa
