/- What is proved: the contract of the reference's MayName. Conditions: none. -/
import Derived.Test.YteleglkoagnmcaaGStA
set_option linter.unusedSimpArgs false
set_option linter.unusedVariables false
namespace Go.Proofs.Yteleglkoagnmcaa
open Go.RowKit

theorem refLetter_c (c : UInt8) (w : World) : Calls Try.prog 82 #[.int .u8 c.toNat] w fun e w' => e = .returned (.bool (isLetter c)) ∧ w = w' := by
  go_enter Try.func82, Try.ntmps82
  go_wp2
  all_goals go_ret
  all_goals refine ⟨congrArg (fun b => Ending.returned (.bool b)) ?_, rfl⟩
  all_goals unfold isLetter
  all_goals rw [Bool.eq_iff_iff]
  all_goals simp [UInt8.le_iff_toNat_le]
  all_goals omega

set_option maxHeartbeats 400000 in
theorem refName_c (n : ByteArray) (hn : n.size ≤ maxLen) (w : World) : Calls Try.prog 54 #[.string n] w fun e w' => e = .returned (.bool (mayName n)) ∧ w = w' := by
  unfold maxLen at hn
  by_cases h0 : n.size < 1
  · have H : Hid (mayName n = false) := Go.Lib.hid (by unfold mayName; simp; omega)
    go_enter Try.func54, Try.ntmps54
    go_wp2
    go_ret
    exact ⟨by rw [H.out]; rfl, rfl⟩
  · by_cases h1 : 31 < n.size
    · have H : Hid (mayName n = false) := Go.Lib.hid (by unfold mayName; simp; omega)
      go_enter Try.func54, Try.ntmps54
      go_wp2
      go_ret
      exact ⟨by rw [H.out]; rfl, rfl⟩
    · have d0 : decide ((n.size : Int) < 1) = false := by simp; omega
      have d1 : decide (31 < (n.size : Int)) = false := by simp; omega
      have hp : 0 < n.size := by omega
      by_cases hl : isLetter n[0] = true
      · have Hl := Go.Lib.hid hl
        clear hl
        go_enter Try.func54, Try.ntmps54
        go_wp2_with fail
        refine (refLetter_c _ _).mono ?_
        rw [Hl.out]
        rintro e w' ⟨rfl, rfl⟩
        go_wp2_with fail
        go_loop [3] (fun i => ∃ k : Nat, k ≤ n.size ∧ i = .int .i64 k ∧ (n.data.toList.take k).all nameByte = true) (fun i => n.size - (intOf i).toNat)
        case atStart => exact ⟨0, Nat.zero_le _, rfl, rfl⟩
        case round =>
          obtain ⟨k, hk, rfl, hall⟩ := hrel
          have Hall := Go.Lib.hid hall
          clear hall
          by_cases hlt : k < n.size
          · have hstep := mayName_step n k hlt
            have Hstep := Go.Lib.hid hstep
            clear hstep
            by_cases hlc : isLetter n[k] = true
            · have Hlc := Go.Lib.hid hlc
              clear hlc
              go_wp2_with fail
              refine (refLetter_c _ _).mono ?_
              rw [Hlc.out]
              rintro e w' ⟨rfl, rfl⟩
              go_wp2_with fail
              go_round
              case rel => exact ⟨k + 1, by omega, by go_num, by rw [Hstep.out, Hall.out]; simp [nameByte, Hlc.out]⟩
              case measure => simp [intOf]; omega
            · have Hlc : Hid (isLetter n[k] = false) := Go.Lib.hid (by simpa using hlc)
              clear hlc
              rcases nb_cases n[k] Hlc.out with ⟨h48, h57, hb⟩ | ⟨h48, h46, hb⟩ | ⟨h48, h46, hb⟩ | ⟨h57, h46, hb⟩
              all_goals
                have Hb := Go.Lib.hid hb
                clear hb
                go_wp2_with fail
                refine (refLetter_c _ _).mono ?_
                rw [Hlc.out]
                rintro e w' ⟨rfl, rfl⟩
                go_wp2_with fail
              · go_round
                case rel => exact ⟨k + 1, by omega, by go_num, by rw [Hstep.out, Hall.out, Hb.out]; rfl⟩
                case measure => simp [intOf]; omega
              · go_round
                case rel => exact ⟨k + 1, by omega, by go_num, by rw [Hstep.out, Hall.out, Hb.out]; rfl⟩
                case measure => simp [intOf]; omega
              · go_ret
                exact ⟨congrArg (fun b => Ending.returned (.bool b)) (mayName_no n (k + 1) (by rw [Hstep.out, Hb.out]; simp)).symm, rfl⟩
              · go_ret
                exact ⟨congrArg (fun b => Ending.returned (.bool b)) (mayName_no n (k + 1) (by rw [Hstep.out, Hb.out]; simp)).symm, rfl⟩
          · obtain rfl : k = n.size := by omega
            have H : Hid (mayName n = true) := Go.Lib.hid (by
              have h1 : n.data.toList.head? = some n[0] := by rw [List.head?_eq_getElem?, List.getElem?_eq_getElem (by simpa using hp)]; rfl
              have h2 : n.data.toList.all nameByte = true := by
                have := Hall.out
                rwa [List.take_of_length_le (by simp)] at this
              unfold mayName; rw [h1, h2]; simp [Hl.out]; omega)
            go_wp2_with fail
            go_ret
            exact ⟨by rw [H.out]; rfl, rfl⟩
      · have hl' : isLetter n[0] = false := by simpa using hl
        have H : Hid (mayName n = false) := Go.Lib.hid (by
          have : n.data.toList.head? = some n[0] := by rw [List.head?_eq_getElem?, List.getElem?_eq_getElem (by simpa using hp)]; rfl
          unfold mayName; simp [this, hl'])
        go_enter Try.func54, Try.ntmps54
        go_wp2_with fail
        refine (refLetter_c _ _).mono ?_
        rintro e w' ⟨rfl, rfl⟩
        go_wp2_with fail
        go_ret
        exact ⟨by rw [H.out]; rfl, rfl⟩
end Go.Proofs.Yteleglkoagnmcaa
