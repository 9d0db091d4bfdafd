/- What is proved: the contract of the reference's Blank: where blanks and comments end. Conditions: a text of at most 65535 bytes. -/
import Derived.Test.YtcmeciekadepjaaTextRow
namespace Go.Proofs.Ytcmeciekadepjaa
open Go.RowKit
/-- what Blank says -/
def BlankPost (t : ByteArray) (i : Nat) (w : World) (e : Ending) (w' : World) : Prop :=
  w' = w ∧ ∃ (j : Nat) (o : Int), e = .returned (.tuple #[.int .i64 j, .int .i64 o]) ∧ (0 ≤ o ∨ (o = -1 ∧ i ≤ j ∧ j ≤ t.size)) ∧
    ((32 < bt t i ∧ bt t i ≠ 40) → o = -1 ∧ j = i) ∧ ((bt t i ≤ 32 ∧ 32 < bt t (i + 1) ∧ bt t (i + 1) ≠ 40 ∧ i < t.size) → o = -1 ∧ j = i + 1)
theorem bt_nat {t : ByteArray} {i : Nat} {b : Int} (h : bt t i = b) (hb : b ≠ 0) : i < t.size := by
  rcases Nat.lt_or_ge i t.size with h1 | h1
  · exact h1
  · rw [bt_out t i (.inr (by omega))] at h
    omega
section
variable (t : ByteArray) (g c : Nat) (w : World)
set_option maxRecDepth 100000 in
set_option maxHeartbeats 2000000 in
theorem blank_c (hsz : t.size ≤ 65535) (hc : t.size ≤ c) (hc2 : c ≤ maxLen) (i : Nat) (hi : i ≤ t.size) (ht : TextAt w g t) :
    Calls Try.prog 10 #[.slice (some ⟨g, 0, none⟩) t.size c, .int .i64 i] w (BlankPost t i w) := by
  unfold maxLen at hc2
  have HA : Hid (∀ k : Int, 0 ≤ k ∧ k ≤ 100000 → Calls Try.prog 12 #[.slice (some ⟨g, 0, none⟩) t.size c, .int .i64 k] w fun e w' => e = .returned (.int .u8 (bt t k)) ∧ w = w') := Go.Lib.hid fun k hk => at_c t g c hsz hc k hk w ht
  have HT := Go.Lib.hid ht
  clear ht
  go_enter Try.func10, Try.ntmps10
  go_wp2_with fail
  go_loopw [1] (fun v1 W => ∃ k : Nat, v1 = .int .i64 k ∧ i ≤ k ∧ k ≤ t.size ∧ W = w ∧ ((32 < bt t i ∧ bt t i ≠ 40) → k = i) ∧ ((bt t i ≤ 32 ∧ 32 < bt t (i + 1) ∧ bt t (i + 1) ≠ 40 ∧ i < t.size) → k = i ∨ k = i + 1)) (fun v1 _ => t.size - (intOf v1).toNat)
  case atStart => exact ⟨i, rfl, Nat.le_refl _, hi, rfl, fun _ => rfl, fun _ => .inl rfl⟩
  case round =>
    obtain ⟨k, rfl, hk1, hk2, hW, hs1, hs2⟩ := hrel
    have HS1 := Go.Lib.hid hs1
    have HS2 := Go.Lib.hid hs2
    subst hW
    clear hs1 hs2
    by_cases hlt : k < t.size
    · have hb := HT.out k hlt
      have hr := bt_range t k
      have hlt2 : (k : Int) < t.size := by omega
      by_cases h32 : bt t k ≤ 32
      · have HN := Go.Lib.hid (show ((32 < bt t i ∧ bt t i ≠ 40) → k + 1 = i) ∧ ((bt t i ≤ 32 ∧ 32 < bt t (i + 1) ∧ bt t (i + 1) ≠ 40 ∧ i < t.size) → k + 1 = i ∨ k + 1 = i + 1) from ⟨fun h => by have := HS1.out h; subst this; omega, fun h => by
          rcases HS2.out h with h1 | h1
          · subst h1; exact .inr rfl
          · subst h1; push_cast at h32; omega⟩)
        go_wp2_with fail
        go_roundw
        case rel => exact ⟨k + 1, by go_num, by omega, by omega, by trivial, HN.out.1, HN.out.2⟩
        case measure => simp [intOf]; omega
      · have HF := Go.Lib.hid (show ((32 < bt t i ∧ bt t i ≠ 40) → k = i) ∧ ((bt t i ≤ 32 ∧ 32 < bt t (i + 1) ∧ bt t (i + 1) ≠ 40 ∧ i < t.size) → k = i + 1) from ⟨fun h => HS1.out h, fun h => by
          rcases HS2.out h with h1 | h1
          · subst h1; omega
          · exact h1⟩)
        by_cases h40 : bt t k = 40
        · by_cases h42 : bt t (k + 1) = 42
          · have HNo : Hid (¬ (32 < bt t i ∧ bt t i ≠ 40) ∧ ¬ (bt t i ≤ 32 ∧ 32 < bt t (i + 1) ∧ bt t (i + 1) ≠ 40 ∧ i < t.size)) := Go.Lib.hid ⟨fun h => by have := HS1.out h; subst this; exact h.2 h40, fun h => by
              rcases HS2.out h with h1 | h1
              · subst h1; omega
              · subst h1; push_cast at h40; exact h.2.2.1 h40⟩
            have H40 := Go.Lib.hid h40
            have H42 := Go.Lib.hid h42
            have hc1 := HA.out (k + 1) (by omega)
            rw [h42] at hc1
            rw [h40] at hb
            have Hc1 := Go.Lib.hid hc1
            clear h40 h42 h32 hr hc1
            go_wp2_with fail
            refine Hc1.out.mono ?_
            rintro e w1 ⟨rfl, rfl⟩
            go_wp2_with fail
            clear hb
            go_loopw [1, 7] (fun v1 v7 W => ∃ x dp : Nat, v1 = .int .i64 x ∧ v7 = .int .i64 dp ∧ x ≤ t.size ∧ ((x = k ∧ dp = 0) ∨ (k < x ∧ 1 ≤ dp)) ∧ dp ≤ x ∧ W = wr) (fun v1 _ _ => t.size - (intOf v1).toNat)
            case atStart => exact ⟨k, 0, rfl, rfl, hk2, .inl ⟨rfl, rfl⟩, Nat.zero_le _, rfl⟩
            case round =>
              obtain ⟨x, dp, rfl, rfl, hx1, hx2, hx3, hW⟩ := hrel
              subst hW
              by_cases hxl : x < t.size
              · have hb := HT.out x hxl
                have hxl2 : (x : Int) < t.size := by omega
                have Hc2 := Go.Lib.hid (HA.out (x + 1) (by omega))
                by_cases e40 : bt t x = 40
                · rw [e40] at hb
                  by_cases e42 : bt t (x + 1) = 42
                  · have hx4 : x + 1 < t.size := bt_nat (i := x + 1) (b := 42) (by push_cast; exact e42) (by omega)
                    have hd := Hc2.out
                    rw [e42] at hd
                    have Hd := Go.Lib.hid hd
                    clear hd e42 e40 Hc2
                    have hdp : ((dp : Int) + 1 == 0) = false := by simp; omega
                    go_wp2_with fail
                    refine Hd.out.mono ?_
                    rintro e w1 ⟨rfl, rfl⟩
                    go_wp2_with fail
                    go_roundw
                    case rel => exact ⟨x + 2, dp + 1, by go_num, by go_num, by omega, by omega, by omega, by trivial⟩
                    case measure => simp [intOf]; omega
                  · have e42' : (bt t (x + 1) == 42) = false := by simp; exact e42
                    have hne : ¬ x = k := fun h => by subst h; exact e42 H42.out
                    have hdp : ((dp : Int) == 0) = false := by simp; omega
                    clear e42 e40
                    go_wp2_with fail
                    refine Hc2.out.mono ?_
                    rintro e w1 ⟨rfl, rfl⟩
                    go_wp2_with fail
                    go_roundw
                    case rel => exact ⟨x + 1, dp, by go_num, by go_num, by omega, by omega, by omega, by trivial⟩
                    case measure => simp [intOf]; omega
                · have hne : ¬ x = k := fun h => by subst h; exact e40 H40.out
                  have e40' : (bt t x == 40) = false := by simp; exact e40
                  by_cases e42 : bt t x = 42
                  · rw [e42] at hb
                    clear e40 e40'
                    by_cases e41 : bt t (x + 1) = 41
                    · have hx4 : x + 1 < t.size := bt_nat (i := x + 1) (b := 41) (by push_cast; exact e41) (by omega)
                      have hd := Hc2.out
                      rw [e41] at hd
                      have Hd := Go.Lib.hid hd
                      clear hd e41 e42 Hc2
                      by_cases h0 : dp = 1
                      · subst h0
                        have HN := Go.Lib.hid (show ((32 < bt t i ∧ bt t i ≠ 40) → x + 2 = i) ∧ ((bt t i ≤ 32 ∧ 32 < bt t (i + 1) ∧ bt t (i + 1) ≠ 40 ∧ i < t.size) → x + 2 = i ∨ x + 2 = i + 1) from ⟨fun h => (HNo.out.1 h).elim, fun h => (HNo.out.2 h).elim⟩)
                        go_wp2_with fail
                        refine Hd.out.mono ?_
                        rintro e w1 ⟨rfl, rfl⟩
                        go_wp2_with fail
                        go_roundw
                        case rel => exact ⟨x + 2, by go_num, by omega, by omega, by trivial, HN.out.1, HN.out.2⟩
                        case measure => simp [intOf]; omega
                      · have hdp : ((dp : Int) - 1 == 0) = false := by simp; omega
                        have hd1 : ((dp : Int) - 1) = ((dp - 1 : Nat) : Int) := by omega
                        go_wp2_with fail
                        refine Hd.out.mono ?_
                        rintro e w1 ⟨rfl, rfl⟩
                        go_wp2_with fail
                        go_roundw
                        case rel => exact ⟨x + 2, dp - 1, by go_num, by first | rw [hd1] | go_num, by omega, by omega, by omega, by trivial⟩
                        case measure => simp [intOf]; omega
                    · have e41' : (bt t (x + 1) == 41) = false := by simp; exact e41
                      have hdp : ((dp : Int) == 0) = false := by simp; omega
                      clear e41 e42
                      go_wp2_with fail
                      refine Hc2.out.mono ?_
                      rintro e w1 ⟨rfl, rfl⟩
                      go_wp2_with fail
                      go_roundw
                      case rel => exact ⟨x + 1, dp, by go_num, by go_num, by omega, by omega, by omega, by trivial⟩
                      case measure => simp [intOf]; omega
                  · have e42' : (bt t x == 42) = false := by simp; exact e42
                    have hdp : ((dp : Int) == 0) = false := by simp; omega
                    clear e42 e40 Hc2
                    go_wp2_with fail
                    go_roundw
                    case rel => exact ⟨x + 1, dp, by go_num, by go_num, by omega, by omega, by omega, by trivial⟩
                    case measure => simp [intOf]; omega
              · obtain rfl : x = t.size := by omega
                have hdp : (0 : Int) < dp := by omega
                go_wp2_with fail
                refine bodyPost_ret (results_tmp2 rfl _ _ _) rfl ?_
                exact ⟨rfl, t.size, k, rfl, .inl (by omega), fun h => (HNo.out.1 h).elim, fun h => (HNo.out.2 h).elim⟩
          · have h42' : (bt t (k + 1) != 42) = true := by simp; exact h42
            have Hc1 := Go.Lib.hid (HA.out (k + 1) (by omega))
            rw [h40] at hb
            clear h40 h42 h32 hr
            go_wp2_with fail
            refine Hc1.out.mono ?_
            rintro e w1 ⟨rfl, rfl⟩
            go_wp2_with fail
            refine bodyPost_ret (results_tmp2 rfl _ _ _) rfl ?_
            exact ⟨rfl, k, -1, rfl, .inr ⟨rfl, hk1, hk2⟩, fun h => ⟨rfl, HF.out.1 h⟩, fun h => ⟨rfl, HF.out.2 h⟩⟩
        · have h40' : (bt t k != 40) = true := by simp; exact h40
          clear h40
          go_wp2_with fail
          refine bodyPost_ret (results_tmp2 rfl _ _ _) rfl ?_
          exact ⟨rfl, k, -1, rfl, .inr ⟨rfl, hk1, hk2⟩, fun h => ⟨rfl, HF.out.1 h⟩, fun h => ⟨rfl, HF.out.2 h⟩⟩
    · obtain rfl : k = t.size := by omega
      have HF := Go.Lib.hid (show ((32 < bt t i ∧ bt t i ≠ 40) → t.size = i) ∧ ((bt t i ≤ 32 ∧ 32 < bt t (i + 1) ∧ bt t (i + 1) ≠ 40 ∧ i < t.size) → t.size = i + 1) from ⟨fun h => HS1.out h, fun h => by
        rcases HS2.out h with h1 | h1
        · omega
        · exact h1⟩)
      go_wp2_with fail
      refine bodyPost_ret (results_tmp2 rfl _ _ _) rfl ?_
      exact ⟨rfl, t.size, -1, rfl, .inr ⟨rfl, hk1, hk2⟩, fun h => ⟨rfl, HF.out.1 h⟩, fun h => ⟨rfl, HF.out.2 h⟩⟩
end
end Go.Proofs.Ytcmeciekadepjaa
