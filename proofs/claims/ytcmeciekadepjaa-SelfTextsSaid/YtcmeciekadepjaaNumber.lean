/- What is proved: the contract of the reference's Number. Conditions: a text of at most 65535 bytes, a digit at the place. -/
import Derived.Test.YtcmeciekadepjaaBlank
namespace Go.Proofs.Ytcmeciekadepjaa
open Go.RowKit
theorem results_tmp4 {fn : Func} {t u v x : Tmp} (h : fn.results = #[.tmp t, .tmp u, .tmp v, .tmp x]) (tmps : Array Value) (P : Program) (w : World) :
    (results fn tmps).run P w = .ok (.tuple #[tmps.getD t undef, tmps.getD u undef, tmps.getD v undef, tmps.getD x undef]) w := by
  simp [results, h]
def NumPost (t : ByteArray) (i : Nat) (w : World) (e : Ending) (w' : World) : Prop :=
  w' = w ∧ ∃ (sym val : Int) (k : Nat) (ok : Bool), e = .returned (.tuple #[.int .i64 sym, .int .i32 val, .int .i64 k, .bool ok]) ∧ (sym = 26 ∨ sym = 27) ∧ i < k ∧ k ≤ t.size
theorem digit_pos {t : ByteArray} {i : Nat} (h : digitB (bt t i) = true) : i < t.size := by
  rcases Nat.lt_or_ge i t.size with h1 | h1
  · exact h1
  · rw [bt_out t i (.inr (by omega))] at h
    unfold digitB at h; simp at h
section
variable (t : ByteArray) (g c : Nat) (w : World)
set_option maxRecDepth 100000 in
set_option maxHeartbeats 4000000 in
theorem number_c (hsz : t.size ≤ 65535) (hc : t.size ≤ c) (hc2 : c ≤ maxLen) (i : Nat) (hi : digitB (bt t i) = true) (ht : TextAt w g t) :
    Calls Try.prog 14 #[.slice (some ⟨g, 0, none⟩) t.size c, .int .i64 i] w (NumPost t i w) := by
  unfold maxLen at hc2
  have hit := digit_pos hi
  have HA : Hid (∀ k : Int, 0 ≤ k ∧ k ≤ 100000 → Calls Try.prog 12 #[.slice (some ⟨g, 0, none⟩) t.size c, .int .i64 k] w fun e w' => e = .returned (.int .u8 (bt t k)) ∧ w = w') := Go.Lib.hid fun k hk => at_c t g c hsz hc k hk w ht
  have HDg : Hid (∀ k : Int, Calls Try.prog 13 #[.int .u8 (bt t k)] w fun e w' => e = .returned (.bool (digitB (bt t k))) ∧ w = w') := Go.Lib.hid fun k => digit_c (bt t k) (bt_range t k) w
  have HT := Go.Lib.hid ht
  have HI := Go.Lib.hid hi
  clear ht hi
  go_enter Try.func14, Try.ntmps14
  go_wp2_with fail
  go_loopw [8, 9] (fun v8 v9 W => ∃ (k : Nat) (dec : Bool), v8 = .int .i64 k ∧ v9 = .bool dec ∧ i ≤ k ∧ k ≤ t.size ∧ W = w) (fun v8 _ _ => t.size - (intOf v8).toNat)
  case atStart => exact ⟨i, true, rfl, rfl, Nat.le_refl _, by omega, rfl⟩
  case round =>
    obtain ⟨k, dec, rfl, rfl, hk1, hk2, hW⟩ := hrel
    subst hW
    have Ha := Go.Lib.hid (HA.out k (by omega))
    have Hd := Go.Lib.hid (HDg.out k)
    have hr := bt_range t k
    by_cases hgo : digitB (bt t k) = true ∨ (65 ≤ bt t k ∧ bt t k ≤ 70)
    · have hkt : k < t.size := by
        rcases hgo with h | h
        · exact digit_pos h
        · exact bt_nat (i := k) rfl (by omega)
      have hb := HT.out k hkt
      have hkt2 : (k : Int) < t.size := by omega
      rcases (show digitB (bt t k) = true ∨ (digitB (bt t k) = false ∧ 65 ≤ bt t k ∧ bt t k ≤ 70) by
        rcases hgo with h | h
        · exact .inl h
        · cases hdg : digitB (bt t k) with
          | true => exact .inl rfl
          | false => exact .inr ⟨rfl, h⟩) with hdg | ⟨hdg, h65, h70⟩
      · rw [hdg] at Hd
        clear hgo
        cases dec with
        | true =>
          go_wp2_with (first
            | (go_at_call 12; (with_reducible refine Ha.out.mono ?_); rintro e w1 ⟨rfl, rfl⟩)
            | (go_at_call 13; (with_reducible refine Hd.out.mono ?_); rintro e w1 ⟨rfl, rfl⟩))
          go_roundw
          case rel => exact ⟨k + 1, _, by go_num, rfl, by omega, by omega, by trivial⟩
          case measure => simp [intOf]; omega
        | false =>
          go_wp2_with (first
            | (go_at_call 12; (with_reducible refine Ha.out.mono ?_); rintro e w1 ⟨rfl, rfl⟩)
            | (go_at_call 13; (with_reducible refine Hd.out.mono ?_); rintro e w1 ⟨rfl, rfl⟩))
          go_roundw
          case rel => exact ⟨k + 1, _, by go_num, rfl, by omega, by omega, by trivial⟩
          case measure => simp [intOf]; omega
      · rw [hdg] at Hd
        clear hgo
        cases dec with
        | true =>
          go_wp2_with (first
            | (go_at_call 12; (with_reducible refine Ha.out.mono ?_); rintro e w1 ⟨rfl, rfl⟩)
            | (go_at_call 13; (with_reducible refine Hd.out.mono ?_); rintro e w1 ⟨rfl, rfl⟩))
          go_roundw
          case rel => exact ⟨k + 1, _, by go_num, rfl, by omega, by omega, by trivial⟩
          case measure => simp [intOf]; omega
        | false =>
          go_wp2_with (first
            | (go_at_call 12; (with_reducible refine Ha.out.mono ?_); rintro e w1 ⟨rfl, rfl⟩)
            | (go_at_call 13; (with_reducible refine Hd.out.mono ?_); rintro e w1 ⟨rfl, rfl⟩))
          go_roundw
          case rel => exact ⟨k + 1, _, by go_num, rfl, by omega, by omega, by trivial⟩
          case measure => simp [intOf]; omega
    · have hki : i < k := by
        rcases Nat.lt_or_ge i k with h | h
        · exact h
        · obtain rfl : k = i := by omega
          exact (hgo (.inl HI.out)).elim
      have hdg : digitB (bt t k) = false := by
        cases h : digitB (bt t k) with
        | true => exact (hgo (.inl h)).elim
        | false => rfl
      rw [hdg] at Hd
      have hcs : (¬ 65 ≤ bt t k) ∨ (65 ≤ bt t k ∧ ¬ bt t k ≤ 70) := by omega
      by_cases e72 : bt t k = 72
      · have hkt := bt_nat (i := k) e72 (by omega)
        have hA := Ha.out
        have hD := Hd.out
        rw [e72] at hA hD
        have Ha := Go.Lib.hid hA
        have Hd := Go.Lib.hid hD
        clear hgo hdg hcs hA hD hr e72
        go_wp2_with (first
          | (go_at_call 12; (with_reducible refine Ha.out.mono ?_); rintro e w1 ⟨rfl, rfl⟩)
          | (go_at_call 13; (with_reducible refine Hd.out.mono ?_); rintro e w1 ⟨rfl, rfl⟩))
        go_loopw [13, 14, 15] (fun v13 v14 v15 W => ∃ (x dg : Int) (j : Nat), v13 = .int .u32 x ∧ v14 = .int .i64 dg ∧ v15 = .int .i64 j ∧ (0 ≤ dg ∧ dg ≤ j) ∧ i ≤ j ∧ j ≤ k ∧ W = wr) (fun _ _ v15 _ => k - (intOf v15).toNat)
        case atStart => exact ⟨0, 0, i, rfl, rfl, rfl, by omega, by omega, by omega, rfl⟩
        case round =>
          obtain ⟨x, dg, j, rfl, rfl, rfl, hdg2, hj1, hj2, hW⟩ := hrel
          subst hW
          by_cases hjl : j < k
          · have hb := HT.out j (by omega)
            have hjl2 : (j : Int) < k := by omega
            have hjl3 : (j : Int) < t.size := by omega
            have Hdj := Go.Lib.hid (HDg.out j)
            cases hdj : digitB (bt t j) with
            | true =>
              rw [hdj] at Hdj
              clear hdj
              go_wp2_with (go_at_call 13; (with_reducible refine Hdj.out.mono ?_); rintro e w1 ⟨rfl, rfl⟩)
              all_goals
                go_roundw
                case rel => exact ⟨_, _, j + 1, rfl, rfl, by go_num, by omega, by omega, by omega, by trivial⟩
                case measure => simp [intOf]; omega
            | false =>
              rw [hdj] at Hdj
              clear hdj
              go_wp2_with (go_at_call 13; (with_reducible refine Hdj.out.mono ?_); rintro e w1 ⟨rfl, rfl⟩)
              all_goals
                go_roundw
                case rel => exact ⟨_, _, j + 1, rfl, rfl, by go_num, by omega, by omega, by omega, by trivial⟩
                case measure => simp [intOf]; omega
          · have hjl2 : ¬ (j : Int) < k := by omega
            go_wp2_with fail
            all_goals
              refine bodyPost_ret (results_tmp4 rfl _ _ _) rfl ?_
              exact ⟨rfl, _, _, k + 1, _, by first | rfl | (congr 2 <;> simp), by omega, by omega, by omega⟩
      · by_cases e88 : bt t k = 88
        · have hkt := bt_nat (i := k) e88 (by omega)
          have hA := Ha.out
          have hD := Hd.out
          rw [e88] at hA hD
          have Ha := Go.Lib.hid hA
          have Hd := Go.Lib.hid hD
          clear hgo hdg hcs hA hD hr e88 e72
          go_wp2_with (first
            | (go_at_call 12; (with_reducible refine Ha.out.mono ?_); rintro e w1 ⟨rfl, rfl⟩)
            | (go_at_call 13; (with_reducible refine Hd.out.mono ?_); rintro e w1 ⟨rfl, rfl⟩))
          go_loopw [13, 14, 15] (fun v13 v14 v15 W => ∃ (x dg : Int) (j : Nat), v13 = .int .u32 x ∧ v14 = .int .i64 dg ∧ v15 = .int .i64 j ∧ (0 ≤ dg ∧ dg ≤ j) ∧ i ≤ j ∧ j ≤ k ∧ W = wr) (fun _ _ v15 _ => k - (intOf v15).toNat)
          case atStart => exact ⟨0, 0, i, rfl, rfl, rfl, by omega, by omega, by omega, rfl⟩
          case round =>
            obtain ⟨x, dg, j, rfl, rfl, rfl, hdg2, hj1, hj2, hW⟩ := hrel
            subst hW
            by_cases hjl : j < k
            · have hb := HT.out j (by omega)
              have hjl2 : (j : Int) < k := by omega
              have hjl3 : (j : Int) < t.size := by omega
              have Hdj := Go.Lib.hid (HDg.out j)
              cases hdj : digitB (bt t j) with
              | true =>
                rw [hdj] at Hdj
                clear hdj
                go_wp2_with (go_at_call 13; (with_reducible refine Hdj.out.mono ?_); rintro e w1 ⟨rfl, rfl⟩)
                all_goals
                  go_roundw
                  case rel => exact ⟨_, _, j + 1, rfl, rfl, by go_num, by omega, by omega, by omega, by trivial⟩
                  case measure => simp [intOf]; omega
              | false =>
                rw [hdj] at Hdj
                clear hdj
                go_wp2_with (go_at_call 13; (with_reducible refine Hdj.out.mono ?_); rintro e w1 ⟨rfl, rfl⟩)
                all_goals
                  go_roundw
                  case rel => exact ⟨_, _, j + 1, rfl, rfl, by go_num, by omega, by omega, by omega, by trivial⟩
                  case measure => simp [intOf]; omega
            · have hjl2 : ¬ (j : Int) < k := by omega
              go_wp2_with fail
              all_goals
                refine bodyPost_ret (results_tmp4 rfl _ _ _) rfl ?_
                exact ⟨rfl, _, _, k + 1, _, by first | rfl | (congr 2 <;> simp), by omega, by omega, by omega⟩
        · have n72 : (bt t k != 72) = true := by simp; exact e72
          have n88 : (bt t k != 88) = true := by simp; exact e88
          clear hgo hdg e72 e88
          rcases hcs with hcs | ⟨hcs, hcs2⟩
          · go_wp2_with (first
              | (go_at_call 12; (with_reducible refine Ha.out.mono ?_); rintro e w1 ⟨rfl, rfl⟩)
              | (go_at_call 13; (with_reducible refine Hd.out.mono ?_); rintro e w1 ⟨rfl, rfl⟩))
            go_loopw [11, 12] (fun v11 v12 W => ∃ (x : Int) (j : Nat), v11 = .int .i64 x ∧ v12 = .int .i64 j ∧ i ≤ j ∧ j ≤ k ∧ W = wr) (fun _ v12 _ => k - (intOf v12).toNat)
            case atStart => exact ⟨0, i, rfl, rfl, Nat.le_refl _, by omega, rfl⟩
            case round =>
              obtain ⟨x, j, rfl, rfl, hj1, hj2, hW⟩ := hrel
              subst hW
              by_cases hgo2 : j < k ∧ x ≤ 2147483648
              · obtain ⟨hjl, hx⟩ := hgo2
                have hb := HT.out j (by omega)
                have hjl2 : (j : Int) < k := by omega
                have hjl3 : (j : Int) < t.size := by omega
                go_wp2_with fail
                go_roundw
                case rel => exact ⟨_, j + 1, rfl, by go_num, by omega, by omega, by trivial⟩
                case measure => simp [intOf]; omega
              · rcases (show ¬ j < k ∨ (j < k ∧ ¬ x ≤ 2147483648) by omega) with hjl | ⟨hjl, hx⟩
                · have hjl2 : ¬ (j : Int) < k := by omega
                  clear hgo2
                  cases dec with
                  | true =>
                    go_wp2_with fail
                    refine bodyPost_ret (results_tmp4 rfl _ _ _) rfl ?_
                    exact ⟨rfl, _, _, k, _, rfl, by omega, by omega, by omega⟩
                  | false =>
                    go_wp2_with fail
                    refine bodyPost_ret (results_tmp4 rfl _ _ _) rfl ?_
                    exact ⟨rfl, _, _, k, _, rfl, by omega, by omega, by omega⟩
                · have hjl2 : (j : Int) < k := by omega
                  clear hgo2
                  cases dec with
                  | true =>
                    go_wp2_with fail
                    refine bodyPost_ret (results_tmp4 rfl _ _ _) rfl ?_
                    exact ⟨rfl, _, _, k, _, rfl, by omega, by omega, by omega⟩
                  | false =>
                    go_wp2_with fail
                    refine bodyPost_ret (results_tmp4 rfl _ _ _) rfl ?_
                    exact ⟨rfl, _, _, k, _, rfl, by omega, by omega, by omega⟩
          · go_wp2_with (first
              | (go_at_call 12; (with_reducible refine Ha.out.mono ?_); rintro e w1 ⟨rfl, rfl⟩)
              | (go_at_call 13; (with_reducible refine Hd.out.mono ?_); rintro e w1 ⟨rfl, rfl⟩))
            go_loopw [11, 12] (fun v11 v12 W => ∃ (x : Int) (j : Nat), v11 = .int .i64 x ∧ v12 = .int .i64 j ∧ i ≤ j ∧ j ≤ k ∧ W = wr) (fun _ v12 _ => k - (intOf v12).toNat)
            case atStart => exact ⟨0, i, rfl, rfl, Nat.le_refl _, by omega, rfl⟩
            case round =>
              obtain ⟨x, j, rfl, rfl, hj1, hj2, hW⟩ := hrel
              subst hW
              by_cases hgo2 : j < k ∧ x ≤ 2147483648
              · obtain ⟨hjl, hx⟩ := hgo2
                have hb := HT.out j (by omega)
                have hjl2 : (j : Int) < k := by omega
                have hjl3 : (j : Int) < t.size := by omega
                go_wp2_with fail
                go_roundw
                case rel => exact ⟨_, j + 1, rfl, by go_num, by omega, by omega, by trivial⟩
                case measure => simp [intOf]; omega
              · rcases (show ¬ j < k ∨ (j < k ∧ ¬ x ≤ 2147483648) by omega) with hjl | ⟨hjl, hx⟩
                · have hjl2 : ¬ (j : Int) < k := by omega
                  clear hgo2
                  cases dec with
                  | true =>
                    go_wp2_with fail
                    refine bodyPost_ret (results_tmp4 rfl _ _ _) rfl ?_
                    exact ⟨rfl, _, _, k, _, rfl, by omega, by omega, by omega⟩
                  | false =>
                    go_wp2_with fail
                    refine bodyPost_ret (results_tmp4 rfl _ _ _) rfl ?_
                    exact ⟨rfl, _, _, k, _, rfl, by omega, by omega, by omega⟩
                · have hjl2 : (j : Int) < k := by omega
                  clear hgo2
                  cases dec with
                  | true =>
                    go_wp2_with fail
                    refine bodyPost_ret (results_tmp4 rfl _ _ _) rfl ?_
                    exact ⟨rfl, _, _, k, _, rfl, by omega, by omega, by omega⟩
                  | false =>
                    go_wp2_with fail
                    refine bodyPost_ret (results_tmp4 rfl _ _ _) rfl ?_
                    exact ⟨rfl, _, _, k, _, rfl, by omega, by omega, by omega⟩
end
end Go.Proofs.Ytcmeciekadepjaa
