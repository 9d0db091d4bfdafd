/- What is proved: the walk of the law MachineNew, where no machine is made. Conditions: as each theorem says. -/
import Derived.Test.YtggknljlibhkjaaGreatGMcC
set_option linter.unusedSimpArgs false
set_option linter.unusedVariables false
namespace Go.Proofs.YtggknljlibhkjaaGreat
open Go Go.RowKit
section
variable {w : World} {s base : Nat} {v : V} {F : Nat → Prop}
set_option maxRecDepth 100000 in
set_option maxHeartbeats 1000000 in
theorem mnew_bad (h : StoreV base w s v F) (n : Int) (A : Option Addr) (len c : Nat) (hn : ¬ (64 ≤ n ∧ n ≤ 16777216 ∧ n % 4 = 0)) :
    Calls Tryz.prog 21 #[.int .i64 n, .slice A len c, .pointer (some ⟨s, 0, none⟩)] w (Quiet (.tuple #[.pointer none, .int .i64 2]) w) := by
  have HD := Go.Lib.hid (drop_empty h)
  clear h
  by_cases h1 : n < 64
  · have g1 : decide (n < 64) = true := by simpa using h1
    clear hn h1
    go_enter Tryz.func21, Tryz.ntmps21
    go_wp2_with fail
    refine HD.out.mono ?_
    rintro e w1 ⟨rfl, hc⟩
    have HC := Go.Lib.hid hc
    clear hc
    go_wp2_with fail
    go_ret2
    exact ⟨rfl, HC.out⟩
  · have g1 : decide (n < 64) = false := by simpa using h1
    by_cases h2 : n > 16777216
    · have g2 : decide (n > 16777216) = true := by simpa using h2
      clear hn h1 h2
      go_enter Tryz.func21, Tryz.ntmps21
      go_wp2_with fail
      refine HD.out.mono ?_
      rintro e w1 ⟨rfl, hc⟩
      have HC := Go.Lib.hid hc
      clear hc
      go_wp2_with fail
      go_ret2
      exact ⟨rfl, HC.out⟩
    · have g2 : decide (n > 16777216) = false := by simpa using h2
      obtain ⟨m, rfl⟩ : ∃ m : Nat, n = (m : Int) := ⟨n.toNat, by omega⟩
      have g3 : ((m : Int) % 4 != 0) = true := by
        have : ¬ (m : Int) % 4 = 0 := by omega
        simpa using this
      clear hn h1 h2
      go_enter Tryz.func21, Tryz.ntmps21
      go_wp2_with fail
      refine HD.out.mono ?_
      rintro e w1 ⟨rfl, hc⟩
      have HC := Go.Lib.hid hc
      clear hc
      go_wp2_with fail
      go_ret2
      exact ⟨rfl, HC.out⟩
set_option maxRecDepth 100000 in
set_option maxHeartbeats 1000000 in
theorem mnew_mem (h : StoreV base w s v F) (n : Nat) (A : Option Addr) (len c : Nat) (hn : 64 ≤ n ∧ n ≤ 16777216 ∧ n % 4 = 0) (hl : n / 4 < len) :
    Calls Tryz.prog 21 #[.int .i64 n, .slice A len c, .pointer (some ⟨s, 0, none⟩)] w (Quiet (.tuple #[.pointer none, .int .i64 10]) w) := by
  have HD := Go.Lib.hid (drop_empty h)
  have g1 : decide ((n : Int) < 64) = false := by simp; omega
  have g2 : decide ((n : Int) > 16777216) = false := by simp; omega
  have g3 : ((n : Int) % 4 != 0) = false := by
    have : (n : Int) % 4 = 0 := by omega
    rw [this]; rfl
  have g4 : decide ((n : Int) / 4 < (len : Int)) = true := by simp; omega
  clear h hl
  go_enter Tryz.func21, Tryz.ntmps21
  go_wp2_with fail
  refine HD.out.mono ?_
  rintro e w1 ⟨rfl, hc⟩
  have HC := Go.Lib.hid hc
  clear hc
  go_wp2_with fail
  go_ret2
  exact ⟨rfl, HC.out⟩
end
set_option maxRecDepth 100000 in
set_option maxHeartbeats 4000000 in
theorem new_long (w : World) (n : Int) (A : Option Addr) (len c pl x : Nat) (h : 3000 < len) : Calls Tryz.prog 4 #[.int .i64 n, .slice A len c, .int .u32 pl, .int .u32 x] w (Quiet (.bool true) w) := by
  have HK := Go.Lib.hid known_c
  have g0 : decide ((len : Int) > 3000) = true := by simp; omega
  clear h
  go_enter Tryz.func4, Tryz.ntmps4
  go_wp2_with fail
  refine (HK.out _).mono ?_
  rintro e w9 ⟨rfl, hq⟩
  have HQ := Go.Lib.hid hq
  clear hq
  go_wp2_with fail
  go_ret
  exact ⟨rfl, HQ.out⟩
set_option maxRecDepth 100000 in
set_option maxHeartbeats 4000000 in
theorem new_big (w : World) (n : Int) (A : Option Addr) (len c pl x : Nat) (h : len ≤ 3000) (h1 : 65536 < n) (h2 : n ≤ 16777216) : Calls Tryz.prog 4 #[.int .i64 n, .slice A len c, .int .u32 pl, .int .u32 x] w (Quiet (.bool true) w) := by
  have HK := Go.Lib.hid known_c
  have g0 : decide ((len : Int) > 3000) = false := by simp; omega
  have g1 : decide (n > 65536) = true := by simp; omega
  have g2 : decide (n ≤ 16777216) = true := by simpa using h2
  clear h h1 h2
  go_enter Tryz.func4, Tryz.ntmps4
  go_wp2_with fail
  refine (HK.out _).mono ?_
  rintro e w9 ⟨rfl, hq⟩
  have HQ := Go.Lib.hid hq
  clear hq
  go_wp2_with fail
  go_ret
  exact ⟨rfl, HQ.out⟩
set_option maxRecDepth 100000 in
set_option maxHeartbeats 4000000 in
theorem new_bad (w : World) (n : Int) (A : Option Addr) (len c pl x : Nat) (h : len ≤ 3000) (h1 : ¬ (65536 < n ∧ n ≤ 16777216)) (h2 : ¬ (64 ≤ n ∧ n ≤ 16777216 ∧ n % 4 = 0)) : Calls Tryz.prog 4 #[.int .i64 n, .slice A len c, .int .u32 pl, .int .u32 x] w (Quiet (.bool true) w) := by
  have HK := Go.Lib.hid known_c
  have HM := Go.Lib.hid (may_c n w)
  have HN := Go.Lib.hid (new_v 10 (by decide) w)
  rw [decide_eq_false h2] at HM
  have HMN : Hid (∀ (W : World) (s : Nat) (F : Nat → Prop), StoreV w.heap.size W s ⟨10, [], [], []⟩ F → Calls Tryz.prog 21 #[.int .i64 n, .slice A len c, .pointer (some ⟨s, 0, none⟩)] W (Quiet (.tuple #[.pointer none, .int .i64 2]) W)) := Go.Lib.hid fun W s F h => mnew_bad h n A len c h2
  have g0 : decide ((len : Int) > 3000) = false := by simp; omega
  by_cases hb : n > 65536
  · have g1 : decide (n > 65536) = true := by simpa using hb
    have g2 : decide (n ≤ 16777216) = false := by simp; omega
    unfold ptr at HN
    go_enter Tryz.func4, Tryz.ntmps4
    go_wp2_with fail
    refine HN.out.mono ?_
    rintro e w1 ⟨s, F, rfl, hS, hc1⟩
    have H1 := Go.Lib.hid (And.intro hS hc1)
    clear hS hc1 HN
    go_wp2_with fail
    refine (HMN.out _ _ _ H1.out.1).mono ?_
    rintro e w2 ⟨rfl, hc2⟩
    have HM := Go.Lib.hid (may_c n w2)
    rw [decide_eq_false h2] at HM
    have H2 := Go.Lib.hid (H1.out.2.trans hc2)
    clear hc2 H1 HMN
    go_wp2_with fail
    refine HM.out.mono ?_
    rintro e w3 ⟨rfl, rfl⟩
    go_wp2_with fail
    refine (num_c _ _).mono ?_
    rintro e w4 ⟨rfl, rfl⟩
    go_wp2_with fail
    refine (HK.out _).mono ?_
    rintro e w9 ⟨rfl, hq⟩
    have HQ := Go.Lib.hid hq
    clear hq
    go_wp2_with fail
    go_ret
    exact ⟨rfl, H2.out.trans HQ.out⟩
  · have g1 : decide (n > 65536) = false := by simpa using hb
    unfold ptr at HN
    go_enter Tryz.func4, Tryz.ntmps4
    go_wp2_with fail
    refine HN.out.mono ?_
    rintro e w1 ⟨s, F, rfl, hS, hc1⟩
    have H1 := Go.Lib.hid (And.intro hS hc1)
    clear hS hc1 HN
    go_wp2_with fail
    refine (HMN.out _ _ _ H1.out.1).mono ?_
    rintro e w2 ⟨rfl, hc2⟩
    have HM := Go.Lib.hid (may_c n w2)
    rw [decide_eq_false h2] at HM
    have H2 := Go.Lib.hid (H1.out.2.trans hc2)
    clear hc2 H1 HMN
    go_wp2_with fail
    refine HM.out.mono ?_
    rintro e w3 ⟨rfl, rfl⟩
    go_wp2_with fail
    refine (num_c _ _).mono ?_
    rintro e w4 ⟨rfl, rfl⟩
    go_wp2_with fail
    refine (HK.out _).mono ?_
    rintro e w9 ⟨rfl, hq⟩
    have HQ := Go.Lib.hid hq
    clear hq
    go_wp2_with fail
    go_ret
    exact ⟨rfl, H2.out.trans HQ.out⟩
set_option maxRecDepth 100000 in
set_option maxHeartbeats 4000000 in
theorem new_mem (w : World) (n : Nat) (A : Option Addr) (len c pl x : Nat) (h : len ≤ 3000) (h1 : n ≤ 65536) (h2 : 64 ≤ n ∧ n ≤ 16777216 ∧ n % 4 = 0) (h3 : n / 4 < len) : Calls Tryz.prog 4 #[.int .i64 n, .slice A len c, .int .u32 pl, .int .u32 x] w (Quiet (.bool true) w) := by
  have HK := Go.Lib.hid known_c
  have HM := Go.Lib.hid (may_c n w)
  have HN := Go.Lib.hid (new_v 10 (by decide) w)
  rw [decide_eq_true (show 64 ≤ (n : Int) ∧ (n : Int) ≤ 16777216 ∧ (n : Int) % 4 = 0 by omega)] at HM
  have HMN : Hid (∀ (W : World) (s : Nat) (F : Nat → Prop), StoreV w.heap.size W s ⟨10, [], [], []⟩ F → Calls Tryz.prog 21 #[.int .i64 n, .slice A len c, .pointer (some ⟨s, 0, none⟩)] W (Quiet (.tuple #[.pointer none, .int .i64 10]) W)) := Go.Lib.hid fun W s F h => mnew_mem h n A len c h2 h3
  have g0 : decide ((len : Int) > 3000) = false := by simp; omega
  have g1 : decide ((n : Int) > 65536) = false := by simp; omega
  have g4 : decide ((n : Int) / 4 < (len : Int)) = true := by simp; omega
  unfold ptr at HN
  go_enter Tryz.func4, Tryz.ntmps4
  go_wp2_with fail
  refine HN.out.mono ?_
  rintro e w1 ⟨s, F, rfl, hS, hc1⟩
  have H1 := Go.Lib.hid (And.intro hS hc1)
  clear hS hc1 HN
  go_wp2_with fail
  refine (HMN.out _ _ _ H1.out.1).mono ?_
  rintro e w2 ⟨rfl, hc2⟩
  have HM := Go.Lib.hid (may_c n w2)
  rw [decide_eq_true (show 64 ≤ (n : Int) ∧ (n : Int) ≤ 16777216 ∧ (n : Int) % 4 = 0 by omega)] at HM
  have H2 := Go.Lib.hid (H1.out.2.trans hc2)
  clear hc2 H1 HMN
  go_wp2_with fail
  refine HM.out.mono ?_
  rintro e w3 ⟨rfl, rfl⟩
  go_wp2_with fail
  refine (num_c _ _).mono ?_
  rintro e w4 ⟨rfl, rfl⟩
  go_wp2_with fail
  refine (HK.out _).mono ?_
  rintro e w9 ⟨rfl, hq⟩
  have HQ := Go.Lib.hid hq
  clear hq
  go_wp2_with fail
  go_ret
  exact ⟨rfl, H2.out.trans HQ.out⟩
end Go.Proofs.YtggknljlibhkjaaGreat
