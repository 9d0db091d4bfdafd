/- What is proved: the law's known rows hold. Conditions: none. -/
import Derived.Test.YtggknljlibhkjaaMcX
set_option linter.unusedSimpArgs false
set_option linter.unusedVariables false
namespace Go.Proofs.Ytggknljlibhkjaa
open Go Go.RowKit
theorem m1_ok : m1.Ok ∧ m1.heap ≤ m1.n := mnew_ok _ _ (by decide) (by decide) (by decide)
theorem m2_ok : m2.Ok ∧ m2.heap ≤ m2.n := mnew_ok _ _ (by decide) (by decide) (by decide)
theorem m1_run : ∀ j < 2, (m1.iter j).kind = 0 := fun j hj => by
  have : j = 0 ∨ j = 1 := by omega
  rcases this with rfl | rfl
  · exact m1_0
  · exact m1_1
theorem m2_run : ∀ j < 2, (m2.iter j).kind = 0 := fun j hj => by
  have : j = 0 ∨ j = 1 := by omega
  rcases this with rfl | rfl
  · rfl
  · exact m2_1
theorem run_len {d : Mc} {n m k : Nat} (hm : m < n) (h : ∀ j < m, (d.iter j).kind = 0) (hs : (d.iter m).kind ≠ 0) (hk : k ≤ n) (h1 : ∀ j < k, (d.iter j).kind = 0) (h2 : k = n ∨ (d.iter k).kind ≠ 0) : k = m := by
  rcases Nat.lt_trichotomy k m with hlt | rfl | hgt
  · rcases h2 with rfl | h2
    · omega
    · exact absurd (h k hlt) h2
  · rfl
  · exact absurd (h1 m hgt) hs
theorem run_m {W : World} {p mb s mm : Nat} {d : Mc} (h : MAt W p mb s mm d) (ho : d.Ok ∧ d.heap ≤ d.n) {m : Nat} (hm : m < 9) (ha : ∀ j < 9, (d.iter j).alone) (h1 : ∀ j < m, (d.iter j).kind = 0) (h2 : (d.iter m).kind ≠ 0) :
    Calls Try.prog 21 #[.pointer (some ⟨p, 0, none⟩), .int .i64 9] W fun e w' => e = .returned (.int .i64 m) ∧ MAt w' p mb s mm (d.iter m) ∧ Chg (memF p mb) W w' := by
  have := run_c h ho.1 ho.2 9 (by decide) ha
  refine Calls.mono this fun e w' hq => ?_
  obtain ⟨k, hk, rfl, h3, h4, h5, h6⟩ := hq
  obtain rfl : k = m := run_len hm h1 h2 hk h5 h6
  exact ⟨rfl, h3, h4⟩
set_option maxRecDepth 100000 in
set_option maxHeartbeats 2000000 in
theorem known_c (w : World) : Calls Try.prog 7 #[] w (Quiet (.bool true) w) := by
  have HN := Go.Lib.hid (new_v 100 (by decide) w)
  have HW1 : Hid (∀ W g, Blk W g InT (in_im7.arr ++ in_halt.arr) → Calls Try.prog 10 #[.slice (some ⟨g, 0, none⟩) 2 2] W (wordsPost [1073741831, 3607101708] W)) := Go.Lib.hid fun W g h => words2_c in_im7 in_halt _ _ (fun W => word_im7 W) (fun W => word_halt W) W g h
  have HW2 : Hid (∀ W g, Blk W g InT (in_st4.arr ++ in_st0.arr) → Calls Try.prog 10 #[.slice (some ⟨g, 0, none⟩) 2 2] W (wordsPost [2700083196, 2699034624] W)) := Go.Lib.hid fun W g h => words2_c in_st4 in_st0 _ _ (fun W => word_st4 W) (fun W => word_st0 W) W g h
  unfold ptr at HN
  go_enter Try.func7, Try.ntmps7
  go_wp2_with fail
  refine HN.out.mono ?_
  rintro e w1 ⟨s, F, rfl, hS, hc1⟩
  have H1 := Go.Lib.hid (And.intro hS hc1)
  clear hS hc1 HN
  go_wp2_with fail
  refine (HW1.out _ _ (Blk.new _ _ _)).mono ?_
  rintro e w2 ⟨A, c, rfl, hcl, hq⟩
  have hc2 := (H1.out.2.alloc _).trans hq
  have hS2 := H1.out.1.quiet ((Chg.refl NoB w1).alloc _ |>.trans hq)
  have HM : Hid (Calls Try.prog 9 #[.int .i64 64, .slice A 2 c, .pointer (some ⟨s, 0, none⟩)] w2 (MNewPost s 64 [1073741831, 3607101708] w.heap.size ⟨100, [], [], []⟩ F w2)) := Go.Lib.hid (mnew_c hS2 64 A c [1073741831, 3607101708] (by decide) (by decide) (by decide) hcl)
  have H2 := Go.Lib.hid hc2
  clear hcl hq hc2 hS2 H1 HW1
  go_wp2_with fail
  refine HM.out.mono ?_
  rintro e w3 ⟨p, mb, mm, rfl, hm, hS3, hc3, hp, hmb, hmm⟩
  have H3 := Go.Lib.hid (And.intro hm (And.intro hS3 (H2.out.trans hc3)))
  have hlt := hm.lt
  have hsz := H2.out.size
  clear hm hS3 hc3 HM H2 hmm
  go_wp2_with fail
  refine (HW2.out _ _ (Blk.new _ _ _)).mono ?_
  rintro e w4 ⟨A2, c2, rfl, hcl, hq⟩
  have hq4 := ((Chg.refl NoB w3).alloc _).trans hq
  have hS4 := H3.out.2.1.quiet hq4
  have HM : Hid (Calls Try.prog 9 #[.int .i64 64, .slice A2 2 c2, .pointer (some ⟨s, 0, none⟩)] w4 (MNewPost s 64 [2700083196, 2699034624] w.heap.size ⟨100, [], [], []⟩ F w4)) := Go.Lib.hid (mnew_c hS4 64 A2 c2 [2700083196, 2699034624] (by decide) (by decide) (by decide) hcl)
  have H4 := Go.Lib.hid hq4
  clear hcl hq hq4 hS4 HW2
  go_wp2_with fail
  refine HM.out.mono ?_
  rintro e w5 ⟨p2, mb2, mm2, rfl, hm2, hS5, hc5, hp2, hmb2, hmm2⟩
  have hq5 := H4.out.trans hc5
  have h45 := H4.out.size
  have hm5 := H3.out.1.quiet hq5
  have hw5 := H3.out.2.2.trans hq5
  clear H3 H4 HM hS5 hc5
  have HR1 := Go.Lib.hid (run_m (d := m1) hm5 m1_ok (m := 2) (by decide) m1_alone m1_run (by rw [m1_2.1]; decide))
  have HB := Go.Lib.hid (And.intro hm2 hw5)
  clear hm5 hm2 hw5 hq5
  go_wp2_with fail
  refine (num_c 0 _).mono ?_
  rintro e w' ⟨rfl, rfl⟩
  go_wp2_with fail
  refine (num_c 0 _).mono ?_
  rintro e w' ⟨rfl, rfl⟩
  go_wp2_with fail
  refine HR1.out.mono ?_
  rintro e w6 ⟨rfl, hm6, hc6⟩
  have hm26 := HB.out.1.chg hc6 (by unfold memF; omega) (by unfold memF; omega) (by unfold memF; omega)
  have HR2 := Go.Lib.hid (run_m (d := m2) hm26 m2_ok (m := 2) (by decide) m2_alone m2_run (by rw [m2_2.1]; decide))
  have hw6 := HB.out.2.step hc6 (fun i hi h => absurd h (by unfold memF; omega))
  have H6 := Go.Lib.hid (And.intro hm6 hw6)
  clear hm6 hw6 hc6 hm26 HB HR1
  go_wp2_with fail
  refine HR2.out.mono ?_
  rintro e w7 ⟨rfl, hm7, hc7⟩
  have hm17 := H6.out.1.chg hc7 (by unfold memF; omega) (by unfold memF; omega) (by unfold memF; omega)
  have hw7 := H6.out.2.step hc7 (fun i hi h => absurd h (by unfold memF; omega))
  have HS1 := Go.Lib.hid (stopped_c hm17)
  have HB := Go.Lib.hid (And.intro hm7 hw7)
  rw [m1_2.1, m1_2.2] at HS1
  clear hm17 hw7 hc7 hm7 H6 HR2
  unfold stopVal at HS1
  go_wp2_with fail
  refine HS1.out.mono ?_
  rintro e w8 ⟨rfl, hc8⟩
  have HS2 := Go.Lib.hid (stopped_c (HB.out.1.quiet hc8))
  have HW8 := Go.Lib.hid (HB.out.2.trans hc8)
  rw [m2_2.1, m2_2.2] at HS2
  clear hc8 HB HS1
  unfold stopVal at HS2
  go_wp2_with fail
  refine HS2.out.mono ?_
  rintro e w9 ⟨rfl, hc9⟩
  have HW9 := Go.Lib.hid (HW8.out.trans hc9)
  clear hc9 HW8 HS2
  go_wp2_with fail
  go_ret
  exact ⟨rfl, HW9.out⟩
end Go.Proofs.Ytggknljlibhkjaa
