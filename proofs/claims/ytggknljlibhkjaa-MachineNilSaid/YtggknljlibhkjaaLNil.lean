/- What is proved: MachineNil: a closed sentence. Conditions: none. -/
import Derived.Test.YtggknljlibhkjaaMnB
set_option linter.unusedSimpArgs false
set_option linter.unusedVariables false
namespace Go.Proofs.Ytggknljlibhkjaa
open Go Go.RowKit
set_option maxRecDepth 100000 in
set_option maxHeartbeats 4000000 in
theorem machineNil_walk (w0 : World) : Calls Try.prog 5 #[] w0 (Quiet (.bool true) w0) := by
  have HN := Go.Lib.hid (new_v 10 (by decide) w0)
  have N := Go.Lib.hid num_c
  unfold ptr at HN
  go_enter Try.func5, Try.ntmps5
  go_wp2_with fail
  refine HN.out.mono ?_
  rintro e w1 ⟨s, F, rfl, hS, hc1⟩
  have H1 := Go.Lib.hid (And.intro hS hc1)
  clear hS hc1 HN
  go_wp2_with fail
  refine (mnew_gone (Gone.nil _)).mono ?_
  rintro e w2 ⟨rfl, hc2⟩
  have H2 := Go.Lib.hid (And.intro (H1.out.1.quiet hc2) (H1.out.2.trans hc2))
  clear hc2 H1
  go_wp2_with fail
  have HG := Go.Lib.hid (mnew_gone (w := w2.alloc (.cells #[.map none, .slice none 0 0, .int .i64 0] 59)) (.inr ⟨w2.heap.size, rfl, Blk.new _ _ _⟩))
  unfold ptr at HG
  refine HG.out.mono ?_
  rintro e w3 ⟨rfl, hc3⟩
  have hq := ((Chg.refl NoB w2).alloc (.cells #[.map none, .slice none 0 0, .int .i64 0] 59)).trans hc3
  have hS3 := H2.out.1.quiet hq
  have H3 := Go.Lib.hid (H2.out.2.trans hq)
  have HM : Hid (Calls Try.prog 9 #[.int .i64 64, .slice none 0 0, .pointer (some ⟨s, 0, none⟩)] w3 (MNewPost s 64 [] w0.heap.size ⟨10, [], [], []⟩ F w3)) := Go.Lib.hid (mnew_c hS3 64 none 0 [] (by decide) (by decide) (fun x h => by cases h) (fun h => absurd h (by simp [u32s])))
  clear hc3 hq hS3 H2 HG
  go_wp2_with fail
  refine HM.out.mono ?_
  rintro e w4 ⟨p, mb, mm, rfl, hm, hS4, hc4, hp, hmb, hmm⟩
  have hw4 := H3.out.trans hc4
  have hsz := H3.out.size
  have HS := Go.Lib.hid (next_c hm Zr.new.ok (by rw [Zr.new.h]; exact Nat.zero_le _) Zr.new.alone)
  have HB := Go.Lib.hid hw4
  clear hS4 hc4 hw4 hm HM H3
  have hZ := Zr.new.next (by decide)
  rw [hZ.kind] at HS
  have HZ := Go.Lib.hid hZ
  clear hZ
  go_wp2_with fail
  refine (N.out _ _).mono ?_
  rintro e w' ⟨rfl, rfl⟩
  go_wp2_with fail
  refine (N.out _ _).mono ?_
  rintro e w' ⟨rfl, rfl⟩
  go_wp2_with fail
  refine (N.out _ _).mono ?_
  rintro e w' ⟨rfl, rfl⟩
  go_wp2_with fail
  refine HS.out.mono ?_
  rintro e w5 ⟨rfl, hm5, hc5⟩
  have hw5 := HB.out.step hc5 (fun i hi h => absurd h (by unfold memF; omega))
  have HR := Go.Lib.hid (run_c hm5 HZ.out.ok (by rw [HZ.out.h]; exact Nat.zero_le _) 99 (by decide) (alone_of (k := 16) (by rw [HZ.out.end_.1]; decide) (fun j hj => (HZ.out.iter j (by omega)).alone)))
  have H5 := Go.Lib.hid hw5
  clear hw5 hc5 hm5 HB HS
  go_wp2_with fail
  refine HR.out.mono ?_
  rintro e w6 ⟨k, hk, rfl, hm6, hc6, h1, h2⟩
  obtain rfl : k = 16 := run_len (n := 99) (by decide) (fun j hj => (HZ.out.iter j (by omega)).kind) (by rw [HZ.out.end_.1]; decide) hk h1 h2
  have hw6 := H5.out.step hc6 (fun i hi h => absurd h (by unfold memF; omega))
  have HS := Go.Lib.hid (stopped_c hm6)
  rw [HZ.out.end_.1, HZ.out.end_.2] at HS
  have H6 := Go.Lib.hid hw6
  clear hw6 hc6 hm6 h1 h2 hk HR H5
  unfold stopVal at HS
  go_wp2_with fail
  refine HS.out.mono ?_
  rintro e w7 ⟨rfl, hc7⟩
  have H7 := Go.Lib.hid (H6.out.trans hc7)
  clear hc7 HS H6
  go_wp2_with fail
  refine (mnothing_c (MGone.nil _)).mono ?_
  rintro e w8 ⟨rfl, hc8⟩
  have H8 := Go.Lib.hid (H7.out.trans hc8)
  clear hc8 H7
  have HG := Go.Lib.hid (mnothing_c (w := w8.alloc (.cells zeroM MT)) (.inr ⟨w8.heap.size, rfl, Blk.new _ _ _⟩))
  go_wp2_with fail
  refine HG.out.mono ?_
  rintro e w9 ⟨rfl, hc9⟩
  have H9 := Go.Lib.hid (H8.out.trans (((Chg.refl NoB w8).alloc (.cells zeroM MT)).trans hc9))
  clear hc9 H8 HG
  go_wp2_with fail
  refine (known_c _).mono ?_
  rintro e w10 ⟨rfl, hc10⟩
  have H10 := Go.Lib.hid (H9.out.trans hc10)
  clear hc10 H9
  go_wp2_with fail
  go_ret
  exact ⟨rfl, H10.out⟩
end Go.Proofs.Ytggknljlibhkjaa
