/- What is proved: what a machine that is not there answers. Conditions: as each theorem says. -/
import Derived.Test.YtggknljlibhkjaaMcY
import Derived.Test.YtggknljlibhkjaaNo
set_option linter.unusedSimpArgs false
set_option linter.unusedVariables false
namespace Go.Proofs.Ytggknljlibhkjaa
open Go Go.RowKit
/-- a machine's cells that is nought -/
def zeroM : Array Value := Cp.zero.arr ++ #[.slice none 0 0, .int .u32 0, .pointer none, .int .i64 0, .int .u32 0, .map none]
def MGone (W : World) (v : Value) : Prop := v = .pointer none ∨ ∃ b, v = .pointer (some ⟨b, 0, none⟩) ∧ Blk W b MT zeroM
section
variable {w w' : World} {v : Value}
theorem MGone.nil (w : World) : MGone w (.pointer none) := .inl rfl
theorem MGone.quiet (h : MGone w v) (hc : Chg NoB w w') : MGone w' v := by
  rcases h with rfl | ⟨b, rfl, hb⟩
  · exact .inl rfl
  · exact .inr ⟨b, rfl, hb.chg hc id⟩
theorem mth_no (h : MGone w v) : Calls Try.prog 40 #[v] w fun e w' => e = .returned (.bool false) ∧ w = w' := by
  rcases h with rfl | ⟨b, rfl, hb⟩
  · go_enter Try.func40, Try.ntmps40
    go_wp2_with fail
    go_ret
    exact ⟨rfl, rfl⟩
  · have k22 : w.cell? ⟨b, 22, none⟩ = some (.slice none 0 0) := by rw [hb.cell 22]; rfl
    clear hb
    go_enter Try.func40, Try.ntmps40
    go_wp2_with fail
    go_ret
    exact ⟨rfl, rfl⟩
set_option maxHeartbeats 1000000
set_option maxRecDepth 100000
theorem mno_Step (h : MGone w v) : Calls Try.prog 15 #[v] w (Quiet (.bool false) w) := by
  have HT := Go.Lib.hid (mth_no h)
  clear h
  go_enter Try.func15, Try.ntmps15
  go_wp2_with fail
  refine HT.out.mono ?_
  rintro e w1 ⟨rfl, rfl⟩
  go_wp2_with fail
  go_ret
  exact ⟨rfl, Chg.refl _ _⟩
theorem mno_Run (h : MGone w v) : Calls Try.prog 21 #[v, .int .i64 9] w (Quiet (.int .i64 0) w) := by
  have HT := Go.Lib.hid (mth_no h)
  clear h
  go_enter Try.func21, Try.ntmps21
  go_wp2_with fail
  go_loopw [5] (fun v5 wr => v5 = .int .i64 0 ∧ wr = w) (fun v5 _ => 0)
  case atStart => exact ⟨rfl, rfl⟩
  case round =>
    obtain ⟨rfl, rfl⟩ := hrel
    go_wp2_with fail
    refine HT.out.mono ?_
    rintro e w1 ⟨rfl, rfl⟩
    go_wp2_with fail
    go_ret
    exact ⟨rfl, Chg.refl _ _⟩
theorem mno_Word (h : MGone w v) : Calls Try.prog 18 #[v, .int .u32 0] w (Quiet (.tuple #[.int .u32 0, .int .i64 1]) w) := by
  have HT := Go.Lib.hid (mth_no h)
  clear h
  go_enter Try.func18, Try.ntmps18
  go_wp2_with fail
  refine HT.out.mono ?_
  rintro e w1 ⟨rfl, rfl⟩
  go_wp2_with fail
  go_ret2
  exact ⟨rfl, Chg.refl _ _⟩
theorem mno_Byte (h : MGone w v) : Calls Try.prog 20 #[v, .int .u32 0] w (Quiet (.tuple #[.int .u8 0, .int .i64 1]) w) := by
  have HT := Go.Lib.hid (mth_no h)
  clear h
  go_enter Try.func20, Try.ntmps20
  go_wp2_with fail
  refine HT.out.mono ?_
  rintro e w1 ⟨rfl, rfl⟩
  go_wp2_with fail
  go_ret2
  exact ⟨rfl, Chg.refl _ _⟩
theorem mno_Heap (h : MGone w v) : Calls Try.prog 17 #[v] w (Quiet (.int .u32 0) w) := by
  have HT := Go.Lib.hid (mth_no h)
  clear h
  go_enter Try.func17, Try.ntmps17
  go_wp2_with fail
  refine HT.out.mono ?_
  rintro e w1 ⟨rfl, rfl⟩
  go_wp2_with fail
  go_ret
  exact ⟨rfl, Chg.refl _ _⟩
theorem mno_Size (h : MGone w v) : Calls Try.prog 49 #[v] w (Quiet (.int .i64 0) w) := by
  have HT := Go.Lib.hid (mth_no h)
  clear h
  go_enter Try.func49, Try.ntmps49
  go_wp2_with fail
  refine HT.out.mono ?_
  rintro e w1 ⟨rfl, rfl⟩
  go_wp2_with fail
  go_ret
  exact ⟨rfl, Chg.refl _ _⟩
theorem mno_Store (h : MGone w v) : Calls Try.prog 50 #[v] w (Quiet (.pointer none) w) := by
  have HT := Go.Lib.hid (mth_no h)
  clear h
  go_enter Try.func50, Try.ntmps50
  go_wp2_with fail
  refine HT.out.mono ?_
  rintro e w1 ⟨rfl, rfl⟩
  go_wp2_with fail
  go_ret
  exact ⟨rfl, Chg.refl _ _⟩
theorem mno_Copy (h : MGone w v) : Calls Try.prog 19 #[v] w (Quiet (.pointer none) w) := by
  have HT := Go.Lib.hid (mth_no h)
  clear h
  go_enter Try.func19, Try.ntmps19
  go_wp2_with fail
  refine HT.out.mono ?_
  rintro e w1 ⟨rfl, rfl⟩
  go_wp2_with fail
  go_ret
  exact ⟨rfl, Chg.refl _ _⟩
theorem mno_SetWord (h : MGone w v) : Calls Try.prog 12 #[v, .int .u32 0, .int .u32 0] w (Quiet (.int .i64 1) w) := by
  have HW := Go.Lib.hid (mno_Word h)
  clear h
  go_enter Try.func12, Try.ntmps12
  go_wp2_with fail
  refine HW.out.mono ?_
  rintro e w1 ⟨rfl, hc⟩
  have HC := Go.Lib.hid hc
  clear hc
  go_wp2_with fail
  go_ret
  exact ⟨rfl, HC.out⟩
theorem mno_Stopped (h : MGone w v) : Calls Try.prog 16 #[v] w (Quiet (stopVal 0 0) w) := by
  have HT := Go.Lib.hid (fun o => mth_no (h.quiet ((Chg.refl NoB w).alloc o)))
  clear h
  unfold stopVal
  go_enter Try.func16, Try.ntmps16
  go_wp2_with fail
  refine (HT.out _).mono ?_
  rintro e w1 ⟨rfl, rfl⟩
  go_wp2_with fail
  exact bodyPost_ret (v := .agg #[.int .i64 0, .int .u32 0]) (by simp [results, Try.results16, go_sem]) rfl ⟨rfl, (Chg.refl _ _).alloc _⟩
theorem mno_Cpu (h : MGone w v) : Calls Try.prog 13 #[v] w (Quiet Cp.zero.val w) := by
  have HT := Go.Lib.hid (fun o => mth_no (h.quiet ((Chg.refl NoB w).alloc o)))
  have HB := Go.Lib.hid (fun cs => (Blk.new w CpT cs))
  clear h
  go_enter Try.func13, Try.ntmps13
  go_wp2_with fail
  refine (HT.out _).mono ?_
  rintro e w1 ⟨rfl, rfl⟩
  go_wp2_with (first
    | (refine wpList_store_row rfl 41 (.tmp 2) (.tmp 6) rfl w.heap.size Cp.zero.arr rfl rfl CpT Cp.zero.arr (HB.out _) (by kernel_rfl) (by rfl) (by kernel_rfl) ?_))
  refine bodyPost_ret (v := Cp.zero.val) (results_row (t := CpT) (cs := Cp.zero.arr) (g := w.heap.size) rfl _ _ ?_ ((HB.out _).setRow _) Try.underlying41 rfl (by kernel_rfl)) rfl ⟨rfl, ((Chg.refl NoB w).alloc _).setRow (fun h => absurd h (by omega)) _⟩ <;> rfl
theorem mno_SetCpu (h : MGone w v) : Calls Try.prog 14 #[v, .agg Cp.zero.arr] w (Quiet (.int .i64 1) w) := by
  have HT := Go.Lib.hid (fun o => mth_no (h.quiet ((Chg.refl NoB w).alloc o)))
  clear h
  go_enter Try.func14, Try.ntmps14
  go_wp2_with fail
  refine (HT.out _).mono ?_
  rintro e w1 ⟨rfl, rfl⟩
  go_wp2_with fail
  go_ret
  exact ⟨rfl, (Chg.refl _ _).alloc _⟩
end
end Go.Proofs.Ytggknljlibhkjaa
