/- What is proved: what the functions of a store do of a store that is not there. Conditions: as each theorem says. -/
import Derived.Test.YtggknljlibhkjaaGreatStoreW
set_option linter.unusedSimpArgs false
set_option linter.unusedVariables false
namespace Go.Proofs.YtggknljlibhkjaaGreat
open Go.RowKit
/-- a store that is not there: no pointer, or one without files -/
def Gone (w : World) (sv : Value) : Prop := sv = .pointer none ∨ ∃ b, sv = ptr b ∧ Blk w b 101 #[.map none, .slice none 0 0, .int .i64 0]
section
variable {w w' : World} {sv : Value}
theorem Gone.nil (w : World) : Gone w (.pointer none) := .inl rfl
theorem Gone.chg {F : Nat → Prop} (h : Gone w sv) (hc : Chg F w w') (hF : ∀ b, sv = ptr b → ¬ F b) : Gone w' sv := by
  rcases h with rfl | ⟨b, rfl, hb⟩
  · exact .inl rfl
  · exact .inr ⟨b, rfl, hb.chg hc (hF b rfl)⟩
theorem Gone.quiet (h : Gone w sv) (hc : Chg NoB w w') : Gone w' sv := h.chg hc fun _ _ h => h
theorem there_no (h : Gone w sv) : Calls Tryz.prog 34 #[sv] w fun e w' => e = .returned (.bool false) ∧ w = w' := by
  have hm := neq_files
  rcases h with rfl | ⟨b, rfl, hb⟩
  · go_enter Tryz.func34, Tryz.ntmps34
    go_wp2
    go_ret
    exact ⟨rfl, rfl⟩
  · have h0 := hb.cell 0
    clear hb
    unfold ptr
    go_enter Tryz.func34, Tryz.ntmps34
    go_wp2
    go_ret
    exact ⟨rfl, rfl⟩
set_option maxHeartbeats 1000000
theorem no_rider (h : Gone w sv) (f : Int) : Calls Tryz.prog 100 #[sv, .int .i64 f] w (Quiet (.pointer none) w) := by
  have Hth := Go.Lib.hid (there_no h)
  have h0 := Go.Lib.hid h
  clear h
  go_enter Tryz.func100, Tryz.ntmps100
  go_wp2_with fail
  refine Hth.out.mono ?_
  rintro e w' ⟨rfl, rfl⟩
  go_wp2_with fail
  go_ret
  exact ⟨rfl, Chg.refl _ _⟩
theorem no_Room (h : Gone w sv)  : Calls Tryz.prog 108 #[sv] w (Quiet (.int .i64 0) w) := by
  have Hth := Go.Lib.hid (there_no h)
  have h0 := Go.Lib.hid h
  clear h
  go_enter Tryz.func108, Tryz.ntmps108
  go_wp2_with fail
  refine Hth.out.mono ?_
  rintro e w' ⟨rfl, rfl⟩
  go_wp2_with fail
  go_ret
  exact ⟨rfl, Chg.refl _ _⟩
theorem no_Riders (h : Gone w sv)  : Calls Tryz.prog 19 #[sv] w (Quiet (.int .i64 0) w) := by
  have Hth := Go.Lib.hid (there_no h)
  have h0 := Go.Lib.hid h
  clear h
  go_enter Tryz.func19, Tryz.ntmps19
  go_wp2_with fail
  refine Hth.out.mono ?_
  rintro e w' ⟨rfl, rfl⟩
  go_wp2_with fail
  go_ret
  exact ⟨rfl, Chg.refl _ _⟩
theorem no_Old (h : Gone w sv) (nm : ByteArray) : Calls Tryz.prog 44 #[sv, .string nm] w (Quiet (.int .i64 0) w) := by
  have Hth := Go.Lib.hid (there_no h)
  have h0 := Go.Lib.hid h
  clear h
  go_enter Tryz.func44, Tryz.ntmps44
  go_wp2_with fail
  refine Hth.out.mono ?_
  rintro e w' ⟨rfl, rfl⟩
  go_wp2_with fail
  go_ret
  exact ⟨rfl, Chg.refl _ _⟩
theorem no_Fresh (h : Gone w sv) (nm : ByteArray) : Calls Tryz.prog 45 #[sv, .string nm] w (Quiet (.int .i64 0) w) := by
  have Hth := Go.Lib.hid (there_no h)
  have h0 := Go.Lib.hid h
  clear h
  go_enter Tryz.func45, Tryz.ntmps45
  go_wp2_with fail
  refine Hth.out.mono ?_
  rintro e w' ⟨rfl, rfl⟩
  go_wp2_with fail
  go_ret
  exact ⟨rfl, Chg.refl _ _⟩
theorem no_Delete (h : Gone w sv) (nm : ByteArray) : Calls Tryz.prog 54 #[sv, .string nm] w (Quiet (.tuple #[]) w) := by
  have Hth := Go.Lib.hid (there_no h)
  have h0 := Go.Lib.hid h
  clear h
  go_enter Tryz.func54, Tryz.ntmps54
  go_wp2_with fail
  refine Hth.out.mono ?_
  rintro e w' ⟨rfl, rfl⟩
  go_wp2_with fail
  go_end0
  exact ⟨rfl, Chg.refl _ _⟩
theorem no_Register (h : Gone w sv) (f : Int) : Calls Tryz.prog 53 #[sv, .int .i64 f] w (Quiet (.int .i64 1) w) := by
  have Hth := Go.Lib.hid (there_no h)
  have Hr := Go.Lib.hid (no_rider h f)
  have h0 := Go.Lib.hid h
  clear h
  go_enter Tryz.func53, Tryz.ntmps53
  go_wp2_with fail
  refine Hr.out.mono ?_
  rintro e w2 ⟨rfl, hc⟩
  have Hth2 := Go.Lib.hid (there_no (h0.out.quiet hc))
  have Hc := Go.Lib.hid hc
  clear hc
  go_wp2_with fail
  refine Hth2.out.mono ?_
  rintro e w3 ⟨rfl, rfl⟩
  go_wp2_with fail
  go_ret
  exact ⟨rfl, Hc.out⟩
theorem no_find (h : Gone w sv) (nm : ByteArray) : Calls Tryz.prog 102 #[sv, .string nm] w (Quiet (.tuple #[.pointer none, .int .i64 1]) w) := by
  have Hth := Go.Lib.hid (there_no h)
  have h0 := Go.Lib.hid h
  clear h
  go_enter Tryz.func102, Tryz.ntmps102
  go_wp2_with fail
  refine Hth.out.mono ?_
  rintro e w' ⟨rfl, rfl⟩
  go_wp2_with fail
  go_ret2
  exact ⟨rfl, Chg.refl _ _⟩
theorem no_Copy (h : Gone w sv)  : Calls Tryz.prog 10 #[sv] w (Quiet (.pointer none) w) := by
  have Hth := Go.Lib.hid (there_no h)
  have h0 := Go.Lib.hid h
  clear h
  go_enter Tryz.func10, Tryz.ntmps10
  go_wp2_with fail
  refine Hth.out.mono ?_
  rintro e w' ⟨rfl, rfl⟩
  go_wp2_with fail
  go_ret
  exact ⟨rfl, Chg.refl _ _⟩
theorem no_EOF (h : Gone w sv) (f : Int) : Calls Tryz.prog 46 #[sv, .int .i64 f] w (Quiet (.bool true) w) := by
  have Hth := Go.Lib.hid (there_no h)
  have Hr := Go.Lib.hid (no_rider h f)
  have h0 := Go.Lib.hid h
  clear h
  go_enter Tryz.func46, Tryz.ntmps46
  go_wp2_with fail
  refine Hr.out.mono ?_
  rintro e w2 ⟨rfl, hc⟩
  have Hc := Go.Lib.hid hc
  clear hc
  go_wp2_with fail
  go_quiet (fail)
  go_wp2_with fail
  go_ret
  exact ⟨rfl, Hc.out.drewN _⟩
theorem no_Length (h : Gone w sv) (f : Int) : Calls Tryz.prog 47 #[sv, .int .i64 f] w (Quiet (.int .i64 0) w) := by
  have Hth := Go.Lib.hid (there_no h)
  have Hr := Go.Lib.hid (no_rider h f)
  have h0 := Go.Lib.hid h
  clear h
  go_enter Tryz.func47, Tryz.ntmps47
  go_wp2_with fail
  refine Hr.out.mono ?_
  rintro e w2 ⟨rfl, hc⟩
  have Hc := Go.Lib.hid hc
  clear hc
  go_wp2_with fail
  go_ret
  exact ⟨rfl, Hc.out⟩
theorem no_Read (h : Gone w sv) (f : Int) : Calls Tryz.prog 48 #[sv, .int .i64 f] w (Quiet (.int .u8 0) w) := by
  have Hth := Go.Lib.hid (there_no h)
  have Hr := Go.Lib.hid (no_rider h f)
  have h0 := Go.Lib.hid h
  clear h
  go_enter Tryz.func48, Tryz.ntmps48
  go_wp2_with fail
  refine Hr.out.mono ?_
  rintro e w2 ⟨rfl, hc⟩
  have Hc := Go.Lib.hid hc
  clear hc
  go_wp2_with fail
  go_quiet (fail)
  go_wp2_with fail
  go_ret
  exact ⟨rfl, Hc.out.drewN _⟩
theorem no_Seek (h : Gone w sv) (f : Int) (n : Int) : Calls Tryz.prog 52 #[sv, .int .i64 f, .int .u32 n] w (Quiet (.tuple #[]) w) := by
  have Hth := Go.Lib.hid (there_no h)
  have Hr := Go.Lib.hid (no_rider h f)
  have h0 := Go.Lib.hid h
  clear h
  go_enter Tryz.func52, Tryz.ntmps52
  go_wp2_with fail
  refine Hr.out.mono ?_
  rintro e w2 ⟨rfl, hc⟩
  have Hc := Go.Lib.hid hc
  clear hc
  go_wp2_with fail
  go_end0
  exact ⟨rfl, Hc.out⟩
theorem no_put (h : Gone w sv) (f : Int) (b : Value) : Calls Tryz.prog 101 #[sv, .int .i64 f, b] w (Quiet (.int .i64 1) w) := by
  have Hth := Go.Lib.hid (there_no h)
  have Hr := Go.Lib.hid (no_rider h f)
  have h0 := Go.Lib.hid h
  clear h
  go_enter Tryz.func101, Tryz.ntmps101
  go_wp2_with fail
  refine Hr.out.mono ?_
  rintro e w2 ⟨rfl, hc⟩
  have Hth2 := Go.Lib.hid (there_no (h0.out.quiet hc))
  have Hc := Go.Lib.hid hc
  clear hc
  go_wp2_with fail
  refine Hth2.out.mono ?_
  rintro e w3 ⟨rfl, rfl⟩
  go_wp2_with fail
  go_ret
  exact ⟨rfl, Hc.out⟩
theorem no_Put (h : Gone w sv) (nm : ByteArray) (b : Value) : Calls Tryz.prog 79 #[sv, .string nm, b] w (Quiet (.int .i64 1) w) := by
  have Hth := Go.Lib.hid (there_no h)
  have h0 := Go.Lib.hid h
  clear h
  go_enter Tryz.func79, Tryz.ntmps79
  go_wp2_with fail
  refine Hth.out.mono ?_
  rintro e w' ⟨rfl, rfl⟩
  go_wp2_with fail
  go_ret
  exact ⟨rfl, Chg.refl _ _⟩
theorem no_Get (h : Gone w sv) (nm : ByteArray) : Calls Tryz.prog 107 #[sv, .string nm] w (Quiet (.tuple #[.slice none 0 0, .int .i64 1]) w) := by
  have Hth := Go.Lib.hid (there_no h)
  have Hf := Go.Lib.hid (no_find h nm)
  have h0 := Go.Lib.hid h
  clear h
  go_enter Tryz.func107, Tryz.ntmps107
  go_wp2_with fail
  refine Hf.out.mono ?_
  rintro e w2 ⟨rfl, hc⟩
  have Hc := Go.Lib.hid hc
  clear hc
  go_wp2_with fail
  go_ret2
  exact ⟨rfl, Hc.out⟩
theorem no_Drop (h : Gone w sv) (nm : ByteArray) : Calls Tryz.prog 58 #[sv, .string nm] w (Quiet (.int .i64 1) w) := by
  have Hth := Go.Lib.hid (there_no h)
  have Hf := Go.Lib.hid (no_find h nm)
  have h0 := Go.Lib.hid h
  clear h
  go_enter Tryz.func58, Tryz.ntmps58
  go_wp2_with fail
  refine Hf.out.mono ?_
  rintro e w2 ⟨rfl, hc⟩
  have Hc := Go.Lib.hid hc
  clear hc
  go_wp2_with fail
  go_ret
  exact ⟨rfl, Hc.out⟩
end
end Go.Proofs.YtggknljlibhkjaaGreat
