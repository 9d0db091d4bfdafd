/- What is proved: what the functions of a store do of a store that is not there. Conditions: as each theorem says. -/
import Derived.Test.YtggknljlibhkjaaStoreW
set_option linter.unusedSimpArgs false
set_option linter.unusedVariables false
namespace Go.Proofs.Ytggknljlibhkjaa
open Go.RowKit
/-- a store that is not there: no pointer, or one without files -/
def Gone (w : World) (sv : Value) : Prop := sv = .pointer none ∨ ∃ b, sv = ptr b ∧ Blk w b 59 #[.map none, .slice none 0 0, .int .i64 0]
section
variable {w w' : World} {sv : Value}
theorem Gone.nil (w : World) : Gone w (.pointer none) := .inl rfl
theorem Gone.chg {F : Nat → Prop} (h : Gone w sv) (hc : Chg F w w') (hF : ∀ b, sv = ptr b → ¬ F b) : Gone w' sv := by
  rcases h with rfl | ⟨b, rfl, hb⟩
  · exact .inl rfl
  · exact .inr ⟨b, rfl, hb.chg hc (hF b rfl)⟩
theorem Gone.quiet (h : Gone w sv) (hc : Chg NoB w w') : Gone w' sv := h.chg hc fun _ _ h => h
theorem there_no (h : Gone w sv) : Calls Try.prog 73 #[sv] w fun e w' => e = .returned (.bool false) ∧ w = w' := by
  have hm := neq_files
  rcases h with rfl | ⟨b, rfl, hb⟩
  · go_enter Try.func73, Try.ntmps73
    go_wp2
    go_ret
    exact ⟨rfl, rfl⟩
  · have h0 := hb.cell 0
    clear hb
    unfold ptr
    go_enter Try.func73, Try.ntmps73
    go_wp2
    go_ret
    exact ⟨rfl, rfl⟩
set_option maxHeartbeats 1000000
theorem no_rider (h : Gone w sv) (f : Int) : Calls Try.prog 77 #[sv, .int .i64 f] w (Quiet (.pointer none) w) := by
  have Hth := Go.Lib.hid (there_no h)
  have h0 := Go.Lib.hid h
  clear h
  go_enter Try.func77, Try.ntmps77
  go_wp2_with fail
  refine Hth.out.mono ?_
  rintro e w' ⟨rfl, rfl⟩
  go_wp2_with fail
  go_ret
  exact ⟨rfl, Chg.refl _ _⟩
theorem no_Room (h : Gone w sv)  : Calls Try.prog 90 #[sv] w (Quiet (.int .i64 0) w) := by
  have Hth := Go.Lib.hid (there_no h)
  have h0 := Go.Lib.hid h
  clear h
  go_enter Try.func90, Try.ntmps90
  go_wp2_with fail
  refine Hth.out.mono ?_
  rintro e w' ⟨rfl, rfl⟩
  go_wp2_with fail
  go_ret
  exact ⟨rfl, Chg.refl _ _⟩
theorem no_Old (h : Gone w sv) (nm : ByteArray) : Calls Try.prog 53 #[sv, .string nm] w (Quiet (.int .i64 0) w) := by
  have Hth := Go.Lib.hid (there_no h)
  have h0 := Go.Lib.hid h
  clear h
  go_enter Try.func53, Try.ntmps53
  go_wp2_with fail
  refine Hth.out.mono ?_
  rintro e w' ⟨rfl, rfl⟩
  go_wp2_with fail
  go_ret
  exact ⟨rfl, Chg.refl _ _⟩
theorem no_Fresh (h : Gone w sv) (nm : ByteArray) : Calls Try.prog 54 #[sv, .string nm] w (Quiet (.int .i64 0) w) := by
  have Hth := Go.Lib.hid (there_no h)
  have h0 := Go.Lib.hid h
  clear h
  go_enter Try.func54, Try.ntmps54
  go_wp2_with fail
  refine Hth.out.mono ?_
  rintro e w' ⟨rfl, rfl⟩
  go_wp2_with fail
  go_ret
  exact ⟨rfl, Chg.refl _ _⟩
theorem no_Delete (h : Gone w sv) (nm : ByteArray) : Calls Try.prog 65 #[sv, .string nm] w (Quiet (.tuple #[]) w) := by
  have Hth := Go.Lib.hid (there_no h)
  have h0 := Go.Lib.hid h
  clear h
  go_enter Try.func65, Try.ntmps65
  go_wp2_with fail
  refine Hth.out.mono ?_
  rintro e w' ⟨rfl, rfl⟩
  go_wp2_with fail
  go_end0
  exact ⟨rfl, Chg.refl _ _⟩
theorem no_Register (h : Gone w sv) (f : Int) : Calls Try.prog 64 #[sv, .int .i64 f] w (Quiet (.int .i64 1) w) := by
  have Hth := Go.Lib.hid (there_no h)
  have Hr := Go.Lib.hid (no_rider h f)
  have h0 := Go.Lib.hid h
  clear h
  go_enter Try.func64, Try.ntmps64
  go_wp2_with fail
  refine Hr.out.mono ?_
  rintro e w2 ⟨rfl, hc⟩
  have Hth2 := Go.Lib.hid (there_no (h0.out.quiet hc))
  have Hc := Go.Lib.hid hc
  clear hc
  go_wp2_with fail
  refine Hth2.out.mono ?_
  rintro e w3 ⟨rfl, rfl⟩
  go_wp2_with fail
  go_ret
  exact ⟨rfl, Hc.out⟩
theorem no_find (h : Gone w sv) (nm : ByteArray) : Calls Try.prog 51 #[sv, .string nm] w (Quiet (.tuple #[.pointer none, .int .i64 1]) w) := by
  have Hth := Go.Lib.hid (there_no h)
  have h0 := Go.Lib.hid h
  clear h
  go_enter Try.func51, Try.ntmps51
  go_wp2_with fail
  refine Hth.out.mono ?_
  rintro e w' ⟨rfl, rfl⟩
  go_wp2_with fail
  go_ret2
  exact ⟨rfl, Chg.refl _ _⟩
theorem no_Copy (h : Gone w sv)  : Calls Try.prog 48 #[sv] w (Quiet (.pointer none) w) := by
  have Hth := Go.Lib.hid (there_no h)
  have h0 := Go.Lib.hid h
  clear h
  go_enter Try.func48, Try.ntmps48
  go_wp2_with fail
  refine Hth.out.mono ?_
  rintro e w' ⟨rfl, rfl⟩
  go_wp2_with fail
  go_ret
  exact ⟨rfl, Chg.refl _ _⟩
theorem no_EOF (h : Gone w sv) (f : Int) : Calls Try.prog 55 #[sv, .int .i64 f] w (Quiet (.bool true) w) := by
  have Hth := Go.Lib.hid (there_no h)
  have Hr := Go.Lib.hid (no_rider h f)
  have h0 := Go.Lib.hid h
  clear h
  go_enter Try.func55, Try.ntmps55
  go_wp2_with fail
  refine Hr.out.mono ?_
  rintro e w2 ⟨rfl, hc⟩
  have Hc := Go.Lib.hid hc
  clear hc
  go_wp2_with fail
  go_quiet (fail)
  go_wp2_with fail
  go_ret
  exact ⟨rfl, Hc.out.drewN _⟩
theorem no_Length (h : Gone w sv) (f : Int) : Calls Try.prog 57 #[sv, .int .i64 f] w (Quiet (.int .i64 0) w) := by
  have Hth := Go.Lib.hid (there_no h)
  have Hr := Go.Lib.hid (no_rider h f)
  have h0 := Go.Lib.hid h
  clear h
  go_enter Try.func57, Try.ntmps57
  go_wp2_with fail
  refine Hr.out.mono ?_
  rintro e w2 ⟨rfl, hc⟩
  have Hc := Go.Lib.hid hc
  clear hc
  go_wp2_with fail
  go_ret
  exact ⟨rfl, Hc.out⟩
theorem no_Read (h : Gone w sv) (f : Int) : Calls Try.prog 58 #[sv, .int .i64 f] w (Quiet (.int .u8 0) w) := by
  have Hth := Go.Lib.hid (there_no h)
  have Hr := Go.Lib.hid (no_rider h f)
  have h0 := Go.Lib.hid h
  clear h
  go_enter Try.func58, Try.ntmps58
  go_wp2_with fail
  refine Hr.out.mono ?_
  rintro e w2 ⟨rfl, hc⟩
  have Hc := Go.Lib.hid hc
  clear hc
  go_wp2_with fail
  go_quiet (fail)
  go_wp2_with fail
  go_ret
  exact ⟨rfl, Hc.out.drewN _⟩
theorem no_Seek (h : Gone w sv) (f : Int) (n : Int) : Calls Try.prog 63 #[sv, .int .i64 f, .int .u32 n] w (Quiet (.tuple #[]) w) := by
  have Hth := Go.Lib.hid (there_no h)
  have Hr := Go.Lib.hid (no_rider h f)
  have h0 := Go.Lib.hid h
  clear h
  go_enter Try.func63, Try.ntmps63
  go_wp2_with fail
  refine Hr.out.mono ?_
  rintro e w2 ⟨rfl, hc⟩
  have Hc := Go.Lib.hid hc
  clear hc
  go_wp2_with fail
  go_end0
  exact ⟨rfl, Hc.out⟩
theorem no_put (h : Gone w sv) (f : Int) (b : Value) : Calls Try.prog 78 #[sv, .int .i64 f, b] w (Quiet (.int .i64 1) w) := by
  have Hth := Go.Lib.hid (there_no h)
  have Hr := Go.Lib.hid (no_rider h f)
  have h0 := Go.Lib.hid h
  clear h
  go_enter Try.func78, Try.ntmps78
  go_wp2_with fail
  refine Hr.out.mono ?_
  rintro e w2 ⟨rfl, hc⟩
  have Hth2 := Go.Lib.hid (there_no (h0.out.quiet hc))
  have Hc := Go.Lib.hid hc
  clear hc
  go_wp2_with fail
  refine Hth2.out.mono ?_
  rintro e w3 ⟨rfl, rfl⟩
  go_wp2_with fail
  go_ret
  exact ⟨rfl, Hc.out⟩
theorem no_Drop (h : Gone w sv) (nm : ByteArray) : Calls Try.prog 23 #[sv, .string nm] w (Quiet (.int .i64 1) w) := by
  have Hth := Go.Lib.hid (there_no h)
  have Hf := Go.Lib.hid (no_find h nm)
  have h0 := Go.Lib.hid h
  clear h
  go_enter Try.func23, Try.ntmps23
  go_wp2_with fail
  refine Hf.out.mono ?_
  rintro e w2 ⟨rfl, hc⟩
  have Hc := Go.Lib.hid hc
  clear hc
  go_wp2_with fail
  go_ret
  exact ⟨rfl, Hc.out⟩
end
end Go.Proofs.Ytggknljlibhkjaa
