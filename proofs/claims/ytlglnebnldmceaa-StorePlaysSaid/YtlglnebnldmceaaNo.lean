/- What is proved: what the functions of a store do of a store that is not there. Conditions: as each theorem says. -/
import Derived.Test.YtlglnebnldmceaaStoreW
set_option linter.unusedSimpArgs false
set_option linter.unusedVariables false
namespace Go.Proofs.Ytlglnebnldmceaa
open Go.RowKit
/-- a store that is not there: no pointer, or one without files -/
def Gone (w : World) (sv : Value) : Prop := sv = .pointer none ∨ ∃ b, sv = ptr b ∧ Blk w b 53 #[.map none, .slice none 0 0, .int .i64 0]
section
variable {w w' : World} {sv : Value}
theorem Gone.nil (w : World) : Gone w (.pointer none) := .inl rfl
theorem Gone.chg {F : Nat → Prop} (h : Gone w sv) (hc : Chg F w w') (hF : ∀ b, sv = ptr b → ¬ F b) : Gone w' sv := by
  rcases h with rfl | ⟨b, rfl, hb⟩
  · exact .inl rfl
  · exact .inr ⟨b, rfl, hb.chg hc (hF b rfl)⟩
theorem Gone.quiet (h : Gone w sv) (hc : Chg NoB w w') : Gone w' sv := h.chg hc fun _ _ h => h
theorem there_no (h : Gone w sv) : Calls Try.prog 37 #[sv] w fun e w' => e = .returned (.bool false) ∧ w = w' := by
  have hm := neq_files
  rcases h with rfl | ⟨b, rfl, hb⟩
  · go_enter Try.func37, Try.ntmps37
    go_wp2
    go_ret
    exact ⟨rfl, rfl⟩
  · have h0 := hb.cell 0
    clear hb
    unfold ptr
    go_enter Try.func37, Try.ntmps37
    go_wp2
    go_ret
    exact ⟨rfl, rfl⟩
set_option maxHeartbeats 1000000
theorem no_rider (h : Gone w sv) (f : Int) : Calls Try.prog 59 #[sv, .int .i64 f] w (Quiet (.pointer none) w) := by
  have Hth := Go.Lib.hid (there_no h)
  have h0 := Go.Lib.hid h
  clear h
  go_enter Try.func59, Try.ntmps59
  go_wp2_with fail
  refine Hth.out.mono ?_
  rintro e w' ⟨rfl, rfl⟩
  go_wp2_with fail
  go_ret
  exact ⟨rfl, Chg.refl _ _⟩
theorem no_Room (h : Gone w sv)  : Calls Try.prog 32 #[sv] w (Quiet (.int .i64 0) w) := by
  have Hth := Go.Lib.hid (there_no h)
  have h0 := Go.Lib.hid h
  clear h
  go_enter Try.func32, Try.ntmps32
  go_wp2_with fail
  refine Hth.out.mono ?_
  rintro e w' ⟨rfl, rfl⟩
  go_wp2_with fail
  go_ret
  exact ⟨rfl, Chg.refl _ _⟩
theorem no_Riders (h : Gone w sv)  : Calls Try.prog 31 #[sv] w (Quiet (.int .i64 0) w) := by
  have Hth := Go.Lib.hid (there_no h)
  have h0 := Go.Lib.hid h
  clear h
  go_enter Try.func31, Try.ntmps31
  go_wp2_with fail
  refine Hth.out.mono ?_
  rintro e w' ⟨rfl, rfl⟩
  go_wp2_with fail
  go_ret
  exact ⟨rfl, Chg.refl _ _⟩
theorem no_Old (h : Gone w sv) (nm : ByteArray) : Calls Try.prog 17 #[sv, .string nm] w (Quiet (.int .i64 0) w) := by
  have Hth := Go.Lib.hid (there_no h)
  have h0 := Go.Lib.hid h
  clear h
  go_enter Try.func17, Try.ntmps17
  go_wp2_with fail
  refine Hth.out.mono ?_
  rintro e w' ⟨rfl, rfl⟩
  go_wp2_with fail
  go_ret
  exact ⟨rfl, Chg.refl _ _⟩
theorem no_Fresh (h : Gone w sv) (nm : ByteArray) : Calls Try.prog 15 #[sv, .string nm] w (Quiet (.int .i64 0) w) := by
  have Hth := Go.Lib.hid (there_no h)
  have h0 := Go.Lib.hid h
  clear h
  go_enter Try.func15, Try.ntmps15
  go_wp2_with fail
  refine Hth.out.mono ?_
  rintro e w' ⟨rfl, rfl⟩
  go_wp2_with fail
  go_ret
  exact ⟨rfl, Chg.refl _ _⟩
theorem no_Delete (h : Gone w sv) (nm : ByteArray) : Calls Try.prog 41 #[sv, .string nm] w (Quiet (.tuple #[]) w) := by
  have Hth := Go.Lib.hid (there_no h)
  have h0 := Go.Lib.hid h
  clear h
  go_enter Try.func41, Try.ntmps41
  go_wp2_with fail
  refine Hth.out.mono ?_
  rintro e w' ⟨rfl, rfl⟩
  go_wp2_with fail
  go_end0
  exact ⟨rfl, Chg.refl _ _⟩
theorem no_Register (h : Gone w sv) (f : Int) : Calls Try.prog 18 #[sv, .int .i64 f] w (Quiet (.int .i64 1) w) := by
  have Hth := Go.Lib.hid (there_no h)
  have Hr := Go.Lib.hid (no_rider h f)
  have h0 := Go.Lib.hid h
  clear h
  go_enter Try.func18, Try.ntmps18
  go_wp2_with fail
  refine Hr.out.mono ?_
  rintro e w2 ⟨rfl, hc⟩
  have Hth2 := Go.Lib.hid (there_no (h0.out.quiet hc))
  have Hc := Go.Lib.hid hc
  clear hc
  go_wp2_with fail
  refine Hth2.out.mono ?_
  rintro e w3 ⟨rfl, rfl⟩
  go_wp2_with fail
  go_ret
  exact ⟨rfl, Hc.out⟩
theorem no_find (h : Gone w sv) (nm : ByteArray) : Calls Try.prog 61 #[sv, .string nm] w (Quiet (.tuple #[.pointer none, .int .i64 1]) w) := by
  have Hth := Go.Lib.hid (there_no h)
  have h0 := Go.Lib.hid h
  clear h
  go_enter Try.func61, Try.ntmps61
  go_wp2_with fail
  refine Hth.out.mono ?_
  rintro e w' ⟨rfl, rfl⟩
  go_wp2_with fail
  go_ret2
  exact ⟨rfl, Chg.refl _ _⟩
theorem no_Copy (h : Gone w sv)  : Calls Try.prog 9 #[sv] w (Quiet (.pointer none) w) := by
  have Hth := Go.Lib.hid (there_no h)
  have h0 := Go.Lib.hid h
  clear h
  go_enter Try.func9, Try.ntmps9
  go_wp2_with fail
  refine Hth.out.mono ?_
  rintro e w' ⟨rfl, rfl⟩
  go_wp2_with fail
  go_ret
  exact ⟨rfl, Chg.refl _ _⟩
theorem no_EOF (h : Gone w sv) (f : Int) : Calls Try.prog 20 #[sv, .int .i64 f] w (Quiet (.bool true) w) := by
  have Hth := Go.Lib.hid (there_no h)
  have Hr := Go.Lib.hid (no_rider h f)
  have h0 := Go.Lib.hid h
  clear h
  go_enter Try.func20, Try.ntmps20
  go_wp2_with fail
  refine Hr.out.mono ?_
  rintro e w2 ⟨rfl, hc⟩
  have Hc := Go.Lib.hid hc
  clear hc
  go_wp2_with fail
  go_quiet (fail)
  go_wp2_with fail
  go_ret
  exact ⟨rfl, Hc.out.drewN _⟩
theorem no_Length (h : Gone w sv) (f : Int) : Calls Try.prog 22 #[sv, .int .i64 f] w (Quiet (.int .i64 0) w) := by
  have Hth := Go.Lib.hid (there_no h)
  have Hr := Go.Lib.hid (no_rider h f)
  have h0 := Go.Lib.hid h
  clear h
  go_enter Try.func22, Try.ntmps22
  go_wp2_with fail
  refine Hr.out.mono ?_
  rintro e w2 ⟨rfl, hc⟩
  have Hc := Go.Lib.hid hc
  clear hc
  go_wp2_with fail
  go_ret
  exact ⟨rfl, Hc.out⟩
theorem no_At (h : Gone w sv) (f : Int) : Calls Try.prog 29 #[sv, .int .i64 f] w (Quiet (.int .i64 0) w) := by
  have Hth := Go.Lib.hid (there_no h)
  have Hr := Go.Lib.hid (no_rider h f)
  have h0 := Go.Lib.hid h
  clear h
  go_enter Try.func29, Try.ntmps29
  go_wp2_with fail
  refine Hr.out.mono ?_
  rintro e w2 ⟨rfl, hc⟩
  have Hc := Go.Lib.hid hc
  clear hc
  go_wp2_with fail
  go_ret
  exact ⟨rfl, Hc.out⟩
theorem no_Read (h : Gone w sv) (f : Int) : Calls Try.prog 19 #[sv, .int .i64 f] w (Quiet (.int .u8 0) w) := by
  have Hth := Go.Lib.hid (there_no h)
  have Hr := Go.Lib.hid (no_rider h f)
  have h0 := Go.Lib.hid h
  clear h
  go_enter Try.func19, Try.ntmps19
  go_wp2_with fail
  refine Hr.out.mono ?_
  rintro e w2 ⟨rfl, hc⟩
  have Hc := Go.Lib.hid hc
  clear hc
  go_wp2_with fail
  go_quiet (fail)
  go_wp2_with fail
  go_ret
  exact ⟨rfl, Hc.out.drewN _⟩
theorem no_Seek (h : Gone w sv) (f : Int) (n : Int) : Calls Try.prog 23 #[sv, .int .i64 f, .int .u32 n] w (Quiet (.tuple #[]) w) := by
  have Hth := Go.Lib.hid (there_no h)
  have Hr := Go.Lib.hid (no_rider h f)
  have h0 := Go.Lib.hid h
  clear h
  go_enter Try.func23, Try.ntmps23
  go_wp2_with fail
  refine Hr.out.mono ?_
  rintro e w2 ⟨rfl, hc⟩
  have Hc := Go.Lib.hid hc
  clear hc
  go_wp2_with fail
  go_end0
  exact ⟨rfl, Hc.out⟩
theorem no_put (h : Gone w sv) (f : Int) (b : Value) : Calls Try.prog 58 #[sv, .int .i64 f, b] w (Quiet (.int .i64 1) w) := by
  have Hth := Go.Lib.hid (there_no h)
  have Hr := Go.Lib.hid (no_rider h f)
  have h0 := Go.Lib.hid h
  clear h
  go_enter Try.func58, Try.ntmps58
  go_wp2_with fail
  refine Hr.out.mono ?_
  rintro e w2 ⟨rfl, hc⟩
  have Hth2 := Go.Lib.hid (there_no (h0.out.quiet hc))
  have Hc := Go.Lib.hid hc
  clear hc
  go_wp2_with fail
  refine Hth2.out.mono ?_
  rintro e w3 ⟨rfl, rfl⟩
  go_wp2_with fail
  go_ret
  exact ⟨rfl, Hc.out⟩
theorem no_Put (h : Gone w sv) (nm : ByteArray) (b : Value) : Calls Try.prog 24 #[sv, .string nm, b] w (Quiet (.int .i64 1) w) := by
  have Hth := Go.Lib.hid (there_no h)
  have h0 := Go.Lib.hid h
  clear h
  go_enter Try.func24, Try.ntmps24
  go_wp2_with fail
  refine Hth.out.mono ?_
  rintro e w' ⟨rfl, rfl⟩
  go_wp2_with fail
  go_ret
  exact ⟨rfl, Chg.refl _ _⟩
theorem no_Get (h : Gone w sv) (nm : ByteArray) : Calls Try.prog 25 #[sv, .string nm] w (Quiet (.tuple #[.slice none 0 0, .int .i64 1]) w) := by
  have Hth := Go.Lib.hid (there_no h)
  have Hf := Go.Lib.hid (no_find h nm)
  have h0 := Go.Lib.hid h
  clear h
  go_enter Try.func25, Try.ntmps25
  go_wp2_with fail
  refine Hf.out.mono ?_
  rintro e w2 ⟨rfl, hc⟩
  have Hc := Go.Lib.hid hc
  clear hc
  go_wp2_with fail
  go_ret2
  exact ⟨rfl, Hc.out⟩
theorem no_Drop (h : Gone w sv) (nm : ByteArray) : Calls Try.prog 42 #[sv, .string nm] w (Quiet (.int .i64 1) w) := by
  have Hth := Go.Lib.hid (there_no h)
  have Hf := Go.Lib.hid (no_find h nm)
  have h0 := Go.Lib.hid h
  clear h
  go_enter Try.func42, Try.ntmps42
  go_wp2_with fail
  refine Hf.out.mono ?_
  rintro e w2 ⟨rfl, hc⟩
  have Hc := Go.Lib.hid hc
  clear hc
  go_wp2_with fail
  go_ret
  exact ⟨rfl, Hc.out⟩
end
end Go.Proofs.Ytlglnebnldmceaa
