/- What is proved: what the functions of a store do of a store that is not there. Conditions: as each theorem says. -/
import Derived.Test.YteleglkoagnmcaaStoreW
set_option linter.unusedSimpArgs false
set_option linter.unusedVariables false
namespace Go.Proofs.Yteleglkoagnmcaa
open Go.RowKit
/-- a store that is not there: no pointer, or one without files -/
def Gone (w : World) (sv : Value) : Prop := sv = .pointer none ∨ ∃ b, sv = ptr b ∧ Blk w b 67 #[.map none, .slice none 0 0, .int .i64 0]
section
variable {w w' : World} {sv : Value}
theorem Gone.nil (w : World) : Gone w (.pointer none) := .inl rfl
theorem Gone.chg {F : Nat → Prop} (h : Gone w sv) (hc : Chg F w w') (hF : ∀ b, sv = ptr b → ¬ F b) : Gone w' sv := by
  rcases h with rfl | ⟨b, rfl, hb⟩
  · exact .inl rfl
  · exact .inr ⟨b, rfl, hb.chg hc (hF b rfl)⟩
theorem Gone.quiet (h : Gone w sv) (hc : Chg NoB w w') : Gone w' sv := h.chg hc fun _ _ h => h
theorem there_no (h : Gone w sv) : Calls Try.prog 39 #[sv] w fun e w' => e = .returned (.bool false) ∧ w = w' := by
  have hm := neq_files
  rcases h with rfl | ⟨b, rfl, hb⟩
  · go_enter Try.func39, Try.ntmps39
    go_wp2
    go_ret
    exact ⟨rfl, rfl⟩
  · have h0 := hb.cell 0
    clear hb
    unfold ptr
    go_enter Try.func39, Try.ntmps39
    go_wp2
    go_ret
    exact ⟨rfl, rfl⟩
set_option maxHeartbeats 1000000
theorem no_Room (h : Gone w sv)  : Calls Try.prog 41 #[sv] w (Quiet (.int .i64 0) w) := by
  have Hth := Go.Lib.hid (there_no h)
  have h0 := Go.Lib.hid h
  clear h
  go_enter Try.func41, Try.ntmps41
  go_wp2_with fail
  refine Hth.out.mono ?_
  rintro e w' ⟨rfl, rfl⟩
  go_wp2_with fail
  go_ret
  exact ⟨rfl, Chg.refl _ _⟩
theorem no_find (h : Gone w sv) (nm : ByteArray) : Calls Try.prog 66 #[sv, .string nm] w (Quiet (.tuple #[.pointer none, .int .i64 1]) w) := by
  have Hth := Go.Lib.hid (there_no h)
  have h0 := Go.Lib.hid h
  clear h
  go_enter Try.func66, Try.ntmps66
  go_wp2_with fail
  refine Hth.out.mono ?_
  rintro e w' ⟨rfl, rfl⟩
  go_wp2_with fail
  go_ret2
  exact ⟨rfl, Chg.refl _ _⟩
theorem no_Put (h : Gone w sv) (nm : ByteArray) (b : Value) : Calls Try.prog 22 #[sv, .string nm, b] w (Quiet (.int .i64 1) w) := by
  have Hth := Go.Lib.hid (there_no h)
  have h0 := Go.Lib.hid h
  clear h
  go_enter Try.func22, Try.ntmps22
  go_wp2_with fail
  refine Hth.out.mono ?_
  rintro e w' ⟨rfl, rfl⟩
  go_wp2_with fail
  go_ret
  exact ⟨rfl, Chg.refl _ _⟩
theorem no_Get (h : Gone w sv) (nm : ByteArray) : Calls Try.prog 35 #[sv, .string nm] w (Quiet (.tuple #[.slice none 0 0, .int .i64 1]) w) := by
  have Hth := Go.Lib.hid (there_no h)
  have Hf := Go.Lib.hid (no_find h nm)
  have h0 := Go.Lib.hid h
  clear h
  go_enter Try.func35, Try.ntmps35
  go_wp2_with fail
  refine Hf.out.mono ?_
  rintro e w2 ⟨rfl, hc⟩
  have Hc := Go.Lib.hid hc
  clear hc
  go_wp2_with fail
  go_ret2
  exact ⟨rfl, Hc.out⟩
theorem no_Drop (h : Gone w sv) (nm : ByteArray) : Calls Try.prog 33 #[sv, .string nm] w (Quiet (.int .i64 1) w) := by
  have Hth := Go.Lib.hid (there_no h)
  have Hf := Go.Lib.hid (no_find h nm)
  have h0 := Go.Lib.hid h
  clear h
  go_enter Try.func33, Try.ntmps33
  go_wp2_with fail
  refine Hf.out.mono ?_
  rintro e w2 ⟨rfl, hc⟩
  have Hc := Go.Lib.hid hc
  clear hc
  go_wp2_with fail
  go_ret
  exact ⟨rfl, Hc.out⟩
end
end Go.Proofs.Yteleglkoagnmcaa
