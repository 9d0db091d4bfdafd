/- What is proved: what the functions of a store do of a store that is not there. Conditions: as each theorem says. -/
import Derived.Test.YtndblfmdlckiaaaGreatStoreW
namespace Go.Proofs.YtndblfmdlckiaaaGreat
open Go.RowKit
/-- a store that is not there: no pointer, or one without files -/
def Gone (w : World) (sv : Value) : Prop := sv = .pointer none ∨ ∃ b, sv = ptr b ∧ Blk w b 39 #[.map none, .slice none 0 0, .int .i64 0]
section
variable {w w' : World} {sv : Value}
theorem Gone.nil (w : World) : Gone w (.pointer none) := .inl rfl
theorem Gone.chg {F : Nat → Prop} (h : Gone w sv) (hc : Chg F w w') (hF : ∀ b, sv = ptr b → ¬ F b) : Gone w' sv := by
  rcases h with rfl | ⟨b, rfl, hb⟩
  · exact .inl rfl
  · exact .inr ⟨b, rfl, hb.chg hc (hF b rfl)⟩
theorem Gone.quiet (h : Gone w sv) (hc : Chg NoB w w') : Gone w' sv := h.chg hc fun _ _ h => h
theorem there_no (h : Gone w sv) : Calls Tryz.prog 18 #[sv] w fun e w' => e = .returned (.bool false) ∧ w = w' := by
  have hm := neq_files
  rcases h with rfl | ⟨b, rfl, hb⟩
  · go_enter Tryz.func18, Tryz.ntmps18
    go_wp2
    go_ret
    exact ⟨rfl, rfl⟩
  · have h0 := hb.cell 0
    clear hb
    unfold ptr
    go_enter Tryz.func18, Tryz.ntmps18
    go_wp2
    go_ret
    exact ⟨rfl, rfl⟩
set_option maxHeartbeats 1000000
theorem no_rider (h : Gone w sv) (f : Int) : Calls Tryz.prog 115 #[sv, .int .i64 f] w (Quiet (.pointer none) w) := by
  have Hth := Go.Lib.hid (there_no h)
  have h0 := Go.Lib.hid h
  clear h
  go_enter Tryz.func115, Tryz.ntmps115
  go_wp2_with fail
  refine Hth.out.mono ?_
  rintro e w' ⟨rfl, rfl⟩
  go_wp2_with fail
  go_ret
  exact ⟨rfl, Chg.refl _ _⟩
theorem no_Room (h : Gone w sv)  : Calls Tryz.prog 42 #[sv] w (Quiet (.int .i64 0) w) := by
  have Hth := Go.Lib.hid (there_no h)
  have h0 := Go.Lib.hid h
  clear h
  go_enter Tryz.func42, Tryz.ntmps42
  go_wp2_with fail
  refine Hth.out.mono ?_
  rintro e w' ⟨rfl, rfl⟩
  go_wp2_with fail
  go_ret
  exact ⟨rfl, Chg.refl _ _⟩
theorem no_Old (h : Gone w sv) (nm : ByteArray) : Calls Tryz.prog 64 #[sv, .string nm] w (Quiet (.int .i64 0) w) := by
  have Hth := Go.Lib.hid (there_no h)
  have h0 := Go.Lib.hid h
  clear h
  go_enter Tryz.func64, Tryz.ntmps64
  go_wp2_with fail
  refine Hth.out.mono ?_
  rintro e w' ⟨rfl, rfl⟩
  go_wp2_with fail
  go_ret
  exact ⟨rfl, Chg.refl _ _⟩
theorem no_Fresh (h : Gone w sv) (nm : ByteArray) : Calls Tryz.prog 65 #[sv, .string nm] w (Quiet (.int .i64 0) w) := by
  have Hth := Go.Lib.hid (there_no h)
  have h0 := Go.Lib.hid h
  clear h
  go_enter Tryz.func65, Tryz.ntmps65
  go_wp2_with fail
  refine Hth.out.mono ?_
  rintro e w' ⟨rfl, rfl⟩
  go_wp2_with fail
  go_ret
  exact ⟨rfl, Chg.refl _ _⟩
theorem no_Delete (h : Gone w sv) (nm : ByteArray) : Calls Tryz.prog 76 #[sv, .string nm] w (Quiet (.tuple #[]) w) := by
  have Hth := Go.Lib.hid (there_no h)
  have h0 := Go.Lib.hid h
  clear h
  go_enter Tryz.func76, Tryz.ntmps76
  go_wp2_with fail
  refine Hth.out.mono ?_
  rintro e w' ⟨rfl, rfl⟩
  go_wp2_with fail
  go_end0
  exact ⟨rfl, Chg.refl _ _⟩
theorem no_Register (h : Gone w sv) (f : Int) : Calls Tryz.prog 75 #[sv, .int .i64 f] w (Quiet (.int .i64 1) w) := by
  have Hth := Go.Lib.hid (there_no h)
  have Hr := Go.Lib.hid (no_rider h f)
  have h0 := Go.Lib.hid h
  clear h
  go_enter Tryz.func75, Tryz.ntmps75
  go_wp2_with fail
  refine Hr.out.mono ?_
  rintro e w2 ⟨rfl, hc⟩
  have Hth2 := Go.Lib.hid (there_no (h0.out.quiet hc))
  have Hc := Go.Lib.hid hc
  clear hc
  go_wp2_with fail
  refine Hth2.out.mono ?_
  rintro e w3 ⟨rfl, rfl⟩
  go_wp2_with fail
  go_ret
  exact ⟨rfl, Hc.out⟩
theorem no_find (h : Gone w sv) (nm : ByteArray) : Calls Tryz.prog 53 #[sv, .string nm] w (Quiet (.tuple #[.pointer none, .int .i64 1]) w) := by
  have Hth := Go.Lib.hid (there_no h)
  have h0 := Go.Lib.hid h
  clear h
  go_enter Tryz.func53, Tryz.ntmps53
  go_wp2_with fail
  refine Hth.out.mono ?_
  rintro e w' ⟨rfl, rfl⟩
  go_wp2_with fail
  go_ret2
  exact ⟨rfl, Chg.refl _ _⟩
theorem no_Copy (h : Gone w sv)  : Calls Tryz.prog 8 #[sv] w (Quiet (.pointer none) w) := by
  have Hth := Go.Lib.hid (there_no h)
  have h0 := Go.Lib.hid h
  clear h
  go_enter Tryz.func8, Tryz.ntmps8
  go_wp2_with fail
  refine Hth.out.mono ?_
  rintro e w' ⟨rfl, rfl⟩
  go_wp2_with fail
  go_ret
  exact ⟨rfl, Chg.refl _ _⟩
theorem no_EOF (h : Gone w sv) (f : Int) : Calls Tryz.prog 66 #[sv, .int .i64 f] w (Quiet (.bool true) w) := by
  have Hth := Go.Lib.hid (there_no h)
  have Hr := Go.Lib.hid (no_rider h f)
  have h0 := Go.Lib.hid h
  clear h
  go_enter Tryz.func66, Tryz.ntmps66
  go_wp2_with fail
  refine Hr.out.mono ?_
  rintro e w2 ⟨rfl, hc⟩
  have Hc := Go.Lib.hid hc
  clear hc
  go_wp2_with fail
  go_quiet (fail)
  go_wp2_with fail
  go_ret
  exact ⟨rfl, Hc.out.drewN _⟩
theorem no_Length (h : Gone w sv) (f : Int) : Calls Tryz.prog 68 #[sv, .int .i64 f] w (Quiet (.int .i64 0) w) := by
  have Hth := Go.Lib.hid (there_no h)
  have Hr := Go.Lib.hid (no_rider h f)
  have h0 := Go.Lib.hid h
  clear h
  go_enter Tryz.func68, Tryz.ntmps68
  go_wp2_with fail
  refine Hr.out.mono ?_
  rintro e w2 ⟨rfl, hc⟩
  have Hc := Go.Lib.hid hc
  clear hc
  go_wp2_with fail
  go_ret
  exact ⟨rfl, Hc.out⟩
theorem no_Read (h : Gone w sv) (f : Int) : Calls Tryz.prog 69 #[sv, .int .i64 f] w (Quiet (.int .u8 0) w) := by
  have Hth := Go.Lib.hid (there_no h)
  have Hr := Go.Lib.hid (no_rider h f)
  have h0 := Go.Lib.hid h
  clear h
  go_enter Tryz.func69, Tryz.ntmps69
  go_wp2_with fail
  refine Hr.out.mono ?_
  rintro e w2 ⟨rfl, hc⟩
  have Hc := Go.Lib.hid hc
  clear hc
  go_wp2_with fail
  go_quiet (fail)
  go_wp2_with fail
  go_ret
  exact ⟨rfl, Hc.out.drewN _⟩
theorem no_Seek (h : Gone w sv) (f : Int) (n : Int) : Calls Tryz.prog 74 #[sv, .int .i64 f, .int .u32 n] w (Quiet (.tuple #[]) w) := by
  have Hth := Go.Lib.hid (there_no h)
  have Hr := Go.Lib.hid (no_rider h f)
  have h0 := Go.Lib.hid h
  clear h
  go_enter Tryz.func74, Tryz.ntmps74
  go_wp2_with fail
  refine Hr.out.mono ?_
  rintro e w2 ⟨rfl, hc⟩
  have Hc := Go.Lib.hid hc
  clear hc
  go_wp2_with fail
  go_end0
  exact ⟨rfl, Hc.out⟩
theorem no_put (h : Gone w sv) (f : Int) (b : Value) : Calls Tryz.prog 116 #[sv, .int .i64 f, b] w (Quiet (.int .i64 1) w) := by
  have Hth := Go.Lib.hid (there_no h)
  have Hr := Go.Lib.hid (no_rider h f)
  have h0 := Go.Lib.hid h
  clear h
  go_enter Tryz.func116, Tryz.ntmps116
  go_wp2_with fail
  refine Hr.out.mono ?_
  rintro e w2 ⟨rfl, hc⟩
  have Hth2 := Go.Lib.hid (there_no (h0.out.quiet hc))
  have Hc := Go.Lib.hid hc
  clear hc
  go_wp2_with fail
  refine Hth2.out.mono ?_
  rintro e w3 ⟨rfl, rfl⟩
  go_wp2_with fail
  go_ret
  exact ⟨rfl, Hc.out⟩
theorem no_Put (h : Gone w sv) (nm : ByteArray) (b : Value) : Calls Tryz.prog 12 #[sv, .string nm, b] w (Quiet (.int .i64 1) w) := by
  have Hth := Go.Lib.hid (there_no h)
  have h0 := Go.Lib.hid h
  clear h
  go_enter Tryz.func12, Tryz.ntmps12
  go_wp2_with fail
  refine Hth.out.mono ?_
  rintro e w' ⟨rfl, rfl⟩
  go_wp2_with fail
  go_ret
  exact ⟨rfl, Chg.refl _ _⟩
theorem no_Get (h : Gone w sv) (nm : ByteArray) : Calls Tryz.prog 17 #[sv, .string nm] w (Quiet (.tuple #[.slice none 0 0, .int .i64 1]) w) := by
  have Hth := Go.Lib.hid (there_no h)
  have Hf := Go.Lib.hid (no_find h nm)
  have h0 := Go.Lib.hid h
  clear h
  go_enter Tryz.func17, Tryz.ntmps17
  go_wp2_with fail
  refine Hf.out.mono ?_
  rintro e w2 ⟨rfl, hc⟩
  have Hc := Go.Lib.hid hc
  clear hc
  go_wp2_with fail
  go_ret2
  exact ⟨rfl, Hc.out⟩
theorem no_Drop (h : Gone w sv) (nm : ByteArray) : Calls Tryz.prog 16 #[sv, .string nm] w (Quiet (.int .i64 1) w) := by
  have Hth := Go.Lib.hid (there_no h)
  have Hf := Go.Lib.hid (no_find h nm)
  have h0 := Go.Lib.hid h
  clear h
  go_enter Tryz.func16, Tryz.ntmps16
  go_wp2_with fail
  refine Hf.out.mono ?_
  rintro e w2 ⟨rfl, hc⟩
  have Hc := Go.Lib.hid hc
  clear hc
  go_wp2_with fail
  go_ret
  exact ⟨rfl, Hc.out⟩
end
end Go.Proofs.YtndblfmdlckiaaaGreat
