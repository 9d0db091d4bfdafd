/- What is proved: linking without a store: link.Load, link.loaded, link.Link and link.Order tell error 1; LinkNil, walked. Conditions: as each theorem says. -/
import Derived.Test.YteleglkoagnmcaaGLlC
import Derived.Test.YteleglkoagnmcaaNo
set_option linter.unusedSimpArgs false
set_option linter.unusedVariables false
namespace Go.Proofs.Yteleglkoagnmcaa
open Go Go.RowKit
theorem Gone.ptr_ {w : World} {sv : Value} (h : Gone w sv) : ∃ q, sv = .pointer q := by
  rcases h with rfl | ⟨b, rfl, _⟩
  · exact ⟨_, rfl⟩
  · exact ⟨_, rfl⟩
set_option maxRecDepth 100000 in
set_option maxHeartbeats 16000000 in
theorem load_gone {w0 : World} {sv : Value} (h : Gone w0 sv) (nm : ByteArray) : Calls Try.prog 16 #[sv, .string nm] w0 fun e w' => e = .returned (.tuple #[obVal ob0 oa0, .int .i64 1]) ∧ Chg NoB w0 w' := by
  obtain ⟨wA, hwA⟩ : ∃ wA, w0.alloc (Obj.cells (obArr ob0 oa0) OT) = wA := ⟨_, rfl⟩
  have hCA : Chg NoB w0 wA := by rw [← hwA]; exact (Chg.refl NoB w0).alloc _
  have hBA : Blk wA w0.heap.size OT (obArr ob0 oa0) := by rw [← hwA]; exact Blk.new _ _ _
  have HA := Go.Lib.hid (And.intro hCA hBA)
  have HwA := Go.Lib.hid hwA
  have HD := Go.Lib.hid (no_Drop (h.quiet hCA) ⟨#[]⟩)
  clear h hCA hBA hwA
  go_enter Try.func16, Try.ntmps16
  go_wp2_with fail
  change Calls _ _ _ (w0.alloc (Obj.cells (obArr ob0 oa0) OT)) _
  rw [HwA.out]
  clear HwA
  refine HD.out.mono ?_
  rintro e w1 ⟨rfl, hc1⟩
  have HC1 := Go.Lib.hid hc1
  have HRB := Go.Lib.hid (HA.out.2.chg hc1 id)
  clear hc1 HD
  go_wp2_with (refine wpList_store_row rfl OT (.tmp 4) (.tmp 13) rfl w0.heap.size (obArr ob0 oa0) rfl rfl OT (obArr ob0 oa0) HRB.out (by kernel_rfl) (by rfl) (by kernel_rfl) ?_)
  refine bodyPost_ret (results_cellTmp rfl _ _ rfl rfl (HRB.out.rowSet (obArr ob0 oa0)) Try.underlying50 rfl (by kernel_rfl)) rfl ?_
  exact ⟨rfl, (HA.out.1.trans HC1.out).rowSet (fun h => absurd h (by omega)) _⟩
set_option maxRecDepth 100000 in
set_option maxHeartbeats 16000000 in
theorem load1_gone {W : World} {sv : Value} {ba bs bo bl : Nat} {nm : ByteArray} (hg : Gone W sv) (hbs : Blk W bs STT #[sv]) (hba : Blk W ba AT #[.slice none 0 0]) : Calls Try.prog 59 #[.string nm, .pointer (some ⟨ba, 0, none⟩), .pointer (some ⟨bs, 0, none⟩), .pointer (some ⟨bo, 0, none⟩), .pointer (some ⟨bl, 0, none⟩)] W fun e w' => e = .returned (.tuple #[.int .u32 0, .int .i64 1]) ∧ Chg NoB W w' := by
  obtain ⟨q, rfl⟩ := hg.ptr_
  obtain ⟨w1, hw1⟩ : ∃ w1, W.alloc (Obj.cells #[.string nm] STR) = w1 := ⟨_, rfl⟩
  have hc1 : Chg NoB W w1 := by rw [← hw1]; exact (Chg.refl NoB W).alloc _
  have hb5 : Blk w1 W.heap.size STR #[.string nm] := by rw [← hw1]; exact Blk.new _ _ _
  have HB5 := Go.Lib.hid hb5
  have HC1 := Go.Lib.hid hc1
  have HW1 := Go.Lib.hid hw1
  have HG := Go.Lib.hid (hg.quiet hc1)
  have HBS := Go.Lib.hid (hbs.chg hc1 id)
  have hfind := find_c (l := []) (A := none) (c := 0) (nm := nm) (hb5.cell 0) (show CellsAt w1 none (allCells []) from fun h => by simp [allCells] at h) (by simp)
  have HF := Go.Lib.hid hfind
  have xa := (hba.chg hc1 id).cell 0
  have x5 := hb5.cell 0
  simp only [List.getElem?_toArray, List.getElem?_cons_zero] at xa x5
  clear hg hbs hba hc1 hb5 hw1 hfind
  go_enter Try.func59, Try.ntmps59
  go_wp2_with fail
  rw [HW1.out]
  clear HW1
  refine wp_scope_straight ?_
  go_wp2_with fail
  refine HF.out.mono ?_
  rintro e w2 ⟨hc2, ⟨i, x, h1, h2, h3, rfl⟩ | ⟨h1, rfl⟩⟩
  · simp at h1
  · have HC2 := Go.Lib.hid (HC1.out.trans hc2)
    have HB5 := Go.Lib.hid (HB5.out.chg hc2 id)
    have HLD := Go.Lib.hid (load_gone (HG.out.quiet hc2) nm)
    have y5 := HB5.out.cell 0
    have ys := (HBS.out.chg hc2 id).cell 0
    simp only [List.getElem?_toArray, List.getElem?_cons_zero] at y5 ys
    clear h1 hc2 x5 xa HG HBS
    go_wp2_with fail
    refine HLD.out.mono ?_
    rintro e w3 ⟨rfl, hc3⟩
    have HC3 := Go.Lib.hid (HC2.out.trans hc3)
    generalize hov : obVal ob0 oa0 = ov
    obtain ⟨oz, az, rfl⟩ : ∃ oz az, ov = obVal oz az := ⟨_, _, hov.symm⟩
    have HC4 := Go.Lib.hid (HC3.out.alloc (Obj.cells (obArr oz az) OT))
    clear hc3 hov y5 ys HLD
    unfold obVal obArr
    unfold obArr at HC4
    go_wp2_with fail
    first | (rw [Exit.noGoto_ret]; refine bodyPost_ret (results_tmp2 rfl _ _ _) rfl ?_; exact ⟨rfl, HC4.out⟩) | (refine (Exit.noGoto_ret (Q := _)).mpr ?_; refine bodyPost_ret (results_tmp2 rfl _ _ _) rfl ?_; exact ⟨rfl, HC4.out⟩)
def wG (w : World) (sv : Value) : World :=
  ((((w.alloc (Obj.cells #[sv] STT)).alloc (Obj.cells #[.slice none 0 0] AT)).alloc (Obj.map #[] 0)).alloc (Obj.cells #[.map (some (w.heap.size + 1 + 1))] MT)).alloc
    (Obj.cells #[.func (.func 59) #[] #[.pointer (some ⟨w.heap.size + 1, 0, none⟩), .pointer (some ⟨w.heap.size, 0, none⟩), .pointer (some ⟨w.heap.size + 1 + 1 + 1, 0, none⟩), .pointer (some ⟨w.heap.size + 1 + 1 + 1 + 1, 0, none⟩)]] LT)
set_option maxRecDepth 100000 in
set_option maxHeartbeats 16000000 in
theorem loaded_gone {w : World} {sv : Value} (h : Gone w sv) (nm : ByteArray) : Calls Try.prog 31 #[sv, .string nm] w fun e w' => e = .returned (.tuple #[.slice none 0 0, .int .i64 1]) ∧ Chg NoB w w' := by
  obtain ⟨q, rfl⟩ := h.ptr_
  have hc : Chg NoB w (wG w (.pointer q)) := (((((Chg.refl NoB w).alloc _).alloc _).alloc _).alloc _).alloc _
  have hbs : Blk (wG w (.pointer q)) w.heap.size STT #[.pointer q] := ((((Blk.new w STT _).alloc _).alloc _).alloc _).alloc _
  have hba : Blk (wG w (.pointer q)) (w.heap.size + 1) AT #[.slice none 0 0] := by
    have h1 := Blk.new (w.alloc (Obj.cells #[.pointer q] STT)) AT #[.slice none 0 0]
    rw [size_al] at h1
    exact ((h1.alloc _).alloc _).alloc _
  have HC := Go.Lib.hid hc
  have HL := Go.Lib.hid (load1_gone (nm := nm) (bo := w.heap.size + 1 + 1 + 1) (bl := w.heap.size + 1 + 1 + 1 + 1) (h.quiet hc) hbs hba)
  have hmm := @run_makeMap Try.prog
  clear h hc hbs hba
  go_enter Try.func31, Try.ntmps31
  go_wp2_with fail
  refine HL.out.mono ?_
  rintro e w2 ⟨rfl, hc2⟩
  have HC2 := Go.Lib.hid (HC.out.trans hc2)
  clear hc2 HL HC
  go_wp2_with fail
  refine bodyPost_ret (results_tmp2 rfl _ _ _) rfl ?_
  exact ⟨rfl, HC2.out⟩
set_option maxRecDepth 100000 in
set_option maxHeartbeats 16000000 in
theorem link_gone {w : World} {sv : Value} (h : Gone w sv) (nm : ByteArray) : Calls Try.prog 13 #[sv, .string nm] w fun e w' => e = .returned (.tuple #[.agg #[.slice none 0 0, .slice none 0 0], .int .i64 1]) ∧ Chg NoB w w' := by
  obtain ⟨wA, hwA⟩ : ∃ wA, w.alloc (.cells #[.slice none 0 0, .slice none 0 0] IMT) = wA := ⟨_, rfl⟩
  have hcA : Chg NoB w wA := by rw [← hwA]; exact (Chg.refl NoB w).alloc _
  have hrb : Blk wA w.heap.size IMT #[.slice none 0 0, .slice none 0 0] := by rw [← hwA]; exact Blk.new w IMT _
  have HLD := Go.Lib.hid (loaded_gone (h.quiet hcA) nm)
  have HR := Go.Lib.hid (And.intro hcA hrb)
  have HWA := Go.Lib.hid hwA
  clear h hwA hcA hrb
  go_enter Try.func13, Try.ntmps13
  go_wp2_with fail
  rw [HWA.out]
  clear HWA
  refine HLD.out.mono ?_
  rintro e w2 ⟨rfl, hc2⟩
  have HC2 := Go.Lib.hid (HR.out.1.trans hc2)
  have HRB := Go.Lib.hid (HR.out.2.chg hc2 id)
  clear hc2 HLD HR
  go_wp2_with (refine wpList_store_row rfl IMT (.tmp 4) (.tmp 16) rfl w.heap.size #[.slice none 0 0, .slice none 0 0] rfl rfl IMT #[.slice none 0 0, .slice none 0 0] HRB.out (by kernel_rfl) (by rfl) (by kernel_rfl) ?_)
  refine bodyPost_ret (results_cellTmp rfl _ _ rfl rfl (HRB.out.rowSet #[.slice none 0 0, .slice none 0 0]) Try.underlying36 rfl (by kernel_rfl)) rfl ?_
  exact ⟨rfl, HC2.out.rowSet (fun h => absurd h (by omega)) _⟩
set_option maxRecDepth 100000 in
set_option maxHeartbeats 16000000 in
theorem order_gone {w : World} {sv : Value} (h : Gone w sv) (nm : ByteArray) : Calls Try.prog 19 #[sv, .string nm] w fun e w' => e = .returned (.tuple #[.slice none 0 0, .int .i64 1]) ∧ Chg NoB w w' := by
  have HLD := Go.Lib.hid (loaded_gone h nm)
  clear h
  go_enter Try.func19, Try.ntmps19
  go_wp2_with fail
  refine HLD.out.mono ?_
  rintro e w2 ⟨rfl, hc2⟩
  have HC := Go.Lib.hid hc2
  clear hc2 HLD
  go_wp2_with fail
  go_loopw [19, 8] (fun v19 v8 wr => v19 = .int .i64 0 ∧ v8 = .slice none 0 0 ∧ wr = w2) (fun _ _ _ => 0)
  case atStart => exact ⟨rfl, rfl, rfl⟩
  case round =>
    obtain ⟨rfl, rfl, rfl⟩ := hrel
    go_wp2_with fail
    refine bodyPost_ret (results_tmp2 rfl _ _ _) rfl ?_
    exact ⟨rfl, HC.out⟩
end Go.Proofs.Yteleglkoagnmcaa
