/- What is proved: Scalar; find and Offset where there is no such field. Conditions: the memory holds the type. -/
import Derived.Test.YtholeloedihkoaaVaG
set_option linter.unusedSimpArgs false
set_option linter.unusedVariables false
namespace Go.Proofs.Ytholeloedihkoaa
open Go.RowKit
section
variable {lo : Nat} {w w' : World} {b : Nat} {T : Ti}
theorem scalar_c (h : TiAt lo w b T) (hk : T.kind ≠ 0) : Calls Try.prog 38 #[ptr b] w fun e w' => e = .returned (.bool (decide (T.kind ≠ 7 ∧ T.kind ≠ 8))) ∧ w = w' := by
  obtain ⟨c0, c1, c2, c3, c4, c5⟩ := h.cells
  have Hth := Go.Lib.hid (there_c h hk)
  have e7 : ((T.kind : Int) != 7) = decide (T.kind ≠ 7) := by
    by_cases h7 : T.kind = 7
    · simp [h7]
    · have : (T.kind : Int) ≠ 7 := by omega
      simp [h7, this]
  have e8 : ((T.kind : Int) != 8) = decide (T.kind ≠ 8) := by
    by_cases h8 : T.kind = 8
    · simp [h8]
    · have : (T.kind : Int) ≠ 8 := by omega
      simp [h8, this]
  have e9 : decide (T.kind ≠ 7 ∧ T.kind ≠ 8) = (decide (T.kind ≠ 7) && decide (T.kind ≠ 8)) := by simp
  rw [e9]
  clear h hk c1 c2 c3 c4 c5 e9
  generalize decide (T.kind ≠ 7) = q7 at *
  generalize decide (T.kind ≠ 8) = q8 at *
  unfold ptr at Hth ⊢
  go_enter Try.func38, Try.ntmps38
  go_wp2_with fail
  refine Hth.out.mono ?_
  rintro e w1 ⟨rfl, rfl⟩
  cases q7 <;> cases q8
  all_goals
    go_wp2_with fail
    go_ret
    exact ⟨rfl, rfl⟩
theorem find_state (h : TiAt lo w b T) (hk : T.kind ≠ 0) (hk8 : T.kind ≠ 8) (s : ByteArray) : Calls Try.prog 50 #[ptr b, .string s] w fun e w' => e = .returned (.tuple #[.int .i64 0, .int .i64 7]) ∧ w = w' := by
  obtain ⟨c0, c1, c2, c3, c4, c5⟩ := h.cells
  have Hth := Go.Lib.hid (there_c h hk)
  have e8 : ((T.kind : Int) != 8) = true := by simp; omega
  clear h hk hk8 c1 c2 c3 c4 c5
  unfold ptr at Hth ⊢
  go_enter Try.func50, Try.ntmps50
  go_wp2_with fail
  refine Hth.out.mono ?_
  rintro e w1 ⟨rfl, rfl⟩
  go_wp2_with fail
  go_ret2
  exact ⟨rfl, rfl⟩
theorem find_none (h : TiAt lo w b T) (hk : T.kind = 8) {m : Nat} (hm : T.mb = some m) (s : ByteArray) (hl : lookS s (places T.fs) = none) :
    Calls Try.prog 50 #[ptr b, .string s] w fun e w' => e = .returned (.tuple #[.int .i64 0, .int .i64 6]) ∧ w = w' := by
  obtain ⟨c0, c1, c2, c3, c4, c5⟩ := h.cells
  have hlk := run_lookup_str_ok (t := 70) (k := 9) (e := 3) Try.underlying70 Try.underlying9 (z := .int .i64 0) (by kernel_rfl) (h.map m hm) s
  rw [hl] at hlk
  simp only [Option.getD_none, Option.isSome_none] at hlk
  rw [hm] at c4
  rw [hk] at c0
  have Hth := Go.Lib.hid (there_c h (by omega))
  clear h hk hm hl
  unfold ptr at Hth ⊢
  go_enter Try.func50, Try.ntmps50
  go_wp2_with fail
  refine Hth.out.mono ?_
  rintro e w1 ⟨rfl, rfl⟩
  go_wp2_with fail
  go_ret2
  exact ⟨rfl, rfl⟩
/-- Offset, where find tells an error -/
theorem offset_err {s : ByteArray} {x : Int} (hx : x ≠ 0) (h : Calls Try.prog 50 #[ptr b, .string s] w fun e w' => e = .returned (.tuple #[.int .i64 0, .int .i64 x]) ∧ w = w') :
    Calls Try.prog 29 #[ptr b, .string s] w fun e w' => e = .returned (.tuple #[.int .i64 0, .int .i64 x]) ∧ w = w' := by
  have HF := Go.Lib.hid h
  have hz : (x != 0) = true := by simpa using hx
  clear h hx
  unfold ptr at HF ⊢
  go_enter Try.func29, Try.ntmps29
  go_wp2_with fail
  refine HF.out.mono ?_
  rintro e w1 ⟨rfl, rfl⟩
  go_wp2_with fail
  go_ret2
  exact ⟨rfl, rfl⟩
end
end Go.Proofs.Ytholeloedihkoaa
