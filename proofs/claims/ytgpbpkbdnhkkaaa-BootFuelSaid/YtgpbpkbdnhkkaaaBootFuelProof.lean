/- What is proved: for every pair of integers BootFuel returns true and leaves its arguments as they were. Conditions: none. -/
import Derived.Test.YtgpbpkbdnhkkaaaRows
import Derived.WalkKit
import Derived.ProofKit
import Derived.OpenShut
import Derived.Lib.Hide
namespace Go.Proofs.Ytgpbpkbdnhkkaaa.bootFuel
open Go.ChangeShapes Go.WideShapes Go.ChangeAt Go.RowKit
set_option linter.unusedVariables false      -- a walk need not use every 'w<i>' (that an integer argument fits its kind)

theorem own : ownKnob Try.prog.godebug = none := by kernel_rfl

def cl (n : Int) : Int := if n < 0 then 0 else if 1073741824 < n then 1073741824 else n
theorem cl_lo (n : Int) : 0 ≤ cl n := by unfold cl; split <;> (try split) <;> omega
theorem cl_hi (n : Int) : cl n ≤ 1073741824 := by unfold cl; split <;> (try split) <;> omega
theorem clamp (n : Int) (w : World) : Calls Try.prog 6 #[.int .i64 n] w fun e w' => e = .returned (.int .i64 (cl n)) ∧ w = w' := by
  by_cases h1 : n < 0
  · have h2 : ¬ 1073741824 < n := by omega
    have H : Hid (cl n = 0) := Go.Lib.hid (by unfold cl; rw [if_pos h1])
    go_enter Try.func6, Try.ntmps6
    go_wp2
    go_ret
    exact ⟨by rw [H.out]; rfl, rfl⟩
  · by_cases h2 : 1073741824 < n
    · have H : Hid (cl n = 1073741824) := Go.Lib.hid (by unfold cl; rw [if_neg h1, if_pos h2])
      go_enter Try.func6, Try.ntmps6
      go_wp2
      go_ret
      exact ⟨by rw [H.out]; rfl, rfl⟩
    · have H : Hid (cl n = n) := Go.Lib.hid (by unfold cl; rw [if_neg h1, if_neg h2])
      have h3 : n ≤ 1073741824 := by omega
      go_enter Try.func6, Try.ntmps6
      go_wp2
      all_goals go_ret
      all_goals exact ⟨by rw [H.out]; first | rfl | (congr 2; simp; omega), rfl⟩
def fu (a b : Int) : Int := 20000000 + 60000 * cl a + 3000 * cl b
theorem fuel (a b : Int) (w : World) : Calls Try.prog 4 #[.int .i64 a, .int .i64 b] w fun e w' => e = .returned (.int .i64 (fu a b)) ∧ w = w' := by
  have a1 := cl_lo a
  have a2 := cl_hi a
  have b1 := cl_lo b
  have b2 := cl_hi b
  go_enter Try.func4, Try.ntmps4
  go_wp2_with fail
  refine (clamp _ _).mono ?_
  rintro e w' ⟨rfl, rfl⟩
  go_wp2_with fail
  refine (clamp _ _).mono ?_
  rintro e w' ⟨rfl, rfl⟩
  go_wp2_with fail
  go_ret
  exact ⟨rfl, rfl⟩
theorem known (w : World) : Calls Try.prog 5 #[] w fun e w' => e = .returned (.bool true) ∧ w = w' := by
  have H : Hid (fu 10 0 = 20600000) := Go.Lib.hid (by decide)
  go_enter Try.func5, Try.ntmps5
  go_wp2_with fail
  refine (fuel _ _ _).mono ?_
  rw [H.out]
  rintro e w' ⟨rfl, rfl⟩
  go_wp2_with fail
  go_ret
  exact ⟨rfl, rfl⟩
theorem walk (a0 : Int) (a1 : Int) (w0 : (Lit.int .i64 a0).wf = true) (w1 : (Lit.int .i64 a1).wf = true) (w : World) :
    Calls Try.prog 3 #[.int .i64 a0, .int .i64 a1] w fun e w' => e = .returned (.bool true) ∧ Grown w w' := by
  clear w0 w1
  by_cases h1 : a0 < 0 <;> by_cases h2 : 1073741824 < a0 <;> (try omega) <;> by_cases h3 : a1 < 0 <;> by_cases h4 : 1073741824 < a1 <;> (try omega)
  all_goals
    have H : Hid (fu a0 a1 = 20000000 + 60000 * (if a0 < 0 then 0 else if 1073741824 < a0 then 1073741824 else a0) + 3000 * (if a1 < 0 then 0 else if 1073741824 < a1 then 1073741824 else a1)) := Go.Lib.hid rfl

    go_enter Try.func3, Try.ntmps3
    go_wp2_with fail
    refine (fuel _ _ _).mono ?_
    rw [H.out]
    rintro e w' ⟨rfl, rfl⟩
    go_wp2_with ((go_at_call 5; refine (known _).mono ?_; rintro e w' ⟨rfl, rfl⟩))
    all_goals go_ret
    all_goals exact ⟨by simp [*], Grown.refl _⟩

/-! ### THE ROW's STEP: WRITTEN OUT: LEAVE IT -/
set_option maxRecDepth 100000 in
theorem lifted (os : Os) (started : os.Started) (H : Type) (enc : TypeId × Value → H) :
    ReturnsInHanded {} Try.checked os 3 .any (Rows.bootFuelSpec.pre6 enc Try.prog Try.f3 Rows.bootFuelRow.domain false) (Rows.bootFuelSpec.post enc Try.prog Try.f3 false true false false) := by
  refine returnsInHanded_of_change (C := Try.checked) own started (by kernel_rfl) Try.func3
    (ChangeSpec.witness6 (enc := enc) (C := Try.checked) false ⟨#[], #[.int .i64 0, .int .i64 0], []⟩ 8 (by kernel_rfl) (by kernel_rfl) (by kernel_rfl) (by kernel_rfl)) ?_
  intro W base args ds gs before hval0 hW hcnd _
  have hval : ∀ (j : Nat) t v, Try.f3.params[j]? = some t → args[j]? = some v → Value.okWide Try.prog W .any base t v := hval0
  have hW' := hW
  obtain ⟨p, q, hA0, hV, rfl, hfz, hnd⟩ := hW
  have hA : DataW.TrodAll enc Try.prog W 0 (fun _ => true) true Try.f3.params.toList args.toList ds p := hA0
  rw [Try.params3] at hA hval
  obtain ⟨v0, vs0, d0, ds0, p0, q0, hargs, rfl, rfl, h0, r0⟩ := trodAll_cons hA
  obtain ⟨v1, vs1, d1, ds1, p1, q1, rfl, rfl, rfl, h1, r1⟩ := trodAll_cons r0
  obtain ⟨rfl, rfl, rfl⟩ := trodAll_nil r1
  obtain rfl : args = #[v0, v1] := by cases args; simp_all
  obtain ⟨rfl, rfl⟩ := trodVars_none hV
  obtain ⟨a0, rfl, rfl, rfl, w0⟩ := open_int Try.underlying3 (hval 0 3 v0 rfl rfl) h0
  obtain ⟨a1, rfl, rfl, rfl, w1⟩ := open_int Try.underlying3 (hval 1 3 v1 rfl rfl) h1
  clear hA0 hval0
  simp only [List.append_nil] at hW'
  refine (walk a0 a1 w0 w1 W).mono fun e W' ⟨he, hg⟩ => ?_
  subst he
  exact ⟨_, rfl, post_of_same (pa := []) (pv := []) hW' (fun _ _ _ => (trodAll_cons_mk (shut_bool Try.underlying4 _) trodAll_mk0)) (fun sp _ => (trodAll_cons_mk (shut_int Try.underlying3 w0) (trodAll_cons_mk (shut_int Try.underlying3 w1) trodAll_mk0))) (fun _ _ => rfl) rfl
    (hg.frame _) hg.2.1 (ok_one (by kernel_rfl) rfl (okWide_bool_mk Try.underlying4 _))⟩

theorem over : Rows.bootFuelRow.holds Try.pinned (OpenSpec.ofChange Rows.bootFuelSpec) :=
  OpenClaim.holds_of_wide 3 Try.f3 rfl rfl rfl rfl rfl rfl rfl ⟨rfl, rfl, rfl, rfl, rfl⟩ rfl rfl rfl rfl rfl (by kernel_rfl) Try.func3 (by kernel_rfl)
    (of_decide_eq_true (by kernel_rfl)) (by unfold Func.isWrapper; first | (rw [if_pos (by decide +kernel)]; kernel_rfl) | (rw [if_neg (by decide +kernel)]; exact ⟨rfl, rfl⟩))
    (fun os started H enc _ => lifted os started H enc)

/-- ████ THE STATEMENT ████ -/
theorem proved : Rows.BootFuelSaid :=
  over
#print axioms proved
end Go.Proofs.Ytgpbpkbdnhkkaaa.bootFuel
