/- What is proved: for every capacity and steps StoreRooms returns true and leaves its arguments as they were. Conditions: none. -/
import Derived.Test.YtebcomijknffmaaRows
import Derived.WalkKit
import Derived.ProofKit
import Derived.OpenShut
import Derived.ShutString
import Derived.ChangeOld
import Derived.Below
import Derived.Test.YtebcomijknffmaaSteps
import Derived.Test.YtebcomijknffmaaRmC
namespace Go.Proofs.Ytebcomijknffmaa
open Go.RowKit Go.Shelf
attribute [local go_sem] Oper.semAt_some
set_option maxRecDepth 100000 in
theorem storeRooms_neg (w : World) (cap : Int) (A : Option Addr) (n : Nat) (c : Nat) (h : cap < 0) : Calls Try.prog 8 #[.int .i64 cap, .slice A n c] w fun e w' => e = .returned (.bool true) ∧ Chg NoB w w' := by
  have KN := Go.Lib.hid known_c
  have d1 : decide (cap < 0) = true := by simpa using h
  refine (callsIn_wide (n := 9)).1 (callsIn_of_wp_marks Try.func8 rfl trivial (wpIn_wide.2 ?_) rfl)
  simp only [Try.ntmps8, List.size_toArray, List.length_cons, List.length_nil, Nat.reduceAdd, Nat.reduceSub, Array.replicate_succ, Array.replicate_zero, List.push_toArray, List.append_toArray, List.nil_append, List.cons_append]
  go_wp2_with fail
  refine (KN.out _).mono ?_
  rintro e wk ⟨rfl, hck⟩
  have hR := (Blk.new w BoT #[.bool false]).chg hck id
  have HW := Go.Lib.hid (((Chg.refl NoB w).alloc (.cells #[.bool false] BoT)).trans hck)
  have c4 := hR.cell 0
  have f4 := hR.frozen 0
  have HR := Go.Lib.hid hR
  simp only [List.getElem?_toArray, List.getElem?_cons_zero] at c4
  clear hR hck
  go_wp2_with fail
  exact leave_marks rfl [] _ List.nodup_nil (fun D hD => by cases hD) ((HR.out.set_ 0 (.bool true)).cell 0) (HW.out.setCell (fun hlt => absurd hlt (by simp)) _)
theorem storeRooms_all (w : World) (cap : Int) (A : Option Addr) (L : List St) (c : Nat) (hS : StepsAt w A L) (hL : L.length ≤ maxLen) : Calls Try.prog 8 #[.int .i64 cap, .slice A L.length c] w fun e w' => e = .returned (.bool true) ∧ Chg NoB w w' := by
  by_cases h : cap < 0
  · exact storeRooms_neg w cap A L.length c h
  · obtain ⟨n, rfl⟩ : ∃ n : Nat, cap = n := ⟨cap.toNat, by omega⟩
    exact storeRooms_walk w n A L c hS hL
end Go.Proofs.Ytebcomijknffmaa

namespace Go.Proofs.Ytebcomijknffmaa.storeRooms
open Go.ChangeShapes Go.WideShapes Go.ChangeAt Go.RowKit
open Go.ChangeMaps (open_string shut_string)
set_option linter.unusedVariables false

theorem own : ownKnob Try.prog.godebug = none := by kernel_rfl
theorem laidOut : laidOutB Try.prog = true := by kernel_rfl

set_option maxRecDepth 100000 in
theorem lifted (os : Os) (started : os.Started) (H : Type) (enc : TypeId × Value → H) :
    ReturnsInHanded {} Try.checked os 8 .any (Rows.storeRoomsSpec.pre6 enc Try.prog Try.f8 Rows.storeRoomsRow.domain false) (Rows.storeRoomsSpec.post enc Try.prog Try.f8 false true false false) := by
  refine returnsInHanded_of_change (C := Try.checked) own started (by kernel_rfl) Try.func8
    (ChangeSpec.witness6 (enc := enc) (C := Try.checked) false ⟨#[], #[.int .i64 0, .slice none 0 0], []⟩ 8 (by kernel_rfl) (by kernel_rfl) (by kernel_rfl) (by kernel_rfl)) ?_
  intro W base args ds gs before hval0 hW hcnd _
  have hval : ∀ (j : Nat) t v, Try.f8.params[j]? = some t → args[j]? = some v → Value.okWide Try.prog W .any base t v := hval0
  have hW' := hW
  obtain ⟨p, q, hA0, hV, rfl, hfz, hnd⟩ := hW
  have hA : DataW.TrodAll enc Try.prog W 0 (fun _ => true) true Try.f8.params.toList args.toList ds p := hA0
  rw [Try.params8] at hA hval
  obtain ⟨v0, vs0, d0, ds0, p0, q0, hargs, rfl, rfl, h0, r0⟩ := trodAll_cons hA
  obtain ⟨v1, vs1, d1, ds1, p1, q1, rfl, rfl, rfl, h1, r1⟩ := trodAll_cons r0
  obtain ⟨rfl, rfl, rfl⟩ := trodAll_nil r1
  obtain rfl : args = #[v0, v1] := by cases args; simp_all
  obtain ⟨rfl, rfl⟩ := trodVars_none hV
  have k0 := h0
  have lt0 : ∀ x ∈ p0, x.block < W.heap.size := by obtain ⟨m, hm⟩ := k0; exact DataW.trod_lt m _ _ _ hm
  have k1 := h1
  have lt1 : ∀ x ∈ p1, x.block < W.heap.size := by obtain ⟨m, hm⟩ := k1; exact DataW.trod_lt m _ _ _ hm
  obtain ⟨a0, rfl, rfl, rfl, w0⟩ := open_int Try.underlying3 (hval 0 3 v0 rfl rfl) h0
  obtain ⟨A1, L1, c1, rfl, hS, hl1, hl2⟩ := open_steps (hval 1 49 v1 rfl rfl) h1
  clear hA0 hval0
  refine (storeRooms_all W a0 A1 L1 c1 hS (Nat.le_trans hl1 hl2)).mono fun e W' ⟨he, hch⟩ => ?_
  have bel : Below W.heap.size W W' := hch.below (Nat.le_refl _) (fun _ _ h => h.elim)
  subst he
  exact ⟨_, rfl, _, _, _, [], _, [], hW', trodAll_mk1 (shut_bool Try.underlying4 _), (trodAll_cons_mk (Below.trod laidOut (by kernel_rfl) (of_decide_eq_true (by kernel_rfl)) k0 bel lt0) (trodAll_cons_mk (Below.trod laidOut (by kernel_rfl) (of_decide_eq_true (by kernel_rfl)) k1 bel lt1) trodAll_mk0)), rfl, bel.frame _, fun h => by cases h⟩

theorem over : Rows.storeRoomsRow.holds Try.pinned (OpenSpec.ofChange Rows.storeRoomsSpec) :=
  OpenClaim.holds_of_wide 8 Try.f8 rfl rfl rfl rfl rfl rfl rfl ⟨rfl, rfl, rfl, rfl, rfl⟩ rfl rfl rfl rfl rfl (by kernel_rfl) Try.func8 (by kernel_rfl)
    (of_decide_eq_true (by kernel_rfl)) (by unfold Func.isWrapper; first | (rw [if_pos (by decide +kernel)]; kernel_rfl) | (rw [if_neg (by decide +kernel)]; exact ⟨rfl, rfl⟩))
    (fun os started H enc _ => lifted os started H enc)

theorem proved : Rows.StoreRoomsSaid := over
#print axioms proved
end Go.Proofs.Ytebcomijknffmaa.storeRooms
