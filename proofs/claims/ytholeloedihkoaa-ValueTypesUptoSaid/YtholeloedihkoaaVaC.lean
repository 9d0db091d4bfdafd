/- What is proved: the contract of slices.ContainsFunc as Record uses it. Conditions: the memory holds the types. -/
import Derived.Test.YtholeloedihkoaaVaB
set_option linter.unusedSimpArgs false
set_option linter.unusedVariables false
namespace Go.Proofs.Ytholeloedihkoaa
open Go.RowKit
section
variable {lo : Nat} {w w' : World}
theorem rec1_c {v : Value} {o : Option (Nat × Ti)} (h : TV lo w v o) : Calls Try.prog 43 #[v] w fun e w' => e = .returned (.bool o.isNone) ∧ w = w' := by
  have H1 := Go.Lib.hid (there_v h)
  clear h
  go_enter Try.func43, Try.ntmps43
  go_wp2_with fail
  refine H1.out.mono ?_
  rintro e w1 ⟨rfl, rfl⟩
  go_wp2_with fail
  go_ret
  exact ⟨rfl, rfl⟩
/-- types that are handed over, in a row -/
def TVs (lo : Nat) (w : World) (vs : List Value) (os : List (Option (Nat × Ti))) : Prop := vs.length = os.length ∧ ∀ (i : Nat) v o, vs[i]? = some v → os[i]? = some o → TV lo w v o
theorem indexFunc_c {A : Option Addr} {c : Nat} {vs : List Value} {os : List (Option (Nat × Ti))} (hA : CellsAt w A vs) (hT : TVs lo w vs os) (hm : vs.length ≤ maxLen) :
    Calls Try.prog 56 #[.slice A vs.length c, .func (.func 43) #[] #[]] w fun e w' =>
      ∃ z : Int, e = .returned (.int .i64 z) ∧ (z = -1 ∧ (∀ o ∈ os, o.isSome = true) ∨ 0 ≤ z ∧ ∃ o ∈ os, o = none) ∧ w = w' := by
  have HT := Go.Lib.hid hT
  have HA := Go.Lib.hid hA
  unfold maxLen at hm
  have Hl := Go.Lib.hid hT.1
  clear hT hA
  go_enter Try.func56, Try.ntmps56
  go_wp2_with fail
  go_loop [8] (fun v8 => ∃ k : Nat, k ≤ vs.length ∧ v8 = .int .i64 k ∧ ∀ (i : Nat) o, i < k → os[i]? = some o → o.isSome = true) (fun v8 => vs.length - (intOf v8).toNat)
  case atStart => exact ⟨0, Nat.zero_le _, rfl, fun i o h => absurd h (by omega)⟩
  case round =>
    obtain ⟨k, hk, rfl, hall⟩ := hrel
    have Hall := Go.Lib.hid hall
    clear hall
    by_cases hlt : k < vs.length
    · obtain ⟨ad, hAd, hcell⟩ := HA.out (by omega)
      subst hAd
      obtain ⟨v, hv⟩ : ∃ v, vs[k]? = some v := ⟨_, List.getElem?_eq_getElem hlt⟩
      obtain ⟨o, ho⟩ : ∃ o, os[k]? = some o := ⟨_, List.getElem?_eq_getElem (by rw [← Hl.out]; exact hlt)⟩
      have c0 := hcell k v hv
      have HR := Go.Lib.hid (rec1_c (HT.out.2 k v o hv ho))
      have Ho := Go.Lib.hid ho
      clear hcell hv ho
      go_wp2_with fail
      refine HR.out.mono ?_
      rintro e w1 ⟨rfl, rfl⟩
      cases o with
      | none =>
        go_wp2_with fail
        go_ret
        exact ⟨_, rfl, .inr ⟨by omega, none, List.mem_of_getElem? Ho.out, rfl⟩, rfl⟩
      | some p =>
        go_wp2_with fail
        go_round
        case rel => exact ⟨k + 1, by omega, by go_num, fun i o hi hio => by
          rcases Nat.lt_or_ge i k with h | h
          · exact Hall.out i o h hio
          · obtain rfl : i = k := by omega
            have := Ho.out.symm.trans hio
            injection this with this
            subst this
            rfl⟩
        case measure => simp [intOf]; omega
    · obtain rfl : k = vs.length := by omega
      go_wp2_with fail
      go_ret
      refine ⟨_, rfl, .inl ⟨rfl, fun o ho => ?_⟩, rfl⟩
      obtain ⟨i, hi⟩ := List.mem_iff_getElem?.1 ho
      exact Hall.out i o (by have := (List.getElem?_eq_some_iff.1 hi).1; rw [Hl.out]; exact this) hi
theorem contains_c {A : Option Addr} {c : Nat} {vs : List Value} {os : List (Option (Nat × Ti))} (hA : CellsAt w A vs) (hT : TVs lo w vs os) (hm : vs.length ≤ maxLen) :
    Calls Try.prog 42 #[.slice A vs.length c, .func (.func 43) #[] #[]] w fun e w' =>
      ∃ b : Bool, e = .returned (.bool b) ∧ (b = false ∧ (∀ o ∈ os, o.isSome = true) ∨ b = true ∧ ∃ o ∈ os, o = none) ∧ w = w' := by
  have HI := Go.Lib.hid (indexFunc_c (c := c) hA hT hm)
  clear hA hT hm
  go_enter Try.func42, Try.ntmps42
  go_wp2_with fail
  refine HI.out.mono ?_
  rintro e w1 ⟨z, rfl, hz, rfl⟩
  have HZ := Go.Lib.hid hz
  clear hz
  go_wp2_with fail
  go_ret
  refine ⟨_, rfl, ?_, rfl⟩
  rcases HZ.out with ⟨rfl, h⟩ | ⟨h0, h⟩
  · exact .inl ⟨rfl, h⟩
  · exact .inr ⟨by simpa using h0, h⟩
end
end Go.Proofs.Ytholeloedihkoaa
