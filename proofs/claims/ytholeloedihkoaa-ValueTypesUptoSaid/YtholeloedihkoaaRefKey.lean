/- What is proved: the contracts of the reference's among, Keywords, Keyword. Conditions: the memory holds the list. -/
import Derived.Test.YtholeloedihkoaaKey
set_option linter.unusedSimpArgs false
set_option linter.unusedVariables false
namespace Go.Proofs.Ytholeloedihkoaa
open Go.RowKit
theorem among_c (s : ByteArray) (xs : List (List UInt8)) (g c : Nat) (w : World) (hn : xs.length ≤ 100) (hc : ∀ j (h : j < xs.length), w.cell? ⟨g, j, none⟩ = some (.string ⟨xs[j].toArray⟩)) :
    Calls Try.prog 61 #[.string s, .slice (some ⟨g, 0, none⟩) xs.length c] w fun e w' => e = .returned (.bool (decide (s.data.toList ∈ xs))) ∧ w' = w := by
  have Hc := Go.Lib.hid hc
  clear hc
  go_enter Try.func61, Try.ntmps61
  go_wp2_with fail
  go_loop [5] (fun i => ∃ k : Nat, k ≤ xs.length ∧ i = .int .i64 k ∧ Hid (s.data.toList ∉ xs.take k)) (fun i => xs.length - (intOf i).toNat)
  case atStart => exact ⟨0, Nat.zero_le _, rfl, Go.Lib.hid (by simp)⟩
  case round =>
    obtain ⟨k, hk, rfl, hall⟩ := hrel
    by_cases hlt : k < xs.length
    · have hld := Hc.out k hlt
      cases he : (xs[k] == s.toList) with
      | true =>
        have H : Hid (decide (s.data.toList ∈ xs) = true) := Go.Lib.hid (decide_eq_true (by
          rw [beq_iff_eq, ByteArray.toList_eq] at he
          rw [← he]
          exact List.getElem_mem hlt))
        go_wp2_with fail
        go_ret
        exact ⟨by rw [H.out]; rfl, rfl⟩
      | false =>
        have H : Hid (s.data.toList ∉ xs.take (k + 1)) := Go.Lib.hid (by
          rw [beq_eq_false_iff_ne, ByteArray.toList_eq] at he
          rw [List.take_succ_eq_append_getElem hlt]
          intro hm
          rcases List.mem_append.1 hm with hm | hm
          · exact hall.out hm
          · exact he (List.mem_singleton.1 hm).symm)
        go_wp2_with fail
        go_round
        case rel => exact ⟨k + 1, by omega, by go_num, H⟩
        case measure => simp [intOf]; omega
    · obtain rfl : k = xs.length := by omega
      have H : Hid (decide (s.data.toList ∈ xs) = false) := Go.Lib.hid (decide_eq_false (by have := hall.out; rwa [List.take_length] at this))
      go_wp2_with fail
      go_ret
      exact ⟨by rw [H.out]; rfl, rfl⟩
end Go.Proofs.Ytholeloedihkoaa
