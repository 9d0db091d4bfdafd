/- What is proved: Source answers no text to another name. Conditions: none. -/
import Derived.Test.YtcmeciekadepjaaSrcA
namespace Go.Proofs.Ytcmeciekadepjaa
open Go.RowKit
def nmL : List (List UInt8) := [[83, 99, 97, 110], [66, 97, 115, 101], [71, 101, 110], [80, 97, 114, 115, 101], [77, 97, 105, 110]]
set_option maxRecDepth 100000 in
set_option maxHeartbeats 1000000 in
theorem src_none (s : ByteArray) (h : ∀ n ∈ nmL, (s.toList == n) = false) (w : World) : Calls Try.prog 6 #[.string s] w fun e w' => e = .returned (.tuple #[.string ⟨#[]⟩, .bool false]) ∧ w = w' := by
  have h0 : (s.toList == [83, 99, 97, 110]) = false := h [83, 99, 97, 110] (by simp [nmL])
  have h1 : (s.toList == [66, 97, 115, 101]) = false := h [66, 97, 115, 101] (by simp [nmL])
  have h2 : (s.toList == [71, 101, 110]) = false := h [71, 101, 110] (by simp [nmL])
  have h3 : (s.toList == [80, 97, 114, 115, 101]) = false := h [80, 97, 114, 115, 101] (by simp [nmL])
  have h4 : (s.toList == [77, 97, 105, 110]) = false := h [77, 97, 105, 110] (by simp [nmL])
  clear h
  go_enter Try.func6, Try.ntmps6
  go_wp2_with fail
  go_ret2
  exact ⟨rfl, rfl⟩
theorem src_yes (k : Nat) (hk : k < 5) (w : World) : Calls Try.prog 6 #[.string (nmB.getD k ⟨#[]⟩)] w fun e w' => e = .returned (.tuple #[.string (src k), .bool true]) ∧ w = w' := by
  have : k = 0 ∨ k = 1 ∨ k = 2 ∨ k = 3 ∨ k = 4 := by omega
  rcases this with rfl | rfl | rfl | rfl | rfl
  · exact src_0 w
  · exact src_1 w
  · exact src_2 w
  · exact src_3 w
  · exact src_4 w
/-- does a text name a source? -/
def isSrc (s : ByteArray) : Bool := nmL.any fun n => s.toList == n
theorem nm_lists : nmB.map ByteArray.toList = nmL := by decide +kernel
theorem src_at (s : ByteArray) (h : isSrc s = true) : ∃ k, k < 5 ∧ s = nmB.getD k ⟨#[]⟩ := by
  unfold isSrc at h
  rw [← nm_lists, List.any_map, List.any_eq_true] at h
  obtain ⟨b, hb, he⟩ := h
  have he : s.toList = b.toList := by simpa using he
  have : s = b := by
    rw [ByteArray.toList_eq, ByteArray.toList_eq] at he
    cases s; cases b
    simpa using he
  subst this
  obtain ⟨k, hk, hk2⟩ := List.getElem_of_mem hb
  exact ⟨k, hk, by rw [List.getD_eq_getElem?_getD, List.getElem?_eq_getElem hk]; exact hk2.symm⟩
def srcT (s : ByteArray) : Bool × ByteArray → Prop := fun p => (isSrc s = false → p = (false, ⟨#[]⟩)) ∧ (isSrc s = true → p.1 = true)
theorem src_any (s : ByteArray) (w : World) : Calls Try.prog 6 #[.string s] w fun e w' => (∃ t, e = .returned (.tuple #[.string t, .bool (isSrc s)]) ∧ (isSrc s = false → t = ⟨#[]⟩)) ∧ w = w' := by
  cases h : isSrc s with
  | false =>
    refine (src_none s (fun n hn => ?_) w).mono ?_
    · unfold isSrc at h
      rw [List.any_eq_false] at h
      have := h n hn
      simpa using this
    · rintro e w' ⟨rfl, rfl⟩
      exact ⟨⟨_, rfl, fun _ => rfl⟩, rfl⟩
  | true =>
    obtain ⟨k, hk, rfl⟩ := src_at s h
    refine (src_yes k hk w).mono ?_
    rintro e w' ⟨rfl, rfl⟩
    exact ⟨⟨_, rfl, fun h => by cases h⟩, rfl⟩
end Go.Proofs.Ytcmeciekadepjaa
