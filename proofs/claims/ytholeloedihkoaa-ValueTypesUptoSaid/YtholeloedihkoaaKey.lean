/- What is proved: the contract of tree's Keyword. Conditions: the library's variable holds a number. -/
import Derived.Test.YtholeloedihkoaaShelf
import Derived.Test.YtholeloedihkoaaKeyLaw
import Derived.WalkKit
import Derived.Lib.Hide
set_option linter.unusedSimpArgs false
set_option linter.unusedVariables false
namespace Go.Proofs.Ytholeloedihkoaa
open Go.RowKit
def keyWords : List (List UInt8) := [[65, 82, 82, 65, 89], [66, 69, 71, 73, 78], [67, 79, 78, 83, 84], [68, 73, 86], [68, 79], [69, 76, 83, 69], [69, 76, 83, 73, 70], [69, 78, 68], [70, 65, 76, 83, 69], [73, 70], [73, 77, 80, 79, 82, 84], [73, 78], [77, 79, 68], [77, 79, 68, 85, 76, 69], [78, 73, 76], [79, 70], [79, 82], [80, 79, 73, 78, 84, 69, 82], [80, 82, 79, 67, 69, 68, 85, 82, 69], [82, 69, 67, 79, 82, 68], [82, 69, 80, 69, 65, 84], [82, 69, 84, 85, 82, 78], [84, 72, 69, 78], [84, 79], [84, 82, 85, 69], [84, 89, 80, 69], [85, 78, 84, 73, 76], [86, 65, 82], [87, 72, 73, 76, 69]]
/-- is a text a keyword? -/
def isKey (s : ByteArray) : Bool := decide (s.data.toList ∈ keyWords)
theorem key_blank : ∀ x ∈ keyWords, (32 : UInt8) ∉ x := by decide +kernel
theorem key_some : ([] : List UInt8) ∉ keyWords := by decide +kernel
theorem isKey_empty (s : ByteArray) (h : s.data.toList = []) : isKey s = false := by
  unfold isKey
  rw [h]
  exact decide_eq_false key_some
theorem isKey_blank (s : ByteArray) (h : Lib.contains s.data.toList [32] = true) : isKey s = false := by
  have hm : (32 : UInt8) ∈ s.data.toList := by
    obtain ⟨p, q, e⟩ := (contains_iff _ _).1 h
    rw [← e]
    simp
  exact decide_eq_false fun hk => key_blank _ hk hm
theorem isKey_eq (s : ByteArray) (h : Lib.contains s.data.toList [32] = false) : Lib.contains (blanks 32 keyWords) (32 :: (s.data.toList ++ [32])) = isKey s := by
  have hm : (32 : UInt8) ∉ s.data.toList := fun hm => by
    obtain ⟨p, q, e⟩ := List.append_of_mem hm
    have : Lib.contains s.data.toList [32] = true := (contains_iff _ _).2 ⟨p, q, by rw [e]; simp⟩
    rw [h] at this
    cases this
  unfold isKey
  rw [Bool.eq_iff_iff, contains_iff, infix_words 32 _ hm keyWords key_blank, decide_eq_true_iff]

theorem key_size {K : ByteArray} (h : K.data.toList = blanks 32 keyWords) : K.size < 4294967281 := by
  have h1 : K.data.toList.length < 4294967281 := by
    rw [h]
    decide +kernel
  exact h1

theorem keyword_c (s : ByteArray) (hs : s.size < 100000) (m : Int) (w : World) (hm : w.cell? ⟨0, 0, none⟩ = some (.int .i64 m)) :
    Calls Try.prog 58 #[.string s] w fun e w' => e = .returned (.bool (isKey s)) ∧ w' = w := by
  have H1 := Go.Lib.hid (Try.strings_Contains s ⟨#[32]⟩ m w (by omega) hm)
  by_cases h0 : s.data.toList = []
  · have H := Go.Lib.hid (isKey_empty s h0)
    obtain rfl : s = ⟨#[]⟩ := by cases s; simp_all
    clear h0
    go_enter Try.func58, Try.ntmps58
    go_wp2_with fail
    go_ret
    exact ⟨by rw [H.out]; rfl, rfl⟩
  · have hne1 : ¬ s.toList = [] := by rw [ByteArray.toList_eq]; exact h0
    have hne2 : decide (s.toList = []) = false := decide_eq_false hne1
    cases hb : Lib.contains s.data.toList [32] with
    | true =>
      have H := Go.Lib.hid (isKey_blank s hb)
      have h1 := H1.out
      rw [show ((⟨#[32]⟩ : ByteArray).data.toList) = [32] from rfl, hb] at h1
      have H2 := Go.Lib.hid h1
      clear h1 H1 hb h0
      go_enter Try.func58, Try.ntmps58
      go_wp2_with fail
      refine H2.out.mono ?_
      rintro e w' ⟨rfl, rfl⟩
      go_wp2_with fail
      go_ret
      exact ⟨by rw [H.out]; rfl, rfl⟩
    | false =>
      have h1 := H1.out
      rw [show ((⟨#[32]⟩ : ByteArray).data.toList) = [32] from rfl, hb] at h1
      have H2 := Go.Lib.hid h1
      have H3 : Hid (∀ K : ByteArray, K.data.toList = blanks 32 keyWords → Calls Try.prog 60 #[.string K, .string (⟨#[32]⟩ ++ s ++ ⟨#[32]⟩)] w fun e w' => e = .returned (.bool (isKey s)) ∧ w' = w) := Go.Lib.hid fun K hK => by
        have hq := Try.strings_Contains K (⟨#[32]⟩ ++ s ++ ⟨#[32]⟩) m w (key_size hK) hm
        rw [hK, show (⟨#[32]⟩ ++ s ++ ⟨#[32]⟩ : ByteArray).data.toList = 32 :: (s.data.toList ++ [32]) by simp, isKey_eq s hb] at hq
        exact hq
      clear h1 H1 hb h0 hm
      go_enter Try.func58, Try.ntmps58
      go_wp2_with fail
      refine H2.out.mono ?_
      rintro e w' ⟨rfl, rfl⟩
      go_wp2_with fail
      refine (H3.out _ (by decide +kernel)).mono ?_
      rintro e w2 ⟨rfl, rfl⟩
      have hne3 : s.toList.isEmpty = false := by
        cases h : s.toList with
        | nil => exact absurd h hne1
        | cons a l => rfl
      go_wp2_with fail
      go_ret
      exact ⟨by simp, rfl⟩
end Go.Proofs.Ytholeloedihkoaa
