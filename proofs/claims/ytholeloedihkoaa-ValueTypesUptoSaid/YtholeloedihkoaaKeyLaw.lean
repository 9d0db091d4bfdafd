/- What is proved: a text between blanks is within a list of words, each between blanks, just if it is one of them. Conditions: none of program. -/
import Derived.Lib.IndexMore
set_option linter.unusedSimpArgs false
set_option linter.unusedVariables false
namespace Go.Proofs.Ytholeloedihkoaa
open Go.Lib

theorem contains_iff (s sub : List UInt8) : contains s sub = true ↔ sub <:+: s := by
  unfold contains
  rw [decide_eq_true_iff]
  constructor
  · intro h
    rcases index_spec s sub with ⟨h1, _⟩ | ⟨i, _, _, h3, _⟩
    · omega
    · unfold occAt at h3
      exact (List.isPrefixOf_iff_prefix.1 h3).isInfix.trans (List.drop_suffix i s).isInfix
  · rintro ⟨pre, post, rfl⟩
    rcases index_spec (pre ++ sub ++ post) sub with ⟨_, h2⟩ | ⟨i, h1, _, _, _⟩
    · have h := h2 pre.length (by simp)
      unfold occAt at h
      rw [List.append_assoc, List.drop_left] at h
      have : sub.isPrefixOf (sub ++ post) = true := List.isPrefixOf_iff_prefix.2 (List.prefix_append sub post)
      rw [this] at h
      cases h
    · omega

theorem sep_eq (b : UInt8) : ∀ (s w R : List UInt8), b ∉ s → b ∉ w → s ++ [b] <+: w ++ b :: R → s = w
  | [], [], _, _, _, _ => rfl
  | [], c :: w, R, _, hw, h => by
    simp only [List.nil_append, List.cons_append] at h
    obtain ⟨h1, _⟩ := List.cons_prefix_cons.1 h
    exact absurd (by simp [h1]) hw
  | c :: s, [], R, hs, _, h => by
    simp only [List.nil_append, List.cons_append] at h
    obtain ⟨h1, _⟩ := List.cons_prefix_cons.1 h
    exact absurd (by simp [h1]) hs
  | c :: s, d :: w, R, hs, hw, h => by
    simp only [List.cons_append] at h
    obtain ⟨h1, h2⟩ := List.cons_prefix_cons.1 h
    rw [h1, sep_eq b s w R (fun hm => hs (List.mem_cons_of_mem _ hm)) (fun hm => hw (List.mem_cons_of_mem _ hm)) h2]

theorem infix_skip (b : UInt8) (p R : List UInt8) : ∀ w : List UInt8, b ∉ w → (b :: p <:+: w ++ R) → (b :: p <:+: R)
  | [], _, h => h
  | c :: w, hw, h => by
    simp only [List.cons_append] at h
    rcases List.infix_cons_iff.1 h with h | h
    · obtain ⟨h1, _⟩ := List.cons_prefix_cons.1 h
      exact absurd (by simp [h1]) hw
    · exact infix_skip b p R w (fun hm => hw (List.mem_cons_of_mem _ hm)) h

/-- words, each with a blank behind it, and one ahead of all -/
def blanks (b : UInt8) (ws : List (List UInt8)) : List UInt8 := b :: ws.flatMap fun w => w ++ [b]
theorem blanks_cons (b : UInt8) (w : List UInt8) (ws : List (List UInt8)) : blanks b (w :: ws) = b :: (w ++ blanks b ws) := by simp [blanks]

theorem infix_words (b : UInt8) (s : List UInt8) (hs : b ∉ s) : ∀ ws : List (List UInt8), (∀ w ∈ ws, b ∉ w) → (b :: (s ++ [b]) <:+: blanks b ws ↔ s ∈ ws)
  | [], _ => by
    constructor
    · intro h
      have := h.length_le
      simp [blanks] at this
    · intro h
      cases h
  | w :: ws, hw => by
    have hw1 := hw w (by simp)
    have ih := infix_words b s hs ws (fun x hx => hw x (List.mem_cons_of_mem _ hx))
    rw [blanks_cons]
    constructor
    · intro h
      rcases List.infix_cons_iff.1 h with h | h
      · obtain ⟨_, h2⟩ := List.cons_prefix_cons.1 h
        rw [sep_eq b s w _ hs hw1 h2]
        exact List.mem_cons_self
      · exact List.mem_cons_of_mem _ (ih.1 (infix_skip b _ _ w hw1 h))
    · intro h
      rcases List.mem_cons.1 h with rfl | h
      · refine (List.cons_prefix_cons.2 ⟨rfl, ?_⟩ : b :: (s ++ [b]) <+: b :: (s ++ blanks b ws)).isInfix
        exact (List.prefix_append_right_inj s).2 ⟨_, rfl⟩
      · exact ((ih.2 h).trans (List.suffix_append w _).isInfix).trans (List.suffix_cons b _).isInfix
end Go.Proofs.Ytholeloedihkoaa
