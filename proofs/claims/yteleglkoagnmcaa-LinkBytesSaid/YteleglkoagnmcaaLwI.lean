/- What is proved: LinkBytes' plain law: one file alone is linked to a module of its name, or refused by error 4, 6, 9 or 10. Conditions: none (plain laws). -/
import Derived.Test.YteleglkoagnmcaaGLKey
set_option linter.unusedSimpArgs false
set_option linter.unusedVariables false
namespace Go.Proofs.Yteleglkoagnmcaa
open Go Go.RowKit
theorem v0L_get (n : ByteArray) : getV v0L n = none := by
  unfold getV
  split
  · rfl
  · rfl
theorem one_other {nm n : ByteArray} (b : List UInt8) (h : n ≠ nm) : getV (putP v0L (fileO nm) b) (fileO n) = none := by
  rw [getV_put_other (fun e he => by simp [v0L] at he) (fun e => h (file_inj e))]
  exact v0L_get _
theorem imgP_names {d : List Ob} {i : Img} (h : imgP haltW d = .inr i) : i.mods.length = d.length ∧ ∀ o ∈ d, d.length = 1 → ∃ p, i.mods[0]? = some p ∧ p.name = o.name := by
  unfold imgP at h
  split at h
  · cases h
  · split at h
    · cases h
    · injection h with h
      subst h
      refine ⟨placed_len d, fun o ho h1 => ?_⟩
      match d, h1, ho with
      | [q], _, ho =>
        obtain rfl := List.mem_singleton.1 ho
        exact ⟨_, rfl, rfl⟩
theorem imgP_err {d : List Ob} {e : Int} (h : imgP haltW d = .inl e) : e = 4 ∨ e = 10 := by
  unfold imgP at h
  split at h
  · injection h with h
    exact .inl h.symm
  · split at h
    · injection h with h
      exact .inr h.symm
    · cases h
theorem mayO_imps {o : Ob} (h : mayO o = true) : impsOk o.name o.imps = true := by
  simp only [mayO, Bool.and_eq_true] at h
  exact h.1.1.1.1.1.1.1.1.1.1.1
theorem bytes_loaded {nm : ByteArray} (hn : objName nm = true) (b : List UInt8) : (∃ o, loadedO (getV (putP v0L (fileO nm) b)) nm = .inr [o] ∧ o.name = nm) ∨ ∃ e, loadedO (getV (putP v0L (fileO nm) b)) nm = .inl e ∧ (e = 4 ∨ e = 6 ∨ e = 9) := by
  have hoth := fun n h => one_other (nm := nm) (n := n) b h
  generalize getV (putP v0L (fileO nm) b) = get at *
  unfold loadedO ldAll
  rw [show findO [] nm = none from rfl]
  simp only
  cases hl : ldO get nm with
  | inl e =>
    refine .inr ⟨e, rfl, ?_⟩
    unfold ldO at hl
    rw [if_pos hn] at hl
    split at hl
    · injection hl with h; omega
    · split at hl
      · injection hl with h; omega
      · split at hl
        · cases hl
        · injection hl with h; omega
  | inr o =>
    have hon := ldO_name hl
    have hmay : mayO o = true := by
      unfold ldO at hl
      rw [if_pos hn] at hl
      split at hl
      · cases hl
      · split at hl
        · cases hl
        · rename_i q hq
          split at hl
          · injection hl with h
            subst h
            unfold ofO at hq
            split at hq
            · simp only at hq
              split at hq
              · rename_i hq2
                injection hq with h
                rw [← h]
                exact hq2.2.2
              · cases hq
            · cases hq
          · cases hl
    have hi := mayO_imps hmay
    simp only
    cases him : o.imps with
    | nil => exact .inl ⟨o, rfl, hon⟩
    | cons x l =>
      right
      rw [him] at hi
      simp only [impsOk, List.all_cons, Bool.and_eq_true, decide_eq_true_eq] at hi
      have hx := hi.1.1.1.1
      unfold ldImps
      split
      · rename_i h
        split at h
        · injection h with h
          exact ⟨_, rfl, .inr (.inr h.symm)⟩
        · rw [show ldAll get 200 [nm] [] x.1 = .inl 6 by
            unfold ldAll
            rw [show findO [] x.1 = none from rfl]
            simp only
            have : ldO get x.1 = .inl 6 := by
              unfold ldO
              rw [if_pos hx.1, hoth x.1 (fun e => hx.2 (by rw [e, hon]))]
            rw [this]] at h
          simp only at h
          injection h with h
          exact ⟨_, rfl, .inr (.inl h.symm)⟩
      · rename_i h
        exfalso
        split at h
        · cases h
        · rw [show ldAll get 200 [nm] [] x.1 = .inl 6 by
            unfold ldAll
            rw [show findO [] x.1 = none from rfl]
            simp only
            have : ldO get x.1 = .inl 6 := by
              unfold ldO
              rw [if_pos hx.1, hoth x.1 (fun e => hx.2 (by rw [e, hon]))]
            rw [this]] at h
          cases h
theorem bytes_link {nm : ByteArray} (hn : objName nm = true) (b : List UInt8) : (∃ i p, linkO (getV (putP v0L (fileO nm) b)) nm = .inr i ∧ i.mods.length = 1 ∧ i.mods[0]? = some p ∧ p.name = nm) ∨ ∃ e, linkO (getV (putP v0L (fileO nm) b)) nm = .inl e ∧ (e = 4 ∨ e = 6 ∨ e = 9 ∨ e = 10) := by
  unfold linkO
  rcases bytes_loaded hn b with ⟨o, h, ho⟩ | ⟨e, h, he⟩
  · rw [h]
    simp only
    cases hi : imgP haltW [o] with
    | inl e =>
      refine .inr ⟨e, rfl, ?_⟩
      rcases imgP_err hi with h | h <;> omega
    | inr i =>
      obtain ⟨h1, h2⟩ := imgP_names hi
      obtain ⟨p, h3, h4⟩ := h2 o (List.mem_singleton.2 rfl) rfl
      exact .inl ⟨i, p, rfl, h1, h3, h4.trans ho⟩
  · rw [h]
    refine .inr ⟨e, rfl, ?_⟩
    rcases he with h | h | h <;> omega
end Go.Proofs.Yteleglkoagnmcaa
