/- What is proved: plain laws of levels: an operator's node, parentheses, a negation. Conditions: none. -/
import Derived.Test.YtnihjkcniddepaaRank
namespace Go.Proofs.Ytnihjkcniddepaa
open Go.RowKit
def opD (s : ByteArray) : Own := ⟨35, s, 0, false⟩
def parD : Own := ⟨32, ⟨#[]⟩, 0, false⟩
def notD : Own := ⟨33, ⟨#[]⟩, 0, false⟩
def Fits (x y r : Int) : Prop := 0 < r ∧ 0 ≤ x ∧ 0 ≤ y ∧ x ≤ min r 2 ∧ y < r
theorem bare_op (s : ByteArray) : bareT (opD s) 2 pNK = true := by
  unfold bareT opD
  have h1 : hasP pNK 78 = true := by decide +kernel
  have h2 : hasP pNK 75 = true := by decide +kernel
  rw [h1, h2]; simp
theorem lev_op (s : ByteArray) (da db : Own) (ka kb : F) :
    (Fits (levT da ka) (levT db kb) (opL s) → levT (opD s) (.cons da ka (.cons db kb .nil)) = opL s) ∧ (¬ Fits (levT da ka) (levT db kb) (opL s) → levT (opD s) (.cons da ka (.cons db kb .nil)) = -1) := by
  have e : levT (opD s) (.cons da ka (.cons db kb .nil)) = if !(opL s == 0) && (bareT (opD s) 2 pNK && (true && ((decide (0 ≤ levT da ka) && decide (levT da ka ≤ min (opL s) 2)) && (decide (0 ≤ levT db kb) && decide (levT db kb ≤ opL s - 1))))) then opL s else -1 := rfl
  have hr := opL_range s
  rw [e, bare_op]
  unfold Fits
  generalize levT da ka = x
  generalize levT db kb = y
  generalize opL s = r at *
  constructor
  · intro h
    rw [if_pos]
    simp
    omega
  · intro h
    rw [if_neg]
    simp
    omega
theorem isT_par (n : Nat) : isT parD n 32 pK 1 = decide (n = 1) := by
  unfold isT bareT parD
  have h1 : hasP pK 78 = false := by decide +kernel
  have h2 : hasP pK 75 = true := by decide +kernel
  rw [h1, h2]; simp
  rw [Bool.eq_iff_iff]; simp; omega
theorem isT_not (n : Nat) : isT notD n 33 pK 1 = decide (n = 1) := by
  unfold isT bareT notD
  have h1 : hasP pK 78 = false := by decide +kernel
  have h2 : hasP pK 75 = true := by decide +kernel
  rw [h1, h2]; simp
  rw [Bool.eq_iff_iff]; simp; omega
theorem lev_par (da : Own) (ka : F) : levT parD (.cons da ka .nil) = if 0 ≤ levT da ka then 0 else -1 := by
  have e : levT parD (.cons da ka .nil) = if isT parD 1 32 pK 1 && decide (0 ≤ levT da ka) then 0 else -1 := rfl
  rw [e, isT_par]
  simp
theorem lev_not' (da : Own) (ka : F) : levT notD (.cons da ka .nil) = if facT da ka then 0 else -1 := by
  have e : levT notD (.cons da ka .nil) = if isT notD 1 33 pK 1 && facT da ka then 0 else -1 := rfl
  rw [e, isT_not]
  simp
theorem wordM_kind (d : Own) (n : Nat) (h : d.kind ≠ 11) : wordM d n = false := by
  unfold wordM isT
  have : (d.kind == 11) = false := by simpa using h
  rw [this]; rfl
theorem fac_of_lev (d : Own) (ks : F) : facT d ks = decide (levT d ks = 0) := by
  by_cases h34 : d.kind = 34
  · have hf : facT d ks = false := by
      have := wordM_kind d ks.len (by omega)
      unfold facT facM desM
      simp [h34, this]
    have hl : levT d ks ≠ 0 := by
      unfold levT levM
      simp only [h34]
      simp only [beq_self_eq_true, if_true]
      split <;> omega
    rw [hf]; simp [hl]
  · by_cases h35 : d.kind = 35
    · have hf : facT d ks = false := by
        have := wordM_kind d ks.len (by omega)
        unfold facT facM desM
        simp [h35, this]
      have hl : levT d ks ≠ 0 := by
        unfold levT levM
        simp only [h35]
        rw [if_neg (by decide), if_pos (by decide)]
        split
        · rename_i h
          intro h0
          rw [h0] at h
          simp at h
        · omega
      rw [hf]; simp [hl]
    · have hl : levT d ks = if facT d ks then 0 else -1 := by
        have t34 : (d.kind == 34) = false := by simpa using h34
        have t35 : (d.kind == 35) = false := by simpa using h35
        unfold levT levM facT
        simp only [t34, t35, Bool.false_eq_true, if_false]
      rw [hl]
      cases facT d ks <;> simp
theorem lev_not (da : Own) (ka : F) : levT notD (.cons da ka .nil) = if levT da ka = 0 then 0 else -1 := by
  rw [lev_not', fac_of_lev]; simp
theorem lev_mul (da : Own) (ka : F) : levT (opD ⟨#[42]⟩) (.cons parD (.cons da ka .nil) (.cons parD (.cons da ka .nil) .nil)) = if 0 ≤ levT da ka then 1 else -1 := by
  have h := lev_op ⟨#[42]⟩ parD parD (.cons da ka .nil) (.cons da ka .nil)
  have h1 : opL ⟨#[42]⟩ = 1 := by decide +kernel
  rw [h1, lev_par] at h
  by_cases hx : 0 ≤ levT da ka
  · rw [if_pos hx] at h ⊢
    exact h.1 (by unfold Fits; omega)
  · rw [if_neg hx] at h ⊢
    exact h.2 (by unfold Fits; omega)
end Go.Proofs.Ytnihjkcniddepaa
