/- What is proved: a record's fields begin where the reference's Offset says. Plain law. -/
import Derived.Test.YtholeloedihkoaaVbL
import Derived.Test.YtholeloedihkoaaVaY
import Derived.Test.YtholeloedihkoaaVbI
set_option linter.unusedSimpArgs false
set_option linter.unusedVariables false
namespace Go.Proofs.Ytholeloedihkoaa
open Go Go.RowKit
theorem recL_offS (l : List (ByteArray × (Nat × Ti))) : (∀ x ∈ l, 1 ≤ x.2.2.size) → (recL l).2 ≤ 262144 → ∀ (k : Nat) (f : Fd), (recL l).1[k]? = some f → f.off = offS (l.map fun x => x.2.2.size) k := by
  induction l using List.snocRec with
  | nil => intro _ _ k f h; simp [recL] at h
  | snoc l x ih =>
    intro h1 h2 k f hf
    have hm : (recL l).2 ≤ 262144 := by
      have := recL_mono (l ++ [x]) h2 l.length
      rw [List.take_left] at this
      omega
    rw [recL_snoc] at hf
    simp only [recStep] at hf
    by_cases hk : k < l.length
    · rw [List.getElem?_append_left (by rw [recL_len]; exact hk)] at hf
      rw [ih (fun y hy => h1 y (by simp [hy])) hm k f hf]
      unfold offS
      rw [List.map_append, List.getElem?_append_left (by simpa using hk), List.take_append_of_le_length (by simp; omega)]
    · have hk2 : k = l.length := by
        have := (List.getElem?_eq_some_iff.1 hf).1
        simp [recL_len] at this
        omega
      subst hk2
      rw [List.getElem?_append_right (by rw [recL_len]; exact Nat.le_refl _)] at hf
      simp only [recL_len, Nat.sub_self, List.getElem?_cons_zero, Option.some.injEq] at hf
      subst hf
      unfold offS
      have e1 : ((l ++ [x]).map fun x => x.2.2.size)[l.length]? = some x.2.2.size := by simp
      have e2 : ((l ++ [x]).map fun x => x.2.2.size).take l.length = l.map fun x => x.2.2.size := by simp
      have e3 : refAt (l.map fun x => x.2.2.size) = (recL l).2 := by
        have h3 := recL_sizes l
        rw [refAt_min _ (fun s hs => by
          obtain ⟨y, hy, rfl⟩ := List.mem_map.1 hs
          exact h1 y (by simp [hy]))] at h3
        omega
      rw [e1, e2, e3]
      rfl
/-- a field begins where the reference's Offset says -/
theorem off_same {W : World} {s : Sv} {ns : List ByteArray} {ks : SF} {b : Nat} {T : Ti} (h : TyS W s ns ks (b, T)) (h8 : s.k = 8) (he : errOf s ns ks = 0) {k : Nat} {f : Fd} (hf : T.fs[k]? = some f) : f.off = offS (sizesF ks) k := by
  obtain ⟨_, _, ts, h3, h4⟩ := h
  have hsz := TysF.sizes ks h3
  unfold OwnTy at h4
  rw [if_neg (by omega), if_pos h8] at h4
  obtain ⟨l1, _, _, l4, l5⟩ := h4
  simp only at l4
  rw [l4] at hf
  have e : (ns.zip ts).map (fun x => x.2.2.size) = sizesF ks := by
    rw [← hsz]
    have : (fun x : ByteArray × (Nat × Ti) => x.2.2.size) = (fun y : Nat × Ti => y.2.size) ∘ Prod.snd := rfl
    rw [this, ← List.map_map, List.map_snd_zip (by omega)]
  have hp := err_parts he
  have h5 := hp.2
  rw [h8] at h5
  have h6 := (err8 h5).2.2
  have h7 := recL_sizes (ns.zip ts)
  rw [e] at h7
  have h9 : (recL (ns.zip ts)).2 ≤ 262144 := by
    rw [h7]
    unfold recSizeS at h6
    omega
  have hr := recL_offS (ns.zip ts) (fun x hx => (sizes_in ks hp.1 _ (by rw [← e]; exact List.mem_map.2 ⟨x, hx, rfl⟩)).1) h9 k f hf
  rw [hr, e]

end Go.Proofs.Ytholeloedihkoaa
