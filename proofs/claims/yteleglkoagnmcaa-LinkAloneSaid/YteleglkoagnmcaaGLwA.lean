/- What is proved: what is loaded stands in order, once, behind what it imports, with the keys that were compiled against. Conditions: none (plain laws). · What is proved: what is loaded hangs on the loaded modules' files alone. Conditions: none (plain laws). -/
import Derived.Test.YteleglkoagnmcaaLkB
set_option linter.unusedSimpArgs false
set_option linter.unusedVariables false
namespace Go.Proofs.Yteleglkoagnmcaa
open Go Go.RowKit
section
variable {get : ByteArray → Option (List UInt8)}
theorem ldO_name {nm : ByteArray} {o : Ob} (h : ldO get nm = .inr o) : o.name = nm := by
  unfold ldO at h
  split at h
  · split at h
    · cases h
    · split at h
      · cases h
      · split at h
        · rename_i hn
          injection h with h
          rw [← h]
          exact hn
        · cases h
  · cases h
theorem findO_some {l : List Ob} {nm : ByteArray} {o : Ob} (h : findO l nm = some o) : o ∈ l ∧ o.name = nm := by
  unfold findO at h
  exact ⟨List.mem_of_find?_eq_some h, by simpa using List.find?_some h⟩
theorem findO_pre {l m : List Ob} {nm : ByteArray} {o : Ob} (h : findO l nm = some o) : findO (l ++ m) nm = some o := by
  unfold findO at h ⊢
  rw [List.find?_append, h]
  rfl
theorem findO_no {l : List Ob} {nm : ByteArray} (h : findO l nm = none) : ∀ o ∈ l, o.name ≠ nm := by
  unfold findO at h
  intro o ho
  have := List.find?_eq_none.1 h o ho
  simpa using this
/-- objects in order: each as its file says, behind what it imports -/
def Good (get : ByteArray → Option (List UInt8)) (d : List Ob) : Prop :=
  ∀ (i : Nat) o, d[i]? = some o → ldO get o.name = .inr o ∧ ∀ x ∈ o.imps, ∃ (j : Nat) (p : Ob), j < i ∧ d[j]? = some p ∧ p.name = x.1 ∧ p.key = x.2
structure Fit (get : ByteArray → Option (List UInt8)) (busy : List ByteArray) (d : List Ob) : Prop where
  good : Good get d
  nod : (d.map (·.name)).Nodup
  dis : ∀ o ∈ d, o.name ∉ busy
theorem Fit.push {busy : List ByteArray} {nm : ByteArray} {d : List Ob} {o : Ob} (h : Fit get (nm :: busy) d) (hnb : nm ∉ busy) (ho : ldO get nm = .inr o) (hi : ∀ x ∈ o.imps, ∃ p ∈ d, p.name = x.1 ∧ p.key = x.2) : Fit get busy (d ++ [o]) where
  good := fun i q hq => by
    have hn := ldO_name ho
    rcases Nat.lt_or_ge i d.length with hlt | hge
    · rw [List.getElem?_append_left hlt] at hq
      obtain ⟨h1, h2⟩ := h.good i q hq
      refine ⟨h1, fun x hx => ?_⟩
      obtain ⟨j, p, h3, h4, h5⟩ := h2 x hx
      exact ⟨j, p, h3, by rw [List.getElem?_append_left (by omega)]; exact h4, h5⟩
    · rw [List.getElem?_append_right hge] at hq
      have h0 : i - d.length = 0 := by
        rcases Nat.eq_zero_or_pos (i - d.length) with h | h
        · exact h
        · rw [List.getElem?_eq_none (by simp; omega)] at hq
          cases hq
      rw [h0] at hq
      simp at hq
      subst hq
      refine ⟨by rw [hn]; exact ho, fun x hx => ?_⟩
      obtain ⟨p, hp, h5⟩ := hi x hx
      obtain ⟨j, hj⟩ := List.mem_iff_getElem?.1 hp
      have hlt := (List.getElem?_eq_some_iff.1 hj).1
      exact ⟨j, p, by omega, by rw [List.getElem?_append_left hlt]; exact hj, h5⟩
  nod := by
    rw [List.map_append, List.nodup_append]
    refine ⟨h.nod, by simp, fun a ha b hb e => ?_⟩
    obtain ⟨q, hq, rfl⟩ := List.mem_map.1 ha
    simp at hb
    subst hb
    exact h.dis q hq (by rw [e, ldO_name ho]; exact List.mem_cons_self ..)
  dis := fun q hq hm => by
    rcases List.mem_append.1 hq with hq | hq
    · exact h.dis q hq (List.mem_cons_of_mem _ hm)
    · rw [List.mem_singleton] at hq
      subst hq
      rw [ldO_name ho] at hm
      exact hnb hm
/-- what a load leaves -/
structure Led (get : ByteArray → Option (List UInt8)) (busy : List ByteArray) (done d : List Ob) (nm : ByteArray) : Prop where
  fit : Fit get busy d
  pre : ∃ m, d = done ++ m
  has : ∃ o, findO d nm = some o
  new : findO done nm = none → ∃ m o, d = m ++ [o] ∧ o.name = nm
theorem ldImps_fit {busy : List ByteArray} {ld : List Ob → ByteArray → Int ⊕ List Ob} (hld : ∀ done nm d, Fit get busy done → nm ∉ busy → ld done nm = .inr d → Led get busy done d nm) :
    ∀ (l : List (ByteArray × Nat)) (done d : List Ob), Fit get busy done → ldImps ld busy l done = .inr d → Fit get busy d ∧ (∃ m, d = done ++ m) ∧ ∀ x ∈ l, ∃ p ∈ d, p.name = x.1 ∧ p.key = x.2
  | [], done, d, h, hd => by
    unfold ldImps at hd
    injection hd with hd
    subst hd
    exact ⟨h, ⟨[], by simp⟩, by simp⟩
  | i :: l, done, d, h, hd => by
    unfold ldImps at hd
    split at hd
    · cases hd
    · rename_i hnb
      split at hd
      · cases hd
      · rename_i d2 he
        split at hd
        · rename_i hk
          have hni : i.1 ∉ busy := fun hm => hnb (List.any_eq_true.2 ⟨i.1, hm, decide_eq_true rfl⟩)
          have hL := hld done i.1 d2 h hni he
          obtain ⟨h1, ⟨m1, h2⟩, h3⟩ := ldImps_fit hld l d2 d hL.fit hd
          obtain ⟨m2, h4⟩ := hL.pre
          refine ⟨h1, ⟨m2 ++ m1, by rw [h2, h4, List.append_assoc]⟩, fun x hx => ?_⟩
          rcases List.mem_cons.1 hx with rfl | hx
          · obtain ⟨o, ho⟩ := hL.has
            rw [ho] at hk
            simp at hk
            obtain ⟨h5, h6⟩ := findO_some ho
            exact ⟨o, by rw [h2]; exact List.mem_append_left _ h5, h6, hk⟩
          · exact h3 x hx
        · cases hd
theorem ldAll_fit : ∀ (n : Nat) (busy : List ByteArray) (done : List Ob) (nm : ByteArray) (d : List Ob), Fit get busy done → nm ∉ busy → ldAll get n busy done nm = .inr d → Led get busy done d nm
  | 0, _, _, _, _, _, _, h => by
    unfold ldAll at h
    cases h
  | n + 1, busy, done, nm, d, hf, hnb, h => by
    unfold ldAll at h
    split at h
    · rename_i o ho
      injection h with h
      subst h
      exact ⟨hf, ⟨[], by simp⟩, ⟨o, ho⟩, fun hn => by rw [ho] at hn; cases hn⟩
    · rename_i hno
      split at h
      · cases h
      · rename_i o ho
        split at h
        · cases h
        · rename_i d1 hd1
          injection h with h
          subst h
          have hf1 : Fit get (nm :: busy) done := ⟨hf.good, hf.nod, fun q hq hm => by
            rcases List.mem_cons.1 hm with hm | hm
            · exact findO_no hno q hq hm
            · exact hf.dis q hq hm⟩
          obtain ⟨h1, ⟨m, h2⟩, h3⟩ := ldImps_fit (fun dn i d' hfd hni he => ldAll_fit n (nm :: busy) dn i d' hfd hni he) o.imps done d1 hf1 hd1
          have hn := ldO_name ho
          have hfind : findO (d1 ++ [o]) nm = some o := by
            unfold findO
            rw [List.find?_append]
            have : d1.find? (fun o => decide (o.name = nm)) = none := List.find?_eq_none.2 fun q hq => by
              have := h1.dis q hq
              simp only [List.mem_cons, not_or] at this
              simpa using this.1
            rw [this]
            simp [hn]
          exact ⟨h1.push hnb ho h3, ⟨m ++ [o], by rw [h2, List.append_assoc]⟩, ⟨o, hfind⟩, fun _ => ⟨d1, o, rfl, hn⟩⟩
end
end Go.Proofs.Yteleglkoagnmcaa
set_option linter.unusedSimpArgs false
set_option linter.unusedVariables false
namespace Go.Proofs.Yteleglkoagnmcaa
open Go Go.RowKit
section
variable {get get' : ByteArray → Option (List UInt8)}
theorem ldImps_pre {busy : List ByteArray} {ld : List Ob → ByteArray → Int ⊕ List Ob} (hld : ∀ done nm d, ld done nm = .inr d → ∃ m, d = done ++ m) :
    ∀ (l : List (ByteArray × Nat)) (done d : List Ob), ldImps ld busy l done = .inr d → ∃ m, d = done ++ m
  | [], done, d, hd => by
    unfold ldImps at hd
    injection hd with hd
    exact ⟨[], by rw [hd]; simp⟩
  | i :: l, done, d, hd => by
    unfold ldImps at hd
    split at hd
    · cases hd
    · split at hd
      · cases hd
      · rename_i d2 he
        split at hd
        · obtain ⟨m1, h1⟩ := hld _ _ _ he
          obtain ⟨m2, h2⟩ := ldImps_pre hld l d2 d hd
          exact ⟨m1 ++ m2, by rw [h2, h1, List.append_assoc]⟩
        · cases hd
theorem ldAll_pre : ∀ (n : Nat) (busy : List ByteArray) (done : List Ob) (nm : ByteArray) (d : List Ob), ldAll get n busy done nm = .inr d → ∃ m, d = done ++ m
  | 0, _, _, _, _, h => by
    unfold ldAll at h
    cases h
  | n + 1, busy, done, nm, d, h => by
    unfold ldAll at h
    split at h
    · injection h with h
      exact ⟨[], by rw [h]; simp⟩
    · split at h
      · cases h
      · rename_i o ho
        split at h
        · cases h
        · rename_i d1 hd1
          injection h with h
          obtain ⟨m, hm⟩ := ldImps_pre (fun dn i d' he => ldAll_pre n (nm :: busy) dn i d' he) o.imps done d1 hd1
          exact ⟨m ++ [o], by rw [← h, hm, List.append_assoc]⟩
theorem ldImps_same {busy : List ByteArray} {ld ld' : List Ob → ByteArray → Int ⊕ List Ob} {S : Ob → Prop} (hpre : ∀ done nm d, ld done nm = .inr d → ∃ m, d = done ++ m)
    (hld : ∀ done nm d, ld done nm = .inr d → (∀ o ∈ d, S o) → ld' done nm = .inr d) :
    ∀ (l : List (ByteArray × Nat)) (done d : List Ob), ldImps ld busy l done = .inr d → (∀ o ∈ d, S o) → ldImps ld' busy l done = .inr d
  | [], done, d, hd, _ => by
    unfold ldImps at hd ⊢
    exact hd
  | i :: l, done, d, hd, hS => by
    unfold ldImps at hd
    split at hd
    · cases hd
    · rename_i hnb
      split at hd
      · cases hd
      · rename_i d2 he
        split at hd
        · rename_i hk
          obtain ⟨m, hm⟩ := ldImps_pre hpre l d2 d hd
          have h1 := hld _ _ _ he (fun o ho => hS o (by rw [hm]; exact List.mem_append_left _ ho))
          unfold ldImps
          rw [if_neg hnb, h1]
          simp only
          rw [if_pos hk]
          exact ldImps_same hpre hld l d2 d hd hS
        · cases hd
theorem ldAll_same : ∀ (n : Nat) (busy : List ByteArray) (done : List Ob) (nm : ByteArray) (d : List Ob), ldAll get n busy done nm = .inr d → (∀ o ∈ d, ldO get' o.name = ldO get o.name) → ldAll get' n busy done nm = .inr d
  | 0, _, _, _, _, h, _ => by
    unfold ldAll at h
    cases h
  | n + 1, busy, done, nm, d, h, hS => by
    unfold ldAll at h
    unfold ldAll
    split at h
    · rename_i o ho
      exact h
    · rename_i hno
      split at h
      · cases h
      · rename_i o ho
        split at h
        · cases h
        · rename_i d1 hd1
          injection h with h
          have h1 := hS o (by rw [← h]; simp)
          rw [ldO_name ho, ho] at h1
          have h2 := ldImps_same (S := fun o => ldO get' o.name = ldO get o.name) (ld' := fun d i => ldAll get' n (nm :: busy) d i) (fun dn i d' he => ldAll_pre n (nm :: busy) dn i d' he) (fun dn i d' he hS' => ldAll_same n (nm :: busy) dn i d' he hS') o.imps done d1 hd1 (fun q hq => hS q (by rw [← h]; exact List.mem_append_left _ hq))
          rw [h1]
          simp only
          rw [h2]
          simp only
          rw [h]
theorem ldO_same {nm : ByteArray} (h : get' (fileO nm) = get (fileO nm)) : ldO get' nm = ldO get nm := by
  unfold ldO
  rw [h]
end
end Go.Proofs.Yteleglkoagnmcaa
