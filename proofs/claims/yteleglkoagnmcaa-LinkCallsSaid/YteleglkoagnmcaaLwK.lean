/- What is proved: LinkCalls' plain law: where each fixup leads. Conditions: none (plain laws). -/
import Derived.Test.YteleglkoagnmcaaGLnA
import Derived.Test.YteleglkoagnmcaaGLwC
set_option linter.unusedSimpArgs false
set_option linter.unusedVariables false
namespace Go.Proofs.Yteleglkoagnmcaa
open Go Go.RowKit
/-- where a fixup of a module of an image leads -/
structure LeadsP (i : Img) (k : Nat) (o : Ob) (p : Pl) (f : Int × Int × Int) (t : Nat) (q : Pl) : Prop where
  dst : i.mods[t]? = some q
  own : ¬ 0 < f.2.1 → t = k
  imp : 0 < f.2.1 → ∃ x, o.imps[f.2.1.toNat - 1]? = some x ∧ q.name = x.1 ∧ ∀ (m : Nat) r, i.mods[m]? = some r → r.name = x.1 → m = t
  pair : f.2.2 = 0 → ∃ a b, i.words[p.code + f.1.toNat]? = some a ∧ i.words[p.code + f.1.toNat + 1]? = some b ∧ a % 65536 * 65536 + b % 65536 = q.data ∧ q.data ≤ 16777216
  call : f.2.2 ≠ 0 → ∃ w e, i.words[p.code + f.1.toNat]? = some w ∧ q.ents[f.2.2.toNat]? = some e ∧ (p.code + f.1.toNat : Nat) + 1 + (if 8388608 ≤ w % 16777216 then ((w % 16777216 : Nat) : Int) - 16777216 else ((w % 16777216 : Nat) : Int)) = e
theorem leads_of {v : V} {nm : ByteArray} {d : List Ob} {i : Img} (h : loadedO (getV v) nm = .inr d) (hi : imgP haltW d = .inr i) {k : Nat} {o : Ob} {p : Pl} (hS : StandsP (getV v) i k o p) {j : Nat} {f : Int × Int × Int} (hf : o.fixs[j]? = some f) (hn : ∀ g, o.fixs[j + 1]? = some g → g.1 ≠ f.1 + 1) : ∃ t q, LeadsP i k o p f t q := by
  obtain ⟨ws, hI⟩ := imgP_inr hi
  have hL := loaded_laid' h
  have hG := (ldAll_fit 201 [] [] nm d (fit_nil _) (by simp) h).fit.good
  have hm := hI.mods
  have hk := hS.mod
  have hnod : (i.mods.map (·.name)).Nodup := by rw [hm, placed_name]; exact hL.nod
  rw [hm] at hk
  have hlt : k < d.length := by
    have := (List.getElem?_eq_some_iff.1 hk).1
    rw [placed_len] at this
    exact this
  obtain ⟨o2, ho⟩ : ∃ o2, d[k]? = some o2 := ⟨_, List.getElem?_eq_getElem hlt⟩
  rw [placed_get ho] at hk
  injection hk with hk
  have h2 := (hG k o2 ho).1
  have h3 := hS.file
  rw [← hk] at h3
  have h4 : ldO (getV v) (plOf o2 (cAt d k) (dAt d k)).name = .inr o2 := h2
  rw [h4] at h3
  injection h3 with h3
  subst h3
  subst hk
  obtain ⟨t, q, ht, hq, hown, himp⟩ := hI.to hL ho hf
  refine ⟨t, plOf q (cAt d t) (dAt d t), by rw [hm]; exact placed_get ht, hown, fun h0 => ?_, fun h0 => ?_, fun h0 => ?_⟩
  · obtain ⟨x, hx, hxn⟩ := himp h0
    refine ⟨x, hx, hxn.symm, fun m r hr hrn => ?_⟩
    refine nod_inj hnod (x := x.1) (by rw [List.getElem?_map, hr]; exact congrArg some hrn) ?_
    rw [List.getElem?_map, hm, placed_get ht]
    exact congrArg some hxn.symm
  · obtain ⟨a, b, h1, h2, h3⟩ := hI.pair (by rfl) hL ho hf hn h0 hq
    exact ⟨a, b, h1, h2, h3, hI.dAt_lt t⟩
  · exact hI.call (by rfl) hL ho hf hn h0 hq
end Go.Proofs.Yteleglkoagnmcaa
