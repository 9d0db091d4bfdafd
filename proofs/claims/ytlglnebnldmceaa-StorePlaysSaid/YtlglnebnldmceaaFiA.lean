/- What is proved: the contract of Files: a directory's names, sorted, with how many bytes each file has. Conditions: the memory holds a store. -/
import Derived.Test.YtlglnebnldmceaaSmB
import Derived.Test.YtlglnebnldmceaaIter
set_option linter.unusedSimpArgs false
set_option linter.unusedVariables false
namespace Go.Proofs.Ytlglnebnldmceaa
open Go.RowKit Go.Maps Go.Sort
/-! ### the keys of a map of ours, as the kit reads them -/
theorem insert_perm {H : Type} (x : Lit × DataW H) : ∀ l : List (Lit × DataW H), (DataW.insert x l).Perm (x :: l)
  | [] => .refl _
  | y :: r => by
    unfold DataW.insert
    split
    · exact .refl _
    · exact ((insert_perm x r).cons y).trans (.swap _ _ _)
theorem sorted_perm {H : Type} : ∀ l : List (Lit × DataW H), (l.foldr DataW.insert []).Perm l
  | [] => .refl _
  | x :: l => (insert_perm x _).trans ((sorted_perm l).cons x)
def constR : Value → Option (DataW Unit × List MemPlace) := fun _ => some (.nil, [])
theorem keys_own {P : Program} {k : TypeId} {w : World} {m : Nat} {l : List (ByteArray × Value)} (hk : P.underlying k = some .string) (h : MapIs w m (strs l)) (hl : l.length ≤ 200) (hs : ∀ e ∈ l, e.1.size ≤ maxLen) (hn : (l.map (·.1)).Nodup) :
    ∃ D0 : DataW Unit, w.ownsMap P k constR m l.length D0 ∧ (strKeys D0).Perm (l.map fun e => e.1.data.toList) ∧ Maps.size D0 = l.length := by
  obtain ⟨es, clock, hm, hkv, hb, hc⟩ := h
  have hlen : es.size = l.length := by
    have := congrArg List.length hkv
    simpa [strs] using this
  have hkeys : es.toList.map (fun e => e.key) = l.map fun e => Value.string e.1 := by
    have := congrArg (List.map Prod.fst) hkv
    simpa [strs, List.map_map, Function.comp_def] using this
  have hrd : ∀ x ∈ es.toList, ∃ s : ByteArray, x.key = .string s ∧ s.size ≤ maxLen := fun x hx => by
    have h1 : x.key ∈ es.toList.map (fun e => e.key) := List.mem_map.2 ⟨x, hx, rfl⟩
    rw [hkeys] at h1
    obtain ⟨e, he, h2⟩ := List.mem_map.1 h1
    exact ⟨e.1, h2.symm, hs e he⟩
  have hrdv : ∀ x ∈ es.toList, ∀ s : ByteArray, x.key = .string s → WideElems.rd P k constR x = some (.string s.data.toList, .nil) := fun x hx s hsx => by
    obtain ⟨s', h1, h2⟩ := hrd x hx
    rw [hsx] at h1
    injection h1 with h1
    subst h1
    unfold WideElems.rd constR
    rw [hsx, WideMaps.keyOf_string_mk hk h2]
    rfl
  refine ⟨.map ((es.toList.map (WideElems.rg P k constR)).foldr DataW.insert []), ⟨es, clock, hm, ⟨by rw [hlen]; unfold maxLen; omega, ⟨hc, hb, ?_⟩, fun x hx => ?_⟩, Nat.le_of_eq hlen, rfl⟩, ?_, ?_⟩
  · rw [hkeys]
    exact List.pairwise_map.2 ((List.pairwise_map.1 hn).imp fun hne e => hne (by injection e))
  · obtain ⟨s, h1, _⟩ := hrd x hx
    exact ⟨_, hrdv x hx s h1⟩
  · have h1 := (sorted_perm (es.toList.map (WideElems.rg P k constR))).map fun p => strOf p.1
    refine h1.trans (List.Perm.of_eq ?_)
    rw [List.map_map]
    have h2 : l.map (fun e => e.1.data.toList) = (es.toList.map (fun e => e.key)).map fun v => match v with | .string s => s.data.toList | _ => [] := by
      rw [hkeys, List.map_map]; rfl
    rw [h2, List.map_map]
    apply List.map_congr_left
    intro x hx
    obtain ⟨s, h3, _⟩ := hrd x hx
    simp only [Function.comp_def, WideElems.rg, hrdv x hx s h3, h3, Option.getD_some, strOf]
  · show ((es.toList.map (WideElems.rg P k constR)).foldr DataW.insert []).length = l.length
    rw [(sorted_perm _).length_eq, List.length_map]
    simpa using hlen
end Go.Proofs.Ytlglnebnldmceaa
