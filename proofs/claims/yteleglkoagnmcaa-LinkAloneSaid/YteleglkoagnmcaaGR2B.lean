/- What is proved: the reference's Old. Conditions: the memory holds the reference's store. · What is proved: the reference's Fresh. Conditions: the memory holds the reference's store. · What is proved: the reference's Delete. Conditions: the memory holds the reference's store. -/
import Derived.Test.YteleglkoagnmcaaGR2A
import Derived.Test.YteleglkoagnmcaaRefName
set_option linter.unusedSimpArgs false
set_option linter.unusedVariables false
namespace Go.Proofs.Yteleglkoagnmcaa
open Go Go.RowKit
def oldR (U : V) (nm : ByteArray) : Nat × V := match U.dir[posD nm U.dir]? with | none => (0, U) | some e => if (e.1 == nm) = true ∧ U.rd.length < 255 then (U.rd.length + 1, U.ride e.2 nm) else (0, U)
section
variable {W W' : World} {r : Nat} {U : V} {X F : Nat → Prop} {a : RA}
end
end Go.Proofs.Yteleglkoagnmcaa
set_option linter.unusedSimpArgs false
set_option linter.unusedVariables false
namespace Go.Proofs.Yteleglkoagnmcaa
open Go Go.RowKit
section
variable {W W' : World} {r : Nat} {U : V} {X F : Nat → Prop} {a : RA}
theorem RefAt.flen (h : RefAt W r U X a) : a.f.length = U.F.length * 1 := h.F.1
theorem RefAt.fone (h : RefAt W r U X a) : ∀ u ∈ a.f, u.oneCell' = true := by
  intro u hu
  obtain ⟨i, hi, rfl⟩ := List.mem_iff_getElem.1 hu
  have hl := h.flen
  have hi2 : i < U.F.length := by omega
  obtain ⟨v, h1, h2, _⟩ := h.f i U.F[i] (List.getElem?_eq_getElem hi2)
  rw [List.getElem?_eq_getElem hi] at h1
  obtain rfl := Option.some.inj h1
  obtain ⟨A, c, hv⟩ := own_slice h2
  rw [hv]
  rfl
end
end Go.Proofs.Yteleglkoagnmcaa
set_option linter.unusedSimpArgs false
set_option linter.unusedVariables false
namespace Go.Proofs.Yteleglkoagnmcaa
open Go Go.RowKit
def delR (U : V) (nm : ByteArray) : V := match U.dir[posD nm U.dir]? with | none => U | some e => if (e.1 == nm) = true then { U with dir := U.dir.take (posD nm U.dir) ++ U.dir.drop (posD nm U.dir + 1) } else U
theorem isD_some {nm : ByteArray} {l : List (ByteArray × Nat)} (hi : isD nm l = true) : ∃ e, l[posD nm l]? = some e ∧ (e.1 == nm) = true := by
  unfold isD at hi
  rcases hq : l[posD nm l]? with _ | e
  · rw [hq] at hi; cases hi
  · rw [hq] at hi; exact ⟨e, rfl, hi⟩
theorem isD_none {nm : ByteArray} {l : List (ByteArray × Nat)} (hi : isD nm l = false) : ∀ e, l[posD nm l]? = some e → (e.1 == nm) = false := by
  intro e he
  unfold isD at hi
  rw [he] at hi
  exact hi
section
variable {W W' : World} {r : Nat} {U : V} {X F : Nat → Prop} {a : RA}
theorem RefAt.halves (h : RefAt W r U X a) (hne : 0 < U.dir.length) : ∃ g c, a.D = .slice (some ⟨g, 0, none⟩) U.dir.length c ∧ U.dir.length ≤ c ∧ c ≤ maxLen ∧ ∀ k, k ≤ U.dir.length → CellsAt W (some ⟨g, 0, none⟩) (dcells (U.dir.take k)) ∧ CellsAt W (some ⟨g, k * 2, none⟩) (dcells (U.dir.drop k)) := by
  have hD := h.D
  rcases hD.2 with ⟨_, h0⟩ | ⟨g, cap, cur, hv, hb, hgg, hn, hm, _⟩
  · omega
  have hc := h.D.cells (g := g) (by rw [hv]; rfl)
  refine ⟨g, cap, hv, hn, hm, fun k hk => ?_⟩
  have hsp : dcells U.dir = dcells (U.dir.take k) ++ dcells (U.dir.drop k) := by rw [← dcells_app, List.take_append_drop]
  have hlen : (dcells (U.dir.take k)).length = k * 2 := by rw [dcells_len]; simp; omega
  constructor
  · intro _
    refine ⟨_, rfl, fun j u hj => hc j u ?_⟩
    rw [hsp, List.getElem?_append_left (List.getElem?_eq_some_iff.1 hj).1]
    exact hj
  · intro _
    refine ⟨_, rfl, fun j u hj => ?_⟩
    have := hc (k * 2 + j) u (by rw [hsp, List.getElem?_append_right (by omega), hlen]; simpa using hj)
    rw [add_lit] at this
    rw [show (⟨g, k * 2, none⟩ : Addr).add j = ⟨g, k * 2 + j, none⟩ by unfold Addr.add; split <;> simp_all]
    exact this
end
end Go.Proofs.Yteleglkoagnmcaa
