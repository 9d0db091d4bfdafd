/- What is proved: the contracts of the reference's Keywords and Keyword. Conditions: none. -/
import Derived.Test.YtholeloedihkoaaRefKey
import Derived.Test.YtholeloedihkoaaHeap
set_option linter.unusedSimpArgs false
set_option linter.unusedVariables false
namespace Go.Proofs.Ytholeloedihkoaa
open Go.RowKit
def KwPost (w : World) (e : Ending) (w' : World) : Prop :=
  e = .returned (.slice (some ⟨w.heap.size, 0, none⟩) keyWords.length 29) ∧ (∀ j (h : j < keyWords.length), w'.cell? ⟨w.heap.size, j, none⟩ = some (.string ⟨keyWords[j].toArray⟩)) ∧ Chg NoB w w'
theorem kw_cells (w : World) (C : Array Value) (e : TypeId) (h : C.toList = keyWords.map fun k => .string ⟨k.toArray⟩) : ∀ j (hj : j < keyWords.length), (w.alloc (.cells C e)).cell? ⟨w.heap.size, j, none⟩ = some (.string ⟨keyWords[j].toArray⟩) := by
  intro j hj
  have hb : (w.alloc (.cells C e)).heap[w.heap.size]? = some (.cells C e) := by
    show (w.heap.push _)[w.heap.size]? = _
    simp
  unfold World.cell?
  simp only [hb]
  have : C[j]? = C.toList[j]? := by simp
  rw [this, h]
  simp [hj]
theorem keywords_c (w : World) : Calls Try.prog 62 #[] w (KwPost w) := by
  go_enter Try.func62, Try.ntmps62
  go_wp2_with fail
  go_ret
  exact ⟨rfl, kw_cells w _ _ (by rfl), (Chg.refl _ _).alloc _⟩
theorem refKeyword_c (s : ByteArray) (w : World) : Calls Try.prog 59 #[.string s] w fun e w' => e = .returned (.bool (isKey s)) ∧ Chg NoB w w' := by
  have H1 := Go.Lib.hid (keywords_c w)
  go_enter Try.func59, Try.ntmps59
  go_wp2_with fail
  refine H1.out.mono ?_
  rintro e w1 ⟨rfl, hc, hch⟩
  have H2 := Go.Lib.hid (among_c s keyWords w.heap.size 29 w1 (by decide) hc)
  have Hc := Go.Lib.hid hch
  clear hc hch H1
  go_wp2_with fail
  refine H2.out.mono ?_
  rintro e w2 ⟨rfl, rfl⟩
  go_wp2_with fail
  go_ret
  exact ⟨rfl, Hc.out⟩
end Go.Proofs.Ytholeloedihkoaa
