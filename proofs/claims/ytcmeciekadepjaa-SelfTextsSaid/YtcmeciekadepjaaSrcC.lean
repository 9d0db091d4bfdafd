/- What is proved: each source that the program holds begins as a module's does. Conditions: none. -/
import Derived.Test.YtcmeciekadepjaaSrcB
import Derived.Test.YtcmeciekadepjaaScanB
namespace Go.Proofs.Ytcmeciekadepjaa
open Go.RowKit
def preB (t nm : ByteArray) : Bool :=
  decide (10 ≤ t.size) && decide (t.size ≤ 65535) && (bt t 0 == 77) && (List.range 6).all (fun j => isWord (bt t j)) && ((nameAt t 0 6).data.toList == modB.data.toList) && (bt t 6 == 32) && letterB (bt t 7) &&
  (List.range nm.size).all (fun j => isWord (bt t (7 + j : Nat))) && ((nameAt t 7 (7 + nm.size)).data.toList == nm.data.toList) && decide (1 ≤ nm.size) && decide (nm.size ≤ 15) && (bt t ((7 + nm.size : Nat) : Int) == 59) && (lastI baseB nm == -1)
theorem bytes_ext {a b : ByteArray} (h : a.data.toList = b.data.toList) : a = b := by
  cases a; cases b
  simpa using h
theorem preB_pre {t nm : ByteArray} (h : preB t nm = true) : Pre t nm ∧ 10 ≤ t.size := by
  unfold preB at h
  simp only [Bool.and_eq_true, decide_eq_true_eq, beq_iff_eq, List.all_eq_true, List.mem_range] at h
  obtain ⟨⟨⟨⟨⟨⟨⟨⟨⟨⟨⟨⟨h1, h2⟩, h3⟩, h4⟩, h5⟩, h6⟩, h7⟩, h8⟩, h9⟩, h10⟩, h11⟩, h12⟩, h13⟩ := h
  exact ⟨⟨h2, ⟨h3, fun j hj => h4 j hj, bytes_ext h5⟩, h6, h7, fun j hj1 hj2 => by
    have := h8 (j - 7) (by omega)
    rwa [show 7 + (j - 7) = j by omega] at this, bytes_ext h9, ⟨h10, h11⟩, h12, h13⟩, h1⟩
theorem pre_src : (List.range 5).all (fun k => preB (src k) (nmB.getD k ⟨#[]⟩)) = true := by decide +kernel
theorem pre_at (k : Nat) (hk : k < 5) : Pre (src k) (nmB.getD k ⟨#[]⟩) ∧ 10 ≤ (src k).size :=
  preB_pre (List.all_eq_true.1 pre_src k (List.mem_range.2 hk))
def nm (k : Nat) : ByteArray := nmB.getD k ⟨#[]⟩
theorem nm_ne : (List.range 5).all (fun i => (List.range i).all fun k => !((nm k).toList == (nm i).toList)) = true := by decide +kernel
theorem nm_ne_at (i k : Nat) (hi : i < 5) (hk : k < i) : ((nm k).toList == (nm i).toList) = false := by
  have h := List.all_eq_true.1 nm_ne i (List.mem_range.2 hi)
  have := List.all_eq_true.1 h k (List.mem_range.2 hk)
  simpa using this
/-- does one of the first k names equal a text? -/
def hit (s : ByteArray) (k : Nat) : Bool := (List.range k).any fun i => (nm i).toList == s.toList
theorem hit_succ (s : ByteArray) (k : Nat) : hit s (k + 1) = (hit s k || (nm k).toList == s.toList) := by
  unfold hit
  rw [List.range_succ, List.any_append]
  simp
theorem hit_all (s : ByteArray) : hit s 5 = isSrc s := by
  unfold hit isSrc
  rw [← nm_lists, List.any_map, Bool.eq_iff_iff, List.any_eq_true, List.any_eq_true]
  constructor
  · rintro ⟨i, hi, h⟩
    have hi : i < nmB.length := by simpa [nmB] using hi
    have e : nm i = nmB[i] := by unfold nm; rw [List.getD_eq_getElem?_getD, List.getElem?_eq_getElem hi]; rfl
    refine ⟨nm i, by rw [e]; exact List.getElem_mem _, ?_⟩
    simp only [beq_iff_eq, Function.comp] at h ⊢
    exact h.symm
  · rintro ⟨b, hb, h⟩
    obtain ⟨i, hi, rfl⟩ := List.getElem_of_mem hb
    have e : nm i = nmB[i] := by unfold nm; rw [List.getD_eq_getElem?_getD, List.getElem?_eq_getElem hi]; rfl
    refine ⟨i, by simpa [nmB] using hi, ?_⟩
    simp only [beq_iff_eq, Function.comp] at h ⊢
    rw [e]
    exact h.symm
end Go.Proofs.Ytcmeciekadepjaa
