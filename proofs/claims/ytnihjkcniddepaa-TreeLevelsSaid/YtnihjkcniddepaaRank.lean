/- What is proved: the contract of the reference's Rank: it is the level of tree's table. Conditions: none. -/
import Derived.Test.YtnihjkcniddepaaBig
namespace Go.Proofs.Ytnihjkcniddepaa
open Go.RowKit
def ranks1 : List (List UInt8) := [[42], [47], [68, 73, 86], [77, 79, 68], [38]]
def ranks2 : List (List UInt8) := [[43], [45], [79, 82]]
def ranks3 : List (List UInt8) := [[61], [35], [60], [60, 61], [62], [62, 61], [73, 78]]
theorem opL_rank (s : ByteArray) : opL s = if s.data.toList ∈ ranks1 then 1 else if s.data.toList ∈ ranks2 then 2 else if s.data.toList ∈ ranks3 then 3 else 0 := by
  unfold opL
  generalize s.data.toList = l
  by_cases h : l ∈ ranks1 ++ (ranks2 ++ ranks3)
  · have key : ∀ l ∈ ranks1 ++ (ranks2 ++ ranks3), ((opKeys.find? fun p => p.1 == l).map (·.2)).getD 0 = if l ∈ ranks1 then (1 : Int) else if l ∈ ranks2 then 2 else if l ∈ ranks3 then 3 else 0 := by decide +kernel
    exact key l h
  · simp only [List.mem_append, not_or] at h
    rw [if_neg h.1, if_neg h.2.1, if_neg h.2.2]
    have hn : (opKeys.find? fun p => p.1 == l) = none := by
      rw [List.find?_eq_none]
      intro p hp hpl
      have : ∀ p ∈ opKeys, p.1 ∈ ranks1 ∨ p.1 ∈ ranks2 ∨ p.1 ∈ ranks3 := by decide +kernel
      have e : p.1 = l := by simpa using hpl
      rcases this p hp with h1 | h1 | h1 <;> rw [e] at h1
      · exact h.1 h1
      · exact h.2.1 h1
      · exact h.2.2 h1
    rw [hn]; rfl
theorem list_cells (xs : List (List UInt8)) (w : World) (C : Array Value) (e : TypeId) (g : Nat) (hg : w.heap.size = g) (h : C.toList = xs.map fun k => .string ⟨k.toArray⟩) : ∀ j (hj : j < xs.length), (w.alloc (.cells C e)).cell? ⟨g, j, none⟩ = some (.string ⟨xs[j].toArray⟩) := by
  intro j hj
  subst hg
  have hb : (w.alloc (.cells C e)).heap[w.heap.size]? = some (.cells C e) := by
    show (w.heap.push _)[w.heap.size]? = _
    simp
  unfold World.cell?
  simp only [hb]
  have : C[j]? = C.toList[j]? := by simp
  rw [this, h]
  simp [hj]
set_option maxHeartbeats 400000 in
theorem Rank_c (s : ByteArray) (w : World) : Calls Try.prog 16 #[.string s] w fun e w' => e = .returned (.int .i64 (opL s)) ∧ Chg NoB w w' := by
  have Heq := Go.Lib.hid (opL_rank s)
  have HC : Hid (∀ (o o1 o2 : Obj), Chg NoB w (w.alloc o) ∧ Chg NoB w ((w.alloc o).alloc o1) ∧ Chg NoB w (((w.alloc o).alloc o1).alloc o2)) :=
    Go.Lib.hid fun o o1 o2 => ⟨(Chg.refl _ _).alloc _, ((Chg.refl _ _).alloc _).alloc _, (((Chg.refl _ _).alloc _).alloc _).alloc _⟩
  go_enter Try.func16, Try.ntmps16
  go_wp2_with fail
  refine (among_c s ranks1 w.heap.size 5 _ (by decide) (list_cells ranks1 w _ _ _ rfl rfl)).mono ?_
  rintro e w1 ⟨rfl, rfl⟩
  by_cases h1 : s.data.toList ∈ ranks1
  · have hd : decide (s.data.toList ∈ ranks1) = true := decide_eq_true h1
    rw [hd]
    have H := Go.Lib.hid (show opL s = 1 by rw [Heq.out, if_pos h1])
    clear hd h1 Heq
    go_wp2_with fail
    go_ret
    exact ⟨congrArg (fun b => Ending.returned (.int .i64 b)) H.out.symm, (HC.out _ (.cells #[] 0) (.cells #[] 0)).1⟩
  · have hd : decide (s.data.toList ∈ ranks1) = false := decide_eq_false h1
    rw [hd]
    have H1 := Go.Lib.hid h1
    clear hd h1
    go_wp2_with fail
    refine (among_c s ranks2 (w.heap.size + 1) 3 _ (by decide) (list_cells ranks2 _ _ _ _ (by simp) rfl)).mono ?_
    rintro e w1 ⟨rfl, rfl⟩
    by_cases h2 : s.data.toList ∈ ranks2
    · have hd : decide (s.data.toList ∈ ranks2) = true := decide_eq_true h2
      rw [hd]
      have H := Go.Lib.hid (show opL s = 2 by rw [Heq.out, if_neg H1.out, if_pos h2])
      clear hd h2 Heq
      go_wp2_with fail
      go_ret
      exact ⟨congrArg (fun b => Ending.returned (.int .i64 b)) H.out.symm, (HC.out _ _ (.cells #[] 0)).2.1⟩
    · have hd : decide (s.data.toList ∈ ranks2) = false := decide_eq_false h2
      rw [hd]
      have H2 := Go.Lib.hid h2
      clear hd h2
      go_wp2_with fail
      refine (among_c s ranks3 (w.heap.size + 1 + 1) 7 _ (by decide) (list_cells ranks3 _ _ _ _ (by simp) rfl)).mono ?_
      rintro e w1 ⟨rfl, rfl⟩
      by_cases h3 : s.data.toList ∈ ranks3
      · have hd : decide (s.data.toList ∈ ranks3) = true := decide_eq_true h3
        rw [hd]
        have H := Go.Lib.hid (show opL s = 3 by rw [Heq.out, if_neg H1.out, if_neg H2.out, if_pos h3])
        clear hd h3 Heq
        go_wp2_with fail
        go_ret
        exact ⟨congrArg (fun b => Ending.returned (.int .i64 b)) H.out.symm, (HC.out _ _ _).2.2⟩
      · have hd : decide (s.data.toList ∈ ranks3) = false := decide_eq_false h3
        rw [hd]
        have H := Go.Lib.hid (show opL s = 0 by rw [Heq.out, if_neg H1.out, if_neg H2.out, if_neg h3])
        clear hd h3 Heq
        go_wp2_with fail
        go_ret
        exact ⟨congrArg (fun b => Ending.returned (.int .i64 b)) H.out.symm, (HC.out _ _ _).2.2⟩
end Go.Proofs.Ytnihjkcniddepaa
