/- What is proved: the contract of By.Do. Conditions: the memory holds a store and the step's bytes. -/
import Derived.Test.YtlglnebnldmceaaDoB
set_option linter.unusedSimpArgs false
set_option linter.unusedVariables false
namespace Go.Proofs.Ytlglnebnldmceaa
open Go.RowKit
section
variable {base : Nat} {w : World} {s : Nat} {v : V} {F : Nat → Prop}
set_option maxHeartbeats 2000000 in
theorem do_else (h : StoreV base w s v F) (k f : Int) (n : Nat) (nm : ByteArray) (bv0 : Value)
    (h1 : k ≠ 1) (h2 : k ≠ 2) (h3 : k ≠ 3) (h4 : k ≠ 4) (h5 : k ≠ 5) (h6 : k ≠ 6) (h7 : k ≠ 7) (h8 : k ≠ 8) (h9 : k ≠ 9) (h10 : k ≠ 10) (h11 : k ≠ 11) :
    Calls Try.prog 11 #[.agg #[], ptr s, .agg #[.int .i64 k, .int .i64 f, .int .u32 n, .string nm, bv0]] w (VPost base s F (.int .u32 0) v w) := by
  have e1 : (k == 1) = false := by simpa using h1
  have e2 : (k == 2) = false := by simpa using h2
  have e3 : (k == 3) = false := by simpa using h3
  have e4 : (k == 4) = false := by simpa using h4
  have e5 : (k == 5) = false := by simpa using h5
  have e6 : (k == 6) = false := by simpa using h6
  have e7 : (k == 7) = false := by simpa using h7
  have e8 : (k == 8) = false := by simpa using h8
  have e9 : (k == 9) = false := by simpa using h9
  have e10 : (k == 10) = false := by simpa using h10
  have e11 : (k == 11) = false := by simpa using h11
  clear h1 h2 h3 h4 h5 h6 h7 h8 h9 h10 h11
  have H := Go.Lib.hid h
  clear h
  unfold ptr
  go_enter Try.func11, Try.ntmps11
  go_wp2_with fail
  go_ret
  exact VPost.quiet H.out rfl (((Chg.refl NoB w).alloc _).alloc _)
/-- what is asked of a step -/
structure StepOk (w : World) (x : St) : Prop where
  n : x.w < 4294967296
  nm : x.nm.size ≤ maxLen
  b : x.b.length ≤ 20000
  cells : CellsAt w x.A (bv x.b)
theorem do_c (h : StoreV base w s v F) (x : St) (hx : StepOk w x) : Calls Try.prog 11 #[.agg #[], ptr s, x.v] w (VPost base s F (.int .u32 (v.doS x).1) (v.doS x).2 w) := by
  obtain ⟨k, f, n, nm, A, c, b⟩ := x
  unfold St.v V.doS
  simp only
  by_cases h1 : k = 1
  · subst h1
    simp only [if_false, if_true]
    exact do_1 h f n hx.n nm hx.nm _
  by_cases h2 : k = 2
  · subst h2
    simp only [show ¬ (2 : Int) = 1 by decide, if_false, if_true]
    exact do_2 h f n hx.n nm hx.nm _
  by_cases h3 : k = 3
  · subst h3
    simp only [show ¬ (3 : Int) = 1 by decide, show ¬ (3 : Int) = 2 by decide, if_false, if_true]
    exact do_3 h f n hx.n nm hx.nm _
  by_cases h4 : k = 4
  · subst h4
    simp only [show ¬ (4 : Int) = 1 by decide, show ¬ (4 : Int) = 2 by decide, show ¬ (4 : Int) = 3 by decide, if_false, if_true]
    exact do_4 h f n hx.n nm hx.nm _
  by_cases h5 : k = 5
  · subst h5
    simp only [show ¬ (5 : Int) = 1 by decide, show ¬ (5 : Int) = 2 by decide, show ¬ (5 : Int) = 3 by decide, show ¬ (5 : Int) = 4 by decide, if_false, if_true]
    exact do_5 h f n hx.n nm hx.nm _
  by_cases h6 : k = 6
  · subst h6
    simp only [show ¬ (6 : Int) = 1 by decide, show ¬ (6 : Int) = 2 by decide, show ¬ (6 : Int) = 3 by decide, show ¬ (6 : Int) = 4 by decide, show ¬ (6 : Int) = 5 by decide, if_false, if_true]
    exact do_6 h f n hx.n nm hx.nm _
  by_cases h7 : k = 7
  · subst h7
    simp only [show ¬ (7 : Int) = 1 by decide, show ¬ (7 : Int) = 2 by decide, show ¬ (7 : Int) = 3 by decide, show ¬ (7 : Int) = 4 by decide, show ¬ (7 : Int) = 5 by decide, show ¬ (7 : Int) = 6 by decide, if_false, if_true]
    exact do_7 h f n hx.n nm hx.nm _
  by_cases h8 : k = 8
  · subst h8
    simp only [show ¬ (8 : Int) = 1 by decide, show ¬ (8 : Int) = 2 by decide, show ¬ (8 : Int) = 3 by decide, show ¬ (8 : Int) = 4 by decide, show ¬ (8 : Int) = 5 by decide, show ¬ (8 : Int) = 6 by decide, show ¬ (8 : Int) = 7 by decide, if_false, if_true]
    exact do_8 h f n hx.n nm hx.nm _
  by_cases h9 : k = 9
  · subst h9
    simp only [show ¬ (9 : Int) = 1 by decide, show ¬ (9 : Int) = 2 by decide, show ¬ (9 : Int) = 3 by decide, show ¬ (9 : Int) = 4 by decide, show ¬ (9 : Int) = 5 by decide, show ¬ (9 : Int) = 6 by decide, show ¬ (9 : Int) = 7 by decide, show ¬ (9 : Int) = 8 by decide, if_false, if_true]
    exact do_9 h f n hx.n nm hx.nm _
  by_cases h10 : k = 10
  · subst h10
    simp only [show ¬ (10 : Int) = 1 by decide, show ¬ (10 : Int) = 2 by decide, show ¬ (10 : Int) = 3 by decide, show ¬ (10 : Int) = 4 by decide, show ¬ (10 : Int) = 5 by decide, show ¬ (10 : Int) = 6 by decide, show ¬ (10 : Int) = 7 by decide, show ¬ (10 : Int) = 8 by decide, show ¬ (10 : Int) = 9 by decide, if_false, if_true]
    exact do_10 h f n nm hx.nm hx.b hx.cells
  by_cases h11 : k = 11
  · subst h11
    simp only [show ¬ (11 : Int) = 1 by decide, show ¬ (11 : Int) = 2 by decide, show ¬ (11 : Int) = 3 by decide, show ¬ (11 : Int) = 4 by decide, show ¬ (11 : Int) = 5 by decide, show ¬ (11 : Int) = 6 by decide, show ¬ (11 : Int) = 7 by decide, show ¬ (11 : Int) = 8 by decide, show ¬ (11 : Int) = 9 by decide, show ¬ (11 : Int) = 10 by decide, if_false, if_true]
    exact do_11 h f n hx.n nm hx.nm _
  simp only [h1, h2, h3, h4, h5, h6, h7, h8, h9, h10, h11, if_false]
  exact do_else h k f n nm _ h1 h2 h3 h4 h5 h6 h7 h8 h9 h10 h11
end
end Go.Proofs.Ytlglnebnldmceaa
