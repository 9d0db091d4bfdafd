/- What is proved: which words are instructions; an instruction's number. Conditions: as each theorem says. -/
import Derived.Test.YtggknljlibhkjaaMcA
namespace Go.Proofs.Ytggknljlibhkjaa
open Go.RowKit
def mayOp (i : In) : Bool :=
  if i.op = 0 then (i.b == 0) && (!i.u || (!i.v && ((i.fo == 1) || decide (i.c ≤ 1)))) else if i.op = 8 ∨ i.op = 9 ∨ i.op = 10 then true else !i.u
theorem mayOp_c (i : In) (w : World) : Calls Try.prog 80 #[i.val] w fun e w' => e = .returned (.bool (mayOp i)) ∧ w' = w.alloc (.cells i.arr 36) := by
  obtain ⟨fo, u, v, a, b, c, op, im, off, co, n⟩ := i
  unfold In.val In.arr mayOp
  simp only
  by_cases h0 : op = 0
  · subst h0
    rw [if_pos rfl]
    obtain ⟨q1, e1⟩ : ∃ q, (b == 0) = q := ⟨_, rfl⟩
    obtain ⟨q2, e2⟩ : ∃ q, (fo == 1) = q := ⟨_, rfl⟩
    obtain ⟨q3, e3⟩ : ∃ q, decide (c ≤ 1) = q := ⟨_, rfl⟩
    rw [e1, e2, e3]
    cases q1
    · go_enter Try.func80, Try.ntmps80
      go_wp2_with fail
      go_ret
      exact ⟨rfl, rfl⟩
    · cases u
      · go_enter Try.func80, Try.ntmps80
        go_wp2_with fail
        go_ret
        exact ⟨rfl, rfl⟩
      · cases v
        · cases q2 <;> cases q3
          all_goals
            go_enter Try.func80, Try.ntmps80
            go_wp2_with fail
            go_ret
            exact ⟨rfl, rfl⟩
        · go_enter Try.func80, Try.ntmps80
          go_wp2_with fail
          go_ret
          exact ⟨rfl, rfl⟩
  · rw [if_neg h0]
    have e0 : (op == 0) = false := by simpa using h0
    by_cases h8 : op = 8 ∨ op = 9 ∨ op = 10
    · rw [if_pos h8]
      rcases h8 with rfl | rfl | rfl
      all_goals
        clear e0 h0
        go_enter Try.func80, Try.ntmps80
        go_wp2_with fail
        go_ret
        exact ⟨rfl, rfl⟩
    · rw [if_neg h8]
      have e8 : (op == 8) = false := by simp; omega
      have e9 : (op == 9) = false := by simp; omega
      have e10 : (op == 10) = false := by simp; omega
      clear h8 h0
      go_enter Try.func80, Try.ntmps80
      go_wp2_with fail
      go_ret
      exact ⟨rfl, rfl⟩
theorem lt_or (x y : Int) : decide (x < y) = true ∨ decide (x < y) = false := by cases decide (x < y) <;> simp
theorem le_or (x y : Int) : decide (x ≤ y) = true ∨ decide (x ≤ y) = false := by cases decide (x ≤ y) <;> simp
/-- may the fields of a word be? -/
def ofOk (i : In) : Bool :=
  if i.fo = 0 then !i.v && decide (i.c < 16) && decide (i.op ≤ 11) && mayOp i
  else if i.fo = 1 then decide (i.op ≤ 11) && mayOp i
  else if i.fo = 5 then decide (i.c < 16)
  else if i.fo = 6 then decide (i.n < 256) else true
/-- what a word means -/
def ofW (x : Int) : Option In := if ofOk (fieldsOf x) = true then some (fieldsOf x) else none
def ofRes (o : Option In) : Value := match o with | some i => .tuple #[i.val, .int .i64 0] | none => .tuple #[In.zero.val, .int .i64 4]
theorem fo_bd (x : Int) (h0 : 0 ≤ x) (h1 : x < 4294967296) : 0 ≤ (fieldsOf x).fo ∧ (fieldsOf x).fo ≤ 6 := by
  unfold fieldsOf
  simp only
  split
  · exact ⟨by simp only; omega, by simp only; omega⟩
  · split
    · exact ⟨by simp only; omega, by simp only; omega⟩
    · split
      · simp only; omega
      · split
        · exact ⟨by simp only; omega, by simp only; omega⟩
        · split
          · exact ⟨by simp only; omega, by simp only; omega⟩
          · exact ⟨by simp only; omega, by simp only; omega⟩
set_option maxHeartbeats 2000000 in
theorem of_c (x : Int) (h0 : 0 ≤ x) (h1 : x < 4294967296) (w : World) : Calls Try.prog 68 #[.int .u32 x] w (Quiet (ofRes (ofW x)) w) := by
  have HF := Go.Lib.hid (fun W => fields_c x h0 h1 W)
  have hfo := fo_bd x h0 h1
  unfold ofW
  generalize fieldsOf x = i at *
  have HM := Go.Lib.hid (fun W => mayOp_c i W)
  unfold ofOk
  generalize mayOp i = m at *
  obtain ⟨fo, u, v, a, b, c, op, im, off, co, n⟩ := i
  unfold In.val In.arr Quiet at *
  simp only at *
  have HW : Hid (∀ (o1 o2 : Obj) (W : World), Chg NoB ((w.alloc o1).alloc o2) W → Chg NoB w W) := Go.Lib.hid fun o1 o2 W h => (((Chg.refl NoB w).alloc o1).alloc o2).trans h
  clear h0 h1
  have hc : fo = 0 ∨ fo = 1 ∨ fo = 2 ∨ fo = 3 ∨ fo = 4 ∨ fo = 5 ∨ fo = 6 := by omega
  clear hfo HW
  generalize hr : ofRes _ = r
  have HR := Go.Lib.hid hr
  clear hr
  rcases hc with rfl | rfl | rfl | rfl | rfl | rfl | rfl
  · cases v
    · rcases lt_or c 16 with hc | hc
      · rcases le_or op 11 with ho | ho
        · cases m
          · go_enter Try.func68, Try.ntmps68
            go_wp2_with fail
            refine (HF.out _).mono ?_
            rintro e w1 ⟨rfl, rfl⟩
            go_wp2_with fail
            refine (HM.out _).mono ?_
            rintro e w2 ⟨rfl, rfl⟩
            go_wp2_with fail
            refine bodyPost_ret (v := .tuple #[.agg #[.int .i64 0, .bool false, .bool false, .int .i64 0, .int .i64 0, .int .i64 0, .int .i64 0, .int .i64 0, .int .i64 0, .int .i64 0, .int .i64 0], .int .i64 4]) (by simp [results, Try.results68, go_sem]) rfl ⟨?_, by first | exact ((Chg.refl _ _).alloc _).alloc _ | exact (((Chg.refl _ _).alloc _).alloc _).alloc _ | exact ((((Chg.refl _ _).alloc _).alloc _).alloc _).alloc _⟩
            (rw [← HR.out]; simp [ofRes, In.val, In.arr, In.zero, *])
          · go_enter Try.func68, Try.ntmps68
            go_wp2_with fail
            refine (HF.out _).mono ?_
            rintro e w1 ⟨rfl, rfl⟩
            go_wp2_with fail
            refine (HM.out _).mono ?_
            rintro e w2 ⟨rfl, rfl⟩
            go_wp2_with fail
            refine bodyPost_ret (v := .tuple #[.agg #[.int .i64 0, .bool u, .bool false, .int .i64 a, .int .i64 b, .int .i64 c, .int .i64 op, .int .i64 im, .int .i64 off, .int .i64 co, .int .i64 n], .int .i64 0]) (by simp [results, Try.results68, go_sem]) rfl ⟨?_, by first | exact ((Chg.refl _ _).alloc _).alloc _ | exact (((Chg.refl _ _).alloc _).alloc _).alloc _ | exact ((((Chg.refl _ _).alloc _).alloc _).alloc _).alloc _⟩
            (rw [← HR.out]; simp [ofRes, In.val, In.arr, In.zero, *])
        · go_enter Try.func68, Try.ntmps68
          go_wp2_with fail
          refine (HF.out _).mono ?_
          rintro e w1 ⟨rfl, rfl⟩
          go_wp2_with fail
          refine bodyPost_ret (v := .tuple #[.agg #[.int .i64 0, .bool false, .bool false, .int .i64 0, .int .i64 0, .int .i64 0, .int .i64 0, .int .i64 0, .int .i64 0, .int .i64 0, .int .i64 0], .int .i64 4]) (by simp [results, Try.results68, go_sem]) rfl ⟨?_, by first | exact ((Chg.refl _ _).alloc _).alloc _ | exact (((Chg.refl _ _).alloc _).alloc _).alloc _ | exact ((((Chg.refl _ _).alloc _).alloc _).alloc _).alloc _⟩
          (rw [← HR.out]; simp [ofRes, In.val, In.arr, In.zero, *])
      · go_enter Try.func68, Try.ntmps68
        go_wp2_with fail
        refine (HF.out _).mono ?_
        rintro e w1 ⟨rfl, rfl⟩
        go_wp2_with fail
        refine bodyPost_ret (v := .tuple #[.agg #[.int .i64 0, .bool false, .bool false, .int .i64 0, .int .i64 0, .int .i64 0, .int .i64 0, .int .i64 0, .int .i64 0, .int .i64 0, .int .i64 0], .int .i64 4]) (by simp [results, Try.results68, go_sem]) rfl ⟨?_, by first | exact ((Chg.refl _ _).alloc _).alloc _ | exact (((Chg.refl _ _).alloc _).alloc _).alloc _ | exact ((((Chg.refl _ _).alloc _).alloc _).alloc _).alloc _⟩
        (rw [← HR.out]; simp [ofRes, In.val, In.arr, In.zero, *])
    · go_enter Try.func68, Try.ntmps68
      go_wp2_with fail
      refine (HF.out _).mono ?_
      rintro e w1 ⟨rfl, rfl⟩
      go_wp2_with fail
      refine bodyPost_ret (v := .tuple #[.agg #[.int .i64 0, .bool false, .bool false, .int .i64 0, .int .i64 0, .int .i64 0, .int .i64 0, .int .i64 0, .int .i64 0, .int .i64 0, .int .i64 0], .int .i64 4]) (by simp [results, Try.results68, go_sem]) rfl ⟨?_, by first | exact ((Chg.refl _ _).alloc _).alloc _ | exact (((Chg.refl _ _).alloc _).alloc _).alloc _ | exact ((((Chg.refl _ _).alloc _).alloc _).alloc _).alloc _⟩
      (rw [← HR.out]; simp [ofRes, In.val, In.arr, In.zero, *])
  · rcases le_or op 11 with ho | ho
    · cases m
      · go_enter Try.func68, Try.ntmps68
        go_wp2_with fail
        refine (HF.out _).mono ?_
        rintro e w1 ⟨rfl, rfl⟩
        go_wp2_with fail
        refine (HM.out _).mono ?_
        rintro e w2 ⟨rfl, rfl⟩
        go_wp2_with fail
        refine bodyPost_ret (v := .tuple #[.agg #[.int .i64 0, .bool false, .bool false, .int .i64 0, .int .i64 0, .int .i64 0, .int .i64 0, .int .i64 0, .int .i64 0, .int .i64 0, .int .i64 0], .int .i64 4]) (by simp [results, Try.results68, go_sem]) rfl ⟨?_, by first | exact ((Chg.refl _ _).alloc _).alloc _ | exact (((Chg.refl _ _).alloc _).alloc _).alloc _ | exact ((((Chg.refl _ _).alloc _).alloc _).alloc _).alloc _⟩
        (rw [← HR.out]; simp [ofRes, In.val, In.arr, In.zero, *])
      · go_enter Try.func68, Try.ntmps68
        go_wp2_with fail
        refine (HF.out _).mono ?_
        rintro e w1 ⟨rfl, rfl⟩
        go_wp2_with fail
        refine (HM.out _).mono ?_
        rintro e w2 ⟨rfl, rfl⟩
        go_wp2_with fail
        refine bodyPost_ret (v := .tuple #[.agg #[.int .i64 1, .bool u, .bool v, .int .i64 a, .int .i64 b, .int .i64 c, .int .i64 op, .int .i64 im, .int .i64 off, .int .i64 co, .int .i64 n], .int .i64 0]) (by simp [results, Try.results68, go_sem]) rfl ⟨?_, by first | exact ((Chg.refl _ _).alloc _).alloc _ | exact (((Chg.refl _ _).alloc _).alloc _).alloc _ | exact ((((Chg.refl _ _).alloc _).alloc _).alloc _).alloc _⟩
        (rw [← HR.out]; simp [ofRes, In.val, In.arr, In.zero, *])
    · go_enter Try.func68, Try.ntmps68
      go_wp2_with fail
      refine (HF.out _).mono ?_
      rintro e w1 ⟨rfl, rfl⟩
      go_wp2_with fail
      refine bodyPost_ret (v := .tuple #[.agg #[.int .i64 0, .bool false, .bool false, .int .i64 0, .int .i64 0, .int .i64 0, .int .i64 0, .int .i64 0, .int .i64 0, .int .i64 0, .int .i64 0], .int .i64 4]) (by simp [results, Try.results68, go_sem]) rfl ⟨?_, by first | exact ((Chg.refl _ _).alloc _).alloc _ | exact (((Chg.refl _ _).alloc _).alloc _).alloc _ | exact ((((Chg.refl _ _).alloc _).alloc _).alloc _).alloc _⟩
      (rw [← HR.out]; simp [ofRes, In.val, In.arr, In.zero, *])
  · go_enter Try.func68, Try.ntmps68
    go_wp2_with fail
    refine (HF.out _).mono ?_
    rintro e w1 ⟨rfl, rfl⟩
    go_wp2_with fail
    refine bodyPost_ret (v := .tuple #[.agg #[.int .i64 2, .bool u, .bool v, .int .i64 a, .int .i64 b, .int .i64 c, .int .i64 op, .int .i64 im, .int .i64 off, .int .i64 co, .int .i64 n], .int .i64 0]) (by simp [results, Try.results68, go_sem]) rfl ⟨?_, by first | exact ((Chg.refl _ _).alloc _).alloc _ | exact (((Chg.refl _ _).alloc _).alloc _).alloc _ | exact ((((Chg.refl _ _).alloc _).alloc _).alloc _).alloc _⟩
    (rw [← HR.out]; simp [ofRes, In.val, In.arr, In.zero, *])
  · go_enter Try.func68, Try.ntmps68
    go_wp2_with fail
    refine (HF.out _).mono ?_
    rintro e w1 ⟨rfl, rfl⟩
    go_wp2_with fail
    refine bodyPost_ret (v := .tuple #[.agg #[.int .i64 3, .bool u, .bool v, .int .i64 a, .int .i64 b, .int .i64 c, .int .i64 op, .int .i64 im, .int .i64 off, .int .i64 co, .int .i64 n], .int .i64 0]) (by simp [results, Try.results68, go_sem]) rfl ⟨?_, by first | exact ((Chg.refl _ _).alloc _).alloc _ | exact (((Chg.refl _ _).alloc _).alloc _).alloc _ | exact ((((Chg.refl _ _).alloc _).alloc _).alloc _).alloc _⟩
    (rw [← HR.out]; simp [ofRes, In.val, In.arr, In.zero, *])
  · go_enter Try.func68, Try.ntmps68
    go_wp2_with fail
    refine (HF.out _).mono ?_
    rintro e w1 ⟨rfl, rfl⟩
    go_wp2_with fail
    refine bodyPost_ret (v := .tuple #[.agg #[.int .i64 4, .bool u, .bool v, .int .i64 a, .int .i64 b, .int .i64 c, .int .i64 op, .int .i64 im, .int .i64 off, .int .i64 co, .int .i64 n], .int .i64 0]) (by simp [results, Try.results68, go_sem]) rfl ⟨?_, by first | exact ((Chg.refl _ _).alloc _).alloc _ | exact (((Chg.refl _ _).alloc _).alloc _).alloc _ | exact ((((Chg.refl _ _).alloc _).alloc _).alloc _).alloc _⟩
    (rw [← HR.out]; simp [ofRes, In.val, In.arr, In.zero, *])
  · rcases lt_or c 16 with hc | hc
    · go_enter Try.func68, Try.ntmps68
      go_wp2_with fail
      refine (HF.out _).mono ?_
      rintro e w1 ⟨rfl, rfl⟩
      go_wp2_with fail
      refine bodyPost_ret (v := .tuple #[.agg #[.int .i64 5, .bool u, .bool v, .int .i64 a, .int .i64 b, .int .i64 c, .int .i64 op, .int .i64 im, .int .i64 off, .int .i64 co, .int .i64 n], .int .i64 0]) (by simp [results, Try.results68, go_sem]) rfl ⟨?_, by first | exact ((Chg.refl _ _).alloc _).alloc _ | exact (((Chg.refl _ _).alloc _).alloc _).alloc _ | exact ((((Chg.refl _ _).alloc _).alloc _).alloc _).alloc _⟩
      (rw [← HR.out]; simp [ofRes, In.val, In.arr, In.zero, *])
    · go_enter Try.func68, Try.ntmps68
      go_wp2_with fail
      refine (HF.out _).mono ?_
      rintro e w1 ⟨rfl, rfl⟩
      go_wp2_with fail
      refine bodyPost_ret (v := .tuple #[.agg #[.int .i64 0, .bool false, .bool false, .int .i64 0, .int .i64 0, .int .i64 0, .int .i64 0, .int .i64 0, .int .i64 0, .int .i64 0, .int .i64 0], .int .i64 4]) (by simp [results, Try.results68, go_sem]) rfl ⟨?_, by first | exact ((Chg.refl _ _).alloc _).alloc _ | exact (((Chg.refl _ _).alloc _).alloc _).alloc _ | exact ((((Chg.refl _ _).alloc _).alloc _).alloc _).alloc _⟩
      (rw [← HR.out]; simp [ofRes, In.val, In.arr, In.zero, *])
  · rcases lt_or n 256 with hc | hc
    · go_enter Try.func68, Try.ntmps68
      go_wp2_with fail
      refine (HF.out _).mono ?_
      rintro e w1 ⟨rfl, rfl⟩
      go_wp2_with fail
      refine bodyPost_ret (v := .tuple #[.agg #[.int .i64 6, .bool u, .bool v, .int .i64 a, .int .i64 b, .int .i64 c, .int .i64 op, .int .i64 im, .int .i64 off, .int .i64 co, .int .i64 n], .int .i64 0]) (by simp [results, Try.results68, go_sem]) rfl ⟨?_, by first | exact ((Chg.refl _ _).alloc _).alloc _ | exact (((Chg.refl _ _).alloc _).alloc _).alloc _ | exact ((((Chg.refl _ _).alloc _).alloc _).alloc _).alloc _⟩
      (rw [← HR.out]; simp [ofRes, In.val, In.arr, In.zero, *])
    · go_enter Try.func68, Try.ntmps68
      go_wp2_with fail
      refine (HF.out _).mono ?_
      rintro e w1 ⟨rfl, rfl⟩
      go_wp2_with fail
      refine bodyPost_ret (v := .tuple #[.agg #[.int .i64 0, .bool false, .bool false, .int .i64 0, .int .i64 0, .int .i64 0, .int .i64 0, .int .i64 0, .int .i64 0, .int .i64 0, .int .i64 0], .int .i64 4]) (by simp [results, Try.results68, go_sem]) rfl ⟨?_, by first | exact ((Chg.refl _ _).alloc _).alloc _ | exact (((Chg.refl _ _).alloc _).alloc _).alloc _ | exact ((((Chg.refl _ _).alloc _).alloc _).alloc _).alloc _⟩
      (rw [← HR.out]; simp [ofRes, In.val, In.arr, In.zero, *])
end Go.Proofs.Ytggknljlibhkjaa
