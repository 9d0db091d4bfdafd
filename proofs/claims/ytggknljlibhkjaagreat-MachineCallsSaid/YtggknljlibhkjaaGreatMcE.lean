import Derived.Test.YtggknljlibhkjaaGreatGMcA
import Derived.Test.YtggknljlibhkjaaGreatTail2
set_option linter.unusedSimpArgs false
set_option linter.unusedVariables false
namespace Go.Proofs.YtggknljlibhkjaaGreat
open Go.RowKit
def valueOf (i : In) : Int := if i.u = true ∧ i.op = 0 then i.im * 65536 else if i.v = true then bits .or .u32 i.im 4294901760 else i.im
theorem value_c (i : In) (hf : i.fo = 1) (h0 : 0 ≤ i.im ∧ i.im < 65536) (w : World) : Calls Tryz.prog 137 #[i.val] w fun e w' => e = .returned (.int .u32 (valueOf i)) ∧ w' = w.alloc (.cells i.arr 33) := by
 obtain ⟨fo, u, v, a, b, c, op, im, off, co, n⟩ := i
 simp only at hf h0
 subst hf
 unfold valueOf In.val In.arr
 simp only
 by_cases ho : op = 0
 ·subst ho
  cases u
  all_goals
   cases v
   all_goals
    simp only [Bool.false_eq_true, if_true, if_false, and_true, false_and, and_self]
    go_enter Tryz.func137, Tryz.ntmps137
    go_wp2_with fail
    go_ret
    exact ⟨rfl, rfl⟩
 ·have e0 : (op == 0) = false := by simpa using ho
  simp only [ho, and_false, if_false]
  clear ho
  cases u
  all_goals
   cases v
   all_goals
    simp only [Bool.false_eq_true, if_true, if_false, and_true, false_and, and_self]
    go_enter Tryz.func137, Tryz.ntmps137
    go_wp2_with fail
    go_ret
    exact ⟨rfl, rfl⟩
def numOf (c : Cp) (i : In) : Int := if i.fo = 1 then valueOf i else if i.op = 0 ∧ i.u = true then (if i.c = 0 then c.h else flagsOf c) else c.R i.c.toNat
section
variable {w w' : World} {b : Nat} {c : Cp}
theorem number_c (h : CpAt w b c) (i : In) (h0 : 0 ≤ i.im ∧ i.im < 65536) {rc : Nat} (hc : i.c = rc) (hcb : i.fo ≠ 1 → rc < 16) : Calls Tryz.prog 122 #[ptr b, i.val] w (Quiet (.int .u32 (numOf c i)) w) := by
 obtain ⟨c16, c17, c18, c19, c20, c21⟩ := h.cells
 have HV := Go.Lib.hid (fun (hf : i.fo = 1) W => value_c i hf h0 W)
 have HQ : Hid (∀ (o1 o2 : Obj), Chg NoB w ((w.alloc o1).alloc o2)) := Go.Lib.hid fun o1 o2 => ((Chg.refl NoB w).alloc o1).alloc o2
 have HR := Go.Lib.hid (fun hi : rc < 16 => h.reg hi)
 have hlt := h.lt
 have HCa := Go.Lib.hid (fun o => h.alloc o)
 have HFl := Go.Lib.hid (fun W => flags_c c W)
 clear h
 unfold numOf
 generalize valueOf i = vo at *
 generalize flagsOf c = fl at *
 obtain ⟨fo, u, v, a, b', c', op, im, off, co, n⟩ := i
 simp only at hc hcb h0 HV ⊢
 subst hc
 unfold In.val In.arr Quiet ptr at *
 simp only at *
 by_cases hf : fo = 1
 ·rw [if_pos hf]
  have HV' := Go.Lib.hid (HV.out hf)
  subst hf
  clear HV hcb HR
  go_enter Tryz.func122, Tryz.ntmps122
  go_wp2_with fail
  refine (HV'.out _).mono ?_
  rintro e w1 ⟨rfl, rfl⟩
  go_wp2_with fail
  go_ret
  exact ⟨rfl, HQ.out _ _⟩
 ·rw [if_neg hf]
  have ef : (fo == 1) = false := by simpa using hf
  have hcb := hcb hf
  have cr := HR.out hcb
  clear HV HR hf
  by_cases ho : op = 0 ∧ u = true
  ·obtain ⟨rfl, rfl⟩ := ho
   by_cases hz : rc = 0
   ·subst hz
    clear cr HFl HCa
    simp only [and_self, if_true, Int.natCast_zero]
    go_enter Tryz.func122, Tryz.ntmps122
    go_wp2_with fail
    go_ret
    exact ⟨rfl, (Chg.refl _ _).alloc _⟩
   ·have hz2 : ((rc : Int) == 0) = false := by simp; omega
    have hz3 : ¬ ((rc : Int) = 0) := by omega
    simp only [and_self, if_true, if_neg hz3]
    clear hz hz3 cr
    unfold Cp.val at HFl
    go_enter Tryz.func122, Tryz.ntmps122
    go_wp2_with (refine wpList_load_row rfl 42 (.tmp 37) rfl b rfl CpT c.arr (0, 0) _ (HCa.out _) Tryz.underlying42 rfl (by kernel_rfl) ?_)
    refine (HFl.out _).mono ?_
    rintro e w1 ⟨rfl, h1⟩
    have H1 := Go.Lib.hid (((Chg.refl NoB w).alloc _).trans h1)
    clear h1
    go_wp2_with fail
    go_ret
    exact ⟨rfl, H1.out⟩
  ·rw [if_neg ho]
   have e2 : (op == 0 && u) = false := by
    cases u
    ·simp
    ·simp; intro h; exact ho ⟨h, rfl⟩
   clear ho
   obtain ⟨q, hq⟩ : ∃ q, (op == 0) = q := ⟨_, rfl⟩
   rw [hq] at e2
   have hcr : 0 ≤ (rc : Int) ∧ (rc : Int) < 16 := by omega
   cases q <;> cases u
   all_goals try (exact absurd e2 (by decide))
   all_goals
    clear e2
    go_enter Tryz.func122, Tryz.ntmps122
    go_wp2_with fail
    go_quiet (fail)
    go_wp2_with fail
    go_ret
    exact ⟨rfl, ((Chg.refl _ _).alloc _).drewN _⟩
end
end Go.Proofs.YtggknljlibhkjaaGreat
