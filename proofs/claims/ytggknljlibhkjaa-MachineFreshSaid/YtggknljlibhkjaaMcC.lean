/- What is proved: the processor in memory: set, Holds. Conditions: as each theorem says. -/
import Derived.Test.YtggknljlibhkjaaMcB
import Derived.Deep.QuietTactic
import Derived.BigQuiet
namespace Go.Proofs.Ytggknljlibhkjaa
open Go.RowKit
/-- a processor -/
structure Cp where
  R : Nat → Int
  h : Int
  n : Bool
  z : Bool
  c : Bool
  v : Bool
  pc : Int
def Cp.arr (c : Cp) : Array Value := #[.int .u32 (c.R 0), .int .u32 (c.R 1), .int .u32 (c.R 2), .int .u32 (c.R 3), .int .u32 (c.R 4), .int .u32 (c.R 5), .int .u32 (c.R 6), .int .u32 (c.R 7), .int .u32 (c.R 8), .int .u32 (c.R 9), .int .u32 (c.R 10), .int .u32 (c.R 11), .int .u32 (c.R 12), .int .u32 (c.R 13), .int .u32 (c.R 14), .int .u32 (c.R 15), .int .u32 c.h, .bool c.n, .bool c.z, .bool c.c, .bool c.v, .int .u32 c.pc]
def Cp.val (c : Cp) : Value := .agg c.arr
structure Cp.Ok (c : Cp) : Prop where
  r : ∀ i, 0 ≤ c.R i ∧ c.R i < 4294967296
  h : 0 ≤ c.h ∧ c.h < 4294967296
  pc : 0 ≤ c.pc ∧ c.pc < 4294967296
def upd (R : Nat → Int) (i : Nat) (x : Int) : Nat → Int := fun j => if j = i then x else R j
theorem lt16 {i : Nat} (h : i < 16) : i = 0 ∨ i = 1 ∨ i = 2 ∨ i = 3 ∨ i = 4 ∨ i = 5 ∨ i = 6 ∨ i = 7 ∨ i = 8 ∨ i = 9 ∨ i = 10 ∨ i = 11 ∨ i = 12 ∨ i = 13 ∨ i = 14 ∨ i = 15 := by omega
theorem Cp.reg (c : Cp) {i : Nat} (h : i < 16) : c.arr[i]? = some (.int .u32 (c.R i)) := by
  rcases lt16 h with rfl | rfl | rfl | rfl | rfl | rfl | rfl | rfl | rfl | rfl | rfl | rfl | rfl | rfl | rfl | rfl <;> rfl
theorem Cp.setReg (c : Cp) {i : Nat} (h : i < 16) (x : Int) : c.arr.setIfInBounds i (.int .u32 x) = ({ c with R := upd c.R i x } : Cp).arr := by
  rcases lt16 h with rfl | rfl | rfl | rfl | rfl | rfl | rfl | rfl | rfl | rfl | rfl | rfl | rfl | rfl | rfl | rfl <;> rfl
theorem Cp.setH (c : Cp) (x : Int) : c.arr.setIfInBounds 16 (.int .u32 x) = ({ c with h := x } : Cp).arr := rfl
theorem Cp.setN (c : Cp) (x : Bool) : c.arr.setIfInBounds 17 (.bool x) = ({ c with n := x } : Cp).arr := rfl
theorem Cp.setZ (c : Cp) (x : Bool) : c.arr.setIfInBounds 18 (.bool x) = ({ c with z := x } : Cp).arr := rfl
theorem Cp.setC (c : Cp) (x : Bool) : c.arr.setIfInBounds 19 (.bool x) = ({ c with c := x } : Cp).arr := rfl
theorem Cp.setV (c : Cp) (x : Bool) : c.arr.setIfInBounds 20 (.bool x) = ({ c with v := x } : Cp).arr := rfl
theorem Cp.setPc (c : Cp) (x : Int) : c.arr.setIfInBounds 21 (.int .u32 x) = ({ c with pc := x } : Cp).arr := rfl
def CpT : TypeId := 41
abbrev CpAt (w : World) (b : Nat) (c : Cp) : Prop := Blk w b CpT c.arr
section
variable {w w' : World} {b : Nat} {c : Cp}
theorem CpAt.cells (h : CpAt w b c) : w.cell? ⟨b, 16, none⟩ = some (.int .u32 c.h) ∧ w.cell? ⟨b, 17, none⟩ = some (.bool c.n) ∧ w.cell? ⟨b, 18, none⟩ = some (.bool c.z) ∧ w.cell? ⟨b, 19, none⟩ = some (.bool c.c) ∧ w.cell? ⟨b, 20, none⟩ = some (.bool c.v) ∧ w.cell? ⟨b, 21, none⟩ = some (.int .u32 c.pc) :=
  ⟨h.cell 16, h.cell 17, h.cell 18, h.cell 19, h.cell 20, h.cell 21⟩
theorem CpAt.reg (h : CpAt w b c) {i : Nat} (hi : i < 16) : w.cell? ⟨b, i, none⟩ = some (.int .u32 (c.R i)) := (h.cell i).trans (c.reg hi)
/-- a register is set, and N and Z -/
def Cp.set (c : Cp) (i : Nat) (x : Int) : Cp := { c with R := upd c.R i x, n := decide (wrap32 x < 0), z := (x == 0) }
def SetPost (b : Nat) (v : Value) (c : Cp) (w : World) (e : Ending) (w' : World) : Prop := e = .returned v ∧ CpAt w' b c ∧ Chg (fun k => k = b) w w'
theorem set_c (h : CpAt w b c) {reg : Nat} (hr : reg < 16) (x : Int) (h0 : 0 ≤ x) (h1 : x < 4294967296) : Calls Try.prog 71 #[ptr b, .int .i64 reg, .int .u32 x] w (SetPost b (.tuple #[]) (c.set reg x) w) := by
  obtain ⟨_, c17, c18, _⟩ := h.cells
  have cr := h.reg hr
  have fr := h.frozen reg
  have f17 := h.frozen 17
  have f18 := h.frozen 18
  have HB := Go.Lib.hid h
  clear h
  unfold ptr
  go_enter Try.func71, Try.ntmps71
  go_wp2_with fail
  have H1 := HB.out.set_ reg (.int .u32 x)
  rw [Cp.setReg _ hr] at H1
  have H2 := H1.set_ 17 (.bool (decide (wrap32 x < 0)))
  rw [Cp.setN] at H2
  have H3 := H2.set_ 18 (.bool (x == 0))
  rw [Cp.setZ] at H3
  have HC := (((Chg.refl (fun k => k = b) w).setCell (p := ⟨b, reg, none⟩) (fun _ => rfl) (.int .u32 x)).setCell (p := ⟨b, 17, none⟩) (fun _ => rfl) (.bool (decide (wrap32 x < 0)))).setCell (p := ⟨b, 18, none⟩) (fun _ => rfl) (.bool (x == 0))
  go_end0
  exact ⟨rfl, H3, HC⟩
/-- does a condition hold? -/
def holds (c : Cp) (co : Int) : Bool :=
  let m := co % 8
  ((if m = 0 then c.n else if m = 1 then c.z else if m = 2 then c.c else if m = 3 then c.v else if m = 4 then c.c || c.z else if m = 5 then (c.n != c.v) else if m = 6 then c.z || (c.n != c.v) else true) != decide (8 ≤ co))
theorem holds_c (c : Cp) (co : Int) (h0 : 0 ≤ co) (h1 : co < 16) (w : World) : Calls Try.prog 70 #[c.val, .int .i64 co] w fun e w' => e = .returned (.bool (holds c co)) ∧ w' = w.alloc (.cells c.arr CpT) := by
  have e1 : bits .and .i64 co 15 = co := by
    rw [show (15 : Int) = 2 ^ 4 - 1 by rfl, bits_mask .i64 62 (by decide) (fun n h h' => by rw [IntKind.wrap_i64]; omega) 4 (by decide) co h0 (by omega)]
    omega
  have e2 : bits .and .i64 co 7 = co % 8 := by
    rw [show (7 : Int) = 2 ^ 3 - 1 by rfl, bits_mask .i64 62 (by decide) (fun n h h' => by rw [IntKind.wrap_i64]; omega) 3 (by decide) co h0 (by omega)]
    rfl
  obtain ⟨r, hr⟩ : ∃ r, holds c co = r := ⟨_, rfl⟩
  have HR := Go.Lib.hid hr
  rw [hr]
  clear hr
  obtain ⟨k, hk⟩ : ∃ k, co % 8 = k := ⟨_, rfl⟩
  rw [hk] at e2
  have HK := Go.Lib.hid hk
  have hkb : k = 0 ∨ k = 1 ∨ k = 2 ∨ k = 3 ∨ k = 4 ∨ k = 5 ∨ k = 6 ∨ k = 7 := by omega
  clear hk
  have c17 : c.arr[17]? = some (.bool c.n) := rfl
  have c18 : c.arr[18]? = some (.bool c.z) := rfl
  have c19 : c.arr[19]? = some (.bool c.c) := rfl
  have c20 : c.arr[20]? = some (.bool c.v) := rfl
  obtain ⟨q8, h8⟩ : ∃ q, decide (8 ≤ co) = q := ⟨_, rfl⟩
  unfold Cp.val CpT
  rcases hkb with rfl | rfl | rfl | rfl | rfl | rfl | rfl | rfl
  ·
    go_enter Try.func70, Try.ntmps70
    go_wp2_with fail
    go_ret
    exact ⟨(by rw [← HR.out, ← h8]; unfold holds; simp [HK.out]; try (generalize decide (8 ≤ co) = z8; generalize c.n = a1; generalize c.z = a2; generalize c.c = a3; generalize c.v = a4; cases z8 <;> cases a1 <;> cases a2 <;> cases a3 <;> cases a4 <;> rfl)), rfl⟩
  ·
    go_enter Try.func70, Try.ntmps70
    go_wp2_with fail
    go_ret
    exact ⟨(by rw [← HR.out, ← h8]; unfold holds; simp [HK.out]; try (generalize decide (8 ≤ co) = z8; generalize c.n = a1; generalize c.z = a2; generalize c.c = a3; generalize c.v = a4; cases z8 <;> cases a1 <;> cases a2 <;> cases a3 <;> cases a4 <;> rfl)), rfl⟩
  ·
    go_enter Try.func70, Try.ntmps70
    go_wp2_with fail
    go_ret
    exact ⟨(by rw [← HR.out, ← h8]; unfold holds; simp [HK.out]; try (generalize decide (8 ≤ co) = z8; generalize c.n = a1; generalize c.z = a2; generalize c.c = a3; generalize c.v = a4; cases z8 <;> cases a1 <;> cases a2 <;> cases a3 <;> cases a4 <;> rfl)), rfl⟩
  ·
    go_enter Try.func70, Try.ntmps70
    go_wp2_with fail
    go_ret
    exact ⟨(by rw [← HR.out, ← h8]; unfold holds; simp [HK.out]; try (generalize decide (8 ≤ co) = z8; generalize c.n = a1; generalize c.z = a2; generalize c.c = a3; generalize c.v = a4; cases z8 <;> cases a1 <;> cases a2 <;> cases a3 <;> cases a4 <;> rfl)), rfl⟩
  ·
    obtain ⟨qa, ha⟩ : ∃ q, c.c = q := ⟨_, rfl⟩
    have Ha := Go.Lib.hid ha
    rw [ha] at c19
    clear ha
    cases qa
    all_goals
      go_enter Try.func70, Try.ntmps70
      go_wp2_with fail
      go_ret
      exact ⟨(by rw [← HR.out, ← h8]; unfold holds; simp [HK.out, Ha.out]; try (generalize decide (8 ≤ co) = z8; generalize c.n = a1; generalize c.z = a2; generalize c.c = a3; generalize c.v = a4; cases z8 <;> cases a1 <;> cases a2 <;> cases a3 <;> cases a4 <;> rfl)), rfl⟩
  ·
    go_enter Try.func70, Try.ntmps70
    go_wp2_with fail
    go_ret
    exact ⟨(by rw [← HR.out, ← h8]; unfold holds; simp [HK.out]; try (generalize decide (8 ≤ co) = z8; generalize c.n = a1; generalize c.z = a2; generalize c.c = a3; generalize c.v = a4; cases z8 <;> cases a1 <;> cases a2 <;> cases a3 <;> cases a4 <;> rfl)), rfl⟩
  ·
    obtain ⟨qa, ha⟩ : ∃ q, c.z = q := ⟨_, rfl⟩
    have Ha := Go.Lib.hid ha
    rw [ha] at c18
    clear ha
    cases qa
    all_goals
      go_enter Try.func70, Try.ntmps70
      go_wp2_with fail
      go_ret
      exact ⟨(by rw [← HR.out, ← h8]; unfold holds; simp [HK.out, Ha.out]; try (generalize decide (8 ≤ co) = z8; generalize c.n = a1; generalize c.z = a2; generalize c.c = a3; generalize c.v = a4; cases z8 <;> cases a1 <;> cases a2 <;> cases a3 <;> cases a4 <;> rfl)), rfl⟩
  ·
    go_enter Try.func70, Try.ntmps70
    go_wp2_with fail
    go_ret
    exact ⟨(by rw [← HR.out, ← h8]; unfold holds; simp [HK.out]; try (generalize decide (8 ≤ co) = z8; generalize c.n = a1; generalize c.z = a2; generalize c.c = a3; generalize c.v = a4; cases z8 <;> cases a1 <;> cases a2 <;> cases a3 <;> cases a4 <;> rfl)), rfl⟩
end
end Go.Proofs.Ytggknljlibhkjaa
