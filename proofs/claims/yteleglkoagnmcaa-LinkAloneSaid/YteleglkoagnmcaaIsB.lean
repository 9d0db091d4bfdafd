/- What is proved: isa.Word of three closed instructions. Conditions: none. -/
import Derived.Test.YteleglkoagnmcaaIsA
import Derived.Test.YteleglkoagnmcaaTkH
import Derived.BigQuiet
set_option linter.unusedSimpArgs false
set_option linter.unusedVariables false
namespace Go.Proofs.Yteleglkoagnmcaa
open Go Go.RowKit
abbrev INS : TypeId := 108
section
variable {P : Program} {ops : Array Oper} {Q : Exit → Act → World → Prop} {md : Region.Mode} {S : World → Prop} {n : Nat}
variable {i t fuel : Nat} {oi : Oper} {v : Value} {listed : Array Bool} {a : Act} {w w' : World}
/-- a store, more behind it -/
theorem storeT (hi : ops[i]? = some oi) (hr : Region.ready md ops listed = [i]) (hdst : oi.dst = none) (hw : Region.wanted oi (yielded ops a.tmps) = true) (hx : (execOp a.eval oi).run P w = .ok .skip w') (inv : HeadInv md ops n listed) (hin : i < n) (hS : S w')
    (h : HeadInv md ops n (listed.setIfInBounds i true) → S w' → wpAnyT P md ops Q S n fuel (listed.setIfInBounds i true) a w') : wpAnyT P md ops Q S n (fuel + 1) listed a w := by
  refine oneTI hi hr inv hin fun inv2 => ?_
  rw [if_pos hw]
  unfold Oper.wp
  rw [hx]
  exact ⟨fun _ => hS, by rw [hdst]; exact h inv2 hS⟩
end
theorem Blk.rowSet_ {w : World} {g : Nat} {t : TypeId} {cs : Array Value} (h : Blk w g t cs) (cs' : Array Value) : Blk (w.setRow g cs') g t cs' := setRow_heap w g cs cs' t (0, 0) h
theorem Chg.setRow_ {a w : World} {b : Nat} (h : Chg NoB a w) (hb : a.heap.size ≤ b) (cs' : Array Value) : Chg NoB a (w.setRow b cs') :=
  ⟨h.os, h.tape, h.output, by simpa using h.size, fun i hi hn => (setRow_other w b i cs' (by rintro rfl; omega)).trans (h.block i hi hn)⟩
def setsB (w : World) (b : Nat) : List (Nat × Value) → World
  | [] => w
  | x :: l => setsB (w.setCell ⟨b, x.1, none⟩ x.2) b l
theorem sets_chg {W w : World} {b : Nat} (h : Chg NoB W w) (hb : W.heap.size ≤ b) : ∀ l : List (Nat × Value), Chg NoB W (setsB w.drew b l) := fun l => by
  have key : ∀ (l : List (Nat × Value)) (w : World), Chg NoB W w → Chg NoB W (setsB w b l) := fun l => by
    induction l with
    | nil => exact fun w h => h
    | cons x l ih => exact fun w h => ih _ (h.setCell (p := ⟨b, x.1, none⟩) (fun hl => by simp at hl; omega) x.2)
  exact key l _ h.drew
theorem sets_far {w : World} {b g : Nat} {t : TypeId} {cs : Array Value} (h : Blk w g t cs) (hne : g ≠ b) : ∀ l : List (Nat × Value), Blk (setsB w.drew b l) g t cs := fun l => by
  have key : ∀ (l : List (Nat × Value)) (w : World), Blk w g t cs → Blk (setsB w b l) g t cs := fun l => by
    induction l with
    | nil => exact fun w h => h
    | cons x l ih => exact fun w h => ih _ (h.far (p := ⟨b, x.1, none⟩) hne x.2)
  exact key l _ h.drew
theorem bit_T (W : World) : Calls Try.prog 98 #[.bool true] W fun e w' => e = .returned (.int .i64 1) ∧ W = w' := (bit_c true W).mono fun e w' h => ⟨h.1, h.2.symm⟩
theorem bit_F (W : World) : Calls Try.prog 98 #[.bool false] W fun e w' => e = .returned (.int .i64 0) ∧ W = w' := (bit_c false W).mono fun e w' h => ⟨h.1, h.2.symm⟩
theorem within_T (n most : Int) (h0 : 0 ≤ n) (h1 : n < most) (W : World) : Calls Try.prog 95 #[.int .i64 n, .int .i64 most] W fun e w' => e = .returned (.bool true) ∧ Chg NoB W w' := by
  refine (within_c n most W).mono ?_
  rintro e w ⟨rfl, rfl⟩
  rw [decide_eq_true h0, decide_eq_true h1]
  exact ⟨rfl, Chg.refl _ _⟩
set_option maxRecDepth 100000 in
set_option maxHeartbeats 8000000 in
theorem bare_im (W : World) : Calls Try.prog 94 #[.agg #[.int .i64 1, .bool false, .bool false, .int .i64 0, .int .i64 0, .int .i64 0, .int .i64 0, .int .i64 0, .int .i64 0, .int .i64 0, .int .i64 0]] W fun e w' => e = .returned (.agg #[.int .i64 1, .bool false, .bool false, .int .i64 0, .int .i64 0, .int .i64 0, .int .i64 0, .int .i64 0, .int .i64 0, .int .i64 0, .int .i64 0]) ∧ Chg NoB W w' := by
  go_enter Try.func94, Try.ntmps94
  have HC : Hid (Chg NoB W (((W.alloc (.cells #[.int .i64 1, .bool false, .bool false, .int .i64 0, .int .i64 0, .int .i64 0, .int .i64 0, .int .i64 0, .int .i64 0, .int .i64 0, .int .i64 0] INS)).alloc (.cells #[.int .i64 0, .bool false, .bool false, .int .i64 0, .int .i64 0, .int .i64 0, .int .i64 0, .int .i64 0, .int .i64 0, .int .i64 0, .int .i64 0] INS)).alloc (.cells #[.int .i64 1, .bool false, .bool false, .int .i64 0, .int .i64 0, .int .i64 0, .int .i64 0, .int .i64 0, .int .i64 0, .int .i64 0, .int .i64 0] INS))) := Go.Lib.hid ((((Chg.refl NoB W).alloc _).alloc _).alloc _)
  have HB1 : Hid (Blk (((W.alloc (.cells #[.int .i64 1, .bool false, .bool false, .int .i64 0, .int .i64 0, .int .i64 0, .int .i64 0, .int .i64 0, .int .i64 0, .int .i64 0, .int .i64 0] INS)).alloc (.cells #[.int .i64 0, .bool false, .bool false, .int .i64 0, .int .i64 0, .int .i64 0, .int .i64 0, .int .i64 0, .int .i64 0, .int .i64 0, .int .i64 0] INS)).alloc (.cells #[.int .i64 1, .bool false, .bool false, .int .i64 0, .int .i64 0, .int .i64 0, .int .i64 0, .int .i64 0, .int .i64 0, .int .i64 0, .int .i64 0] INS)) W.heap.size INS #[.int .i64 1, .bool false, .bool false, .int .i64 0, .int .i64 0, .int .i64 0, .int .i64 0, .int .i64 0, .int .i64 0, .int .i64 0, .int .i64 0]) := Go.Lib.hid (((Blk.new W INS _).alloc _).alloc _)
  have HB3 : Hid (Blk (((W.alloc (.cells #[.int .i64 1, .bool false, .bool false, .int .i64 0, .int .i64 0, .int .i64 0, .int .i64 0, .int .i64 0, .int .i64 0, .int .i64 0, .int .i64 0] INS)).alloc (.cells #[.int .i64 0, .bool false, .bool false, .int .i64 0, .int .i64 0, .int .i64 0, .int .i64 0, .int .i64 0, .int .i64 0, .int .i64 0, .int .i64 0] INS)).alloc (.cells #[.int .i64 1, .bool false, .bool false, .int .i64 0, .int .i64 0, .int .i64 0, .int .i64 0, .int .i64 0, .int .i64 0, .int .i64 0, .int .i64 0] INS)) (W.heap.size + 1 + 1) INS #[.int .i64 1, .bool false, .bool false, .int .i64 0, .int .i64 0, .int .i64 0, .int .i64 0, .int .i64 0, .int .i64 0, .int .i64 0, .int .i64 0]) := Go.Lib.hid (by
    have := Blk.new ((W.alloc (.cells #[.int .i64 1, .bool false, .bool false, .int .i64 0, .int .i64 0, .int .i64 0, .int .i64 0, .int .i64 0, .int .i64 0, .int .i64 0, .int .i64 0] INS)).alloc (.cells #[.int .i64 0, .bool false, .bool false, .int .i64 0, .int .i64 0, .int .i64 0, .int .i64 0, .int .i64 0, .int .i64 0, .int .i64 0, .int .i64 0] INS)) INS #[.int .i64 1, .bool false, .bool false, .int .i64 0, .int .i64 0, .int .i64 0, .int .i64 0, .int .i64 0, .int .i64 0, .int .i64 0, .int .i64 0]
    simpa using this)
  have HB2 : Hid (Blk (((W.alloc (.cells #[.int .i64 1, .bool false, .bool false, .int .i64 0, .int .i64 0, .int .i64 0, .int .i64 0, .int .i64 0, .int .i64 0, .int .i64 0, .int .i64 0] INS)).alloc (.cells #[.int .i64 0, .bool false, .bool false, .int .i64 0, .int .i64 0, .int .i64 0, .int .i64 0, .int .i64 0, .int .i64 0, .int .i64 0, .int .i64 0] INS)).alloc (.cells #[.int .i64 1, .bool false, .bool false, .int .i64 0, .int .i64 0, .int .i64 0, .int .i64 0, .int .i64 0, .int .i64 0, .int .i64 0, .int .i64 0] INS)) (W.heap.size + 1) INS #[.int .i64 0, .bool false, .bool false, .int .i64 0, .int .i64 0, .int .i64 0, .int .i64 0, .int .i64 0, .int .i64 0, .int .i64 0, .int .i64 0]) := Go.Lib.hid (by
    have := (Blk.new (W.alloc (.cells #[.int .i64 1, .bool false, .bool false, .int .i64 0, .int .i64 0, .int .i64 0, .int .i64 0, .int .i64 0, .int .i64 0, .int .i64 0, .int .i64 0] INS)) INS #[.int .i64 0, .bool false, .bool false, .int .i64 0, .int .i64 0, .int .i64 0, .int .i64 0, .int .i64 0, .int .i64 0, .int .i64 0, .int .i64 0]).alloc (.cells #[.int .i64 1, .bool false, .bool false, .int .i64 0, .int .i64 0, .int .i64 0, .int .i64 0, .int .i64 0, .int .i64 0, .int .i64 0, .int .i64 0] INS)
    simpa using this)
  have HNE : Hid (W.heap.size ≠ W.heap.size + 1 + 1 ∧ W.heap.size ≤ W.heap.size + 1 + 1) := Go.Lib.hid ⟨by omega, by omega⟩
  go_wp2_with fail
  generalize ((W.alloc (.cells #[.int .i64 1, .bool false, .bool false, .int .i64 0, .int .i64 0, .int .i64 0, .int .i64 0, .int .i64 0, .int .i64 0, .int .i64 0, .int .i64 0] INS)).alloc (.cells #[.int .i64 0, .bool false, .bool false, .int .i64 0, .int .i64 0, .int .i64 0, .int .i64 0, .int .i64 0, .int .i64 0, .int .i64 0, .int .i64 0] INS)).alloc (.cells #[.int .i64 1, .bool false, .bool false, .int .i64 0, .int .i64 0, .int .i64 0, .int .i64 0, .int .i64 0, .int .i64 0, .int .i64 0, .int .i64 0] INS) = w0 at *
  obtain ⟨b1, hb1⟩ : ∃ b, W.heap.size = b := ⟨_, rfl⟩
  obtain ⟨b2, hb2⟩ : ∃ b, W.heap.size + 1 = b := ⟨_, rfl⟩
  obtain ⟨b3, hb3⟩ : ∃ b, W.heap.size + 1 + 1 = b := ⟨_, rfl⟩
  have HSB2 : Hid (W.heap.size ≤ b2) := Go.Lib.hid (by omega)
  have HNE2 : Hid (b2 ≠ b3) := Go.Lib.hid (by omega)
  rw [hb3] at HB3 HNE ⊢
  rw [hb2] at HB2 ⊢
  rw [hb1] at HB1 HNE ⊢
  have HSZ : Hid (W.heap.size ≤ b3) := Go.Lib.hid (by omega)
  have HNE : Hid (b1 ≠ b3 ∧ W.heap.size ≤ b3) := Go.Lib.hid ⟨HNE.out.1, HSZ.out⟩
  clear hb1 hb2 hb3 HSZ
  have hb1d := HB1.out.drew
  refine regionT 7 (fun V' => Blk V' b1 INS #[.int .i64 1, .bool false, .bool false, .int .i64 0, .int .i64 0, .int .i64 0, .int .i64 0, .int .i64 0, .int .i64 0, .int .i64 0, .int .i64 0]) (by kernel_rfl) (by decide) hb1d (fun inv hHeld => ?_)
  clear hb1d
  refine tkT 0 22 ?v1106 inv hHeld ?h1106 ?_
  case h1106 => (intro V' hSw; obtain ⟨z0, z1, z2, z3, z4, z5, z6, z7, z8, z9, z10⟩ := cells11 hSw; clear hSw; go_simp; try with_reducible rfl)
  clear inv; intro inv; try simp only [sw1, sw2, sw3]
  refine tkT 1 23 ?v1107 inv hHeld ?h1107 ?_
  case h1107 => (intro V' hSw; obtain ⟨z0, z1, z2, z3, z4, z5, z6, z7, z8, z9, z10⟩ := cells11 hSw; clear hSw; go_simp; try with_reducible rfl)
  clear inv; intro inv; try simp only [sw1, sw2, sw3]
  refine tkT 2 24 ?v1108 inv hHeld ?h1108 ?_
  case h1108 => (intro V' hSw; obtain ⟨z0, z1, z2, z3, z4, z5, z6, z7, z8, z9, z10⟩ := cells11 hSw; clear hSw; go_simp; try with_reducible rfl)
  clear inv; intro inv; try simp only [sw1, sw2, sw3]
  refine tkT 3 25 ?v1109 inv hHeld ?h1109 ?_
  case h1109 => (intro V' hSw; obtain ⟨z0, z1, z2, z3, z4, z5, z6, z7, z8, z9, z10⟩ := cells11 hSw; clear hSw; go_simp; try with_reducible rfl)
  clear inv; intro inv; try simp only [sw1, sw2, sw3]
  refine tkT 4 26 ?v1110 inv hHeld ?h1110 ?_
  case h1110 => (intro V' hSw; obtain ⟨z0, z1, z2, z3, z4, z5, z6, z7, z8, z9, z10⟩ := cells11 hSw; clear hSw; go_simp; try with_reducible rfl)
  clear inv; intro inv; try simp only [sw1, sw2, sw3]
  have hb3 : Blk (w0.drew) b3 INS #[.int .i64 1, .bool false, .bool false, .int .i64 0, .int .i64 0, .int .i64 0, .int .i64 0, .int .i64 0, .int .i64 0, .int .i64 0, .int .i64 0] := HB3.out.drew
  refine storeT (i := 5) (w' := (w0.drew).setCell ⟨b3, 2, none⟩ (.bool false)) rfl (by kernel_rfl) rfl (by rfl) ?hx6 inv (by decide) (hHeld.far (p := ⟨b3, 2, none⟩) (fun e => HNE.out.1 e) (.bool false)) ?hy6
  case hx6 => (have z : w0.cell? ⟨b3, 2, none⟩ = some (.bool false) := HB3.out.cell 2; have zf : w0.frozen? ⟨b3, 2, none⟩ = false := HB3.out.frozen 2; clear hb3; go_simp; try with_reducible rfl)
  clear inv hHeld
  intro inv hHeld
  try simp only [sw1, sw2, sw3]
  have hb3 : Blk ((w0.drew).setCell ⟨b3, 2, none⟩ (.bool false)) b3 INS #[.int .i64 1, .bool false, .bool false, .int .i64 0, .int .i64 0, .int .i64 0, .int .i64 0, .int .i64 0, .int .i64 0, .int .i64 0, .int .i64 0] := hb3.set_ 2 (.bool false)
  refine tkT 6 27 ?v1111 inv hHeld ?h1111 ?_
  case h1111 => (intro V' hSw; obtain ⟨z0, z1, z2, z3, z4, z5, z6, z7, z8, z9, z10⟩ := cells11 hSw; clear hSw; go_simp; try with_reducible rfl)
  clear inv; intro inv; try simp only [sw1, sw2, sw3]
  refine lastT (i := 7) (w' := ((w0.drew).setCell ⟨b3, 2, none⟩ (.bool false)).setCell ⟨b3, 7, none⟩ (.int .i64 0)) rfl (by kernel_rfl) rfl (by rfl) ?hx8 (by decide) (by kernel_rfl) ?_
  case hx8 => (have z : w0.cell? ⟨b3, 7, none⟩ = some (.int .i64 0) := HB3.out.cell 7; have zf : w0.frozen? ⟨b3, 7, none⟩ = false := HB3.out.frozen 7; clear hb3; go_simp; try with_reducible rfl)
  clear inv hHeld
  have hb3 : Blk (((w0.drew).setCell ⟨b3, 2, none⟩ (.bool false)).setCell ⟨b3, 7, none⟩ (.int .i64 0)) b3 INS #[.int .i64 1, .bool false, .bool false, .int .i64 0, .int .i64 0, .int .i64 0, .int .i64 0, .int .i64 0, .int .i64 0, .int .i64 0, .int .i64 0] := hb3.set_ 7 (.int .i64 0)
  have HC := Go.Lib.hid (sets_chg HC.out HNE.out.2 [(2, .bool false), (7, .int .i64 0)])
  have HB1 := Go.Lib.hid (sets_far HB1.out HNE.out.1 [(2, .bool false), (7, .int .i64 0)])
  have HB3 := Go.Lib.hid hb3
  have HB2 := Go.Lib.hid (sets_far HB2.out HNE2.out [(2, .bool false), (7, .int .i64 0)])
  clear hb3
  change Hid (Chg NoB W (((w0.drew).setCell ⟨b3, 2, none⟩ (.bool false)).setCell ⟨b3, 7, none⟩ (.int .i64 0))) at HC
  change Hid (Blk (((w0.drew).setCell ⟨b3, 2, none⟩ (.bool false)).setCell ⟨b3, 7, none⟩ (.int .i64 0)) b2 INS #[.int .i64 0, .bool false, .bool false, .int .i64 0, .int .i64 0, .int .i64 0, .int .i64 0, .int .i64 0, .int .i64 0, .int .i64 0, .int .i64 0]) at HB2
  change Hid (Blk (((w0.drew).setCell ⟨b3, 2, none⟩ (.bool false)).setCell ⟨b3, 7, none⟩ (.int .i64 0)) b1 INS #[.int .i64 1, .bool false, .bool false, .int .i64 0, .int .i64 0, .int .i64 0, .int .i64 0, .int .i64 0, .int .i64 0, .int .i64 0, .int .i64 0]) at HB1
  generalize ((w0.drew).setCell ⟨b3, 2, none⟩ (.bool false)).setCell ⟨b3, 7, none⟩ (.int .i64 0) = w1 at *
  have z0 : w1.cell? ⟨b1, 0, none⟩ = some (.int .i64 1) := HB1.out.cell 0
  have z1 : w1.cell? ⟨b1, 1, none⟩ = some (.bool false) := HB1.out.cell 1
  have z2 : w1.cell? ⟨b1, 2, none⟩ = some (.bool false) := HB1.out.cell 2
  have z3 : w1.cell? ⟨b1, 3, none⟩ = some (.int .i64 0) := HB1.out.cell 3
  have z4 : w1.cell? ⟨b1, 4, none⟩ = some (.int .i64 0) := HB1.out.cell 4
  have z5 : w1.cell? ⟨b1, 5, none⟩ = some (.int .i64 0) := HB1.out.cell 5
  have z6 : w1.cell? ⟨b1, 6, none⟩ = some (.int .i64 0) := HB1.out.cell 6
  have z7 : w1.cell? ⟨b1, 7, none⟩ = some (.int .i64 0) := HB1.out.cell 7
  have z8 : w1.cell? ⟨b1, 8, none⟩ = some (.int .i64 0) := HB1.out.cell 8
  have z9 : w1.cell? ⟨b1, 9, none⟩ = some (.int .i64 0) := HB1.out.cell 9
  have z10 : w1.cell? ⟨b1, 10, none⟩ = some (.int .i64 0) := HB1.out.cell 10
  go_wp2_with fail
  clear z0 z1 z2 z3 z4 z5 z6 z7 z8 z9 z10
  have hb1d := HB1.out.drew
  refine regionT 15 (fun V' => Blk V' b1 INS #[.int .i64 1, .bool false, .bool false, .int .i64 0, .int .i64 0, .int .i64 0, .int .i64 0, .int .i64 0, .int .i64 0, .int .i64 0, .int .i64 0]) (by kernel_rfl) (by decide) hb1d (fun inv hHeld => ?_)
  clear hb1d
  refine tkT 0 28 ?v1112 inv hHeld ?h1112 ?_
  case h1112 => (intro V' hSw; obtain ⟨z0, z1, z2, z3, z4, z5, z6, z7, z8, z9, z10⟩ := cells11 hSw; clear hSw; go_simp; try with_reducible rfl)
  clear inv; intro inv; try simp only [sw1, sw2, sw3]
  refine tkT 1 29 ?v1113 inv hHeld ?h1113 ?_
  case h1113 => (intro V' hSw; obtain ⟨z0, z1, z2, z3, z4, z5, z6, z7, z8, z9, z10⟩ := cells11 hSw; clear hSw; go_simp; try with_reducible rfl)
  clear inv; intro inv; try simp only [sw1, sw2, sw3]
  refine tkT 2 30 ?v1114 inv hHeld ?h1114 ?_
  case h1114 => (intro V' hSw; obtain ⟨z0, z1, z2, z3, z4, z5, z6, z7, z8, z9, z10⟩ := cells11 hSw; clear hSw; go_simp; try with_reducible rfl)
  clear inv; intro inv; try simp only [sw1, sw2, sw3]
  refine tkT 3 31 ?v1115 inv hHeld ?h1115 ?_
  case h1115 => (intro V' hSw; obtain ⟨z0, z1, z2, z3, z4, z5, z6, z7, z8, z9, z10⟩ := cells11 hSw; clear hSw; go_simp; try with_reducible rfl)
  clear inv; intro inv; try simp only [sw1, sw2, sw3]
  refine tkT 4 32 ?v1116 inv hHeld ?h1116 ?_
  case h1116 => (intro V' hSw; obtain ⟨z0, z1, z2, z3, z4, z5, z6, z7, z8, z9, z10⟩ := cells11 hSw; clear hSw; go_simp; try with_reducible rfl)
  clear inv; intro inv; try simp only [sw1, sw2, sw3]
  refine tkT 5 33 ?v1117 inv hHeld ?h1117 ?_
  case h1117 => (intro V' hSw; obtain ⟨z0, z1, z2, z3, z4, z5, z6, z7, z8, z9, z10⟩ := cells11 hSw; clear hSw; go_simp; try with_reducible rfl)
  clear inv; intro inv; try simp only [sw1, sw2, sw3]
  refine tkT 6 34 ?v1118 inv hHeld ?h1118 ?_
  case h1118 => (intro V' hSw; obtain ⟨z0, z1, z2, z3, z4, z5, z6, z7, z8, z9, z10⟩ := cells11 hSw; clear hSw; go_simp; try with_reducible rfl)
  clear inv; intro inv; try simp only [sw1, sw2, sw3]
  refine tkT 7 35 ?v1119 inv hHeld ?h1119 ?_
  case h1119 => (intro V' hSw; obtain ⟨z0, z1, z2, z3, z4, z5, z6, z7, z8, z9, z10⟩ := cells11 hSw; clear hSw; go_simp; try with_reducible rfl)
  clear inv; intro inv; try simp only [sw1, sw2, sw3]
  refine tkT 8 36 ?v1120 inv hHeld ?h1120 ?_
  case h1120 => (intro V' hSw; obtain ⟨z0, z1, z2, z3, z4, z5, z6, z7, z8, z9, z10⟩ := cells11 hSw; clear hSw; go_simp; try with_reducible rfl)
  clear inv; intro inv; try simp only [sw1, sw2, sw3]
  have hb3 : Blk (w1.drew) b3 INS #[.int .i64 1, .bool false, .bool false, .int .i64 0, .int .i64 0, .int .i64 0, .int .i64 0, .int .i64 0, .int .i64 0, .int .i64 0, .int .i64 0] := HB3.out.drew
  refine storeT (i := 9) (w' := (w1.drew).setCell ⟨b3, 1, none⟩ (.bool false)) rfl (by kernel_rfl) rfl (by rfl) ?hx18 inv (by decide) (hHeld.far (p := ⟨b3, 1, none⟩) (fun e => HNE.out.1 e) (.bool false)) ?hy18
  case hx18 => (have z : w1.cell? ⟨b3, 1, none⟩ = some (.bool false) := HB3.out.cell 1; have zf : w1.frozen? ⟨b3, 1, none⟩ = false := HB3.out.frozen 1; clear hb3; go_simp; try with_reducible rfl)
  clear inv hHeld
  intro inv hHeld
  try simp only [sw1, sw2, sw3]
  have hb3 : Blk ((w1.drew).setCell ⟨b3, 1, none⟩ (.bool false)) b3 INS #[.int .i64 1, .bool false, .bool false, .int .i64 0, .int .i64 0, .int .i64 0, .int .i64 0, .int .i64 0, .int .i64 0, .int .i64 0, .int .i64 0] := hb3.set_ 1 (.bool false)
  refine tkT 10 37 ?v1121 inv hHeld ?h1121 ?_
  case h1121 => (intro V' hSw; obtain ⟨z0, z1, z2, z3, z4, z5, z6, z7, z8, z9, z10⟩ := cells11 hSw; clear hSw; go_simp; try with_reducible rfl)
  clear inv; intro inv; try simp only [sw1, sw2, sw3]
  refine storeT (i := 11) (w' := ((w1.drew).setCell ⟨b3, 1, none⟩ (.bool false)).setCell ⟨b3, 3, none⟩ (.int .i64 0)) rfl (by kernel_rfl) rfl (by rfl) ?hx20 inv (by decide) (hHeld.far (p := ⟨b3, 3, none⟩) (fun e => HNE.out.1 e) (.int .i64 0)) ?hy20
  case hx20 => (have z : w1.cell? ⟨b3, 3, none⟩ = some (.int .i64 0) := HB3.out.cell 3; have zf : w1.frozen? ⟨b3, 3, none⟩ = false := HB3.out.frozen 3; clear hb3; go_simp; try with_reducible rfl)
  clear inv hHeld
  intro inv hHeld
  try simp only [sw1, sw2, sw3]
  have hb3 : Blk (((w1.drew).setCell ⟨b3, 1, none⟩ (.bool false)).setCell ⟨b3, 3, none⟩ (.int .i64 0)) b3 INS #[.int .i64 1, .bool false, .bool false, .int .i64 0, .int .i64 0, .int .i64 0, .int .i64 0, .int .i64 0, .int .i64 0, .int .i64 0, .int .i64 0] := hb3.set_ 3 (.int .i64 0)
  refine tkT 12 38 ?v1122 inv hHeld ?h1122 ?_
  case h1122 => (intro V' hSw; obtain ⟨z0, z1, z2, z3, z4, z5, z6, z7, z8, z9, z10⟩ := cells11 hSw; clear hSw; go_simp; try with_reducible rfl)
  clear inv; intro inv; try simp only [sw1, sw2, sw3]
  refine storeT (i := 13) (w' := (((w1.drew).setCell ⟨b3, 1, none⟩ (.bool false)).setCell ⟨b3, 3, none⟩ (.int .i64 0)).setCell ⟨b3, 4, none⟩ (.int .i64 0)) rfl (by kernel_rfl) rfl (by rfl) ?hx22 inv (by decide) (hHeld.far (p := ⟨b3, 4, none⟩) (fun e => HNE.out.1 e) (.int .i64 0)) ?hy22
  case hx22 => (have z : w1.cell? ⟨b3, 4, none⟩ = some (.int .i64 0) := HB3.out.cell 4; have zf : w1.frozen? ⟨b3, 4, none⟩ = false := HB3.out.frozen 4; clear hb3; go_simp; try with_reducible rfl)
  clear inv hHeld
  intro inv hHeld
  try simp only [sw1, sw2, sw3]
  have hb3 : Blk ((((w1.drew).setCell ⟨b3, 1, none⟩ (.bool false)).setCell ⟨b3, 3, none⟩ (.int .i64 0)).setCell ⟨b3, 4, none⟩ (.int .i64 0)) b3 INS #[.int .i64 1, .bool false, .bool false, .int .i64 0, .int .i64 0, .int .i64 0, .int .i64 0, .int .i64 0, .int .i64 0, .int .i64 0, .int .i64 0] := hb3.set_ 4 (.int .i64 0)
  refine tkT 14 39 ?v1123 inv hHeld ?h1123 ?_
  case h1123 => (intro V' hSw; obtain ⟨z0, z1, z2, z3, z4, z5, z6, z7, z8, z9, z10⟩ := cells11 hSw; clear hSw; go_simp; try with_reducible rfl)
  clear inv; intro inv; try simp only [sw1, sw2, sw3]
  refine lastT (i := 15) (w' := ((((w1.drew).setCell ⟨b3, 1, none⟩ (.bool false)).setCell ⟨b3, 3, none⟩ (.int .i64 0)).setCell ⟨b3, 4, none⟩ (.int .i64 0)).setCell ⟨b3, 6, none⟩ (.int .i64 0)) rfl (by kernel_rfl) rfl (by rfl) ?hx24 (by decide) (by kernel_rfl) ?_
  case hx24 => (have z : w1.cell? ⟨b3, 6, none⟩ = some (.int .i64 0) := HB3.out.cell 6; have zf : w1.frozen? ⟨b3, 6, none⟩ = false := HB3.out.frozen 6; clear hb3; go_simp; try with_reducible rfl)
  clear inv hHeld
  have hb3 : Blk (((((w1.drew).setCell ⟨b3, 1, none⟩ (.bool false)).setCell ⟨b3, 3, none⟩ (.int .i64 0)).setCell ⟨b3, 4, none⟩ (.int .i64 0)).setCell ⟨b3, 6, none⟩ (.int .i64 0)) b3 INS #[.int .i64 1, .bool false, .bool false, .int .i64 0, .int .i64 0, .int .i64 0, .int .i64 0, .int .i64 0, .int .i64 0, .int .i64 0, .int .i64 0] := hb3.set_ 6 (.int .i64 0)
  have HC := Go.Lib.hid (sets_chg HC.out HNE.out.2 [(1, .bool false), (3, .int .i64 0), (4, .int .i64 0), (6, .int .i64 0)])
  have HB1 := Go.Lib.hid (sets_far HB1.out HNE.out.1 [(1, .bool false), (3, .int .i64 0), (4, .int .i64 0), (6, .int .i64 0)])
  have HB3 := Go.Lib.hid hb3
  have HB2 := Go.Lib.hid (sets_far HB2.out HNE2.out [(1, .bool false), (3, .int .i64 0), (4, .int .i64 0), (6, .int .i64 0)])
  clear hb3
  change Hid (Chg NoB W (((((w1.drew).setCell ⟨b3, 1, none⟩ (.bool false)).setCell ⟨b3, 3, none⟩ (.int .i64 0)).setCell ⟨b3, 4, none⟩ (.int .i64 0)).setCell ⟨b3, 6, none⟩ (.int .i64 0))) at HC
  change Hid (Blk (((((w1.drew).setCell ⟨b3, 1, none⟩ (.bool false)).setCell ⟨b3, 3, none⟩ (.int .i64 0)).setCell ⟨b3, 4, none⟩ (.int .i64 0)).setCell ⟨b3, 6, none⟩ (.int .i64 0)) b2 INS #[.int .i64 0, .bool false, .bool false, .int .i64 0, .int .i64 0, .int .i64 0, .int .i64 0, .int .i64 0, .int .i64 0, .int .i64 0, .int .i64 0]) at HB2
  change Hid (Blk (((((w1.drew).setCell ⟨b3, 1, none⟩ (.bool false)).setCell ⟨b3, 3, none⟩ (.int .i64 0)).setCell ⟨b3, 4, none⟩ (.int .i64 0)).setCell ⟨b3, 6, none⟩ (.int .i64 0)) b1 INS #[.int .i64 1, .bool false, .bool false, .int .i64 0, .int .i64 0, .int .i64 0, .int .i64 0, .int .i64 0, .int .i64 0, .int .i64 0, .int .i64 0]) at HB1
  generalize ((((w1.drew).setCell ⟨b3, 1, none⟩ (.bool false)).setCell ⟨b3, 3, none⟩ (.int .i64 0)).setCell ⟨b3, 4, none⟩ (.int .i64 0)).setCell ⟨b3, 6, none⟩ (.int .i64 0) = w2 at *
  have z0 : w2.cell? ⟨b1, 0, none⟩ = some (.int .i64 1) := HB1.out.cell 0
  have z1 : w2.cell? ⟨b1, 1, none⟩ = some (.bool false) := HB1.out.cell 1
  have z2 : w2.cell? ⟨b1, 2, none⟩ = some (.bool false) := HB1.out.cell 2
  have z3 : w2.cell? ⟨b1, 3, none⟩ = some (.int .i64 0) := HB1.out.cell 3
  have z4 : w2.cell? ⟨b1, 4, none⟩ = some (.int .i64 0) := HB1.out.cell 4
  have z5 : w2.cell? ⟨b1, 5, none⟩ = some (.int .i64 0) := HB1.out.cell 5
  have z6 : w2.cell? ⟨b1, 6, none⟩ = some (.int .i64 0) := HB1.out.cell 6
  have z7 : w2.cell? ⟨b1, 7, none⟩ = some (.int .i64 0) := HB1.out.cell 7
  have z8 : w2.cell? ⟨b1, 8, none⟩ = some (.int .i64 0) := HB1.out.cell 8
  have z9 : w2.cell? ⟨b1, 9, none⟩ = some (.int .i64 0) := HB1.out.cell 9
  have z10 : w2.cell? ⟨b1, 10, none⟩ = some (.int .i64 0) := HB1.out.cell 10
  have y0 : w2.cell? ⟨b3, 0, none⟩ = some (.int .i64 1) := HB3.out.cell 0
  have y1 : w2.cell? ⟨b3, 1, none⟩ = some (.bool false) := HB3.out.cell 1
  have y2 : w2.cell? ⟨b3, 2, none⟩ = some (.bool false) := HB3.out.cell 2
  have y3 : w2.cell? ⟨b3, 3, none⟩ = some (.int .i64 0) := HB3.out.cell 3
  have y4 : w2.cell? ⟨b3, 4, none⟩ = some (.int .i64 0) := HB3.out.cell 4
  have y5 : w2.cell? ⟨b3, 5, none⟩ = some (.int .i64 0) := HB3.out.cell 5
  have y6 : w2.cell? ⟨b3, 6, none⟩ = some (.int .i64 0) := HB3.out.cell 6
  have y7 : w2.cell? ⟨b3, 7, none⟩ = some (.int .i64 0) := HB3.out.cell 7
  have y8 : w2.cell? ⟨b3, 8, none⟩ = some (.int .i64 0) := HB3.out.cell 8
  have y9 : w2.cell? ⟨b3, 9, none⟩ = some (.int .i64 0) := HB3.out.cell 9
  have y10 : w2.cell? ⟨b3, 10, none⟩ = some (.int .i64 0) := HB3.out.cell 10
  go_wp2_with (refine wpList_store_row rfl 108 (.tmp 2) (.tmp 82) rfl b2 #[.int .i64 1, .bool false, .bool false, .int .i64 0, .int .i64 0, .int .i64 0, .int .i64 0, .int .i64 0, .int .i64 0, .int .i64 0, .int .i64 0] rfl rfl INS #[.int .i64 0, .bool false, .bool false, .int .i64 0, .int .i64 0, .int .i64 0, .int .i64 0, .int .i64 0, .int .i64 0, .int .i64 0, .int .i64 0] HB2.out (by kernel_rfl) (by rfl) (by kernel_rfl) ?_)
  refine bodyPost_ret (results_cell_row rfl _ _ b2 INS #[.int .i64 1, .bool false, .bool false, .int .i64 0, .int .i64 0, .int .i64 0, .int .i64 0, .int .i64 0, .int .i64 0, .int .i64 0, .int .i64 0] (0, 0) _ rfl (HB2.out.rowSet_ _) Try.underlying108 rfl (by kernel_rfl)) rfl ?_
  exact ⟨rfl, HC.out.setRow_ HSB2.out _⟩
set_option maxRecDepth 100000 in
theorem put_0_1_2 {W : World} {b : Nat} (hb : Blk W b 29 #[.int .u32 0]) : Calls Try.prog 97 #[.int .i64 1, .int .i64 2, .pointer (some ⟨b, 0, none⟩)] W fun e w' => e = .returned (.tuple #[]) ∧ w' = W.drew.setCell ⟨b, 0, none⟩ (.int .u32 1) := by
  have HB := Go.Lib.hid hb
  have z0 : W.cell? ⟨b, 0, none⟩ = some (.int .u32 0) := hb.cell 0
  have zf : W.frozen? ⟨b, 0, none⟩ = false := hb.frozen 0
  clear hb
  go_enter Try.func97, Try.ntmps97
  go_wp2_with fail
  refine regionT 10 (fun V' => V'.cell? ⟨b, 0, none⟩ = some (.int .u32 0)) (by kernel_rfl) (by decide) (HB.out.drew.cell 0) (fun inv hHeld => ?_)
  refine tkW 0 5 (.int .u32 0) inv hHeld ?_
  clear inv; intro inv; try simp only [sw1, sw2, sw3]
  refine tkW 1 6 (.int .i64 2) inv hHeld ?_
  clear inv; intro inv; try simp only [sw1, sw2, sw3]
  refine tkW 2 7 (.int .u32 0) inv hHeld ?_
  clear inv; intro inv; try simp only [sw1, sw2, sw3]
  refine tkW 3 8 (.int .i64 1) inv hHeld ?_
  clear inv; intro inv; try simp only [sw1, sw2, sw3]
  refine tkW 4 9 (.int .u32 1) inv hHeld ?_
  clear inv; intro inv; try simp only [sw1, sw2, sw3]
  refine tkW 5 10 (.int .i64 2) inv hHeld ?_
  clear inv; intro inv; try simp only [sw1, sw2, sw3]
  refine tkW 6 11 (.int .u32 4) inv hHeld ?_
  clear inv; intro inv; try simp only [sw1, sw2, sw3]
  refine tkW 7 12 (.int .u32 3) inv hHeld ?_
  clear inv; intro inv; try simp only [sw1, sw2, sw3]
  refine tkW 8 13 (.int .u32 1) inv hHeld ?_
  clear inv; intro inv; try simp only [sw1, sw2, sw3]
  refine tkW 9 14 (.int .u32 1) inv hHeld ?_
  clear inv; intro inv; try simp only [sw1, sw2, sw3]
  refine lastT (i := 10) (w' := W.drew.setCell ⟨b, 0, none⟩ (.int .u32 1)) rfl (by kernel_rfl) rfl (by rfl) ?hx (by decide) (by kernel_rfl) ?_
  case hx => (go_simp; try with_reducible rfl)
  clear inv hHeld
  go_wp2_with fail
  go_end0
  exact ⟨rfl, rfl⟩
set_option maxRecDepth 100000 in
theorem put_1_0_1 {W : World} {b : Nat} (hb : Blk W b 29 #[.int .u32 1]) : Calls Try.prog 97 #[.int .i64 0, .int .i64 1, .pointer (some ⟨b, 0, none⟩)] W fun e w' => e = .returned (.tuple #[]) ∧ w' = W.drew.setCell ⟨b, 0, none⟩ (.int .u32 2) := by
  have HB := Go.Lib.hid hb
  have z0 : W.cell? ⟨b, 0, none⟩ = some (.int .u32 1) := hb.cell 0
  have zf : W.frozen? ⟨b, 0, none⟩ = false := hb.frozen 0
  clear hb
  go_enter Try.func97, Try.ntmps97
  go_wp2_with fail
  refine regionT 10 (fun V' => V'.cell? ⟨b, 0, none⟩ = some (.int .u32 1)) (by kernel_rfl) (by decide) (HB.out.drew.cell 0) (fun inv hHeld => ?_)
  refine tkW 0 5 (.int .u32 1) inv hHeld ?_
  clear inv; intro inv; try simp only [sw1, sw2, sw3]
  refine tkW 1 6 (.int .i64 1) inv hHeld ?_
  clear inv; intro inv; try simp only [sw1, sw2, sw3]
  refine tkW 2 7 (.int .u32 2) inv hHeld ?_
  clear inv; intro inv; try simp only [sw1, sw2, sw3]
  refine tkW 3 8 (.int .i64 0) inv hHeld ?_
  clear inv; intro inv; try simp only [sw1, sw2, sw3]
  refine tkW 4 9 (.int .u32 0) inv hHeld ?_
  clear inv; intro inv; try simp only [sw1, sw2, sw3]
  refine tkW 5 10 (.int .i64 1) inv hHeld ?_
  clear inv; intro inv; try simp only [sw1, sw2, sw3]
  refine tkW 6 11 (.int .u32 2) inv hHeld ?_
  clear inv; intro inv; try simp only [sw1, sw2, sw3]
  refine tkW 7 12 (.int .u32 1) inv hHeld ?_
  clear inv; intro inv; try simp only [sw1, sw2, sw3]
  refine tkW 8 13 (.int .u32 0) inv hHeld ?_
  clear inv; intro inv; try simp only [sw1, sw2, sw3]
  refine tkW 9 14 (.int .u32 2) inv hHeld ?_
  clear inv; intro inv; try simp only [sw1, sw2, sw3]
  refine lastT (i := 10) (w' := W.drew.setCell ⟨b, 0, none⟩ (.int .u32 2)) rfl (by kernel_rfl) rfl (by rfl) ?hx (by decide) (by kernel_rfl) ?_
  case hx => (go_simp; try with_reducible rfl)
  clear inv hHeld
  go_wp2_with fail
  go_end0
  exact ⟨rfl, rfl⟩
set_option maxRecDepth 100000 in
theorem put_2_0_1 {W : World} {b : Nat} (hb : Blk W b 29 #[.int .u32 2]) : Calls Try.prog 97 #[.int .i64 0, .int .i64 1, .pointer (some ⟨b, 0, none⟩)] W fun e w' => e = .returned (.tuple #[]) ∧ w' = W.drew.setCell ⟨b, 0, none⟩ (.int .u32 4) := by
  have HB := Go.Lib.hid hb
  have z0 : W.cell? ⟨b, 0, none⟩ = some (.int .u32 2) := hb.cell 0
  have zf : W.frozen? ⟨b, 0, none⟩ = false := hb.frozen 0
  clear hb
  go_enter Try.func97, Try.ntmps97
  go_wp2_with fail
  refine regionT 10 (fun V' => V'.cell? ⟨b, 0, none⟩ = some (.int .u32 2)) (by kernel_rfl) (by decide) (HB.out.drew.cell 0) (fun inv hHeld => ?_)
  refine tkW 0 5 (.int .u32 2) inv hHeld ?_
  clear inv; intro inv; try simp only [sw1, sw2, sw3]
  refine tkW 1 6 (.int .i64 1) inv hHeld ?_
  clear inv; intro inv; try simp only [sw1, sw2, sw3]
  refine tkW 2 7 (.int .u32 4) inv hHeld ?_
  clear inv; intro inv; try simp only [sw1, sw2, sw3]
  refine tkW 3 8 (.int .i64 0) inv hHeld ?_
  clear inv; intro inv; try simp only [sw1, sw2, sw3]
  refine tkW 4 9 (.int .u32 0) inv hHeld ?_
  clear inv; intro inv; try simp only [sw1, sw2, sw3]
  refine tkW 5 10 (.int .i64 1) inv hHeld ?_
  clear inv; intro inv; try simp only [sw1, sw2, sw3]
  refine tkW 6 11 (.int .u32 2) inv hHeld ?_
  clear inv; intro inv; try simp only [sw1, sw2, sw3]
  refine tkW 7 12 (.int .u32 1) inv hHeld ?_
  clear inv; intro inv; try simp only [sw1, sw2, sw3]
  refine tkW 8 13 (.int .u32 0) inv hHeld ?_
  clear inv; intro inv; try simp only [sw1, sw2, sw3]
  refine tkW 9 14 (.int .u32 4) inv hHeld ?_
  clear inv; intro inv; try simp only [sw1, sw2, sw3]
  refine lastT (i := 10) (w' := W.drew.setCell ⟨b, 0, none⟩ (.int .u32 4)) rfl (by kernel_rfl) rfl (by rfl) ?hx (by decide) (by kernel_rfl) ?_
  case hx => (go_simp; try with_reducible rfl)
  clear inv hHeld
  go_wp2_with fail
  go_end0
  exact ⟨rfl, rfl⟩
set_option maxRecDepth 100000 in
theorem put_4_0_4 {W : World} {b : Nat} (hb : Blk W b 29 #[.int .u32 4]) : Calls Try.prog 97 #[.int .i64 0, .int .i64 4, .pointer (some ⟨b, 0, none⟩)] W fun e w' => e = .returned (.tuple #[]) ∧ w' = W.drew.setCell ⟨b, 0, none⟩ (.int .u32 64) := by
  have HB := Go.Lib.hid hb
  have z0 : W.cell? ⟨b, 0, none⟩ = some (.int .u32 4) := hb.cell 0
  have zf : W.frozen? ⟨b, 0, none⟩ = false := hb.frozen 0
  clear hb
  go_enter Try.func97, Try.ntmps97
  go_wp2_with fail
  refine regionT 10 (fun V' => V'.cell? ⟨b, 0, none⟩ = some (.int .u32 4)) (by kernel_rfl) (by decide) (HB.out.drew.cell 0) (fun inv hHeld => ?_)
  refine tkW 0 5 (.int .u32 4) inv hHeld ?_
  clear inv; intro inv; try simp only [sw1, sw2, sw3]
  refine tkW 1 6 (.int .i64 4) inv hHeld ?_
  clear inv; intro inv; try simp only [sw1, sw2, sw3]
  refine tkW 2 7 (.int .u32 64) inv hHeld ?_
  clear inv; intro inv; try simp only [sw1, sw2, sw3]
  refine tkW 3 8 (.int .i64 0) inv hHeld ?_
  clear inv; intro inv; try simp only [sw1, sw2, sw3]
  refine tkW 4 9 (.int .u32 0) inv hHeld ?_
  clear inv; intro inv; try simp only [sw1, sw2, sw3]
  refine tkW 5 10 (.int .i64 4) inv hHeld ?_
  clear inv; intro inv; try simp only [sw1, sw2, sw3]
  refine tkW 6 11 (.int .u32 16) inv hHeld ?_
  clear inv; intro inv; try simp only [sw1, sw2, sw3]
  refine tkW 7 12 (.int .u32 15) inv hHeld ?_
  clear inv; intro inv; try simp only [sw1, sw2, sw3]
  refine tkW 8 13 (.int .u32 0) inv hHeld ?_
  clear inv; intro inv; try simp only [sw1, sw2, sw3]
  refine tkW 9 14 (.int .u32 64) inv hHeld ?_
  clear inv; intro inv; try simp only [sw1, sw2, sw3]
  refine lastT (i := 10) (w' := W.drew.setCell ⟨b, 0, none⟩ (.int .u32 64)) rfl (by kernel_rfl) rfl (by rfl) ?hx (by decide) (by kernel_rfl) ?_
  case hx => (go_simp; try with_reducible rfl)
  clear inv hHeld
  go_wp2_with fail
  go_end0
  exact ⟨rfl, rfl⟩
set_option maxRecDepth 100000 in
theorem put_64_0_4 {W : World} {b : Nat} (hb : Blk W b 29 #[.int .u32 64]) : Calls Try.prog 97 #[.int .i64 0, .int .i64 4, .pointer (some ⟨b, 0, none⟩)] W fun e w' => e = .returned (.tuple #[]) ∧ w' = W.drew.setCell ⟨b, 0, none⟩ (.int .u32 1024) := by
  have HB := Go.Lib.hid hb
  have z0 : W.cell? ⟨b, 0, none⟩ = some (.int .u32 64) := hb.cell 0
  have zf : W.frozen? ⟨b, 0, none⟩ = false := hb.frozen 0
  clear hb
  go_enter Try.func97, Try.ntmps97
  go_wp2_with fail
  refine regionT 10 (fun V' => V'.cell? ⟨b, 0, none⟩ = some (.int .u32 64)) (by kernel_rfl) (by decide) (HB.out.drew.cell 0) (fun inv hHeld => ?_)
  refine tkW 0 5 (.int .u32 64) inv hHeld ?_
  clear inv; intro inv; try simp only [sw1, sw2, sw3]
  refine tkW 1 6 (.int .i64 4) inv hHeld ?_
  clear inv; intro inv; try simp only [sw1, sw2, sw3]
  refine tkW 2 7 (.int .u32 1024) inv hHeld ?_
  clear inv; intro inv; try simp only [sw1, sw2, sw3]
  refine tkW 3 8 (.int .i64 0) inv hHeld ?_
  clear inv; intro inv; try simp only [sw1, sw2, sw3]
  refine tkW 4 9 (.int .u32 0) inv hHeld ?_
  clear inv; intro inv; try simp only [sw1, sw2, sw3]
  refine tkW 5 10 (.int .i64 4) inv hHeld ?_
  clear inv; intro inv; try simp only [sw1, sw2, sw3]
  refine tkW 6 11 (.int .u32 16) inv hHeld ?_
  clear inv; intro inv; try simp only [sw1, sw2, sw3]
  refine tkW 7 12 (.int .u32 15) inv hHeld ?_
  clear inv; intro inv; try simp only [sw1, sw2, sw3]
  refine tkW 8 13 (.int .u32 0) inv hHeld ?_
  clear inv; intro inv; try simp only [sw1, sw2, sw3]
  refine tkW 9 14 (.int .u32 1024) inv hHeld ?_
  clear inv; intro inv; try simp only [sw1, sw2, sw3]
  refine lastT (i := 10) (w' := W.drew.setCell ⟨b, 0, none⟩ (.int .u32 1024)) rfl (by kernel_rfl) rfl (by rfl) ?hx (by decide) (by kernel_rfl) ?_
  case hx => (go_simp; try with_reducible rfl)
  clear inv hHeld
  go_wp2_with fail
  go_end0
  exact ⟨rfl, rfl⟩
set_option maxRecDepth 100000 in
theorem put_1024_0_4 {W : World} {b : Nat} (hb : Blk W b 29 #[.int .u32 1024]) : Calls Try.prog 97 #[.int .i64 0, .int .i64 4, .pointer (some ⟨b, 0, none⟩)] W fun e w' => e = .returned (.tuple #[]) ∧ w' = W.drew.setCell ⟨b, 0, none⟩ (.int .u32 16384) := by
  have HB := Go.Lib.hid hb
  have z0 : W.cell? ⟨b, 0, none⟩ = some (.int .u32 1024) := hb.cell 0
  have zf : W.frozen? ⟨b, 0, none⟩ = false := hb.frozen 0
  clear hb
  go_enter Try.func97, Try.ntmps97
  go_wp2_with fail
  refine regionT 10 (fun V' => V'.cell? ⟨b, 0, none⟩ = some (.int .u32 1024)) (by kernel_rfl) (by decide) (HB.out.drew.cell 0) (fun inv hHeld => ?_)
  refine tkW 0 5 (.int .u32 1024) inv hHeld ?_
  clear inv; intro inv; try simp only [sw1, sw2, sw3]
  refine tkW 1 6 (.int .i64 4) inv hHeld ?_
  clear inv; intro inv; try simp only [sw1, sw2, sw3]
  refine tkW 2 7 (.int .u32 16384) inv hHeld ?_
  clear inv; intro inv; try simp only [sw1, sw2, sw3]
  refine tkW 3 8 (.int .i64 0) inv hHeld ?_
  clear inv; intro inv; try simp only [sw1, sw2, sw3]
  refine tkW 4 9 (.int .u32 0) inv hHeld ?_
  clear inv; intro inv; try simp only [sw1, sw2, sw3]
  refine tkW 5 10 (.int .i64 4) inv hHeld ?_
  clear inv; intro inv; try simp only [sw1, sw2, sw3]
  refine tkW 6 11 (.int .u32 16) inv hHeld ?_
  clear inv; intro inv; try simp only [sw1, sw2, sw3]
  refine tkW 7 12 (.int .u32 15) inv hHeld ?_
  clear inv; intro inv; try simp only [sw1, sw2, sw3]
  refine tkW 8 13 (.int .u32 0) inv hHeld ?_
  clear inv; intro inv; try simp only [sw1, sw2, sw3]
  refine tkW 9 14 (.int .u32 16384) inv hHeld ?_
  clear inv; intro inv; try simp only [sw1, sw2, sw3]
  refine lastT (i := 10) (w' := W.drew.setCell ⟨b, 0, none⟩ (.int .u32 16384)) rfl (by kernel_rfl) rfl (by rfl) ?hx (by decide) (by kernel_rfl) ?_
  case hx => (go_simp; try with_reducible rfl)
  clear inv hHeld
  go_wp2_with fail
  go_end0
  exact ⟨rfl, rfl⟩
set_option maxRecDepth 100000 in
theorem put_16384_0_16 {W : World} {b : Nat} (hb : Blk W b 29 #[.int .u32 16384]) : Calls Try.prog 97 #[.int .i64 0, .int .i64 16, .pointer (some ⟨b, 0, none⟩)] W fun e w' => e = .returned (.tuple #[]) ∧ w' = W.drew.setCell ⟨b, 0, none⟩ (.int .u32 1073741824) := by
  have HB := Go.Lib.hid hb
  have z0 : W.cell? ⟨b, 0, none⟩ = some (.int .u32 16384) := hb.cell 0
  have zf : W.frozen? ⟨b, 0, none⟩ = false := hb.frozen 0
  clear hb
  go_enter Try.func97, Try.ntmps97
  go_wp2_with fail
  refine regionT 10 (fun V' => V'.cell? ⟨b, 0, none⟩ = some (.int .u32 16384)) (by kernel_rfl) (by decide) (HB.out.drew.cell 0) (fun inv hHeld => ?_)
  refine tkW 0 5 (.int .u32 16384) inv hHeld ?_
  clear inv; intro inv; try simp only [sw1, sw2, sw3]
  refine tkW 1 6 (.int .i64 16) inv hHeld ?_
  clear inv; intro inv; try simp only [sw1, sw2, sw3]
  refine tkW 2 7 (.int .u32 1073741824) inv hHeld ?_
  clear inv; intro inv; try simp only [sw1, sw2, sw3]
  refine tkW 3 8 (.int .i64 0) inv hHeld ?_
  clear inv; intro inv; try simp only [sw1, sw2, sw3]
  refine tkW 4 9 (.int .u32 0) inv hHeld ?_
  clear inv; intro inv; try simp only [sw1, sw2, sw3]
  refine tkW 5 10 (.int .i64 16) inv hHeld ?_
  clear inv; intro inv; try simp only [sw1, sw2, sw3]
  refine tkW 6 11 (.int .u32 65536) inv hHeld ?_
  clear inv; intro inv; try simp only [sw1, sw2, sw3]
  refine tkW 7 12 (.int .u32 65535) inv hHeld ?_
  clear inv; intro inv; try simp only [sw1, sw2, sw3]
  refine tkW 8 13 (.int .u32 0) inv hHeld ?_
  clear inv; intro inv; try simp only [sw1, sw2, sw3]
  refine tkW 9 14 (.int .u32 1073741824) inv hHeld ?_
  clear inv; intro inv; try simp only [sw1, sw2, sw3]
  refine lastT (i := 10) (w' := W.drew.setCell ⟨b, 0, none⟩ (.int .u32 1073741824)) rfl (by kernel_rfl) rfl (by rfl) ?hx (by decide) (by kernel_rfl) ?_
  case hx => (go_simp; try with_reducible rfl)
  clear inv hHeld
  go_wp2_with fail
  go_end0
  exact ⟨rfl, rfl⟩
set_option maxRecDepth 100000 in
set_option maxHeartbeats 8000000 in
theorem pack_im (W : World) : Calls Try.prog 90 #[.agg #[.int .i64 1, .bool false, .bool false, .int .i64 0, .int .i64 0, .int .i64 0, .int .i64 0, .int .i64 0, .int .i64 0, .int .i64 0, .int .i64 0]] W fun e w' => e = .returned (.int .u32 1073741824) ∧ Chg NoB W w' := by
  have HC : Hid (Chg NoB W ((W.alloc (.cells #[.int .i64 1, .bool false, .bool false, .int .i64 0, .int .i64 0, .int .i64 0, .int .i64 0, .int .i64 0, .int .i64 0, .int .i64 0, .int .i64 0] INS)).alloc (.cells #[.int .u32 0] 29))) := Go.Lib.hid (((Chg.refl NoB W).alloc _).alloc _)
  have HB1 : Hid (Blk ((W.alloc (.cells #[.int .i64 1, .bool false, .bool false, .int .i64 0, .int .i64 0, .int .i64 0, .int .i64 0, .int .i64 0, .int .i64 0, .int .i64 0, .int .i64 0] INS)).alloc (.cells #[.int .u32 0] 29)) W.heap.size INS #[.int .i64 1, .bool false, .bool false, .int .i64 0, .int .i64 0, .int .i64 0, .int .i64 0, .int .i64 0, .int .i64 0, .int .i64 0, .int .i64 0]) := Go.Lib.hid ((Blk.new W INS _).alloc _)
  have HBW : Hid (Blk ((W.alloc (.cells #[.int .i64 1, .bool false, .bool false, .int .i64 0, .int .i64 0, .int .i64 0, .int .i64 0, .int .i64 0, .int .i64 0, .int .i64 0, .int .i64 0] INS)).alloc (.cells #[.int .u32 0] 29)) (W.heap.size + 1) 29 #[.int .u32 0]) := Go.Lib.hid (by
    have := Blk.new (W.alloc (.cells #[.int .i64 1, .bool false, .bool false, .int .i64 0, .int .i64 0, .int .i64 0, .int .i64 0, .int .i64 0, .int .i64 0, .int .i64 0, .int .i64 0] INS)) 29 #[.int .u32 0]
    simpa using this)
  have HW : Hid (∃ w, w = (W.alloc (.cells #[.int .i64 1, .bool false, .bool false, .int .i64 0, .int .i64 0, .int .i64 0, .int .i64 0, .int .i64 0, .int .i64 0, .int .i64 0, .int .i64 0] INS)).alloc (.cells #[.int .u32 0] 29)) := Go.Lib.hid ⟨_, rfl⟩
  have HNE : Hid (W.heap.size ≠ W.heap.size + 1 ∧ W.heap.size ≤ W.heap.size + 1) := Go.Lib.hid ⟨by omega, by omega⟩
  go_enter Try.func90, Try.ntmps90
  go_wp2_with fail
  refine (put_0_1_2 HBW.out).mono ?_
  rintro e wx ⟨rfl, rfl⟩
  have HC := Go.Lib.hid ((HC.out.drew).setCell (p := ⟨W.heap.size + 1, 0, none⟩) (fun hl => by have := HNE.out.2; simp at hl; omega) (.int .u32 1))
  have HB1 := Go.Lib.hid (HB1.out.drew.far (p := ⟨W.heap.size + 1, 0, none⟩) HNE.out.1 (.int .u32 1))
  have HBW : Hid (Blk ((((W.alloc (.cells #[.int .i64 1, .bool false, .bool false, .int .i64 0, .int .i64 0, .int .i64 0, .int .i64 0, .int .i64 0, .int .i64 0, .int .i64 0, .int .i64 0] INS)).alloc (.cells #[.int .u32 0] 29))).drew.setCell ⟨W.heap.size + 1, 0, none⟩ (.int .u32 1)) (W.heap.size + 1) 29 #[.int .u32 1]) := Go.Lib.hid (HBW.out.drew.set_ 0 (.int .u32 1))
  obtain ⟨b1, hb1⟩ : ∃ b, W.heap.size = b := ⟨_, rfl⟩
  obtain ⟨bw, hbw⟩ : ∃ b, W.heap.size + 1 = b := ⟨_, rfl⟩
  have HNE : Hid (b1 ≠ bw ∧ W.heap.size ≤ bw) := Go.Lib.hid ⟨by omega, by omega⟩
  generalize (((W.alloc (.cells #[.int .i64 1, .bool false, .bool false, .int .i64 0, .int .i64 0, .int .i64 0, .int .i64 0, .int .i64 0, .int .i64 0, .int .i64 0, .int .i64 0] INS)).alloc (.cells #[.int .u32 0] 29))).drew.setCell ⟨W.heap.size + 1, 0, none⟩ (.int .u32 1) = w1 at *
  rw [hbw] at HBW ⊢
  rw [hb1] at HB1 ⊢
  clear hb1 hbw
  have z0 : w1.cell? ⟨b1, 0, none⟩ = some (.int .i64 1) := HB1.out.cell 0
  have z1 : w1.cell? ⟨b1, 1, none⟩ = some (.bool false) := HB1.out.cell 1
  have z2 : w1.cell? ⟨b1, 2, none⟩ = some (.bool false) := HB1.out.cell 2
  have z3 : w1.cell? ⟨b1, 3, none⟩ = some (.int .i64 0) := HB1.out.cell 3
  have z4 : w1.cell? ⟨b1, 4, none⟩ = some (.int .i64 0) := HB1.out.cell 4
  have z5 : w1.cell? ⟨b1, 5, none⟩ = some (.int .i64 0) := HB1.out.cell 5
  have z6 : w1.cell? ⟨b1, 6, none⟩ = some (.int .i64 0) := HB1.out.cell 6
  have z7 : w1.cell? ⟨b1, 7, none⟩ = some (.int .i64 0) := HB1.out.cell 7
  have z8 : w1.cell? ⟨b1, 8, none⟩ = some (.int .i64 0) := HB1.out.cell 8
  have z9 : w1.cell? ⟨b1, 9, none⟩ = some (.int .i64 0) := HB1.out.cell 9
  have z10 : w1.cell? ⟨b1, 10, none⟩ = some (.int .i64 0) := HB1.out.cell 10
  go_wp2_with fail
  clear z0 z1 z2 z3 z4 z5 z6 z7 z8 z9 z10
  refine (bit_F _).mono ?_
  rintro e wx ⟨rfl, rfl⟩
  go_wp2_with fail
  refine (put_1_0_1 HBW.out).mono ?_
  rintro e wx ⟨rfl, rfl⟩
  have HC := Go.Lib.hid ((HC.out.drew).setCell (p := ⟨bw, 0, none⟩) (fun hl => by have := HNE.out.2; simp at hl; omega) (.int .u32 2))
  have HB1 := Go.Lib.hid (HB1.out.drew.far (p := ⟨bw, 0, none⟩) HNE.out.1 (.int .u32 2))
  have HBW : Hid (Blk ((w1).drew.setCell ⟨bw, 0, none⟩ (.int .u32 2)) bw 29 #[.int .u32 2]) := Go.Lib.hid (HBW.out.drew.set_ 0 (.int .u32 2))
  generalize (w1).drew.setCell ⟨bw, 0, none⟩ (.int .u32 2) = w2 at *
  have z0 : w2.cell? ⟨b1, 0, none⟩ = some (.int .i64 1) := HB1.out.cell 0
  have z1 : w2.cell? ⟨b1, 1, none⟩ = some (.bool false) := HB1.out.cell 1
  have z2 : w2.cell? ⟨b1, 2, none⟩ = some (.bool false) := HB1.out.cell 2
  have z3 : w2.cell? ⟨b1, 3, none⟩ = some (.int .i64 0) := HB1.out.cell 3
  have z4 : w2.cell? ⟨b1, 4, none⟩ = some (.int .i64 0) := HB1.out.cell 4
  have z5 : w2.cell? ⟨b1, 5, none⟩ = some (.int .i64 0) := HB1.out.cell 5
  have z6 : w2.cell? ⟨b1, 6, none⟩ = some (.int .i64 0) := HB1.out.cell 6
  have z7 : w2.cell? ⟨b1, 7, none⟩ = some (.int .i64 0) := HB1.out.cell 7
  have z8 : w2.cell? ⟨b1, 8, none⟩ = some (.int .i64 0) := HB1.out.cell 8
  have z9 : w2.cell? ⟨b1, 9, none⟩ = some (.int .i64 0) := HB1.out.cell 9
  have z10 : w2.cell? ⟨b1, 10, none⟩ = some (.int .i64 0) := HB1.out.cell 10
  go_wp2_with fail
  clear z0 z1 z2 z3 z4 z5 z6 z7 z8 z9 z10
  refine (bit_F _).mono ?_
  rintro e wx ⟨rfl, rfl⟩
  go_wp2_with fail
  refine (put_2_0_1 HBW.out).mono ?_
  rintro e wx ⟨rfl, rfl⟩
  have HC := Go.Lib.hid ((HC.out.drew).setCell (p := ⟨bw, 0, none⟩) (fun hl => by have := HNE.out.2; simp at hl; omega) (.int .u32 4))
  have HB1 := Go.Lib.hid (HB1.out.drew.far (p := ⟨bw, 0, none⟩) HNE.out.1 (.int .u32 4))
  have HBW : Hid (Blk ((w2).drew.setCell ⟨bw, 0, none⟩ (.int .u32 4)) bw 29 #[.int .u32 4]) := Go.Lib.hid (HBW.out.drew.set_ 0 (.int .u32 4))
  generalize (w2).drew.setCell ⟨bw, 0, none⟩ (.int .u32 4) = w3 at *
  have z0 : w3.cell? ⟨b1, 0, none⟩ = some (.int .i64 1) := HB1.out.cell 0
  have z1 : w3.cell? ⟨b1, 1, none⟩ = some (.bool false) := HB1.out.cell 1
  have z2 : w3.cell? ⟨b1, 2, none⟩ = some (.bool false) := HB1.out.cell 2
  have z3 : w3.cell? ⟨b1, 3, none⟩ = some (.int .i64 0) := HB1.out.cell 3
  have z4 : w3.cell? ⟨b1, 4, none⟩ = some (.int .i64 0) := HB1.out.cell 4
  have z5 : w3.cell? ⟨b1, 5, none⟩ = some (.int .i64 0) := HB1.out.cell 5
  have z6 : w3.cell? ⟨b1, 6, none⟩ = some (.int .i64 0) := HB1.out.cell 6
  have z7 : w3.cell? ⟨b1, 7, none⟩ = some (.int .i64 0) := HB1.out.cell 7
  have z8 : w3.cell? ⟨b1, 8, none⟩ = some (.int .i64 0) := HB1.out.cell 8
  have z9 : w3.cell? ⟨b1, 9, none⟩ = some (.int .i64 0) := HB1.out.cell 9
  have z10 : w3.cell? ⟨b1, 10, none⟩ = some (.int .i64 0) := HB1.out.cell 10
  go_wp2_with fail
  clear z0 z1 z2 z3 z4 z5 z6 z7 z8 z9 z10
  refine (put_4_0_4 HBW.out).mono ?_
  rintro e wx ⟨rfl, rfl⟩
  have HC := Go.Lib.hid ((HC.out.drew).setCell (p := ⟨bw, 0, none⟩) (fun hl => by have := HNE.out.2; simp at hl; omega) (.int .u32 64))
  have HB1 := Go.Lib.hid (HB1.out.drew.far (p := ⟨bw, 0, none⟩) HNE.out.1 (.int .u32 64))
  have HBW : Hid (Blk ((w3).drew.setCell ⟨bw, 0, none⟩ (.int .u32 64)) bw 29 #[.int .u32 64]) := Go.Lib.hid (HBW.out.drew.set_ 0 (.int .u32 64))
  generalize (w3).drew.setCell ⟨bw, 0, none⟩ (.int .u32 64) = w4 at *
  have z0 : w4.cell? ⟨b1, 0, none⟩ = some (.int .i64 1) := HB1.out.cell 0
  have z1 : w4.cell? ⟨b1, 1, none⟩ = some (.bool false) := HB1.out.cell 1
  have z2 : w4.cell? ⟨b1, 2, none⟩ = some (.bool false) := HB1.out.cell 2
  have z3 : w4.cell? ⟨b1, 3, none⟩ = some (.int .i64 0) := HB1.out.cell 3
  have z4 : w4.cell? ⟨b1, 4, none⟩ = some (.int .i64 0) := HB1.out.cell 4
  have z5 : w4.cell? ⟨b1, 5, none⟩ = some (.int .i64 0) := HB1.out.cell 5
  have z6 : w4.cell? ⟨b1, 6, none⟩ = some (.int .i64 0) := HB1.out.cell 6
  have z7 : w4.cell? ⟨b1, 7, none⟩ = some (.int .i64 0) := HB1.out.cell 7
  have z8 : w4.cell? ⟨b1, 8, none⟩ = some (.int .i64 0) := HB1.out.cell 8
  have z9 : w4.cell? ⟨b1, 9, none⟩ = some (.int .i64 0) := HB1.out.cell 9
  have z10 : w4.cell? ⟨b1, 10, none⟩ = some (.int .i64 0) := HB1.out.cell 10
  go_wp2_with fail
  clear z0 z1 z2 z3 z4 z5 z6 z7 z8 z9 z10
  refine (put_64_0_4 HBW.out).mono ?_
  rintro e wx ⟨rfl, rfl⟩
  have HC := Go.Lib.hid ((HC.out.drew).setCell (p := ⟨bw, 0, none⟩) (fun hl => by have := HNE.out.2; simp at hl; omega) (.int .u32 1024))
  have HB1 := Go.Lib.hid (HB1.out.drew.far (p := ⟨bw, 0, none⟩) HNE.out.1 (.int .u32 1024))
  have HBW : Hid (Blk ((w4).drew.setCell ⟨bw, 0, none⟩ (.int .u32 1024)) bw 29 #[.int .u32 1024]) := Go.Lib.hid (HBW.out.drew.set_ 0 (.int .u32 1024))
  generalize (w4).drew.setCell ⟨bw, 0, none⟩ (.int .u32 1024) = w5 at *
  have z0 : w5.cell? ⟨b1, 0, none⟩ = some (.int .i64 1) := HB1.out.cell 0
  have z1 : w5.cell? ⟨b1, 1, none⟩ = some (.bool false) := HB1.out.cell 1
  have z2 : w5.cell? ⟨b1, 2, none⟩ = some (.bool false) := HB1.out.cell 2
  have z3 : w5.cell? ⟨b1, 3, none⟩ = some (.int .i64 0) := HB1.out.cell 3
  have z4 : w5.cell? ⟨b1, 4, none⟩ = some (.int .i64 0) := HB1.out.cell 4
  have z5 : w5.cell? ⟨b1, 5, none⟩ = some (.int .i64 0) := HB1.out.cell 5
  have z6 : w5.cell? ⟨b1, 6, none⟩ = some (.int .i64 0) := HB1.out.cell 6
  have z7 : w5.cell? ⟨b1, 7, none⟩ = some (.int .i64 0) := HB1.out.cell 7
  have z8 : w5.cell? ⟨b1, 8, none⟩ = some (.int .i64 0) := HB1.out.cell 8
  have z9 : w5.cell? ⟨b1, 9, none⟩ = some (.int .i64 0) := HB1.out.cell 9
  have z10 : w5.cell? ⟨b1, 10, none⟩ = some (.int .i64 0) := HB1.out.cell 10
  go_wp2_with fail
  clear z0 z1 z2 z3 z4 z5 z6 z7 z8 z9 z10
  refine (put_1024_0_4 HBW.out).mono ?_
  rintro e wx ⟨rfl, rfl⟩
  have HC := Go.Lib.hid ((HC.out.drew).setCell (p := ⟨bw, 0, none⟩) (fun hl => by have := HNE.out.2; simp at hl; omega) (.int .u32 16384))
  have HB1 := Go.Lib.hid (HB1.out.drew.far (p := ⟨bw, 0, none⟩) HNE.out.1 (.int .u32 16384))
  have HBW : Hid (Blk ((w5).drew.setCell ⟨bw, 0, none⟩ (.int .u32 16384)) bw 29 #[.int .u32 16384]) := Go.Lib.hid (HBW.out.drew.set_ 0 (.int .u32 16384))
  generalize (w5).drew.setCell ⟨bw, 0, none⟩ (.int .u32 16384) = w6 at *
  have z0 : w6.cell? ⟨b1, 0, none⟩ = some (.int .i64 1) := HB1.out.cell 0
  have z1 : w6.cell? ⟨b1, 1, none⟩ = some (.bool false) := HB1.out.cell 1
  have z2 : w6.cell? ⟨b1, 2, none⟩ = some (.bool false) := HB1.out.cell 2
  have z3 : w6.cell? ⟨b1, 3, none⟩ = some (.int .i64 0) := HB1.out.cell 3
  have z4 : w6.cell? ⟨b1, 4, none⟩ = some (.int .i64 0) := HB1.out.cell 4
  have z5 : w6.cell? ⟨b1, 5, none⟩ = some (.int .i64 0) := HB1.out.cell 5
  have z6 : w6.cell? ⟨b1, 6, none⟩ = some (.int .i64 0) := HB1.out.cell 6
  have z7 : w6.cell? ⟨b1, 7, none⟩ = some (.int .i64 0) := HB1.out.cell 7
  have z8 : w6.cell? ⟨b1, 8, none⟩ = some (.int .i64 0) := HB1.out.cell 8
  have z9 : w6.cell? ⟨b1, 9, none⟩ = some (.int .i64 0) := HB1.out.cell 9
  have z10 : w6.cell? ⟨b1, 10, none⟩ = some (.int .i64 0) := HB1.out.cell 10
  go_wp2_with fail
  clear z0 z1 z2 z3 z4 z5 z6 z7 z8 z9 z10
  refine (put_16384_0_16 HBW.out).mono ?_
  rintro e wx ⟨rfl, rfl⟩
  have HC := Go.Lib.hid ((HC.out.drew).setCell (p := ⟨bw, 0, none⟩) (fun hl => by have := HNE.out.2; simp at hl; omega) (.int .u32 1073741824))
  have HB1 := Go.Lib.hid (HB1.out.drew.far (p := ⟨bw, 0, none⟩) HNE.out.1 (.int .u32 1073741824))
  have HBW : Hid (Blk ((w6).drew.setCell ⟨bw, 0, none⟩ (.int .u32 1073741824)) bw 29 #[.int .u32 1073741824]) := Go.Lib.hid (HBW.out.drew.set_ 0 (.int .u32 1073741824))
  generalize (w6).drew.setCell ⟨bw, 0, none⟩ (.int .u32 1073741824) = w7 at *
  have z0 : w7.cell? ⟨b1, 0, none⟩ = some (.int .i64 1) := HB1.out.cell 0
  have z1 : w7.cell? ⟨b1, 1, none⟩ = some (.bool false) := HB1.out.cell 1
  have z2 : w7.cell? ⟨b1, 2, none⟩ = some (.bool false) := HB1.out.cell 2
  have z3 : w7.cell? ⟨b1, 3, none⟩ = some (.int .i64 0) := HB1.out.cell 3
  have z4 : w7.cell? ⟨b1, 4, none⟩ = some (.int .i64 0) := HB1.out.cell 4
  have z5 : w7.cell? ⟨b1, 5, none⟩ = some (.int .i64 0) := HB1.out.cell 5
  have z6 : w7.cell? ⟨b1, 6, none⟩ = some (.int .i64 0) := HB1.out.cell 6
  have z7 : w7.cell? ⟨b1, 7, none⟩ = some (.int .i64 0) := HB1.out.cell 7
  have z8 : w7.cell? ⟨b1, 8, none⟩ = some (.int .i64 0) := HB1.out.cell 8
  have z9 : w7.cell? ⟨b1, 9, none⟩ = some (.int .i64 0) := HB1.out.cell 9
  have z10 : w7.cell? ⟨b1, 10, none⟩ = some (.int .i64 0) := HB1.out.cell 10
  have zw : w7.cell? ⟨bw, 0, none⟩ = some (.int .u32 1073741824) := HBW.out.cell 0
  go_wp2_with fail
  go_ret
  exact ⟨rfl, HC.out⟩
set_option maxRecDepth 100000 in
theorem mayOp_im (W : World) : Calls Try.prog 96 #[.agg #[.int .i64 1, .bool false, .bool false, .int .i64 0, .int .i64 0, .int .i64 0, .int .i64 0, .int .i64 0, .int .i64 0, .int .i64 0, .int .i64 0]] W fun e w' => e = .returned (.bool true) ∧ Chg NoB W w' := by
  have HC : Hid (Chg NoB W (W.alloc (.cells #[.int .i64 1, .bool false, .bool false, .int .i64 0, .int .i64 0, .int .i64 0, .int .i64 0, .int .i64 0, .int .i64 0, .int .i64 0, .int .i64 0] INS))) := Go.Lib.hid ((Chg.refl NoB W).alloc _)
  go_enter Try.func96, Try.ntmps96
  go_wp2_with fail
  go_ret
  exact ⟨rfl, HC.out⟩
set_option maxRecDepth 100000 in
set_option maxHeartbeats 16000000 in
theorem may_im (W : World) : Calls Try.prog 89 #[.agg #[.int .i64 1, .bool false, .bool false, .int .i64 0, .int .i64 0, .int .i64 0, .int .i64 0, .int .i64 0, .int .i64 0, .int .i64 0, .int .i64 0]] W fun e w' => e = .returned (.bool true) ∧ Chg NoB W w' := by
  have HC : Hid (Chg NoB W (W.alloc (.cells #[.int .i64 1, .bool false, .bool false, .int .i64 0, .int .i64 0, .int .i64 0, .int .i64 0, .int .i64 0, .int .i64 0, .int .i64 0, .int .i64 0] INS))) := Go.Lib.hid ((Chg.refl NoB W).alloc _)
  have HB1 : Hid (Blk (W.alloc (.cells #[.int .i64 1, .bool false, .bool false, .int .i64 0, .int .i64 0, .int .i64 0, .int .i64 0, .int .i64 0, .int .i64 0, .int .i64 0, .int .i64 0] INS)) W.heap.size INS #[.int .i64 1, .bool false, .bool false, .int .i64 0, .int .i64 0, .int .i64 0, .int .i64 0, .int .i64 0, .int .i64 0, .int .i64 0, .int .i64 0]) := Go.Lib.hid (Blk.new W INS _)
  go_enter Try.func89, Try.ntmps89
  go_wp2_with fail
  generalize W.alloc (.cells #[.int .i64 1, .bool false, .bool false, .int .i64 0, .int .i64 0, .int .i64 0, .int .i64 0, .int .i64 0, .int .i64 0, .int .i64 0, .int .i64 0] INS) = w0 at *
  generalize W.heap.size = b1 at *
  refine regionT 55 (fun V' => Chg NoB (w0) V') (by kernel_rfl) (by decide) ((Chg.refl NoB w0).drew) (fun inv hHeld => ?_)
  refine tkT 0 3 ?v1194 inv hHeld ?h1194 ?_
  case h1194 => (intro V' hSw; obtain ⟨z0, z1, z2, z3, z4, z5, z6, z7, z8, z9, z10⟩ := cells11 (HB1.out.chg hSw id); clear hSw; go_simp; try with_reducible rfl)
  clear inv; intro inv; try simp only [sw1, sw2, sw3]
  refine tkT 1 4 ?v1195 inv hHeld ?h1195 ?_
  case h1195 => (intro V' hSw; obtain ⟨z0, z1, z2, z3, z4, z5, z6, z7, z8, z9, z10⟩ := cells11 (HB1.out.chg hSw id); clear hSw; go_simp; try with_reducible rfl)
  clear inv; intro inv; try simp only [sw1, sw2, sw3]
  refine callT (i := 2) (t := 5) (f := 94) (args := #[.agg #[.int .i64 1, .bool false, .bool false, .int .i64 0, .int .i64 0, .int .i64 0, .int .i64 0, .int .i64 0, .int .i64 0, .int .i64 0, .int .i64 0]]) rfl (by kernel_rfl) rfl (by rfl) ?hx27 inv (by decide) ?hc27
  case hx27 => (go_simp; try rfl)
  case hc27 =>
    refine (bare_im _).mono ?_
    rintro e w2 ⟨rfl, hc⟩
    refine ⟨_, rfl, hHeld.trans hc, fun inv2 hHeld2 => ?_⟩
    clear inv hHeld
    have inv := inv2
    have hHeld := hHeld2
    clear inv2 hHeld2
    try simp only [sw1, sw2, sw3]
    refine tkT 3 6 (.bool false) inv hHeld ?h1196 ?_
    case h1196 => (intro V' hSw; obtain ⟨z0, z1, z2, z3, z4, z5, z6, z7, z8, z9, z10⟩ := cells11 (HB1.out.chg hSw id); clear hSw; go_simp; try with_reducible rfl)
    clear inv; intro inv; try simp only [sw1, sw2, sw3]
    refine tkT 4 7 (.bool false) inv hHeld ?h1197 ?_
    case h1197 => (intro V' hSw; obtain ⟨z0, z1, z2, z3, z4, z5, z6, z7, z8, z9, z10⟩ := cells11 (HB1.out.chg hSw id); clear hSw; go_simp; try with_reducible rfl)
    clear inv; intro inv; try simp only [sw1, sw2, sw3]
    refine tkT 5 8 ?v1198 inv hHeld ?h1198 ?_
    case h1198 => (intro V' hSw; obtain ⟨z0, z1, z2, z3, z4, z5, z6, z7, z8, z9, z10⟩ := cells11 (HB1.out.chg hSw id); clear hSw; go_simp; try with_reducible rfl)
    clear inv; intro inv; try simp only [sw1, sw2, sw3]
    refine tkT 6 9 ?v1199 inv hHeld ?h1199 ?_
    case h1199 => (intro V' hSw; obtain ⟨z0, z1, z2, z3, z4, z5, z6, z7, z8, z9, z10⟩ := cells11 (HB1.out.chg hSw id); clear hSw; go_simp; try with_reducible rfl)
    clear inv; intro inv; try simp only [sw1, sw2, sw3]
    refine tkT 7 10 (.bool false) inv hHeld ?h1200 ?_
    case h1200 => (intro V' hSw; obtain ⟨z0, z1, z2, z3, z4, z5, z6, z7, z8, z9, z10⟩ := cells11 (HB1.out.chg hSw id); clear hSw; go_simp; try with_reducible rfl)
    clear inv; intro inv; try simp only [sw1, sw2, sw3]
    refine tkT 8 11 (.bool false) inv hHeld ?h1201 ?_
    case h1201 => (intro V' hSw; obtain ⟨z0, z1, z2, z3, z4, z5, z6, z7, z8, z9, z10⟩ := cells11 (HB1.out.chg hSw id); clear hSw; go_simp; try with_reducible rfl)
    clear inv; intro inv; try simp only [sw1, sw2, sw3]
    refine tkT 9 12 (.bool false) inv hHeld ?h1202 ?_
    case h1202 => (intro V' hSw; obtain ⟨z0, z1, z2, z3, z4, z5, z6, z7, z8, z9, z10⟩ := cells11 (HB1.out.chg hSw id); clear hSw; go_simp; try with_reducible rfl)
    clear inv; intro inv; try simp only [sw1, sw2, sw3]
    refine tkT 10 13 ?v1203 inv hHeld ?h1203 ?_
    case h1203 => (intro V' hSw; obtain ⟨z0, z1, z2, z3, z4, z5, z6, z7, z8, z9, z10⟩ := cells11 (HB1.out.chg hSw id); clear hSw; go_simp; try with_reducible rfl)
    clear inv; intro inv; try simp only [sw1, sw2, sw3]
    refine tkT 11 14 ?v1204 inv hHeld ?h1204 ?_
    case h1204 => (intro V' hSw; obtain ⟨z0, z1, z2, z3, z4, z5, z6, z7, z8, z9, z10⟩ := cells11 (HB1.out.chg hSw id); clear hSw; go_simp; try with_reducible rfl)
    clear inv; intro inv; try simp only [sw1, sw2, sw3]
    refine tkT 12 15 (.bool false) inv hHeld ?h1205 ?_
    case h1205 => (intro V' hSw; obtain ⟨z0, z1, z2, z3, z4, z5, z6, z7, z8, z9, z10⟩ := cells11 (HB1.out.chg hSw id); clear hSw; go_simp; try with_reducible rfl)
    clear inv; intro inv; try simp only [sw1, sw2, sw3]
    refine tkT 13 16 (.bool false) inv hHeld ?h1206 ?_
    case h1206 => (intro V' hSw; obtain ⟨z0, z1, z2, z3, z4, z5, z6, z7, z8, z9, z10⟩ := cells11 (HB1.out.chg hSw id); clear hSw; go_simp; try with_reducible rfl)
    clear inv; intro inv; try simp only [sw1, sw2, sw3]
    refine tkT 14 17 (.bool false) inv hHeld ?h1207 ?_
    case h1207 => (intro V' hSw; obtain ⟨z0, z1, z2, z3, z4, z5, z6, z7, z8, z9, z10⟩ := cells11 (HB1.out.chg hSw id); clear hSw; go_simp; try with_reducible rfl)
    clear inv; intro inv; try simp only [sw1, sw2, sw3]
    refine tkT 15 18 ?v1208 inv hHeld ?h1208 ?_
    case h1208 => (intro V' hSw; obtain ⟨z0, z1, z2, z3, z4, z5, z6, z7, z8, z9, z10⟩ := cells11 (HB1.out.chg hSw id); clear hSw; go_simp; try with_reducible rfl)
    clear inv; intro inv; try simp only [sw1, sw2, sw3]
    refine tkT 16 19 ?v1209 inv hHeld ?h1209 ?_
    case h1209 => (intro V' hSw; obtain ⟨z0, z1, z2, z3, z4, z5, z6, z7, z8, z9, z10⟩ := cells11 (HB1.out.chg hSw id); clear hSw; go_simp; try with_reducible rfl)
    clear inv; intro inv; try simp only [sw1, sw2, sw3]
    refine callT (i := 17) (t := 20) (f := 95) (args := #[.int .i64 0, .int .i64 16]) rfl (by kernel_rfl) rfl (by rfl) ?hx42 inv (by decide) ?hc42
    case hx42 => (go_simp; try rfl)
    case hc42 =>
      refine (within_T 0 16 (by decide) (by decide) _).mono ?_
      rintro e w2 ⟨rfl, hc⟩
      refine ⟨_, rfl, hHeld.trans hc, fun inv2 hHeld2 => ?_⟩
      clear inv hHeld
      have inv := inv2
      have hHeld := hHeld2
      clear inv2 hHeld2
      try simp only [sw1, sw2, sw3]
      refine tkT 18 21 (.bool false) inv hHeld ?h1210 ?_
      case h1210 => (intro V' hSw; obtain ⟨z0, z1, z2, z3, z4, z5, z6, z7, z8, z9, z10⟩ := cells11 (HB1.out.chg hSw id); clear hSw; go_simp; try with_reducible rfl)
      clear inv; intro inv; try simp only [sw1, sw2, sw3]
      refine tkT 19 22 (.bool false) inv hHeld ?h1211 ?_
      case h1211 => (intro V' hSw; obtain ⟨z0, z1, z2, z3, z4, z5, z6, z7, z8, z9, z10⟩ := cells11 (HB1.out.chg hSw id); clear hSw; go_simp; try with_reducible rfl)
      clear inv; intro inv; try simp only [sw1, sw2, sw3]
      refine tkT 20 23 (.bool false) inv hHeld ?h1212 ?_
      case h1212 => (intro V' hSw; obtain ⟨z0, z1, z2, z3, z4, z5, z6, z7, z8, z9, z10⟩ := cells11 (HB1.out.chg hSw id); clear hSw; go_simp; try with_reducible rfl)
      clear inv; intro inv; try simp only [sw1, sw2, sw3]
      refine tkT 21 24 ?v1213 inv hHeld ?h1213 ?_
      case h1213 => (intro V' hSw; obtain ⟨z0, z1, z2, z3, z4, z5, z6, z7, z8, z9, z10⟩ := cells11 (HB1.out.chg hSw id); clear hSw; go_simp; try with_reducible rfl)
      clear inv; intro inv; try simp only [sw1, sw2, sw3]
      refine tkT 22 25 ?v1214 inv hHeld ?h1214 ?_
      case h1214 => (intro V' hSw; obtain ⟨z0, z1, z2, z3, z4, z5, z6, z7, z8, z9, z10⟩ := cells11 (HB1.out.chg hSw id); clear hSw; go_simp; try with_reducible rfl)
      clear inv; intro inv; try simp only [sw1, sw2, sw3]
      refine callT (i := 23) (t := 26) (f := 95) (args := #[.int .i64 0, .int .i64 16]) rfl (by kernel_rfl) rfl (by rfl) ?hx48 inv (by decide) ?hc48
      case hx48 => (go_simp; try rfl)
      case hc48 =>
        refine (within_T 0 16 (by decide) (by decide) _).mono ?_
        rintro e w2 ⟨rfl, hc⟩
        refine ⟨_, rfl, hHeld.trans hc, fun inv2 hHeld2 => ?_⟩
        clear inv hHeld
        have inv := inv2
        have hHeld := hHeld2
        clear inv2 hHeld2
        try simp only [sw1, sw2, sw3]
        refine tkT 24 27 (.bool false) inv hHeld ?h1215 ?_
        case h1215 => (intro V' hSw; obtain ⟨z0, z1, z2, z3, z4, z5, z6, z7, z8, z9, z10⟩ := cells11 (HB1.out.chg hSw id); clear hSw; go_simp; try with_reducible rfl)
        clear inv; intro inv; try simp only [sw1, sw2, sw3]
        refine tkT 25 28 (.bool false) inv hHeld ?h1216 ?_
        case h1216 => (intro V' hSw; obtain ⟨z0, z1, z2, z3, z4, z5, z6, z7, z8, z9, z10⟩ := cells11 (HB1.out.chg hSw id); clear hSw; go_simp; try with_reducible rfl)
        clear inv; intro inv; try simp only [sw1, sw2, sw3]
        refine tkT 26 29 (.bool false) inv hHeld ?h1217 ?_
        case h1217 => (intro V' hSw; obtain ⟨z0, z1, z2, z3, z4, z5, z6, z7, z8, z9, z10⟩ := cells11 (HB1.out.chg hSw id); clear hSw; go_simp; try with_reducible rfl)
        clear inv; intro inv; try simp only [sw1, sw2, sw3]
        refine tkT 27 30 ?v1218 inv hHeld ?h1218 ?_
        case h1218 => (intro V' hSw; obtain ⟨z0, z1, z2, z3, z4, z5, z6, z7, z8, z9, z10⟩ := cells11 (HB1.out.chg hSw id); clear hSw; go_simp; try with_reducible rfl)
        clear inv; intro inv; try simp only [sw1, sw2, sw3]
        refine tkT 28 31 ?v1219 inv hHeld ?h1219 ?_
        case h1219 => (intro V' hSw; obtain ⟨z0, z1, z2, z3, z4, z5, z6, z7, z8, z9, z10⟩ := cells11 (HB1.out.chg hSw id); clear hSw; go_simp; try with_reducible rfl)
        clear inv; intro inv; try simp only [sw1, sw2, sw3]
        refine callT (i := 29) (t := 32) (f := 95) (args := #[.int .i64 0, .int .i64 16]) rfl (by kernel_rfl) rfl (by rfl) ?hx54 inv (by decide) ?hc54
        case hx54 => (go_simp; try rfl)
        case hc54 =>
          refine (within_T 0 16 (by decide) (by decide) _).mono ?_
          rintro e w2 ⟨rfl, hc⟩
          refine ⟨_, rfl, hHeld.trans hc, fun inv2 hHeld2 => ?_⟩
          clear inv hHeld
          have inv := inv2
          have hHeld := hHeld2
          clear inv2 hHeld2
          try simp only [sw1, sw2, sw3]
          refine tkT 30 33 (.bool false) inv hHeld ?h1220 ?_
          case h1220 => (intro V' hSw; obtain ⟨z0, z1, z2, z3, z4, z5, z6, z7, z8, z9, z10⟩ := cells11 (HB1.out.chg hSw id); clear hSw; go_simp; try with_reducible rfl)
          clear inv; intro inv; try simp only [sw1, sw2, sw3]
          refine tkT 31 34 (.bool false) inv hHeld ?h1221 ?_
          case h1221 => (intro V' hSw; obtain ⟨z0, z1, z2, z3, z4, z5, z6, z7, z8, z9, z10⟩ := cells11 (HB1.out.chg hSw id); clear hSw; go_simp; try with_reducible rfl)
          clear inv; intro inv; try simp only [sw1, sw2, sw3]
          refine tkT 32 35 (.bool false) inv hHeld ?h1222 ?_
          case h1222 => (intro V' hSw; obtain ⟨z0, z1, z2, z3, z4, z5, z6, z7, z8, z9, z10⟩ := cells11 (HB1.out.chg hSw id); clear hSw; go_simp; try with_reducible rfl)
          clear inv; intro inv; try simp only [sw1, sw2, sw3]
          refine tkT 33 36 ?v1223 inv hHeld ?h1223 ?_
          case h1223 => (intro V' hSw; obtain ⟨z0, z1, z2, z3, z4, z5, z6, z7, z8, z9, z10⟩ := cells11 (HB1.out.chg hSw id); clear hSw; go_simp; try with_reducible rfl)
          clear inv; intro inv; try simp only [sw1, sw2, sw3]
          refine tkT 34 37 ?v1224 inv hHeld ?h1224 ?_
          case h1224 => (intro V' hSw; obtain ⟨z0, z1, z2, z3, z4, z5, z6, z7, z8, z9, z10⟩ := cells11 (HB1.out.chg hSw id); clear hSw; go_simp; try with_reducible rfl)
          clear inv; intro inv; try simp only [sw1, sw2, sw3]
          refine callT (i := 35) (t := 38) (f := 95) (args := #[.int .i64 0, .int .i64 16]) rfl (by kernel_rfl) rfl (by rfl) ?hx60 inv (by decide) ?hc60
          case hx60 => (go_simp; try rfl)
          case hc60 =>
            refine (within_T 0 16 (by decide) (by decide) _).mono ?_
            rintro e w2 ⟨rfl, hc⟩
            refine ⟨_, rfl, hHeld.trans hc, fun inv2 hHeld2 => ?_⟩
            clear inv hHeld
            have inv := inv2
            have hHeld := hHeld2
            clear inv2 hHeld2
            try simp only [sw1, sw2, sw3]
            refine tkT 36 39 (.bool false) inv hHeld ?h1225 ?_
            case h1225 => (intro V' hSw; obtain ⟨z0, z1, z2, z3, z4, z5, z6, z7, z8, z9, z10⟩ := cells11 (HB1.out.chg hSw id); clear hSw; go_simp; try with_reducible rfl)
            clear inv; intro inv; try simp only [sw1, sw2, sw3]
            refine tkT 37 40 (.bool false) inv hHeld ?h1226 ?_
            case h1226 => (intro V' hSw; obtain ⟨z0, z1, z2, z3, z4, z5, z6, z7, z8, z9, z10⟩ := cells11 (HB1.out.chg hSw id); clear hSw; go_simp; try with_reducible rfl)
            clear inv; intro inv; try simp only [sw1, sw2, sw3]
            refine tkT 38 41 (.bool false) inv hHeld ?h1227 ?_
            case h1227 => (intro V' hSw; obtain ⟨z0, z1, z2, z3, z4, z5, z6, z7, z8, z9, z10⟩ := cells11 (HB1.out.chg hSw id); clear hSw; go_simp; try with_reducible rfl)
            clear inv; intro inv; try simp only [sw1, sw2, sw3]
            refine tkT 39 42 ?v1228 inv hHeld ?h1228 ?_
            case h1228 => (intro V' hSw; obtain ⟨z0, z1, z2, z3, z4, z5, z6, z7, z8, z9, z10⟩ := cells11 (HB1.out.chg hSw id); clear hSw; go_simp; try with_reducible rfl)
            clear inv; intro inv; try simp only [sw1, sw2, sw3]
            refine tkT 40 43 ?v1229 inv hHeld ?h1229 ?_
            case h1229 => (intro V' hSw; obtain ⟨z0, z1, z2, z3, z4, z5, z6, z7, z8, z9, z10⟩ := cells11 (HB1.out.chg hSw id); clear hSw; go_simp; try with_reducible rfl)
            clear inv; intro inv; try simp only [sw1, sw2, sw3]
            refine callT (i := 41) (t := 44) (f := 95) (args := #[.int .i64 0, .int .i64 65536]) rfl (by kernel_rfl) rfl (by rfl) ?hx66 inv (by decide) ?hc66
            case hx66 => (go_simp; try rfl)
            case hc66 =>
              refine (within_T 0 65536 (by decide) (by decide) _).mono ?_
              rintro e w2 ⟨rfl, hc⟩
              refine ⟨_, rfl, hHeld.trans hc, fun inv2 hHeld2 => ?_⟩
              clear inv hHeld
              have inv := inv2
              have hHeld := hHeld2
              clear inv2 hHeld2
              try simp only [sw1, sw2, sw3]
              refine tkT 42 45 (.bool false) inv hHeld ?h1230 ?_
              case h1230 => (intro V' hSw; obtain ⟨z0, z1, z2, z3, z4, z5, z6, z7, z8, z9, z10⟩ := cells11 (HB1.out.chg hSw id); clear hSw; go_simp; try with_reducible rfl)
              clear inv; intro inv; try simp only [sw1, sw2, sw3]
              refine tkT 43 46 (.bool false) inv hHeld ?h1231 ?_
              case h1231 => (intro V' hSw; obtain ⟨z0, z1, z2, z3, z4, z5, z6, z7, z8, z9, z10⟩ := cells11 (HB1.out.chg hSw id); clear hSw; go_simp; try with_reducible rfl)
              clear inv; intro inv; try simp only [sw1, sw2, sw3]
              refine tkT 44 47 (.bool false) inv hHeld ?h1232 ?_
              case h1232 => (intro V' hSw; obtain ⟨z0, z1, z2, z3, z4, z5, z6, z7, z8, z9, z10⟩ := cells11 (HB1.out.chg hSw id); clear hSw; go_simp; try with_reducible rfl)
              clear inv; intro inv; try simp only [sw1, sw2, sw3]
              refine tkT 45 48 ?v1233 inv hHeld ?h1233 ?_
              case h1233 => (intro V' hSw; obtain ⟨z0, z1, z2, z3, z4, z5, z6, z7, z8, z9, z10⟩ := cells11 (HB1.out.chg hSw id); clear hSw; go_simp; try with_reducible rfl)
              clear inv; intro inv; try simp only [sw1, sw2, sw3]
              refine tkT 46 49 ?v1234 inv hHeld ?h1234 ?_
              case h1234 => (intro V' hSw; obtain ⟨z0, z1, z2, z3, z4, z5, z6, z7, z8, z9, z10⟩ := cells11 (HB1.out.chg hSw id); clear hSw; go_simp; try with_reducible rfl)
              clear inv; intro inv; try simp only [sw1, sw2, sw3]
              refine callT (i := 47) (t := 50) (f := 95) (args := #[.int .i64 0, .int .i64 256]) rfl (by kernel_rfl) rfl (by rfl) ?hx72 inv (by decide) ?hc72
              case hx72 => (go_simp; try rfl)
              case hc72 =>
                refine (within_T 0 256 (by decide) (by decide) _).mono ?_
                rintro e w2 ⟨rfl, hc⟩
                refine ⟨_, rfl, hHeld.trans hc, fun inv2 hHeld2 => ?_⟩
                clear inv hHeld
                have inv := inv2
                have hHeld := hHeld2
                clear inv2 hHeld2
                try simp only [sw1, sw2, sw3]
                refine tkT 48 51 (.bool false) inv hHeld ?h1235 ?_
                case h1235 => (intro V' hSw; obtain ⟨z0, z1, z2, z3, z4, z5, z6, z7, z8, z9, z10⟩ := cells11 (HB1.out.chg hSw id); clear hSw; go_simp; try with_reducible rfl)
                clear inv; intro inv; try simp only [sw1, sw2, sw3]
                refine tkT 49 52 (.bool false) inv hHeld ?h1236 ?_
                case h1236 => (intro V' hSw; obtain ⟨z0, z1, z2, z3, z4, z5, z6, z7, z8, z9, z10⟩ := cells11 (HB1.out.chg hSw id); clear hSw; go_simp; try with_reducible rfl)
                clear inv; intro inv; try simp only [sw1, sw2, sw3]
                refine tkT 50 53 (.bool false) inv hHeld ?h1237 ?_
                case h1237 => (intro V' hSw; obtain ⟨z0, z1, z2, z3, z4, z5, z6, z7, z8, z9, z10⟩ := cells11 (HB1.out.chg hSw id); clear hSw; go_simp; try with_reducible rfl)
                clear inv; intro inv; try simp only [sw1, sw2, sw3]
                refine tkT 51 54 ?v1238 inv hHeld ?h1238 ?_
                case h1238 => (intro V' hSw; obtain ⟨z0, z1, z2, z3, z4, z5, z6, z7, z8, z9, z10⟩ := cells11 (HB1.out.chg hSw id); clear hSw; go_simp; try with_reducible rfl)
                clear inv; intro inv; try simp only [sw1, sw2, sw3]
                refine tkT 52 55 ?v1239 inv hHeld ?h1239 ?_
                case h1239 => (intro V' hSw; obtain ⟨z0, z1, z2, z3, z4, z5, z6, z7, z8, z9, z10⟩ := cells11 (HB1.out.chg hSw id); clear hSw; go_simp; try with_reducible rfl)
                clear inv; intro inv; try simp only [sw1, sw2, sw3]
                refine callT (i := 53) (t := 56) (f := 95) (args := #[.int .i64 0, .int .i64 12]) rfl (by kernel_rfl) rfl (by rfl) ?hx78 inv (by decide) ?hc78
                case hx78 => (go_simp; try rfl)
                case hc78 =>
                  refine (within_T 0 12 (by decide) (by decide) _).mono ?_
                  rintro e w2 ⟨rfl, hc⟩
                  refine ⟨_, rfl, hHeld.trans hc, fun inv2 hHeld2 => ?_⟩
                  clear inv hHeld
                  have inv := inv2
                  have hHeld := hHeld2
                  clear inv2 hHeld2
                  try simp only [sw1, sw2, sw3]
                  refine tkT 54 57 (.bool false) inv hHeld ?h1240 ?_
                  case h1240 => (intro V' hSw; obtain ⟨z0, z1, z2, z3, z4, z5, z6, z7, z8, z9, z10⟩ := cells11 (HB1.out.chg hSw id); clear hSw; go_simp; try with_reducible rfl)
                  clear inv; intro inv; try simp only [sw1, sw2, sw3]
                  refine lastV (i := 55) (t := 58) (v := .bool false) (w' := w2) rfl (by kernel_rfl) rfl (by rfl) ?hx80 (by decide) (by kernel_rfl) ?_
                  case hx80 => (go_simp; try with_reducible rfl)
                  clear inv
                  have HX := Go.Lib.hid (HC.out.trans hHeld)
                  have z0 : w2.cell? ⟨b1, 0, none⟩ = some (.int .i64 1) := (HB1.out.chg hHeld id).cell 0
                  have z1 : w2.cell? ⟨b1, 1, none⟩ = some (.bool false) := (HB1.out.chg hHeld id).cell 1
                  have z2 : w2.cell? ⟨b1, 2, none⟩ = some (.bool false) := (HB1.out.chg hHeld id).cell 2
                  have z3 : w2.cell? ⟨b1, 3, none⟩ = some (.int .i64 0) := (HB1.out.chg hHeld id).cell 3
                  have z4 : w2.cell? ⟨b1, 4, none⟩ = some (.int .i64 0) := (HB1.out.chg hHeld id).cell 4
                  have z5 : w2.cell? ⟨b1, 5, none⟩ = some (.int .i64 0) := (HB1.out.chg hHeld id).cell 5
                  have z6 : w2.cell? ⟨b1, 6, none⟩ = some (.int .i64 0) := (HB1.out.chg hHeld id).cell 6
                  have z7 : w2.cell? ⟨b1, 7, none⟩ = some (.int .i64 0) := (HB1.out.chg hHeld id).cell 7
                  have z8 : w2.cell? ⟨b1, 8, none⟩ = some (.int .i64 0) := (HB1.out.chg hHeld id).cell 8
                  have z9 : w2.cell? ⟨b1, 9, none⟩ = some (.int .i64 0) := (HB1.out.chg hHeld id).cell 9
                  have z10 : w2.cell? ⟨b1, 10, none⟩ = some (.int .i64 0) := (HB1.out.chg hHeld id).cell 10
                  go_wp2_with fail
                  refine (mayOp_im _).mono ?_
                  rintro e w3 ⟨rfl, hc⟩
                  have HX := Go.Lib.hid (HX.out.trans hc)
                  clear hc
                  go_wp2_with fail
                  go_ret
                  exact ⟨rfl, HX.out⟩
set_option maxRecDepth 100000 in
theorem isaWord_im (W : World) : Calls Try.prog 83 #[.agg #[.int .i64 1, .bool false, .bool false, .int .i64 0, .int .i64 0, .int .i64 0, .int .i64 0, .int .i64 0, .int .i64 0, .int .i64 0, .int .i64 0]] W fun e w' => e = .returned (.tuple #[.int .u32 1073741824, .int .i64 0]) ∧ Chg NoB W w' := by
  have HC : Hid (Chg NoB W (W.alloc (.cells #[.int .i64 1, .bool false, .bool false, .int .i64 0, .int .i64 0, .int .i64 0, .int .i64 0, .int .i64 0, .int .i64 0, .int .i64 0, .int .i64 0] INS))) := Go.Lib.hid ((Chg.refl NoB W).alloc _)
  have HB1 : Hid (Blk (W.alloc (.cells #[.int .i64 1, .bool false, .bool false, .int .i64 0, .int .i64 0, .int .i64 0, .int .i64 0, .int .i64 0, .int .i64 0, .int .i64 0, .int .i64 0] INS)) W.heap.size INS #[.int .i64 1, .bool false, .bool false, .int .i64 0, .int .i64 0, .int .i64 0, .int .i64 0, .int .i64 0, .int .i64 0, .int .i64 0, .int .i64 0]) := Go.Lib.hid (Blk.new W INS _)
  go_enter Try.func83, Try.ntmps83
  go_wp2_with fail
  refine (may_im _).mono ?_
  rintro e w1 ⟨rfl, hc⟩
  have HC1 := Go.Lib.hid (HC.out.trans hc)
  have HB := Go.Lib.hid (HB1.out.chg hc id)
  generalize W.heap.size = b1 at *
  clear hc HB1 HC
  have z0 : w1.cell? ⟨b1, 0, none⟩ = some (.int .i64 1) := HB.out.cell 0
  have z1 : w1.cell? ⟨b1, 1, none⟩ = some (.bool false) := HB.out.cell 1
  have z2 : w1.cell? ⟨b1, 2, none⟩ = some (.bool false) := HB.out.cell 2
  have z3 : w1.cell? ⟨b1, 3, none⟩ = some (.int .i64 0) := HB.out.cell 3
  have z4 : w1.cell? ⟨b1, 4, none⟩ = some (.int .i64 0) := HB.out.cell 4
  have z5 : w1.cell? ⟨b1, 5, none⟩ = some (.int .i64 0) := HB.out.cell 5
  have z6 : w1.cell? ⟨b1, 6, none⟩ = some (.int .i64 0) := HB.out.cell 6
  have z7 : w1.cell? ⟨b1, 7, none⟩ = some (.int .i64 0) := HB.out.cell 7
  have z8 : w1.cell? ⟨b1, 8, none⟩ = some (.int .i64 0) := HB.out.cell 8
  have z9 : w1.cell? ⟨b1, 9, none⟩ = some (.int .i64 0) := HB.out.cell 9
  have z10 : w1.cell? ⟨b1, 10, none⟩ = some (.int .i64 0) := HB.out.cell 10
  go_wp2_with fail
  refine (pack_im _).mono ?_
  rintro e w2 ⟨rfl, hc⟩
  have HC2 := Go.Lib.hid (HC1.out.trans hc)
  clear hc
  go_wp2_with fail
  refine bodyPost_ret (results_tmp2 rfl _ _ _) rfl ?_
  exact ⟨rfl, HC2.out⟩
set_option maxRecDepth 100000 in
set_option maxHeartbeats 8000000 in
theorem bare_jump (W : World) : Calls Try.prog 94 #[.agg #[.int .i64 4, .bool false, .bool true, .int .i64 0, .int .i64 0, .int .i64 0, .int .i64 0, .int .i64 0, .int .i64 0, .int .i64 7, .int .i64 0]] W fun e w' => e = .returned (.agg #[.int .i64 4, .bool false, .bool true, .int .i64 0, .int .i64 0, .int .i64 0, .int .i64 0, .int .i64 0, .int .i64 0, .int .i64 7, .int .i64 0]) ∧ Chg NoB W w' := by
  go_enter Try.func94, Try.ntmps94
  have HC : Hid (Chg NoB W (((W.alloc (.cells #[.int .i64 4, .bool false, .bool true, .int .i64 0, .int .i64 0, .int .i64 0, .int .i64 0, .int .i64 0, .int .i64 0, .int .i64 7, .int .i64 0] INS)).alloc (.cells #[.int .i64 0, .bool false, .bool false, .int .i64 0, .int .i64 0, .int .i64 0, .int .i64 0, .int .i64 0, .int .i64 0, .int .i64 0, .int .i64 0] INS)).alloc (.cells #[.int .i64 4, .bool false, .bool false, .int .i64 0, .int .i64 0, .int .i64 0, .int .i64 0, .int .i64 0, .int .i64 0, .int .i64 0, .int .i64 0] INS))) := Go.Lib.hid ((((Chg.refl NoB W).alloc _).alloc _).alloc _)
  have HB1 : Hid (Blk (((W.alloc (.cells #[.int .i64 4, .bool false, .bool true, .int .i64 0, .int .i64 0, .int .i64 0, .int .i64 0, .int .i64 0, .int .i64 0, .int .i64 7, .int .i64 0] INS)).alloc (.cells #[.int .i64 0, .bool false, .bool false, .int .i64 0, .int .i64 0, .int .i64 0, .int .i64 0, .int .i64 0, .int .i64 0, .int .i64 0, .int .i64 0] INS)).alloc (.cells #[.int .i64 4, .bool false, .bool false, .int .i64 0, .int .i64 0, .int .i64 0, .int .i64 0, .int .i64 0, .int .i64 0, .int .i64 0, .int .i64 0] INS)) W.heap.size INS #[.int .i64 4, .bool false, .bool true, .int .i64 0, .int .i64 0, .int .i64 0, .int .i64 0, .int .i64 0, .int .i64 0, .int .i64 7, .int .i64 0]) := Go.Lib.hid (((Blk.new W INS _).alloc _).alloc _)
  have HB3 : Hid (Blk (((W.alloc (.cells #[.int .i64 4, .bool false, .bool true, .int .i64 0, .int .i64 0, .int .i64 0, .int .i64 0, .int .i64 0, .int .i64 0, .int .i64 7, .int .i64 0] INS)).alloc (.cells #[.int .i64 0, .bool false, .bool false, .int .i64 0, .int .i64 0, .int .i64 0, .int .i64 0, .int .i64 0, .int .i64 0, .int .i64 0, .int .i64 0] INS)).alloc (.cells #[.int .i64 4, .bool false, .bool false, .int .i64 0, .int .i64 0, .int .i64 0, .int .i64 0, .int .i64 0, .int .i64 0, .int .i64 0, .int .i64 0] INS)) (W.heap.size + 1 + 1) INS #[.int .i64 4, .bool false, .bool false, .int .i64 0, .int .i64 0, .int .i64 0, .int .i64 0, .int .i64 0, .int .i64 0, .int .i64 0, .int .i64 0]) := Go.Lib.hid (by
    have := Blk.new ((W.alloc (.cells #[.int .i64 4, .bool false, .bool true, .int .i64 0, .int .i64 0, .int .i64 0, .int .i64 0, .int .i64 0, .int .i64 0, .int .i64 7, .int .i64 0] INS)).alloc (.cells #[.int .i64 0, .bool false, .bool false, .int .i64 0, .int .i64 0, .int .i64 0, .int .i64 0, .int .i64 0, .int .i64 0, .int .i64 0, .int .i64 0] INS)) INS #[.int .i64 4, .bool false, .bool false, .int .i64 0, .int .i64 0, .int .i64 0, .int .i64 0, .int .i64 0, .int .i64 0, .int .i64 0, .int .i64 0]
    simpa using this)
  have HB2 : Hid (Blk (((W.alloc (.cells #[.int .i64 4, .bool false, .bool true, .int .i64 0, .int .i64 0, .int .i64 0, .int .i64 0, .int .i64 0, .int .i64 0, .int .i64 7, .int .i64 0] INS)).alloc (.cells #[.int .i64 0, .bool false, .bool false, .int .i64 0, .int .i64 0, .int .i64 0, .int .i64 0, .int .i64 0, .int .i64 0, .int .i64 0, .int .i64 0] INS)).alloc (.cells #[.int .i64 4, .bool false, .bool false, .int .i64 0, .int .i64 0, .int .i64 0, .int .i64 0, .int .i64 0, .int .i64 0, .int .i64 0, .int .i64 0] INS)) (W.heap.size + 1) INS #[.int .i64 0, .bool false, .bool false, .int .i64 0, .int .i64 0, .int .i64 0, .int .i64 0, .int .i64 0, .int .i64 0, .int .i64 0, .int .i64 0]) := Go.Lib.hid (by
    have := (Blk.new (W.alloc (.cells #[.int .i64 4, .bool false, .bool true, .int .i64 0, .int .i64 0, .int .i64 0, .int .i64 0, .int .i64 0, .int .i64 0, .int .i64 7, .int .i64 0] INS)) INS #[.int .i64 0, .bool false, .bool false, .int .i64 0, .int .i64 0, .int .i64 0, .int .i64 0, .int .i64 0, .int .i64 0, .int .i64 0, .int .i64 0]).alloc (.cells #[.int .i64 4, .bool false, .bool false, .int .i64 0, .int .i64 0, .int .i64 0, .int .i64 0, .int .i64 0, .int .i64 0, .int .i64 0, .int .i64 0] INS)
    simpa using this)
  have HNE : Hid (W.heap.size ≠ W.heap.size + 1 + 1 ∧ W.heap.size ≤ W.heap.size + 1 + 1) := Go.Lib.hid ⟨by omega, by omega⟩
  go_wp2_with fail
  generalize ((W.alloc (.cells #[.int .i64 4, .bool false, .bool true, .int .i64 0, .int .i64 0, .int .i64 0, .int .i64 0, .int .i64 0, .int .i64 0, .int .i64 7, .int .i64 0] INS)).alloc (.cells #[.int .i64 0, .bool false, .bool false, .int .i64 0, .int .i64 0, .int .i64 0, .int .i64 0, .int .i64 0, .int .i64 0, .int .i64 0, .int .i64 0] INS)).alloc (.cells #[.int .i64 4, .bool false, .bool false, .int .i64 0, .int .i64 0, .int .i64 0, .int .i64 0, .int .i64 0, .int .i64 0, .int .i64 0, .int .i64 0] INS) = w0 at *
  obtain ⟨b1, hb1⟩ : ∃ b, W.heap.size = b := ⟨_, rfl⟩
  obtain ⟨b2, hb2⟩ : ∃ b, W.heap.size + 1 = b := ⟨_, rfl⟩
  obtain ⟨b3, hb3⟩ : ∃ b, W.heap.size + 1 + 1 = b := ⟨_, rfl⟩
  have HSB2 : Hid (W.heap.size ≤ b2) := Go.Lib.hid (by omega)
  have HNE2 : Hid (b2 ≠ b3) := Go.Lib.hid (by omega)
  rw [hb3] at HB3 HNE ⊢
  rw [hb2] at HB2 ⊢
  rw [hb1] at HB1 HNE ⊢
  have HSZ : Hid (W.heap.size ≤ b3) := Go.Lib.hid (by omega)
  have HNE : Hid (b1 ≠ b3 ∧ W.heap.size ≤ b3) := Go.Lib.hid ⟨HNE.out.1, HSZ.out⟩
  clear hb1 hb2 hb3 HSZ
  have hb1d := HB1.out.drew
  refine regionT 11 (fun V' => Blk V' b1 INS #[.int .i64 4, .bool false, .bool true, .int .i64 0, .int .i64 0, .int .i64 0, .int .i64 0, .int .i64 0, .int .i64 0, .int .i64 7, .int .i64 0]) (by kernel_rfl) (by decide) hb1d (fun inv hHeld => ?_)
  clear hb1d
  refine tkT 0 58 ?v1241 inv hHeld ?h1241 ?_
  case h1241 => (intro V' hSw; obtain ⟨z0, z1, z2, z3, z4, z5, z6, z7, z8, z9, z10⟩ := cells11 hSw; clear hSw; go_simp; try with_reducible rfl)
  clear inv; intro inv; try simp only [sw1, sw2, sw3]
  refine tkT 1 59 ?v1242 inv hHeld ?h1242 ?_
  case h1242 => (intro V' hSw; obtain ⟨z0, z1, z2, z3, z4, z5, z6, z7, z8, z9, z10⟩ := cells11 hSw; clear hSw; go_simp; try with_reducible rfl)
  clear inv; intro inv; try simp only [sw1, sw2, sw3]
  refine tkT 2 60 ?v1243 inv hHeld ?h1243 ?_
  case h1243 => (intro V' hSw; obtain ⟨z0, z1, z2, z3, z4, z5, z6, z7, z8, z9, z10⟩ := cells11 hSw; clear hSw; go_simp; try with_reducible rfl)
  clear inv; intro inv; try simp only [sw1, sw2, sw3]
  refine tkT 3 61 ?v1244 inv hHeld ?h1244 ?_
  case h1244 => (intro V' hSw; obtain ⟨z0, z1, z2, z3, z4, z5, z6, z7, z8, z9, z10⟩ := cells11 hSw; clear hSw; go_simp; try with_reducible rfl)
  clear inv; intro inv; try simp only [sw1, sw2, sw3]
  refine tkT 4 62 ?v1245 inv hHeld ?h1245 ?_
  case h1245 => (intro V' hSw; obtain ⟨z0, z1, z2, z3, z4, z5, z6, z7, z8, z9, z10⟩ := cells11 hSw; clear hSw; go_simp; try with_reducible rfl)
  clear inv; intro inv; try simp only [sw1, sw2, sw3]
  refine tkT 5 63 ?v1246 inv hHeld ?h1246 ?_
  case h1246 => (intro V' hSw; obtain ⟨z0, z1, z2, z3, z4, z5, z6, z7, z8, z9, z10⟩ := cells11 hSw; clear hSw; go_simp; try with_reducible rfl)
  clear inv; intro inv; try simp only [sw1, sw2, sw3]
  refine tkT 6 64 ?v1247 inv hHeld ?h1247 ?_
  case h1247 => (intro V' hSw; obtain ⟨z0, z1, z2, z3, z4, z5, z6, z7, z8, z9, z10⟩ := cells11 hSw; clear hSw; go_simp; try with_reducible rfl)
  clear inv; intro inv; try simp only [sw1, sw2, sw3]
  have hb3 : Blk (w0.drew) b3 INS #[.int .i64 4, .bool false, .bool false, .int .i64 0, .int .i64 0, .int .i64 0, .int .i64 0, .int .i64 0, .int .i64 0, .int .i64 0, .int .i64 0] := HB3.out.drew
  refine storeT (i := 7) (w' := (w0.drew).setCell ⟨b3, 2, none⟩ (.bool true)) rfl (by kernel_rfl) rfl (by rfl) ?hx88 inv (by decide) (hHeld.far (p := ⟨b3, 2, none⟩) (fun e => HNE.out.1 e) (.bool true)) ?hy88
  case hx88 => (have z : w0.cell? ⟨b3, 2, none⟩ = some (.bool false) := HB3.out.cell 2; have zf : w0.frozen? ⟨b3, 2, none⟩ = false := HB3.out.frozen 2; clear hb3; go_simp; try with_reducible rfl)
  clear inv hHeld
  intro inv hHeld
  try simp only [sw1, sw2, sw3]
  have hb3 : Blk ((w0.drew).setCell ⟨b3, 2, none⟩ (.bool true)) b3 INS #[.int .i64 4, .bool false, .bool true, .int .i64 0, .int .i64 0, .int .i64 0, .int .i64 0, .int .i64 0, .int .i64 0, .int .i64 0, .int .i64 0] := hb3.set_ 2 (.bool true)
  refine tkT 8 65 ?v1248 inv hHeld ?h1248 ?_
  case h1248 => (intro V' hSw; obtain ⟨z0, z1, z2, z3, z4, z5, z6, z7, z8, z9, z10⟩ := cells11 hSw; clear hSw; go_simp; try with_reducible rfl)
  clear inv; intro inv; try simp only [sw1, sw2, sw3]
  refine storeT (i := 9) (w' := ((w0.drew).setCell ⟨b3, 2, none⟩ (.bool true)).setCell ⟨b3, 9, none⟩ (.int .i64 7)) rfl (by kernel_rfl) rfl (by rfl) ?hx90 inv (by decide) (hHeld.far (p := ⟨b3, 9, none⟩) (fun e => HNE.out.1 e) (.int .i64 7)) ?hy90
  case hx90 => (have z : w0.cell? ⟨b3, 9, none⟩ = some (.int .i64 0) := HB3.out.cell 9; have zf : w0.frozen? ⟨b3, 9, none⟩ = false := HB3.out.frozen 9; clear hb3; go_simp; try with_reducible rfl)
  clear inv hHeld
  intro inv hHeld
  try simp only [sw1, sw2, sw3]
  have hb3 : Blk (((w0.drew).setCell ⟨b3, 2, none⟩ (.bool true)).setCell ⟨b3, 9, none⟩ (.int .i64 7)) b3 INS #[.int .i64 4, .bool false, .bool true, .int .i64 0, .int .i64 0, .int .i64 0, .int .i64 0, .int .i64 0, .int .i64 0, .int .i64 7, .int .i64 0] := hb3.set_ 9 (.int .i64 7)
  refine tkT 10 66 ?v1249 inv hHeld ?h1249 ?_
  case h1249 => (intro V' hSw; obtain ⟨z0, z1, z2, z3, z4, z5, z6, z7, z8, z9, z10⟩ := cells11 hSw; clear hSw; go_simp; try with_reducible rfl)
  clear inv; intro inv; try simp only [sw1, sw2, sw3]
  refine lastT (i := 11) (w' := (((w0.drew).setCell ⟨b3, 2, none⟩ (.bool true)).setCell ⟨b3, 9, none⟩ (.int .i64 7)).setCell ⟨b3, 8, none⟩ (.int .i64 0)) rfl (by kernel_rfl) rfl (by rfl) ?hx92 (by decide) (by kernel_rfl) ?_
  case hx92 => (have z : w0.cell? ⟨b3, 8, none⟩ = some (.int .i64 0) := HB3.out.cell 8; have zf : w0.frozen? ⟨b3, 8, none⟩ = false := HB3.out.frozen 8; clear hb3; go_simp; try with_reducible rfl)
  clear inv hHeld
  have hb3 : Blk ((((w0.drew).setCell ⟨b3, 2, none⟩ (.bool true)).setCell ⟨b3, 9, none⟩ (.int .i64 7)).setCell ⟨b3, 8, none⟩ (.int .i64 0)) b3 INS #[.int .i64 4, .bool false, .bool true, .int .i64 0, .int .i64 0, .int .i64 0, .int .i64 0, .int .i64 0, .int .i64 0, .int .i64 7, .int .i64 0] := hb3.set_ 8 (.int .i64 0)
  have HC := Go.Lib.hid (sets_chg HC.out HNE.out.2 [(2, .bool true), (9, .int .i64 7), (8, .int .i64 0)])
  have HB1 := Go.Lib.hid (sets_far HB1.out HNE.out.1 [(2, .bool true), (9, .int .i64 7), (8, .int .i64 0)])
  have HB3 := Go.Lib.hid hb3
  have HB2 := Go.Lib.hid (sets_far HB2.out HNE2.out [(2, .bool true), (9, .int .i64 7), (8, .int .i64 0)])
  clear hb3
  change Hid (Chg NoB W ((((w0.drew).setCell ⟨b3, 2, none⟩ (.bool true)).setCell ⟨b3, 9, none⟩ (.int .i64 7)).setCell ⟨b3, 8, none⟩ (.int .i64 0))) at HC
  change Hid (Blk ((((w0.drew).setCell ⟨b3, 2, none⟩ (.bool true)).setCell ⟨b3, 9, none⟩ (.int .i64 7)).setCell ⟨b3, 8, none⟩ (.int .i64 0)) b2 INS #[.int .i64 0, .bool false, .bool false, .int .i64 0, .int .i64 0, .int .i64 0, .int .i64 0, .int .i64 0, .int .i64 0, .int .i64 0, .int .i64 0]) at HB2
  change Hid (Blk ((((w0.drew).setCell ⟨b3, 2, none⟩ (.bool true)).setCell ⟨b3, 9, none⟩ (.int .i64 7)).setCell ⟨b3, 8, none⟩ (.int .i64 0)) b1 INS #[.int .i64 4, .bool false, .bool true, .int .i64 0, .int .i64 0, .int .i64 0, .int .i64 0, .int .i64 0, .int .i64 0, .int .i64 7, .int .i64 0]) at HB1
  generalize (((w0.drew).setCell ⟨b3, 2, none⟩ (.bool true)).setCell ⟨b3, 9, none⟩ (.int .i64 7)).setCell ⟨b3, 8, none⟩ (.int .i64 0) = w1 at *
  have z0 : w1.cell? ⟨b1, 0, none⟩ = some (.int .i64 4) := HB1.out.cell 0
  have z1 : w1.cell? ⟨b1, 1, none⟩ = some (.bool false) := HB1.out.cell 1
  have z2 : w1.cell? ⟨b1, 2, none⟩ = some (.bool true) := HB1.out.cell 2
  have z3 : w1.cell? ⟨b1, 3, none⟩ = some (.int .i64 0) := HB1.out.cell 3
  have z4 : w1.cell? ⟨b1, 4, none⟩ = some (.int .i64 0) := HB1.out.cell 4
  have z5 : w1.cell? ⟨b1, 5, none⟩ = some (.int .i64 0) := HB1.out.cell 5
  have z6 : w1.cell? ⟨b1, 6, none⟩ = some (.int .i64 0) := HB1.out.cell 6
  have z7 : w1.cell? ⟨b1, 7, none⟩ = some (.int .i64 0) := HB1.out.cell 7
  have z8 : w1.cell? ⟨b1, 8, none⟩ = some (.int .i64 0) := HB1.out.cell 8
  have z9 : w1.cell? ⟨b1, 9, none⟩ = some (.int .i64 7) := HB1.out.cell 9
  have z10 : w1.cell? ⟨b1, 10, none⟩ = some (.int .i64 0) := HB1.out.cell 10
  have y0 : w1.cell? ⟨b3, 0, none⟩ = some (.int .i64 4) := HB3.out.cell 0
  have y1 : w1.cell? ⟨b3, 1, none⟩ = some (.bool false) := HB3.out.cell 1
  have y2 : w1.cell? ⟨b3, 2, none⟩ = some (.bool true) := HB3.out.cell 2
  have y3 : w1.cell? ⟨b3, 3, none⟩ = some (.int .i64 0) := HB3.out.cell 3
  have y4 : w1.cell? ⟨b3, 4, none⟩ = some (.int .i64 0) := HB3.out.cell 4
  have y5 : w1.cell? ⟨b3, 5, none⟩ = some (.int .i64 0) := HB3.out.cell 5
  have y6 : w1.cell? ⟨b3, 6, none⟩ = some (.int .i64 0) := HB3.out.cell 6
  have y7 : w1.cell? ⟨b3, 7, none⟩ = some (.int .i64 0) := HB3.out.cell 7
  have y8 : w1.cell? ⟨b3, 8, none⟩ = some (.int .i64 0) := HB3.out.cell 8
  have y9 : w1.cell? ⟨b3, 9, none⟩ = some (.int .i64 7) := HB3.out.cell 9
  have y10 : w1.cell? ⟨b3, 10, none⟩ = some (.int .i64 0) := HB3.out.cell 10
  go_wp2_with (refine wpList_store_row rfl 108 (.tmp 2) (.tmp 82) rfl b2 #[.int .i64 4, .bool false, .bool true, .int .i64 0, .int .i64 0, .int .i64 0, .int .i64 0, .int .i64 0, .int .i64 0, .int .i64 7, .int .i64 0] rfl rfl INS #[.int .i64 0, .bool false, .bool false, .int .i64 0, .int .i64 0, .int .i64 0, .int .i64 0, .int .i64 0, .int .i64 0, .int .i64 0, .int .i64 0] HB2.out (by kernel_rfl) (by rfl) (by kernel_rfl) ?_)
  refine bodyPost_ret (results_cell_row rfl _ _ b2 INS #[.int .i64 4, .bool false, .bool true, .int .i64 0, .int .i64 0, .int .i64 0, .int .i64 0, .int .i64 0, .int .i64 0, .int .i64 7, .int .i64 0] (0, 0) _ rfl (HB2.out.rowSet_ _) Try.underlying108 rfl (by kernel_rfl)) rfl ?_
  exact ⟨rfl, HC.out.setRow_ HSB2.out _⟩
set_option maxRecDepth 100000 in
theorem put_0_3_2 {W : World} {b : Nat} (hb : Blk W b 29 #[.int .u32 0]) : Calls Try.prog 97 #[.int .i64 3, .int .i64 2, .pointer (some ⟨b, 0, none⟩)] W fun e w' => e = .returned (.tuple #[]) ∧ w' = W.drew.setCell ⟨b, 0, none⟩ (.int .u32 3) := by
  have HB := Go.Lib.hid hb
  have z0 : W.cell? ⟨b, 0, none⟩ = some (.int .u32 0) := hb.cell 0
  have zf : W.frozen? ⟨b, 0, none⟩ = false := hb.frozen 0
  clear hb
  go_enter Try.func97, Try.ntmps97
  go_wp2_with fail
  refine regionT 10 (fun V' => V'.cell? ⟨b, 0, none⟩ = some (.int .u32 0)) (by kernel_rfl) (by decide) (HB.out.drew.cell 0) (fun inv hHeld => ?_)
  refine tkW 0 5 (.int .u32 0) inv hHeld ?_
  clear inv; intro inv; try simp only [sw1, sw2, sw3]
  refine tkW 1 6 (.int .i64 2) inv hHeld ?_
  clear inv; intro inv; try simp only [sw1, sw2, sw3]
  refine tkW 2 7 (.int .u32 0) inv hHeld ?_
  clear inv; intro inv; try simp only [sw1, sw2, sw3]
  refine tkW 3 8 (.int .i64 3) inv hHeld ?_
  clear inv; intro inv; try simp only [sw1, sw2, sw3]
  refine tkW 4 9 (.int .u32 3) inv hHeld ?_
  clear inv; intro inv; try simp only [sw1, sw2, sw3]
  refine tkW 5 10 (.int .i64 2) inv hHeld ?_
  clear inv; intro inv; try simp only [sw1, sw2, sw3]
  refine tkW 6 11 (.int .u32 4) inv hHeld ?_
  clear inv; intro inv; try simp only [sw1, sw2, sw3]
  refine tkW 7 12 (.int .u32 3) inv hHeld ?_
  clear inv; intro inv; try simp only [sw1, sw2, sw3]
  refine tkW 8 13 (.int .u32 3) inv hHeld ?_
  clear inv; intro inv; try simp only [sw1, sw2, sw3]
  refine tkW 9 14 (.int .u32 3) inv hHeld ?_
  clear inv; intro inv; try simp only [sw1, sw2, sw3]
  refine lastT (i := 10) (w' := W.drew.setCell ⟨b, 0, none⟩ (.int .u32 3)) rfl (by kernel_rfl) rfl (by rfl) ?hx (by decide) (by kernel_rfl) ?_
  case hx => (go_simp; try with_reducible rfl)
  clear inv hHeld
  go_wp2_with fail
  go_end0
  exact ⟨rfl, rfl⟩
set_option maxRecDepth 100000 in
theorem put_3_1_1 {W : World} {b : Nat} (hb : Blk W b 29 #[.int .u32 3]) : Calls Try.prog 97 #[.int .i64 1, .int .i64 1, .pointer (some ⟨b, 0, none⟩)] W fun e w' => e = .returned (.tuple #[]) ∧ w' = W.drew.setCell ⟨b, 0, none⟩ (.int .u32 7) := by
  have HB := Go.Lib.hid hb
  have z0 : W.cell? ⟨b, 0, none⟩ = some (.int .u32 3) := hb.cell 0
  have zf : W.frozen? ⟨b, 0, none⟩ = false := hb.frozen 0
  clear hb
  go_enter Try.func97, Try.ntmps97
  go_wp2_with fail
  refine regionT 10 (fun V' => V'.cell? ⟨b, 0, none⟩ = some (.int .u32 3)) (by kernel_rfl) (by decide) (HB.out.drew.cell 0) (fun inv hHeld => ?_)
  refine tkW 0 5 (.int .u32 3) inv hHeld ?_
  clear inv; intro inv; try simp only [sw1, sw2, sw3]
  refine tkW 1 6 (.int .i64 1) inv hHeld ?_
  clear inv; intro inv; try simp only [sw1, sw2, sw3]
  refine tkW 2 7 (.int .u32 6) inv hHeld ?_
  clear inv; intro inv; try simp only [sw1, sw2, sw3]
  refine tkW 3 8 (.int .i64 1) inv hHeld ?_
  clear inv; intro inv; try simp only [sw1, sw2, sw3]
  refine tkW 4 9 (.int .u32 1) inv hHeld ?_
  clear inv; intro inv; try simp only [sw1, sw2, sw3]
  refine tkW 5 10 (.int .i64 1) inv hHeld ?_
  clear inv; intro inv; try simp only [sw1, sw2, sw3]
  refine tkW 6 11 (.int .u32 2) inv hHeld ?_
  clear inv; intro inv; try simp only [sw1, sw2, sw3]
  refine tkW 7 12 (.int .u32 1) inv hHeld ?_
  clear inv; intro inv; try simp only [sw1, sw2, sw3]
  refine tkW 8 13 (.int .u32 1) inv hHeld ?_
  clear inv; intro inv; try simp only [sw1, sw2, sw3]
  refine tkW 9 14 (.int .u32 7) inv hHeld ?_
  clear inv; intro inv; try simp only [sw1, sw2, sw3]
  refine lastT (i := 10) (w' := W.drew.setCell ⟨b, 0, none⟩ (.int .u32 7)) rfl (by kernel_rfl) rfl (by rfl) ?hx (by decide) (by kernel_rfl) ?_
  case hx => (go_simp; try with_reducible rfl)
  clear inv hHeld
  go_wp2_with fail
  go_end0
  exact ⟨rfl, rfl⟩
set_option maxRecDepth 100000 in
theorem put_7_1_1 {W : World} {b : Nat} (hb : Blk W b 29 #[.int .u32 7]) : Calls Try.prog 97 #[.int .i64 1, .int .i64 1, .pointer (some ⟨b, 0, none⟩)] W fun e w' => e = .returned (.tuple #[]) ∧ w' = W.drew.setCell ⟨b, 0, none⟩ (.int .u32 15) := by
  have HB := Go.Lib.hid hb
  have z0 : W.cell? ⟨b, 0, none⟩ = some (.int .u32 7) := hb.cell 0
  have zf : W.frozen? ⟨b, 0, none⟩ = false := hb.frozen 0
  clear hb
  go_enter Try.func97, Try.ntmps97
  go_wp2_with fail
  refine regionT 10 (fun V' => V'.cell? ⟨b, 0, none⟩ = some (.int .u32 7)) (by kernel_rfl) (by decide) (HB.out.drew.cell 0) (fun inv hHeld => ?_)
  refine tkW 0 5 (.int .u32 7) inv hHeld ?_
  clear inv; intro inv; try simp only [sw1, sw2, sw3]
  refine tkW 1 6 (.int .i64 1) inv hHeld ?_
  clear inv; intro inv; try simp only [sw1, sw2, sw3]
  refine tkW 2 7 (.int .u32 14) inv hHeld ?_
  clear inv; intro inv; try simp only [sw1, sw2, sw3]
  refine tkW 3 8 (.int .i64 1) inv hHeld ?_
  clear inv; intro inv; try simp only [sw1, sw2, sw3]
  refine tkW 4 9 (.int .u32 1) inv hHeld ?_
  clear inv; intro inv; try simp only [sw1, sw2, sw3]
  refine tkW 5 10 (.int .i64 1) inv hHeld ?_
  clear inv; intro inv; try simp only [sw1, sw2, sw3]
  refine tkW 6 11 (.int .u32 2) inv hHeld ?_
  clear inv; intro inv; try simp only [sw1, sw2, sw3]
  refine tkW 7 12 (.int .u32 1) inv hHeld ?_
  clear inv; intro inv; try simp only [sw1, sw2, sw3]
  refine tkW 8 13 (.int .u32 1) inv hHeld ?_
  clear inv; intro inv; try simp only [sw1, sw2, sw3]
  refine tkW 9 14 (.int .u32 15) inv hHeld ?_
  clear inv; intro inv; try simp only [sw1, sw2, sw3]
  refine lastT (i := 10) (w' := W.drew.setCell ⟨b, 0, none⟩ (.int .u32 15)) rfl (by kernel_rfl) rfl (by rfl) ?hx (by decide) (by kernel_rfl) ?_
  case hx => (go_simp; try with_reducible rfl)
  clear inv hHeld
  go_wp2_with fail
  go_end0
  exact ⟨rfl, rfl⟩
set_option maxRecDepth 100000 in
theorem put_15_7_4 {W : World} {b : Nat} (hb : Blk W b 29 #[.int .u32 15]) : Calls Try.prog 97 #[.int .i64 7, .int .i64 4, .pointer (some ⟨b, 0, none⟩)] W fun e w' => e = .returned (.tuple #[]) ∧ w' = W.drew.setCell ⟨b, 0, none⟩ (.int .u32 247) := by
  have HB := Go.Lib.hid hb
  have z0 : W.cell? ⟨b, 0, none⟩ = some (.int .u32 15) := hb.cell 0
  have zf : W.frozen? ⟨b, 0, none⟩ = false := hb.frozen 0
  clear hb
  go_enter Try.func97, Try.ntmps97
  go_wp2_with fail
  refine regionT 10 (fun V' => V'.cell? ⟨b, 0, none⟩ = some (.int .u32 15)) (by kernel_rfl) (by decide) (HB.out.drew.cell 0) (fun inv hHeld => ?_)
  refine tkW 0 5 (.int .u32 15) inv hHeld ?_
  clear inv; intro inv; try simp only [sw1, sw2, sw3]
  refine tkW 1 6 (.int .i64 4) inv hHeld ?_
  clear inv; intro inv; try simp only [sw1, sw2, sw3]
  refine tkW 2 7 (.int .u32 240) inv hHeld ?_
  clear inv; intro inv; try simp only [sw1, sw2, sw3]
  refine tkW 3 8 (.int .i64 7) inv hHeld ?_
  clear inv; intro inv; try simp only [sw1, sw2, sw3]
  refine tkW 4 9 (.int .u32 7) inv hHeld ?_
  clear inv; intro inv; try simp only [sw1, sw2, sw3]
  refine tkW 5 10 (.int .i64 4) inv hHeld ?_
  clear inv; intro inv; try simp only [sw1, sw2, sw3]
  refine tkW 6 11 (.int .u32 16) inv hHeld ?_
  clear inv; intro inv; try simp only [sw1, sw2, sw3]
  refine tkW 7 12 (.int .u32 15) inv hHeld ?_
  clear inv; intro inv; try simp only [sw1, sw2, sw3]
  refine tkW 8 13 (.int .u32 7) inv hHeld ?_
  clear inv; intro inv; try simp only [sw1, sw2, sw3]
  refine tkW 9 14 (.int .u32 247) inv hHeld ?_
  clear inv; intro inv; try simp only [sw1, sw2, sw3]
  refine lastT (i := 10) (w' := W.drew.setCell ⟨b, 0, none⟩ (.int .u32 247)) rfl (by kernel_rfl) rfl (by rfl) ?hx (by decide) (by kernel_rfl) ?_
  case hx => (go_simp; try with_reducible rfl)
  clear inv hHeld
  go_wp2_with fail
  go_end0
  exact ⟨rfl, rfl⟩
set_option maxRecDepth 100000 in
theorem put_247_0_24 {W : World} {b : Nat} (hb : Blk W b 29 #[.int .u32 247]) : Calls Try.prog 97 #[.int .i64 0, .int .i64 24, .pointer (some ⟨b, 0, none⟩)] W fun e w' => e = .returned (.tuple #[]) ∧ w' = W.drew.setCell ⟨b, 0, none⟩ (.int .u32 4143972352) := by
  have HB := Go.Lib.hid hb
  have z0 : W.cell? ⟨b, 0, none⟩ = some (.int .u32 247) := hb.cell 0
  have zf : W.frozen? ⟨b, 0, none⟩ = false := hb.frozen 0
  clear hb
  go_enter Try.func97, Try.ntmps97
  go_wp2_with fail
  refine regionT 10 (fun V' => V'.cell? ⟨b, 0, none⟩ = some (.int .u32 247)) (by kernel_rfl) (by decide) (HB.out.drew.cell 0) (fun inv hHeld => ?_)
  refine tkW 0 5 (.int .u32 247) inv hHeld ?_
  clear inv; intro inv; try simp only [sw1, sw2, sw3]
  refine tkW 1 6 (.int .i64 24) inv hHeld ?_
  clear inv; intro inv; try simp only [sw1, sw2, sw3]
  refine tkW 2 7 (.int .u32 4143972352) inv hHeld ?_
  clear inv; intro inv; try simp only [sw1, sw2, sw3]
  refine tkW 3 8 (.int .i64 0) inv hHeld ?_
  clear inv; intro inv; try simp only [sw1, sw2, sw3]
  refine tkW 4 9 (.int .u32 0) inv hHeld ?_
  clear inv; intro inv; try simp only [sw1, sw2, sw3]
  refine tkW 5 10 (.int .i64 24) inv hHeld ?_
  clear inv; intro inv; try simp only [sw1, sw2, sw3]
  refine tkW 6 11 (.int .u32 16777216) inv hHeld ?_
  clear inv; intro inv; try simp only [sw1, sw2, sw3]
  refine tkW 7 12 (.int .u32 16777215) inv hHeld ?_
  clear inv; intro inv; try simp only [sw1, sw2, sw3]
  refine tkW 8 13 (.int .u32 0) inv hHeld ?_
  clear inv; intro inv; try simp only [sw1, sw2, sw3]
  refine tkW 9 14 (.int .u32 4143972352) inv hHeld ?_
  clear inv; intro inv; try simp only [sw1, sw2, sw3]
  refine lastT (i := 10) (w' := W.drew.setCell ⟨b, 0, none⟩ (.int .u32 4143972352)) rfl (by kernel_rfl) rfl (by rfl) ?hx (by decide) (by kernel_rfl) ?_
  case hx => (go_simp; try with_reducible rfl)
  clear inv hHeld
  go_wp2_with fail
  go_end0
  exact ⟨rfl, rfl⟩
set_option maxRecDepth 100000 in
set_option maxHeartbeats 8000000 in
theorem pack_jump (W : World) : Calls Try.prog 90 #[.agg #[.int .i64 4, .bool false, .bool true, .int .i64 0, .int .i64 0, .int .i64 0, .int .i64 0, .int .i64 0, .int .i64 0, .int .i64 7, .int .i64 0]] W fun e w' => e = .returned (.int .u32 4143972352) ∧ Chg NoB W w' := by
  have HC : Hid (Chg NoB W ((W.alloc (.cells #[.int .i64 4, .bool false, .bool true, .int .i64 0, .int .i64 0, .int .i64 0, .int .i64 0, .int .i64 0, .int .i64 0, .int .i64 7, .int .i64 0] INS)).alloc (.cells #[.int .u32 0] 29))) := Go.Lib.hid (((Chg.refl NoB W).alloc _).alloc _)
  have HB1 : Hid (Blk ((W.alloc (.cells #[.int .i64 4, .bool false, .bool true, .int .i64 0, .int .i64 0, .int .i64 0, .int .i64 0, .int .i64 0, .int .i64 0, .int .i64 7, .int .i64 0] INS)).alloc (.cells #[.int .u32 0] 29)) W.heap.size INS #[.int .i64 4, .bool false, .bool true, .int .i64 0, .int .i64 0, .int .i64 0, .int .i64 0, .int .i64 0, .int .i64 0, .int .i64 7, .int .i64 0]) := Go.Lib.hid ((Blk.new W INS _).alloc _)
  have HBW : Hid (Blk ((W.alloc (.cells #[.int .i64 4, .bool false, .bool true, .int .i64 0, .int .i64 0, .int .i64 0, .int .i64 0, .int .i64 0, .int .i64 0, .int .i64 7, .int .i64 0] INS)).alloc (.cells #[.int .u32 0] 29)) (W.heap.size + 1) 29 #[.int .u32 0]) := Go.Lib.hid (by
    have := Blk.new (W.alloc (.cells #[.int .i64 4, .bool false, .bool true, .int .i64 0, .int .i64 0, .int .i64 0, .int .i64 0, .int .i64 0, .int .i64 0, .int .i64 7, .int .i64 0] INS)) 29 #[.int .u32 0]
    simpa using this)
  have HW : Hid (∃ w, w = (W.alloc (.cells #[.int .i64 4, .bool false, .bool true, .int .i64 0, .int .i64 0, .int .i64 0, .int .i64 0, .int .i64 0, .int .i64 0, .int .i64 7, .int .i64 0] INS)).alloc (.cells #[.int .u32 0] 29)) := Go.Lib.hid ⟨_, rfl⟩
  have HNE : Hid (W.heap.size ≠ W.heap.size + 1 ∧ W.heap.size ≤ W.heap.size + 1) := Go.Lib.hid ⟨by omega, by omega⟩
  go_enter Try.func90, Try.ntmps90
  go_wp2_with fail
  refine (put_0_3_2 HBW.out).mono ?_
  rintro e wx ⟨rfl, rfl⟩
  have HC := Go.Lib.hid ((HC.out.drew).setCell (p := ⟨W.heap.size + 1, 0, none⟩) (fun hl => by have := HNE.out.2; simp at hl; omega) (.int .u32 3))
  have HB1 := Go.Lib.hid (HB1.out.drew.far (p := ⟨W.heap.size + 1, 0, none⟩) HNE.out.1 (.int .u32 3))
  have HBW : Hid (Blk ((((W.alloc (.cells #[.int .i64 4, .bool false, .bool true, .int .i64 0, .int .i64 0, .int .i64 0, .int .i64 0, .int .i64 0, .int .i64 0, .int .i64 7, .int .i64 0] INS)).alloc (.cells #[.int .u32 0] 29))).drew.setCell ⟨W.heap.size + 1, 0, none⟩ (.int .u32 3)) (W.heap.size + 1) 29 #[.int .u32 3]) := Go.Lib.hid (HBW.out.drew.set_ 0 (.int .u32 3))
  obtain ⟨b1, hb1⟩ : ∃ b, W.heap.size = b := ⟨_, rfl⟩
  obtain ⟨bw, hbw⟩ : ∃ b, W.heap.size + 1 = b := ⟨_, rfl⟩
  have HNE : Hid (b1 ≠ bw ∧ W.heap.size ≤ bw) := Go.Lib.hid ⟨by omega, by omega⟩
  generalize (((W.alloc (.cells #[.int .i64 4, .bool false, .bool true, .int .i64 0, .int .i64 0, .int .i64 0, .int .i64 0, .int .i64 0, .int .i64 0, .int .i64 7, .int .i64 0] INS)).alloc (.cells #[.int .u32 0] 29))).drew.setCell ⟨W.heap.size + 1, 0, none⟩ (.int .u32 3) = w1 at *
  rw [hbw] at HBW ⊢
  rw [hb1] at HB1 ⊢
  clear hb1 hbw
  have z0 : w1.cell? ⟨b1, 0, none⟩ = some (.int .i64 4) := HB1.out.cell 0
  have z1 : w1.cell? ⟨b1, 1, none⟩ = some (.bool false) := HB1.out.cell 1
  have z2 : w1.cell? ⟨b1, 2, none⟩ = some (.bool true) := HB1.out.cell 2
  have z3 : w1.cell? ⟨b1, 3, none⟩ = some (.int .i64 0) := HB1.out.cell 3
  have z4 : w1.cell? ⟨b1, 4, none⟩ = some (.int .i64 0) := HB1.out.cell 4
  have z5 : w1.cell? ⟨b1, 5, none⟩ = some (.int .i64 0) := HB1.out.cell 5
  have z6 : w1.cell? ⟨b1, 6, none⟩ = some (.int .i64 0) := HB1.out.cell 6
  have z7 : w1.cell? ⟨b1, 7, none⟩ = some (.int .i64 0) := HB1.out.cell 7
  have z8 : w1.cell? ⟨b1, 8, none⟩ = some (.int .i64 0) := HB1.out.cell 8
  have z9 : w1.cell? ⟨b1, 9, none⟩ = some (.int .i64 7) := HB1.out.cell 9
  have z10 : w1.cell? ⟨b1, 10, none⟩ = some (.int .i64 0) := HB1.out.cell 10
  go_wp2_with fail
  clear z0 z1 z2 z3 z4 z5 z6 z7 z8 z9 z10
  refine (bit_T _).mono ?_
  rintro e wx ⟨rfl, rfl⟩
  go_wp2_with fail
  refine (put_3_1_1 HBW.out).mono ?_
  rintro e wx ⟨rfl, rfl⟩
  have HC := Go.Lib.hid ((HC.out.drew).setCell (p := ⟨bw, 0, none⟩) (fun hl => by have := HNE.out.2; simp at hl; omega) (.int .u32 7))
  have HB1 := Go.Lib.hid (HB1.out.drew.far (p := ⟨bw, 0, none⟩) HNE.out.1 (.int .u32 7))
  have HBW : Hid (Blk ((w1).drew.setCell ⟨bw, 0, none⟩ (.int .u32 7)) bw 29 #[.int .u32 7]) := Go.Lib.hid (HBW.out.drew.set_ 0 (.int .u32 7))
  generalize (w1).drew.setCell ⟨bw, 0, none⟩ (.int .u32 7) = w2 at *
  have z0 : w2.cell? ⟨b1, 0, none⟩ = some (.int .i64 4) := HB1.out.cell 0
  have z1 : w2.cell? ⟨b1, 1, none⟩ = some (.bool false) := HB1.out.cell 1
  have z2 : w2.cell? ⟨b1, 2, none⟩ = some (.bool true) := HB1.out.cell 2
  have z3 : w2.cell? ⟨b1, 3, none⟩ = some (.int .i64 0) := HB1.out.cell 3
  have z4 : w2.cell? ⟨b1, 4, none⟩ = some (.int .i64 0) := HB1.out.cell 4
  have z5 : w2.cell? ⟨b1, 5, none⟩ = some (.int .i64 0) := HB1.out.cell 5
  have z6 : w2.cell? ⟨b1, 6, none⟩ = some (.int .i64 0) := HB1.out.cell 6
  have z7 : w2.cell? ⟨b1, 7, none⟩ = some (.int .i64 0) := HB1.out.cell 7
  have z8 : w2.cell? ⟨b1, 8, none⟩ = some (.int .i64 0) := HB1.out.cell 8
  have z9 : w2.cell? ⟨b1, 9, none⟩ = some (.int .i64 7) := HB1.out.cell 9
  have z10 : w2.cell? ⟨b1, 10, none⟩ = some (.int .i64 0) := HB1.out.cell 10
  go_wp2_with fail
  clear z0 z1 z2 z3 z4 z5 z6 z7 z8 z9 z10
  refine (bit_T _).mono ?_
  rintro e wx ⟨rfl, rfl⟩
  go_wp2_with fail
  refine (put_7_1_1 HBW.out).mono ?_
  rintro e wx ⟨rfl, rfl⟩
  have HC := Go.Lib.hid ((HC.out.drew).setCell (p := ⟨bw, 0, none⟩) (fun hl => by have := HNE.out.2; simp at hl; omega) (.int .u32 15))
  have HB1 := Go.Lib.hid (HB1.out.drew.far (p := ⟨bw, 0, none⟩) HNE.out.1 (.int .u32 15))
  have HBW : Hid (Blk ((w2).drew.setCell ⟨bw, 0, none⟩ (.int .u32 15)) bw 29 #[.int .u32 15]) := Go.Lib.hid (HBW.out.drew.set_ 0 (.int .u32 15))
  generalize (w2).drew.setCell ⟨bw, 0, none⟩ (.int .u32 15) = w3 at *
  have z0 : w3.cell? ⟨b1, 0, none⟩ = some (.int .i64 4) := HB1.out.cell 0
  have z1 : w3.cell? ⟨b1, 1, none⟩ = some (.bool false) := HB1.out.cell 1
  have z2 : w3.cell? ⟨b1, 2, none⟩ = some (.bool true) := HB1.out.cell 2
  have z3 : w3.cell? ⟨b1, 3, none⟩ = some (.int .i64 0) := HB1.out.cell 3
  have z4 : w3.cell? ⟨b1, 4, none⟩ = some (.int .i64 0) := HB1.out.cell 4
  have z5 : w3.cell? ⟨b1, 5, none⟩ = some (.int .i64 0) := HB1.out.cell 5
  have z6 : w3.cell? ⟨b1, 6, none⟩ = some (.int .i64 0) := HB1.out.cell 6
  have z7 : w3.cell? ⟨b1, 7, none⟩ = some (.int .i64 0) := HB1.out.cell 7
  have z8 : w3.cell? ⟨b1, 8, none⟩ = some (.int .i64 0) := HB1.out.cell 8
  have z9 : w3.cell? ⟨b1, 9, none⟩ = some (.int .i64 7) := HB1.out.cell 9
  have z10 : w3.cell? ⟨b1, 10, none⟩ = some (.int .i64 0) := HB1.out.cell 10
  go_wp2_with fail
  clear z0 z1 z2 z3 z4 z5 z6 z7 z8 z9 z10
  refine (put_15_7_4 HBW.out).mono ?_
  rintro e wx ⟨rfl, rfl⟩
  have HC := Go.Lib.hid ((HC.out.drew).setCell (p := ⟨bw, 0, none⟩) (fun hl => by have := HNE.out.2; simp at hl; omega) (.int .u32 247))
  have HB1 := Go.Lib.hid (HB1.out.drew.far (p := ⟨bw, 0, none⟩) HNE.out.1 (.int .u32 247))
  have HBW : Hid (Blk ((w3).drew.setCell ⟨bw, 0, none⟩ (.int .u32 247)) bw 29 #[.int .u32 247]) := Go.Lib.hid (HBW.out.drew.set_ 0 (.int .u32 247))
  generalize (w3).drew.setCell ⟨bw, 0, none⟩ (.int .u32 247) = w4 at *
  have z0 : w4.cell? ⟨b1, 0, none⟩ = some (.int .i64 4) := HB1.out.cell 0
  have z1 : w4.cell? ⟨b1, 1, none⟩ = some (.bool false) := HB1.out.cell 1
  have z2 : w4.cell? ⟨b1, 2, none⟩ = some (.bool true) := HB1.out.cell 2
  have z3 : w4.cell? ⟨b1, 3, none⟩ = some (.int .i64 0) := HB1.out.cell 3
  have z4 : w4.cell? ⟨b1, 4, none⟩ = some (.int .i64 0) := HB1.out.cell 4
  have z5 : w4.cell? ⟨b1, 5, none⟩ = some (.int .i64 0) := HB1.out.cell 5
  have z6 : w4.cell? ⟨b1, 6, none⟩ = some (.int .i64 0) := HB1.out.cell 6
  have z7 : w4.cell? ⟨b1, 7, none⟩ = some (.int .i64 0) := HB1.out.cell 7
  have z8 : w4.cell? ⟨b1, 8, none⟩ = some (.int .i64 0) := HB1.out.cell 8
  have z9 : w4.cell? ⟨b1, 9, none⟩ = some (.int .i64 7) := HB1.out.cell 9
  have z10 : w4.cell? ⟨b1, 10, none⟩ = some (.int .i64 0) := HB1.out.cell 10
  go_wp2_with fail
  clear z0 z1 z2 z3 z4 z5 z6 z7 z8 z9 z10
  refine (put_247_0_24 HBW.out).mono ?_
  rintro e wx ⟨rfl, rfl⟩
  have HC := Go.Lib.hid ((HC.out.drew).setCell (p := ⟨bw, 0, none⟩) (fun hl => by have := HNE.out.2; simp at hl; omega) (.int .u32 4143972352))
  have HB1 := Go.Lib.hid (HB1.out.drew.far (p := ⟨bw, 0, none⟩) HNE.out.1 (.int .u32 4143972352))
  have HBW : Hid (Blk ((w4).drew.setCell ⟨bw, 0, none⟩ (.int .u32 4143972352)) bw 29 #[.int .u32 4143972352]) := Go.Lib.hid (HBW.out.drew.set_ 0 (.int .u32 4143972352))
  generalize (w4).drew.setCell ⟨bw, 0, none⟩ (.int .u32 4143972352) = w5 at *
  have z0 : w5.cell? ⟨b1, 0, none⟩ = some (.int .i64 4) := HB1.out.cell 0
  have z1 : w5.cell? ⟨b1, 1, none⟩ = some (.bool false) := HB1.out.cell 1
  have z2 : w5.cell? ⟨b1, 2, none⟩ = some (.bool true) := HB1.out.cell 2
  have z3 : w5.cell? ⟨b1, 3, none⟩ = some (.int .i64 0) := HB1.out.cell 3
  have z4 : w5.cell? ⟨b1, 4, none⟩ = some (.int .i64 0) := HB1.out.cell 4
  have z5 : w5.cell? ⟨b1, 5, none⟩ = some (.int .i64 0) := HB1.out.cell 5
  have z6 : w5.cell? ⟨b1, 6, none⟩ = some (.int .i64 0) := HB1.out.cell 6
  have z7 : w5.cell? ⟨b1, 7, none⟩ = some (.int .i64 0) := HB1.out.cell 7
  have z8 : w5.cell? ⟨b1, 8, none⟩ = some (.int .i64 0) := HB1.out.cell 8
  have z9 : w5.cell? ⟨b1, 9, none⟩ = some (.int .i64 7) := HB1.out.cell 9
  have z10 : w5.cell? ⟨b1, 10, none⟩ = some (.int .i64 0) := HB1.out.cell 10
  have zw : w5.cell? ⟨bw, 0, none⟩ = some (.int .u32 4143972352) := HBW.out.cell 0
  go_wp2_with fail
  go_ret
  exact ⟨rfl, HC.out⟩
set_option maxRecDepth 100000 in
set_option maxHeartbeats 16000000 in
theorem may_jump (W : World) : Calls Try.prog 89 #[.agg #[.int .i64 4, .bool false, .bool true, .int .i64 0, .int .i64 0, .int .i64 0, .int .i64 0, .int .i64 0, .int .i64 0, .int .i64 7, .int .i64 0]] W fun e w' => e = .returned (.bool true) ∧ Chg NoB W w' := by
  have HC : Hid (Chg NoB W (W.alloc (.cells #[.int .i64 4, .bool false, .bool true, .int .i64 0, .int .i64 0, .int .i64 0, .int .i64 0, .int .i64 0, .int .i64 0, .int .i64 7, .int .i64 0] INS))) := Go.Lib.hid ((Chg.refl NoB W).alloc _)
  have HB1 : Hid (Blk (W.alloc (.cells #[.int .i64 4, .bool false, .bool true, .int .i64 0, .int .i64 0, .int .i64 0, .int .i64 0, .int .i64 0, .int .i64 0, .int .i64 7, .int .i64 0] INS)) W.heap.size INS #[.int .i64 4, .bool false, .bool true, .int .i64 0, .int .i64 0, .int .i64 0, .int .i64 0, .int .i64 0, .int .i64 0, .int .i64 7, .int .i64 0]) := Go.Lib.hid (Blk.new W INS _)
  go_enter Try.func89, Try.ntmps89
  go_wp2_with fail
  generalize W.alloc (.cells #[.int .i64 4, .bool false, .bool true, .int .i64 0, .int .i64 0, .int .i64 0, .int .i64 0, .int .i64 0, .int .i64 0, .int .i64 7, .int .i64 0] INS) = w0 at *
  generalize W.heap.size = b1 at *
  refine regionT 55 (fun V' => Chg NoB (w0) V') (by kernel_rfl) (by decide) ((Chg.refl NoB w0).drew) (fun inv hHeld => ?_)
  refine tkT 0 3 ?v1300 inv hHeld ?h1300 ?_
  case h1300 => (intro V' hSw; obtain ⟨z0, z1, z2, z3, z4, z5, z6, z7, z8, z9, z10⟩ := cells11 (HB1.out.chg hSw id); clear hSw; go_simp; try with_reducible rfl)
  clear inv; intro inv; try simp only [sw1, sw2, sw3]
  refine tkT 1 4 ?v1301 inv hHeld ?h1301 ?_
  case h1301 => (intro V' hSw; obtain ⟨z0, z1, z2, z3, z4, z5, z6, z7, z8, z9, z10⟩ := cells11 (HB1.out.chg hSw id); clear hSw; go_simp; try with_reducible rfl)
  clear inv; intro inv; try simp only [sw1, sw2, sw3]
  refine callT (i := 2) (t := 5) (f := 94) (args := #[.agg #[.int .i64 4, .bool false, .bool true, .int .i64 0, .int .i64 0, .int .i64 0, .int .i64 0, .int .i64 0, .int .i64 0, .int .i64 7, .int .i64 0]]) rfl (by kernel_rfl) rfl (by rfl) ?hx95 inv (by decide) ?hc95
  case hx95 => (go_simp; try rfl)
  case hc95 =>
    refine (bare_jump _).mono ?_
    rintro e w2 ⟨rfl, hc⟩
    refine ⟨_, rfl, hHeld.trans hc, fun inv2 hHeld2 => ?_⟩
    clear inv hHeld
    have inv := inv2
    have hHeld := hHeld2
    clear inv2 hHeld2
    try simp only [sw1, sw2, sw3]
    refine tkT 3 6 (.bool false) inv hHeld ?h1302 ?_
    case h1302 => (intro V' hSw; obtain ⟨z0, z1, z2, z3, z4, z5, z6, z7, z8, z9, z10⟩ := cells11 (HB1.out.chg hSw id); clear hSw; go_simp; try with_reducible rfl)
    clear inv; intro inv; try simp only [sw1, sw2, sw3]
    refine tkT 4 7 (.bool false) inv hHeld ?h1303 ?_
    case h1303 => (intro V' hSw; obtain ⟨z0, z1, z2, z3, z4, z5, z6, z7, z8, z9, z10⟩ := cells11 (HB1.out.chg hSw id); clear hSw; go_simp; try with_reducible rfl)
    clear inv; intro inv; try simp only [sw1, sw2, sw3]
    refine tkT 5 8 ?v1304 inv hHeld ?h1304 ?_
    case h1304 => (intro V' hSw; obtain ⟨z0, z1, z2, z3, z4, z5, z6, z7, z8, z9, z10⟩ := cells11 (HB1.out.chg hSw id); clear hSw; go_simp; try with_reducible rfl)
    clear inv; intro inv; try simp only [sw1, sw2, sw3]
    refine tkT 6 9 ?v1305 inv hHeld ?h1305 ?_
    case h1305 => (intro V' hSw; obtain ⟨z0, z1, z2, z3, z4, z5, z6, z7, z8, z9, z10⟩ := cells11 (HB1.out.chg hSw id); clear hSw; go_simp; try with_reducible rfl)
    clear inv; intro inv; try simp only [sw1, sw2, sw3]
    refine tkT 7 10 (.bool false) inv hHeld ?h1306 ?_
    case h1306 => (intro V' hSw; obtain ⟨z0, z1, z2, z3, z4, z5, z6, z7, z8, z9, z10⟩ := cells11 (HB1.out.chg hSw id); clear hSw; go_simp; try with_reducible rfl)
    clear inv; intro inv; try simp only [sw1, sw2, sw3]
    refine tkT 8 11 (.bool false) inv hHeld ?h1307 ?_
    case h1307 => (intro V' hSw; obtain ⟨z0, z1, z2, z3, z4, z5, z6, z7, z8, z9, z10⟩ := cells11 (HB1.out.chg hSw id); clear hSw; go_simp; try with_reducible rfl)
    clear inv; intro inv; try simp only [sw1, sw2, sw3]
    refine tkT 9 12 (.bool false) inv hHeld ?h1308 ?_
    case h1308 => (intro V' hSw; obtain ⟨z0, z1, z2, z3, z4, z5, z6, z7, z8, z9, z10⟩ := cells11 (HB1.out.chg hSw id); clear hSw; go_simp; try with_reducible rfl)
    clear inv; intro inv; try simp only [sw1, sw2, sw3]
    refine tkT 10 13 ?v1309 inv hHeld ?h1309 ?_
    case h1309 => (intro V' hSw; obtain ⟨z0, z1, z2, z3, z4, z5, z6, z7, z8, z9, z10⟩ := cells11 (HB1.out.chg hSw id); clear hSw; go_simp; try with_reducible rfl)
    clear inv; intro inv; try simp only [sw1, sw2, sw3]
    refine tkT 11 14 ?v1310 inv hHeld ?h1310 ?_
    case h1310 => (intro V' hSw; obtain ⟨z0, z1, z2, z3, z4, z5, z6, z7, z8, z9, z10⟩ := cells11 (HB1.out.chg hSw id); clear hSw; go_simp; try with_reducible rfl)
    clear inv; intro inv; try simp only [sw1, sw2, sw3]
    refine tkT 12 15 (.bool false) inv hHeld ?h1311 ?_
    case h1311 => (intro V' hSw; obtain ⟨z0, z1, z2, z3, z4, z5, z6, z7, z8, z9, z10⟩ := cells11 (HB1.out.chg hSw id); clear hSw; go_simp; try with_reducible rfl)
    clear inv; intro inv; try simp only [sw1, sw2, sw3]
    refine tkT 13 16 (.bool false) inv hHeld ?h1312 ?_
    case h1312 => (intro V' hSw; obtain ⟨z0, z1, z2, z3, z4, z5, z6, z7, z8, z9, z10⟩ := cells11 (HB1.out.chg hSw id); clear hSw; go_simp; try with_reducible rfl)
    clear inv; intro inv; try simp only [sw1, sw2, sw3]
    refine tkT 14 17 (.bool false) inv hHeld ?h1313 ?_
    case h1313 => (intro V' hSw; obtain ⟨z0, z1, z2, z3, z4, z5, z6, z7, z8, z9, z10⟩ := cells11 (HB1.out.chg hSw id); clear hSw; go_simp; try with_reducible rfl)
    clear inv; intro inv; try simp only [sw1, sw2, sw3]
    refine tkT 15 18 ?v1314 inv hHeld ?h1314 ?_
    case h1314 => (intro V' hSw; obtain ⟨z0, z1, z2, z3, z4, z5, z6, z7, z8, z9, z10⟩ := cells11 (HB1.out.chg hSw id); clear hSw; go_simp; try with_reducible rfl)
    clear inv; intro inv; try simp only [sw1, sw2, sw3]
    refine tkT 16 19 ?v1315 inv hHeld ?h1315 ?_
    case h1315 => (intro V' hSw; obtain ⟨z0, z1, z2, z3, z4, z5, z6, z7, z8, z9, z10⟩ := cells11 (HB1.out.chg hSw id); clear hSw; go_simp; try with_reducible rfl)
    clear inv; intro inv; try simp only [sw1, sw2, sw3]
    refine callT (i := 17) (t := 20) (f := 95) (args := #[.int .i64 0, .int .i64 16]) rfl (by kernel_rfl) rfl (by rfl) ?hx110 inv (by decide) ?hc110
    case hx110 => (go_simp; try rfl)
    case hc110 =>
      refine (within_T 0 16 (by decide) (by decide) _).mono ?_
      rintro e w2 ⟨rfl, hc⟩
      refine ⟨_, rfl, hHeld.trans hc, fun inv2 hHeld2 => ?_⟩
      clear inv hHeld
      have inv := inv2
      have hHeld := hHeld2
      clear inv2 hHeld2
      try simp only [sw1, sw2, sw3]
      refine tkT 18 21 (.bool false) inv hHeld ?h1316 ?_
      case h1316 => (intro V' hSw; obtain ⟨z0, z1, z2, z3, z4, z5, z6, z7, z8, z9, z10⟩ := cells11 (HB1.out.chg hSw id); clear hSw; go_simp; try with_reducible rfl)
      clear inv; intro inv; try simp only [sw1, sw2, sw3]
      refine tkT 19 22 (.bool false) inv hHeld ?h1317 ?_
      case h1317 => (intro V' hSw; obtain ⟨z0, z1, z2, z3, z4, z5, z6, z7, z8, z9, z10⟩ := cells11 (HB1.out.chg hSw id); clear hSw; go_simp; try with_reducible rfl)
      clear inv; intro inv; try simp only [sw1, sw2, sw3]
      refine tkT 20 23 (.bool false) inv hHeld ?h1318 ?_
      case h1318 => (intro V' hSw; obtain ⟨z0, z1, z2, z3, z4, z5, z6, z7, z8, z9, z10⟩ := cells11 (HB1.out.chg hSw id); clear hSw; go_simp; try with_reducible rfl)
      clear inv; intro inv; try simp only [sw1, sw2, sw3]
      refine tkT 21 24 ?v1319 inv hHeld ?h1319 ?_
      case h1319 => (intro V' hSw; obtain ⟨z0, z1, z2, z3, z4, z5, z6, z7, z8, z9, z10⟩ := cells11 (HB1.out.chg hSw id); clear hSw; go_simp; try with_reducible rfl)
      clear inv; intro inv; try simp only [sw1, sw2, sw3]
      refine tkT 22 25 ?v1320 inv hHeld ?h1320 ?_
      case h1320 => (intro V' hSw; obtain ⟨z0, z1, z2, z3, z4, z5, z6, z7, z8, z9, z10⟩ := cells11 (HB1.out.chg hSw id); clear hSw; go_simp; try with_reducible rfl)
      clear inv; intro inv; try simp only [sw1, sw2, sw3]
      refine callT (i := 23) (t := 26) (f := 95) (args := #[.int .i64 0, .int .i64 16]) rfl (by kernel_rfl) rfl (by rfl) ?hx116 inv (by decide) ?hc116
      case hx116 => (go_simp; try rfl)
      case hc116 =>
        refine (within_T 0 16 (by decide) (by decide) _).mono ?_
        rintro e w2 ⟨rfl, hc⟩
        refine ⟨_, rfl, hHeld.trans hc, fun inv2 hHeld2 => ?_⟩
        clear inv hHeld
        have inv := inv2
        have hHeld := hHeld2
        clear inv2 hHeld2
        try simp only [sw1, sw2, sw3]
        refine tkT 24 27 (.bool false) inv hHeld ?h1321 ?_
        case h1321 => (intro V' hSw; obtain ⟨z0, z1, z2, z3, z4, z5, z6, z7, z8, z9, z10⟩ := cells11 (HB1.out.chg hSw id); clear hSw; go_simp; try with_reducible rfl)
        clear inv; intro inv; try simp only [sw1, sw2, sw3]
        refine tkT 25 28 (.bool false) inv hHeld ?h1322 ?_
        case h1322 => (intro V' hSw; obtain ⟨z0, z1, z2, z3, z4, z5, z6, z7, z8, z9, z10⟩ := cells11 (HB1.out.chg hSw id); clear hSw; go_simp; try with_reducible rfl)
        clear inv; intro inv; try simp only [sw1, sw2, sw3]
        refine tkT 26 29 (.bool false) inv hHeld ?h1323 ?_
        case h1323 => (intro V' hSw; obtain ⟨z0, z1, z2, z3, z4, z5, z6, z7, z8, z9, z10⟩ := cells11 (HB1.out.chg hSw id); clear hSw; go_simp; try with_reducible rfl)
        clear inv; intro inv; try simp only [sw1, sw2, sw3]
        refine tkT 27 30 ?v1324 inv hHeld ?h1324 ?_
        case h1324 => (intro V' hSw; obtain ⟨z0, z1, z2, z3, z4, z5, z6, z7, z8, z9, z10⟩ := cells11 (HB1.out.chg hSw id); clear hSw; go_simp; try with_reducible rfl)
        clear inv; intro inv; try simp only [sw1, sw2, sw3]
        refine tkT 28 31 ?v1325 inv hHeld ?h1325 ?_
        case h1325 => (intro V' hSw; obtain ⟨z0, z1, z2, z3, z4, z5, z6, z7, z8, z9, z10⟩ := cells11 (HB1.out.chg hSw id); clear hSw; go_simp; try with_reducible rfl)
        clear inv; intro inv; try simp only [sw1, sw2, sw3]
        refine callT (i := 29) (t := 32) (f := 95) (args := #[.int .i64 0, .int .i64 16]) rfl (by kernel_rfl) rfl (by rfl) ?hx122 inv (by decide) ?hc122
        case hx122 => (go_simp; try rfl)
        case hc122 =>
          refine (within_T 0 16 (by decide) (by decide) _).mono ?_
          rintro e w2 ⟨rfl, hc⟩
          refine ⟨_, rfl, hHeld.trans hc, fun inv2 hHeld2 => ?_⟩
          clear inv hHeld
          have inv := inv2
          have hHeld := hHeld2
          clear inv2 hHeld2
          try simp only [sw1, sw2, sw3]
          refine tkT 30 33 (.bool false) inv hHeld ?h1326 ?_
          case h1326 => (intro V' hSw; obtain ⟨z0, z1, z2, z3, z4, z5, z6, z7, z8, z9, z10⟩ := cells11 (HB1.out.chg hSw id); clear hSw; go_simp; try with_reducible rfl)
          clear inv; intro inv; try simp only [sw1, sw2, sw3]
          refine tkT 31 34 (.bool false) inv hHeld ?h1327 ?_
          case h1327 => (intro V' hSw; obtain ⟨z0, z1, z2, z3, z4, z5, z6, z7, z8, z9, z10⟩ := cells11 (HB1.out.chg hSw id); clear hSw; go_simp; try with_reducible rfl)
          clear inv; intro inv; try simp only [sw1, sw2, sw3]
          refine tkT 32 35 (.bool false) inv hHeld ?h1328 ?_
          case h1328 => (intro V' hSw; obtain ⟨z0, z1, z2, z3, z4, z5, z6, z7, z8, z9, z10⟩ := cells11 (HB1.out.chg hSw id); clear hSw; go_simp; try with_reducible rfl)
          clear inv; intro inv; try simp only [sw1, sw2, sw3]
          refine tkT 33 36 ?v1329 inv hHeld ?h1329 ?_
          case h1329 => (intro V' hSw; obtain ⟨z0, z1, z2, z3, z4, z5, z6, z7, z8, z9, z10⟩ := cells11 (HB1.out.chg hSw id); clear hSw; go_simp; try with_reducible rfl)
          clear inv; intro inv; try simp only [sw1, sw2, sw3]
          refine tkT 34 37 ?v1330 inv hHeld ?h1330 ?_
          case h1330 => (intro V' hSw; obtain ⟨z0, z1, z2, z3, z4, z5, z6, z7, z8, z9, z10⟩ := cells11 (HB1.out.chg hSw id); clear hSw; go_simp; try with_reducible rfl)
          clear inv; intro inv; try simp only [sw1, sw2, sw3]
          refine callT (i := 35) (t := 38) (f := 95) (args := #[.int .i64 7, .int .i64 16]) rfl (by kernel_rfl) rfl (by rfl) ?hx128 inv (by decide) ?hc128
          case hx128 => (go_simp; try rfl)
          case hc128 =>
            refine (within_T 7 16 (by decide) (by decide) _).mono ?_
            rintro e w2 ⟨rfl, hc⟩
            refine ⟨_, rfl, hHeld.trans hc, fun inv2 hHeld2 => ?_⟩
            clear inv hHeld
            have inv := inv2
            have hHeld := hHeld2
            clear inv2 hHeld2
            try simp only [sw1, sw2, sw3]
            refine tkT 36 39 (.bool false) inv hHeld ?h1331 ?_
            case h1331 => (intro V' hSw; obtain ⟨z0, z1, z2, z3, z4, z5, z6, z7, z8, z9, z10⟩ := cells11 (HB1.out.chg hSw id); clear hSw; go_simp; try with_reducible rfl)
            clear inv; intro inv; try simp only [sw1, sw2, sw3]
            refine tkT 37 40 (.bool false) inv hHeld ?h1332 ?_
            case h1332 => (intro V' hSw; obtain ⟨z0, z1, z2, z3, z4, z5, z6, z7, z8, z9, z10⟩ := cells11 (HB1.out.chg hSw id); clear hSw; go_simp; try with_reducible rfl)
            clear inv; intro inv; try simp only [sw1, sw2, sw3]
            refine tkT 38 41 (.bool false) inv hHeld ?h1333 ?_
            case h1333 => (intro V' hSw; obtain ⟨z0, z1, z2, z3, z4, z5, z6, z7, z8, z9, z10⟩ := cells11 (HB1.out.chg hSw id); clear hSw; go_simp; try with_reducible rfl)
            clear inv; intro inv; try simp only [sw1, sw2, sw3]
            refine tkT 39 42 ?v1334 inv hHeld ?h1334 ?_
            case h1334 => (intro V' hSw; obtain ⟨z0, z1, z2, z3, z4, z5, z6, z7, z8, z9, z10⟩ := cells11 (HB1.out.chg hSw id); clear hSw; go_simp; try with_reducible rfl)
            clear inv; intro inv; try simp only [sw1, sw2, sw3]
            refine tkT 40 43 ?v1335 inv hHeld ?h1335 ?_
            case h1335 => (intro V' hSw; obtain ⟨z0, z1, z2, z3, z4, z5, z6, z7, z8, z9, z10⟩ := cells11 (HB1.out.chg hSw id); clear hSw; go_simp; try with_reducible rfl)
            clear inv; intro inv; try simp only [sw1, sw2, sw3]
            refine callT (i := 41) (t := 44) (f := 95) (args := #[.int .i64 0, .int .i64 65536]) rfl (by kernel_rfl) rfl (by rfl) ?hx134 inv (by decide) ?hc134
            case hx134 => (go_simp; try rfl)
            case hc134 =>
              refine (within_T 0 65536 (by decide) (by decide) _).mono ?_
              rintro e w2 ⟨rfl, hc⟩
              refine ⟨_, rfl, hHeld.trans hc, fun inv2 hHeld2 => ?_⟩
              clear inv hHeld
              have inv := inv2
              have hHeld := hHeld2
              clear inv2 hHeld2
              try simp only [sw1, sw2, sw3]
              refine tkT 42 45 (.bool false) inv hHeld ?h1336 ?_
              case h1336 => (intro V' hSw; obtain ⟨z0, z1, z2, z3, z4, z5, z6, z7, z8, z9, z10⟩ := cells11 (HB1.out.chg hSw id); clear hSw; go_simp; try with_reducible rfl)
              clear inv; intro inv; try simp only [sw1, sw2, sw3]
              refine tkT 43 46 (.bool false) inv hHeld ?h1337 ?_
              case h1337 => (intro V' hSw; obtain ⟨z0, z1, z2, z3, z4, z5, z6, z7, z8, z9, z10⟩ := cells11 (HB1.out.chg hSw id); clear hSw; go_simp; try with_reducible rfl)
              clear inv; intro inv; try simp only [sw1, sw2, sw3]
              refine tkT 44 47 (.bool false) inv hHeld ?h1338 ?_
              case h1338 => (intro V' hSw; obtain ⟨z0, z1, z2, z3, z4, z5, z6, z7, z8, z9, z10⟩ := cells11 (HB1.out.chg hSw id); clear hSw; go_simp; try with_reducible rfl)
              clear inv; intro inv; try simp only [sw1, sw2, sw3]
              refine tkT 45 48 ?v1339 inv hHeld ?h1339 ?_
              case h1339 => (intro V' hSw; obtain ⟨z0, z1, z2, z3, z4, z5, z6, z7, z8, z9, z10⟩ := cells11 (HB1.out.chg hSw id); clear hSw; go_simp; try with_reducible rfl)
              clear inv; intro inv; try simp only [sw1, sw2, sw3]
              refine tkT 46 49 ?v1340 inv hHeld ?h1340 ?_
              case h1340 => (intro V' hSw; obtain ⟨z0, z1, z2, z3, z4, z5, z6, z7, z8, z9, z10⟩ := cells11 (HB1.out.chg hSw id); clear hSw; go_simp; try with_reducible rfl)
              clear inv; intro inv; try simp only [sw1, sw2, sw3]
              refine callT (i := 47) (t := 50) (f := 95) (args := #[.int .i64 0, .int .i64 256]) rfl (by kernel_rfl) rfl (by rfl) ?hx140 inv (by decide) ?hc140
              case hx140 => (go_simp; try rfl)
              case hc140 =>
                refine (within_T 0 256 (by decide) (by decide) _).mono ?_
                rintro e w2 ⟨rfl, hc⟩
                refine ⟨_, rfl, hHeld.trans hc, fun inv2 hHeld2 => ?_⟩
                clear inv hHeld
                have inv := inv2
                have hHeld := hHeld2
                clear inv2 hHeld2
                try simp only [sw1, sw2, sw3]
                refine tkT 48 51 (.bool false) inv hHeld ?h1341 ?_
                case h1341 => (intro V' hSw; obtain ⟨z0, z1, z2, z3, z4, z5, z6, z7, z8, z9, z10⟩ := cells11 (HB1.out.chg hSw id); clear hSw; go_simp; try with_reducible rfl)
                clear inv; intro inv; try simp only [sw1, sw2, sw3]
                refine tkT 49 52 (.bool false) inv hHeld ?h1342 ?_
                case h1342 => (intro V' hSw; obtain ⟨z0, z1, z2, z3, z4, z5, z6, z7, z8, z9, z10⟩ := cells11 (HB1.out.chg hSw id); clear hSw; go_simp; try with_reducible rfl)
                clear inv; intro inv; try simp only [sw1, sw2, sw3]
                refine tkT 50 53 (.bool false) inv hHeld ?h1343 ?_
                case h1343 => (intro V' hSw; obtain ⟨z0, z1, z2, z3, z4, z5, z6, z7, z8, z9, z10⟩ := cells11 (HB1.out.chg hSw id); clear hSw; go_simp; try with_reducible rfl)
                clear inv; intro inv; try simp only [sw1, sw2, sw3]
                refine tkT 51 54 ?v1344 inv hHeld ?h1344 ?_
                case h1344 => (intro V' hSw; obtain ⟨z0, z1, z2, z3, z4, z5, z6, z7, z8, z9, z10⟩ := cells11 (HB1.out.chg hSw id); clear hSw; go_simp; try with_reducible rfl)
                clear inv; intro inv; try simp only [sw1, sw2, sw3]
                refine tkT 52 55 ?v1345 inv hHeld ?h1345 ?_
                case h1345 => (intro V' hSw; obtain ⟨z0, z1, z2, z3, z4, z5, z6, z7, z8, z9, z10⟩ := cells11 (HB1.out.chg hSw id); clear hSw; go_simp; try with_reducible rfl)
                clear inv; intro inv; try simp only [sw1, sw2, sw3]
                refine callT (i := 53) (t := 56) (f := 95) (args := #[.int .i64 0, .int .i64 12]) rfl (by kernel_rfl) rfl (by rfl) ?hx146 inv (by decide) ?hc146
                case hx146 => (go_simp; try rfl)
                case hc146 =>
                  refine (within_T 0 12 (by decide) (by decide) _).mono ?_
                  rintro e w2 ⟨rfl, hc⟩
                  refine ⟨_, rfl, hHeld.trans hc, fun inv2 hHeld2 => ?_⟩
                  clear inv hHeld
                  have inv := inv2
                  have hHeld := hHeld2
                  clear inv2 hHeld2
                  try simp only [sw1, sw2, sw3]
                  refine tkT 54 57 (.bool false) inv hHeld ?h1346 ?_
                  case h1346 => (intro V' hSw; obtain ⟨z0, z1, z2, z3, z4, z5, z6, z7, z8, z9, z10⟩ := cells11 (HB1.out.chg hSw id); clear hSw; go_simp; try with_reducible rfl)
                  clear inv; intro inv; try simp only [sw1, sw2, sw3]
                  refine lastV (i := 55) (t := 58) (v := .bool false) (w' := w2) rfl (by kernel_rfl) rfl (by rfl) ?hx148 (by decide) (by kernel_rfl) ?_
                  case hx148 => (go_simp; try with_reducible rfl)
                  clear inv
                  have HX := Go.Lib.hid (HC.out.trans hHeld)
                  have z0 : w2.cell? ⟨b1, 0, none⟩ = some (.int .i64 4) := (HB1.out.chg hHeld id).cell 0
                  have z1 : w2.cell? ⟨b1, 1, none⟩ = some (.bool false) := (HB1.out.chg hHeld id).cell 1
                  have z2 : w2.cell? ⟨b1, 2, none⟩ = some (.bool true) := (HB1.out.chg hHeld id).cell 2
                  have z3 : w2.cell? ⟨b1, 3, none⟩ = some (.int .i64 0) := (HB1.out.chg hHeld id).cell 3
                  have z4 : w2.cell? ⟨b1, 4, none⟩ = some (.int .i64 0) := (HB1.out.chg hHeld id).cell 4
                  have z5 : w2.cell? ⟨b1, 5, none⟩ = some (.int .i64 0) := (HB1.out.chg hHeld id).cell 5
                  have z6 : w2.cell? ⟨b1, 6, none⟩ = some (.int .i64 0) := (HB1.out.chg hHeld id).cell 6
                  have z7 : w2.cell? ⟨b1, 7, none⟩ = some (.int .i64 0) := (HB1.out.chg hHeld id).cell 7
                  have z8 : w2.cell? ⟨b1, 8, none⟩ = some (.int .i64 0) := (HB1.out.chg hHeld id).cell 8
                  have z9 : w2.cell? ⟨b1, 9, none⟩ = some (.int .i64 7) := (HB1.out.chg hHeld id).cell 9
                  have z10 : w2.cell? ⟨b1, 10, none⟩ = some (.int .i64 0) := (HB1.out.chg hHeld id).cell 10
                  go_wp2_with fail
                  go_ret
                  exact ⟨rfl, HX.out⟩
set_option maxRecDepth 100000 in
theorem isaWord_jump (W : World) : Calls Try.prog 83 #[.agg #[.int .i64 4, .bool false, .bool true, .int .i64 0, .int .i64 0, .int .i64 0, .int .i64 0, .int .i64 0, .int .i64 0, .int .i64 7, .int .i64 0]] W fun e w' => e = .returned (.tuple #[.int .u32 4143972352, .int .i64 0]) ∧ Chg NoB W w' := by
  have HC : Hid (Chg NoB W (W.alloc (.cells #[.int .i64 4, .bool false, .bool true, .int .i64 0, .int .i64 0, .int .i64 0, .int .i64 0, .int .i64 0, .int .i64 0, .int .i64 7, .int .i64 0] INS))) := Go.Lib.hid ((Chg.refl NoB W).alloc _)
  have HB1 : Hid (Blk (W.alloc (.cells #[.int .i64 4, .bool false, .bool true, .int .i64 0, .int .i64 0, .int .i64 0, .int .i64 0, .int .i64 0, .int .i64 0, .int .i64 7, .int .i64 0] INS)) W.heap.size INS #[.int .i64 4, .bool false, .bool true, .int .i64 0, .int .i64 0, .int .i64 0, .int .i64 0, .int .i64 0, .int .i64 0, .int .i64 7, .int .i64 0]) := Go.Lib.hid (Blk.new W INS _)
  go_enter Try.func83, Try.ntmps83
  go_wp2_with fail
  refine (may_jump _).mono ?_
  rintro e w1 ⟨rfl, hc⟩
  have HC1 := Go.Lib.hid (HC.out.trans hc)
  have HB := Go.Lib.hid (HB1.out.chg hc id)
  generalize W.heap.size = b1 at *
  clear hc HB1 HC
  have z0 : w1.cell? ⟨b1, 0, none⟩ = some (.int .i64 4) := HB.out.cell 0
  have z1 : w1.cell? ⟨b1, 1, none⟩ = some (.bool false) := HB.out.cell 1
  have z2 : w1.cell? ⟨b1, 2, none⟩ = some (.bool true) := HB.out.cell 2
  have z3 : w1.cell? ⟨b1, 3, none⟩ = some (.int .i64 0) := HB.out.cell 3
  have z4 : w1.cell? ⟨b1, 4, none⟩ = some (.int .i64 0) := HB.out.cell 4
  have z5 : w1.cell? ⟨b1, 5, none⟩ = some (.int .i64 0) := HB.out.cell 5
  have z6 : w1.cell? ⟨b1, 6, none⟩ = some (.int .i64 0) := HB.out.cell 6
  have z7 : w1.cell? ⟨b1, 7, none⟩ = some (.int .i64 0) := HB.out.cell 7
  have z8 : w1.cell? ⟨b1, 8, none⟩ = some (.int .i64 0) := HB.out.cell 8
  have z9 : w1.cell? ⟨b1, 9, none⟩ = some (.int .i64 7) := HB.out.cell 9
  have z10 : w1.cell? ⟨b1, 10, none⟩ = some (.int .i64 0) := HB.out.cell 10
  go_wp2_with fail
  refine (pack_jump _).mono ?_
  rintro e w2 ⟨rfl, hc⟩
  have HC2 := Go.Lib.hid (HC1.out.trans hc)
  clear hc
  go_wp2_with fail
  refine bodyPost_ret (results_tmp2 rfl _ _ _) rfl ?_
  exact ⟨rfl, HC2.out⟩
set_option maxRecDepth 100000 in
set_option maxHeartbeats 8000000 in
theorem bare_sys (W : World) : Calls Try.prog 94 #[.agg #[.int .i64 6, .bool false, .bool false, .int .i64 0, .int .i64 0, .int .i64 0, .int .i64 0, .int .i64 0, .int .i64 0, .int .i64 7, .int .i64 16]] W fun e w' => e = .returned (.agg #[.int .i64 6, .bool false, .bool false, .int .i64 0, .int .i64 0, .int .i64 0, .int .i64 0, .int .i64 0, .int .i64 0, .int .i64 7, .int .i64 16]) ∧ Chg NoB W w' := by
  go_enter Try.func94, Try.ntmps94
  have HC : Hid (Chg NoB W (((W.alloc (.cells #[.int .i64 6, .bool false, .bool false, .int .i64 0, .int .i64 0, .int .i64 0, .int .i64 0, .int .i64 0, .int .i64 0, .int .i64 7, .int .i64 16] INS)).alloc (.cells #[.int .i64 0, .bool false, .bool false, .int .i64 0, .int .i64 0, .int .i64 0, .int .i64 0, .int .i64 0, .int .i64 0, .int .i64 0, .int .i64 0] INS)).alloc (.cells #[.int .i64 6, .bool false, .bool false, .int .i64 0, .int .i64 0, .int .i64 0, .int .i64 0, .int .i64 0, .int .i64 0, .int .i64 0, .int .i64 0] INS))) := Go.Lib.hid ((((Chg.refl NoB W).alloc _).alloc _).alloc _)
  have HB1 : Hid (Blk (((W.alloc (.cells #[.int .i64 6, .bool false, .bool false, .int .i64 0, .int .i64 0, .int .i64 0, .int .i64 0, .int .i64 0, .int .i64 0, .int .i64 7, .int .i64 16] INS)).alloc (.cells #[.int .i64 0, .bool false, .bool false, .int .i64 0, .int .i64 0, .int .i64 0, .int .i64 0, .int .i64 0, .int .i64 0, .int .i64 0, .int .i64 0] INS)).alloc (.cells #[.int .i64 6, .bool false, .bool false, .int .i64 0, .int .i64 0, .int .i64 0, .int .i64 0, .int .i64 0, .int .i64 0, .int .i64 0, .int .i64 0] INS)) W.heap.size INS #[.int .i64 6, .bool false, .bool false, .int .i64 0, .int .i64 0, .int .i64 0, .int .i64 0, .int .i64 0, .int .i64 0, .int .i64 7, .int .i64 16]) := Go.Lib.hid (((Blk.new W INS _).alloc _).alloc _)
  have HB3 : Hid (Blk (((W.alloc (.cells #[.int .i64 6, .bool false, .bool false, .int .i64 0, .int .i64 0, .int .i64 0, .int .i64 0, .int .i64 0, .int .i64 0, .int .i64 7, .int .i64 16] INS)).alloc (.cells #[.int .i64 0, .bool false, .bool false, .int .i64 0, .int .i64 0, .int .i64 0, .int .i64 0, .int .i64 0, .int .i64 0, .int .i64 0, .int .i64 0] INS)).alloc (.cells #[.int .i64 6, .bool false, .bool false, .int .i64 0, .int .i64 0, .int .i64 0, .int .i64 0, .int .i64 0, .int .i64 0, .int .i64 0, .int .i64 0] INS)) (W.heap.size + 1 + 1) INS #[.int .i64 6, .bool false, .bool false, .int .i64 0, .int .i64 0, .int .i64 0, .int .i64 0, .int .i64 0, .int .i64 0, .int .i64 0, .int .i64 0]) := Go.Lib.hid (by
    have := Blk.new ((W.alloc (.cells #[.int .i64 6, .bool false, .bool false, .int .i64 0, .int .i64 0, .int .i64 0, .int .i64 0, .int .i64 0, .int .i64 0, .int .i64 7, .int .i64 16] INS)).alloc (.cells #[.int .i64 0, .bool false, .bool false, .int .i64 0, .int .i64 0, .int .i64 0, .int .i64 0, .int .i64 0, .int .i64 0, .int .i64 0, .int .i64 0] INS)) INS #[.int .i64 6, .bool false, .bool false, .int .i64 0, .int .i64 0, .int .i64 0, .int .i64 0, .int .i64 0, .int .i64 0, .int .i64 0, .int .i64 0]
    simpa using this)
  have HB2 : Hid (Blk (((W.alloc (.cells #[.int .i64 6, .bool false, .bool false, .int .i64 0, .int .i64 0, .int .i64 0, .int .i64 0, .int .i64 0, .int .i64 0, .int .i64 7, .int .i64 16] INS)).alloc (.cells #[.int .i64 0, .bool false, .bool false, .int .i64 0, .int .i64 0, .int .i64 0, .int .i64 0, .int .i64 0, .int .i64 0, .int .i64 0, .int .i64 0] INS)).alloc (.cells #[.int .i64 6, .bool false, .bool false, .int .i64 0, .int .i64 0, .int .i64 0, .int .i64 0, .int .i64 0, .int .i64 0, .int .i64 0, .int .i64 0] INS)) (W.heap.size + 1) INS #[.int .i64 0, .bool false, .bool false, .int .i64 0, .int .i64 0, .int .i64 0, .int .i64 0, .int .i64 0, .int .i64 0, .int .i64 0, .int .i64 0]) := Go.Lib.hid (by
    have := (Blk.new (W.alloc (.cells #[.int .i64 6, .bool false, .bool false, .int .i64 0, .int .i64 0, .int .i64 0, .int .i64 0, .int .i64 0, .int .i64 0, .int .i64 7, .int .i64 16] INS)) INS #[.int .i64 0, .bool false, .bool false, .int .i64 0, .int .i64 0, .int .i64 0, .int .i64 0, .int .i64 0, .int .i64 0, .int .i64 0, .int .i64 0]).alloc (.cells #[.int .i64 6, .bool false, .bool false, .int .i64 0, .int .i64 0, .int .i64 0, .int .i64 0, .int .i64 0, .int .i64 0, .int .i64 0, .int .i64 0] INS)
    simpa using this)
  have HNE : Hid (W.heap.size ≠ W.heap.size + 1 + 1 ∧ W.heap.size ≤ W.heap.size + 1 + 1) := Go.Lib.hid ⟨by omega, by omega⟩
  go_wp2_with fail
  generalize ((W.alloc (.cells #[.int .i64 6, .bool false, .bool false, .int .i64 0, .int .i64 0, .int .i64 0, .int .i64 0, .int .i64 0, .int .i64 0, .int .i64 7, .int .i64 16] INS)).alloc (.cells #[.int .i64 0, .bool false, .bool false, .int .i64 0, .int .i64 0, .int .i64 0, .int .i64 0, .int .i64 0, .int .i64 0, .int .i64 0, .int .i64 0] INS)).alloc (.cells #[.int .i64 6, .bool false, .bool false, .int .i64 0, .int .i64 0, .int .i64 0, .int .i64 0, .int .i64 0, .int .i64 0, .int .i64 0, .int .i64 0] INS) = w0 at *
  obtain ⟨b1, hb1⟩ : ∃ b, W.heap.size = b := ⟨_, rfl⟩
  obtain ⟨b2, hb2⟩ : ∃ b, W.heap.size + 1 = b := ⟨_, rfl⟩
  obtain ⟨b3, hb3⟩ : ∃ b, W.heap.size + 1 + 1 = b := ⟨_, rfl⟩
  have HSB2 : Hid (W.heap.size ≤ b2) := Go.Lib.hid (by omega)
  have HNE2 : Hid (b2 ≠ b3) := Go.Lib.hid (by omega)
  rw [hb3] at HB3 HNE ⊢
  rw [hb2] at HB2 ⊢
  rw [hb1] at HB1 HNE ⊢
  have HSZ : Hid (W.heap.size ≤ b3) := Go.Lib.hid (by omega)
  have HNE : Hid (b1 ≠ b3 ∧ W.heap.size ≤ b3) := Go.Lib.hid ⟨HNE.out.1, HSZ.out⟩
  clear hb1 hb2 hb3 HSZ
  have hb1d := HB1.out.drew
  refine regionT 7 (fun V' => Blk V' b1 INS #[.int .i64 6, .bool false, .bool false, .int .i64 0, .int .i64 0, .int .i64 0, .int .i64 0, .int .i64 0, .int .i64 0, .int .i64 7, .int .i64 16]) (by kernel_rfl) (by decide) hb1d (fun inv hHeld => ?_)
  clear hb1d
  refine tkT 0 76 ?v1347 inv hHeld ?h1347 ?_
  case h1347 => (intro V' hSw; obtain ⟨z0, z1, z2, z3, z4, z5, z6, z7, z8, z9, z10⟩ := cells11 hSw; clear hSw; go_simp; try with_reducible rfl)
  clear inv; intro inv; try simp only [sw1, sw2, sw3]
  refine tkT 1 77 ?v1348 inv hHeld ?h1348 ?_
  case h1348 => (intro V' hSw; obtain ⟨z0, z1, z2, z3, z4, z5, z6, z7, z8, z9, z10⟩ := cells11 hSw; clear hSw; go_simp; try with_reducible rfl)
  clear inv; intro inv; try simp only [sw1, sw2, sw3]
  refine tkT 2 78 ?v1349 inv hHeld ?h1349 ?_
  case h1349 => (intro V' hSw; obtain ⟨z0, z1, z2, z3, z4, z5, z6, z7, z8, z9, z10⟩ := cells11 hSw; clear hSw; go_simp; try with_reducible rfl)
  clear inv; intro inv; try simp only [sw1, sw2, sw3]
  refine tkT 3 79 ?v1350 inv hHeld ?h1350 ?_
  case h1350 => (intro V' hSw; obtain ⟨z0, z1, z2, z3, z4, z5, z6, z7, z8, z9, z10⟩ := cells11 hSw; clear hSw; go_simp; try with_reducible rfl)
  clear inv; intro inv; try simp only [sw1, sw2, sw3]
  refine tkT 4 80 ?v1351 inv hHeld ?h1351 ?_
  case h1351 => (intro V' hSw; obtain ⟨z0, z1, z2, z3, z4, z5, z6, z7, z8, z9, z10⟩ := cells11 hSw; clear hSw; go_simp; try with_reducible rfl)
  clear inv; intro inv; try simp only [sw1, sw2, sw3]
  have hb3 : Blk (w0.drew) b3 INS #[.int .i64 6, .bool false, .bool false, .int .i64 0, .int .i64 0, .int .i64 0, .int .i64 0, .int .i64 0, .int .i64 0, .int .i64 0, .int .i64 0] := HB3.out.drew
  refine storeT (i := 5) (w' := (w0.drew).setCell ⟨b3, 9, none⟩ (.int .i64 7)) rfl (by kernel_rfl) rfl (by rfl) ?hx154 inv (by decide) (hHeld.far (p := ⟨b3, 9, none⟩) (fun e => HNE.out.1 e) (.int .i64 7)) ?hy154
  case hx154 => (have z : w0.cell? ⟨b3, 9, none⟩ = some (.int .i64 0) := HB3.out.cell 9; have zf : w0.frozen? ⟨b3, 9, none⟩ = false := HB3.out.frozen 9; clear hb3; go_simp; try with_reducible rfl)
  clear inv hHeld
  intro inv hHeld
  try simp only [sw1, sw2, sw3]
  have hb3 : Blk ((w0.drew).setCell ⟨b3, 9, none⟩ (.int .i64 7)) b3 INS #[.int .i64 6, .bool false, .bool false, .int .i64 0, .int .i64 0, .int .i64 0, .int .i64 0, .int .i64 0, .int .i64 0, .int .i64 7, .int .i64 0] := hb3.set_ 9 (.int .i64 7)
  refine tkT 6 81 ?v1352 inv hHeld ?h1352 ?_
  case h1352 => (intro V' hSw; obtain ⟨z0, z1, z2, z3, z4, z5, z6, z7, z8, z9, z10⟩ := cells11 hSw; clear hSw; go_simp; try with_reducible rfl)
  clear inv; intro inv; try simp only [sw1, sw2, sw3]
  refine lastT (i := 7) (w' := ((w0.drew).setCell ⟨b3, 9, none⟩ (.int .i64 7)).setCell ⟨b3, 10, none⟩ (.int .i64 16)) rfl (by kernel_rfl) rfl (by rfl) ?hx156 (by decide) (by kernel_rfl) ?_
  case hx156 => (have z : w0.cell? ⟨b3, 10, none⟩ = some (.int .i64 0) := HB3.out.cell 10; have zf : w0.frozen? ⟨b3, 10, none⟩ = false := HB3.out.frozen 10; clear hb3; go_simp; try with_reducible rfl)
  clear inv hHeld
  have hb3 : Blk (((w0.drew).setCell ⟨b3, 9, none⟩ (.int .i64 7)).setCell ⟨b3, 10, none⟩ (.int .i64 16)) b3 INS #[.int .i64 6, .bool false, .bool false, .int .i64 0, .int .i64 0, .int .i64 0, .int .i64 0, .int .i64 0, .int .i64 0, .int .i64 7, .int .i64 16] := hb3.set_ 10 (.int .i64 16)
  have HC := Go.Lib.hid (sets_chg HC.out HNE.out.2 [(9, .int .i64 7), (10, .int .i64 16)])
  have HB1 := Go.Lib.hid (sets_far HB1.out HNE.out.1 [(9, .int .i64 7), (10, .int .i64 16)])
  have HB3 := Go.Lib.hid hb3
  have HB2 := Go.Lib.hid (sets_far HB2.out HNE2.out [(9, .int .i64 7), (10, .int .i64 16)])
  clear hb3
  change Hid (Chg NoB W (((w0.drew).setCell ⟨b3, 9, none⟩ (.int .i64 7)).setCell ⟨b3, 10, none⟩ (.int .i64 16))) at HC
  change Hid (Blk (((w0.drew).setCell ⟨b3, 9, none⟩ (.int .i64 7)).setCell ⟨b3, 10, none⟩ (.int .i64 16)) b2 INS #[.int .i64 0, .bool false, .bool false, .int .i64 0, .int .i64 0, .int .i64 0, .int .i64 0, .int .i64 0, .int .i64 0, .int .i64 0, .int .i64 0]) at HB2
  change Hid (Blk (((w0.drew).setCell ⟨b3, 9, none⟩ (.int .i64 7)).setCell ⟨b3, 10, none⟩ (.int .i64 16)) b1 INS #[.int .i64 6, .bool false, .bool false, .int .i64 0, .int .i64 0, .int .i64 0, .int .i64 0, .int .i64 0, .int .i64 0, .int .i64 7, .int .i64 16]) at HB1
  generalize ((w0.drew).setCell ⟨b3, 9, none⟩ (.int .i64 7)).setCell ⟨b3, 10, none⟩ (.int .i64 16) = w1 at *
  have z0 : w1.cell? ⟨b1, 0, none⟩ = some (.int .i64 6) := HB1.out.cell 0
  have z1 : w1.cell? ⟨b1, 1, none⟩ = some (.bool false) := HB1.out.cell 1
  have z2 : w1.cell? ⟨b1, 2, none⟩ = some (.bool false) := HB1.out.cell 2
  have z3 : w1.cell? ⟨b1, 3, none⟩ = some (.int .i64 0) := HB1.out.cell 3
  have z4 : w1.cell? ⟨b1, 4, none⟩ = some (.int .i64 0) := HB1.out.cell 4
  have z5 : w1.cell? ⟨b1, 5, none⟩ = some (.int .i64 0) := HB1.out.cell 5
  have z6 : w1.cell? ⟨b1, 6, none⟩ = some (.int .i64 0) := HB1.out.cell 6
  have z7 : w1.cell? ⟨b1, 7, none⟩ = some (.int .i64 0) := HB1.out.cell 7
  have z8 : w1.cell? ⟨b1, 8, none⟩ = some (.int .i64 0) := HB1.out.cell 8
  have z9 : w1.cell? ⟨b1, 9, none⟩ = some (.int .i64 7) := HB1.out.cell 9
  have z10 : w1.cell? ⟨b1, 10, none⟩ = some (.int .i64 16) := HB1.out.cell 10
  have y0 : w1.cell? ⟨b3, 0, none⟩ = some (.int .i64 6) := HB3.out.cell 0
  have y1 : w1.cell? ⟨b3, 1, none⟩ = some (.bool false) := HB3.out.cell 1
  have y2 : w1.cell? ⟨b3, 2, none⟩ = some (.bool false) := HB3.out.cell 2
  have y3 : w1.cell? ⟨b3, 3, none⟩ = some (.int .i64 0) := HB3.out.cell 3
  have y4 : w1.cell? ⟨b3, 4, none⟩ = some (.int .i64 0) := HB3.out.cell 4
  have y5 : w1.cell? ⟨b3, 5, none⟩ = some (.int .i64 0) := HB3.out.cell 5
  have y6 : w1.cell? ⟨b3, 6, none⟩ = some (.int .i64 0) := HB3.out.cell 6
  have y7 : w1.cell? ⟨b3, 7, none⟩ = some (.int .i64 0) := HB3.out.cell 7
  have y8 : w1.cell? ⟨b3, 8, none⟩ = some (.int .i64 0) := HB3.out.cell 8
  have y9 : w1.cell? ⟨b3, 9, none⟩ = some (.int .i64 7) := HB3.out.cell 9
  have y10 : w1.cell? ⟨b3, 10, none⟩ = some (.int .i64 16) := HB3.out.cell 10
  go_wp2_with (refine wpList_store_row rfl 108 (.tmp 2) (.tmp 82) rfl b2 #[.int .i64 6, .bool false, .bool false, .int .i64 0, .int .i64 0, .int .i64 0, .int .i64 0, .int .i64 0, .int .i64 0, .int .i64 7, .int .i64 16] rfl rfl INS #[.int .i64 0, .bool false, .bool false, .int .i64 0, .int .i64 0, .int .i64 0, .int .i64 0, .int .i64 0, .int .i64 0, .int .i64 0, .int .i64 0] HB2.out (by kernel_rfl) (by rfl) (by kernel_rfl) ?_)
  refine bodyPost_ret (results_cell_row rfl _ _ b2 INS #[.int .i64 6, .bool false, .bool false, .int .i64 0, .int .i64 0, .int .i64 0, .int .i64 0, .int .i64 0, .int .i64 0, .int .i64 7, .int .i64 16] (0, 0) _ rfl (HB2.out.rowSet_ _) Try.underlying108 rfl (by kernel_rfl)) rfl ?_
  exact ⟨rfl, HC.out.setRow_ HSB2.out _⟩
set_option maxRecDepth 100000 in
theorem put_3_0_1 {W : World} {b : Nat} (hb : Blk W b 29 #[.int .u32 3]) : Calls Try.prog 97 #[.int .i64 0, .int .i64 1, .pointer (some ⟨b, 0, none⟩)] W fun e w' => e = .returned (.tuple #[]) ∧ w' = W.drew.setCell ⟨b, 0, none⟩ (.int .u32 6) := by
  have HB := Go.Lib.hid hb
  have z0 : W.cell? ⟨b, 0, none⟩ = some (.int .u32 3) := hb.cell 0
  have zf : W.frozen? ⟨b, 0, none⟩ = false := hb.frozen 0
  clear hb
  go_enter Try.func97, Try.ntmps97
  go_wp2_with fail
  refine regionT 10 (fun V' => V'.cell? ⟨b, 0, none⟩ = some (.int .u32 3)) (by kernel_rfl) (by decide) (HB.out.drew.cell 0) (fun inv hHeld => ?_)
  refine tkW 0 5 (.int .u32 3) inv hHeld ?_
  clear inv; intro inv; try simp only [sw1, sw2, sw3]
  refine tkW 1 6 (.int .i64 1) inv hHeld ?_
  clear inv; intro inv; try simp only [sw1, sw2, sw3]
  refine tkW 2 7 (.int .u32 6) inv hHeld ?_
  clear inv; intro inv; try simp only [sw1, sw2, sw3]
  refine tkW 3 8 (.int .i64 0) inv hHeld ?_
  clear inv; intro inv; try simp only [sw1, sw2, sw3]
  refine tkW 4 9 (.int .u32 0) inv hHeld ?_
  clear inv; intro inv; try simp only [sw1, sw2, sw3]
  refine tkW 5 10 (.int .i64 1) inv hHeld ?_
  clear inv; intro inv; try simp only [sw1, sw2, sw3]
  refine tkW 6 11 (.int .u32 2) inv hHeld ?_
  clear inv; intro inv; try simp only [sw1, sw2, sw3]
  refine tkW 7 12 (.int .u32 1) inv hHeld ?_
  clear inv; intro inv; try simp only [sw1, sw2, sw3]
  refine tkW 8 13 (.int .u32 0) inv hHeld ?_
  clear inv; intro inv; try simp only [sw1, sw2, sw3]
  refine tkW 9 14 (.int .u32 6) inv hHeld ?_
  clear inv; intro inv; try simp only [sw1, sw2, sw3]
  refine lastT (i := 10) (w' := W.drew.setCell ⟨b, 0, none⟩ (.int .u32 6)) rfl (by kernel_rfl) rfl (by rfl) ?hx (by decide) (by kernel_rfl) ?_
  case hx => (go_simp; try with_reducible rfl)
  clear inv hHeld
  go_wp2_with fail
  go_end0
  exact ⟨rfl, rfl⟩
set_option maxRecDepth 100000 in
theorem put_6_1_1 {W : World} {b : Nat} (hb : Blk W b 29 #[.int .u32 6]) : Calls Try.prog 97 #[.int .i64 1, .int .i64 1, .pointer (some ⟨b, 0, none⟩)] W fun e w' => e = .returned (.tuple #[]) ∧ w' = W.drew.setCell ⟨b, 0, none⟩ (.int .u32 13) := by
  have HB := Go.Lib.hid hb
  have z0 : W.cell? ⟨b, 0, none⟩ = some (.int .u32 6) := hb.cell 0
  have zf : W.frozen? ⟨b, 0, none⟩ = false := hb.frozen 0
  clear hb
  go_enter Try.func97, Try.ntmps97
  go_wp2_with fail
  refine regionT 10 (fun V' => V'.cell? ⟨b, 0, none⟩ = some (.int .u32 6)) (by kernel_rfl) (by decide) (HB.out.drew.cell 0) (fun inv hHeld => ?_)
  refine tkW 0 5 (.int .u32 6) inv hHeld ?_
  clear inv; intro inv; try simp only [sw1, sw2, sw3]
  refine tkW 1 6 (.int .i64 1) inv hHeld ?_
  clear inv; intro inv; try simp only [sw1, sw2, sw3]
  refine tkW 2 7 (.int .u32 12) inv hHeld ?_
  clear inv; intro inv; try simp only [sw1, sw2, sw3]
  refine tkW 3 8 (.int .i64 1) inv hHeld ?_
  clear inv; intro inv; try simp only [sw1, sw2, sw3]
  refine tkW 4 9 (.int .u32 1) inv hHeld ?_
  clear inv; intro inv; try simp only [sw1, sw2, sw3]
  refine tkW 5 10 (.int .i64 1) inv hHeld ?_
  clear inv; intro inv; try simp only [sw1, sw2, sw3]
  refine tkW 6 11 (.int .u32 2) inv hHeld ?_
  clear inv; intro inv; try simp only [sw1, sw2, sw3]
  refine tkW 7 12 (.int .u32 1) inv hHeld ?_
  clear inv; intro inv; try simp only [sw1, sw2, sw3]
  refine tkW 8 13 (.int .u32 1) inv hHeld ?_
  clear inv; intro inv; try simp only [sw1, sw2, sw3]
  refine tkW 9 14 (.int .u32 13) inv hHeld ?_
  clear inv; intro inv; try simp only [sw1, sw2, sw3]
  refine lastT (i := 10) (w' := W.drew.setCell ⟨b, 0, none⟩ (.int .u32 13)) rfl (by kernel_rfl) rfl (by rfl) ?hx (by decide) (by kernel_rfl) ?_
  case hx => (go_simp; try with_reducible rfl)
  clear inv hHeld
  go_wp2_with fail
  go_end0
  exact ⟨rfl, rfl⟩
set_option maxRecDepth 100000 in
theorem put_13_7_4 {W : World} {b : Nat} (hb : Blk W b 29 #[.int .u32 13]) : Calls Try.prog 97 #[.int .i64 7, .int .i64 4, .pointer (some ⟨b, 0, none⟩)] W fun e w' => e = .returned (.tuple #[]) ∧ w' = W.drew.setCell ⟨b, 0, none⟩ (.int .u32 215) := by
  have HB := Go.Lib.hid hb
  have z0 : W.cell? ⟨b, 0, none⟩ = some (.int .u32 13) := hb.cell 0
  have zf : W.frozen? ⟨b, 0, none⟩ = false := hb.frozen 0
  clear hb
  go_enter Try.func97, Try.ntmps97
  go_wp2_with fail
  refine regionT 10 (fun V' => V'.cell? ⟨b, 0, none⟩ = some (.int .u32 13)) (by kernel_rfl) (by decide) (HB.out.drew.cell 0) (fun inv hHeld => ?_)
  refine tkW 0 5 (.int .u32 13) inv hHeld ?_
  clear inv; intro inv; try simp only [sw1, sw2, sw3]
  refine tkW 1 6 (.int .i64 4) inv hHeld ?_
  clear inv; intro inv; try simp only [sw1, sw2, sw3]
  refine tkW 2 7 (.int .u32 208) inv hHeld ?_
  clear inv; intro inv; try simp only [sw1, sw2, sw3]
  refine tkW 3 8 (.int .i64 7) inv hHeld ?_
  clear inv; intro inv; try simp only [sw1, sw2, sw3]
  refine tkW 4 9 (.int .u32 7) inv hHeld ?_
  clear inv; intro inv; try simp only [sw1, sw2, sw3]
  refine tkW 5 10 (.int .i64 4) inv hHeld ?_
  clear inv; intro inv; try simp only [sw1, sw2, sw3]
  refine tkW 6 11 (.int .u32 16) inv hHeld ?_
  clear inv; intro inv; try simp only [sw1, sw2, sw3]
  refine tkW 7 12 (.int .u32 15) inv hHeld ?_
  clear inv; intro inv; try simp only [sw1, sw2, sw3]
  refine tkW 8 13 (.int .u32 7) inv hHeld ?_
  clear inv; intro inv; try simp only [sw1, sw2, sw3]
  refine tkW 9 14 (.int .u32 215) inv hHeld ?_
  clear inv; intro inv; try simp only [sw1, sw2, sw3]
  refine lastT (i := 10) (w' := W.drew.setCell ⟨b, 0, none⟩ (.int .u32 215)) rfl (by kernel_rfl) rfl (by rfl) ?hx (by decide) (by kernel_rfl) ?_
  case hx => (go_simp; try with_reducible rfl)
  clear inv hHeld
  go_wp2_with fail
  go_end0
  exact ⟨rfl, rfl⟩
set_option maxRecDepth 100000 in
theorem put_215_268_24 {W : World} {b : Nat} (hb : Blk W b 29 #[.int .u32 215]) : Calls Try.prog 97 #[.int .i64 268, .int .i64 24, .pointer (some ⟨b, 0, none⟩)] W fun e w' => e = .returned (.tuple #[]) ∧ w' = W.drew.setCell ⟨b, 0, none⟩ (.int .u32 3607101708) := by
  have HB := Go.Lib.hid hb
  have z0 : W.cell? ⟨b, 0, none⟩ = some (.int .u32 215) := hb.cell 0
  have zf : W.frozen? ⟨b, 0, none⟩ = false := hb.frozen 0
  clear hb
  go_enter Try.func97, Try.ntmps97
  go_wp2_with fail
  refine regionT 10 (fun V' => V'.cell? ⟨b, 0, none⟩ = some (.int .u32 215)) (by kernel_rfl) (by decide) (HB.out.drew.cell 0) (fun inv hHeld => ?_)
  refine tkW 0 5 (.int .u32 215) inv hHeld ?_
  clear inv; intro inv; try simp only [sw1, sw2, sw3]
  refine tkW 1 6 (.int .i64 24) inv hHeld ?_
  clear inv; intro inv; try simp only [sw1, sw2, sw3]
  refine tkW 2 7 (.int .u32 3607101440) inv hHeld ?_
  clear inv; intro inv; try simp only [sw1, sw2, sw3]
  refine tkW 3 8 (.int .i64 268) inv hHeld ?_
  clear inv; intro inv; try simp only [sw1, sw2, sw3]
  refine tkW 4 9 (.int .u32 268) inv hHeld ?_
  clear inv; intro inv; try simp only [sw1, sw2, sw3]
  refine tkW 5 10 (.int .i64 24) inv hHeld ?_
  clear inv; intro inv; try simp only [sw1, sw2, sw3]
  refine tkW 6 11 (.int .u32 16777216) inv hHeld ?_
  clear inv; intro inv; try simp only [sw1, sw2, sw3]
  refine tkW 7 12 (.int .u32 16777215) inv hHeld ?_
  clear inv; intro inv; try simp only [sw1, sw2, sw3]
  refine tkW 8 13 (.int .u32 268) inv hHeld ?_
  clear inv; intro inv; try simp only [sw1, sw2, sw3]
  refine tkW 9 14 (.int .u32 3607101708) inv hHeld ?_
  clear inv; intro inv; try simp only [sw1, sw2, sw3]
  refine lastT (i := 10) (w' := W.drew.setCell ⟨b, 0, none⟩ (.int .u32 3607101708)) rfl (by kernel_rfl) rfl (by rfl) ?hx (by decide) (by kernel_rfl) ?_
  case hx => (go_simp; try with_reducible rfl)
  clear inv hHeld
  go_wp2_with fail
  go_end0
  exact ⟨rfl, rfl⟩
set_option maxRecDepth 100000 in
set_option maxHeartbeats 8000000 in
theorem pack_sys (W : World) : Calls Try.prog 90 #[.agg #[.int .i64 6, .bool false, .bool false, .int .i64 0, .int .i64 0, .int .i64 0, .int .i64 0, .int .i64 0, .int .i64 0, .int .i64 7, .int .i64 16]] W fun e w' => e = .returned (.int .u32 3607101708) ∧ Chg NoB W w' := by
  have HC : Hid (Chg NoB W ((W.alloc (.cells #[.int .i64 6, .bool false, .bool false, .int .i64 0, .int .i64 0, .int .i64 0, .int .i64 0, .int .i64 0, .int .i64 0, .int .i64 7, .int .i64 16] INS)).alloc (.cells #[.int .u32 0] 29))) := Go.Lib.hid (((Chg.refl NoB W).alloc _).alloc _)
  have HB1 : Hid (Blk ((W.alloc (.cells #[.int .i64 6, .bool false, .bool false, .int .i64 0, .int .i64 0, .int .i64 0, .int .i64 0, .int .i64 0, .int .i64 0, .int .i64 7, .int .i64 16] INS)).alloc (.cells #[.int .u32 0] 29)) W.heap.size INS #[.int .i64 6, .bool false, .bool false, .int .i64 0, .int .i64 0, .int .i64 0, .int .i64 0, .int .i64 0, .int .i64 0, .int .i64 7, .int .i64 16]) := Go.Lib.hid ((Blk.new W INS _).alloc _)
  have HBW : Hid (Blk ((W.alloc (.cells #[.int .i64 6, .bool false, .bool false, .int .i64 0, .int .i64 0, .int .i64 0, .int .i64 0, .int .i64 0, .int .i64 0, .int .i64 7, .int .i64 16] INS)).alloc (.cells #[.int .u32 0] 29)) (W.heap.size + 1) 29 #[.int .u32 0]) := Go.Lib.hid (by
    have := Blk.new (W.alloc (.cells #[.int .i64 6, .bool false, .bool false, .int .i64 0, .int .i64 0, .int .i64 0, .int .i64 0, .int .i64 0, .int .i64 0, .int .i64 7, .int .i64 16] INS)) 29 #[.int .u32 0]
    simpa using this)
  have HW : Hid (∃ w, w = (W.alloc (.cells #[.int .i64 6, .bool false, .bool false, .int .i64 0, .int .i64 0, .int .i64 0, .int .i64 0, .int .i64 0, .int .i64 0, .int .i64 7, .int .i64 16] INS)).alloc (.cells #[.int .u32 0] 29)) := Go.Lib.hid ⟨_, rfl⟩
  have HNE : Hid (W.heap.size ≠ W.heap.size + 1 ∧ W.heap.size ≤ W.heap.size + 1) := Go.Lib.hid ⟨by omega, by omega⟩
  go_enter Try.func90, Try.ntmps90
  go_wp2_with fail
  refine (put_0_3_2 HBW.out).mono ?_
  rintro e wx ⟨rfl, rfl⟩
  have HC := Go.Lib.hid ((HC.out.drew).setCell (p := ⟨W.heap.size + 1, 0, none⟩) (fun hl => by have := HNE.out.2; simp at hl; omega) (.int .u32 3))
  have HB1 := Go.Lib.hid (HB1.out.drew.far (p := ⟨W.heap.size + 1, 0, none⟩) HNE.out.1 (.int .u32 3))
  have HBW : Hid (Blk ((((W.alloc (.cells #[.int .i64 6, .bool false, .bool false, .int .i64 0, .int .i64 0, .int .i64 0, .int .i64 0, .int .i64 0, .int .i64 0, .int .i64 7, .int .i64 16] INS)).alloc (.cells #[.int .u32 0] 29))).drew.setCell ⟨W.heap.size + 1, 0, none⟩ (.int .u32 3)) (W.heap.size + 1) 29 #[.int .u32 3]) := Go.Lib.hid (HBW.out.drew.set_ 0 (.int .u32 3))
  obtain ⟨b1, hb1⟩ : ∃ b, W.heap.size = b := ⟨_, rfl⟩
  obtain ⟨bw, hbw⟩ : ∃ b, W.heap.size + 1 = b := ⟨_, rfl⟩
  have HNE : Hid (b1 ≠ bw ∧ W.heap.size ≤ bw) := Go.Lib.hid ⟨by omega, by omega⟩
  generalize (((W.alloc (.cells #[.int .i64 6, .bool false, .bool false, .int .i64 0, .int .i64 0, .int .i64 0, .int .i64 0, .int .i64 0, .int .i64 0, .int .i64 7, .int .i64 16] INS)).alloc (.cells #[.int .u32 0] 29))).drew.setCell ⟨W.heap.size + 1, 0, none⟩ (.int .u32 3) = w1 at *
  rw [hbw] at HBW ⊢
  rw [hb1] at HB1 ⊢
  clear hb1 hbw
  have z0 : w1.cell? ⟨b1, 0, none⟩ = some (.int .i64 6) := HB1.out.cell 0
  have z1 : w1.cell? ⟨b1, 1, none⟩ = some (.bool false) := HB1.out.cell 1
  have z2 : w1.cell? ⟨b1, 2, none⟩ = some (.bool false) := HB1.out.cell 2
  have z3 : w1.cell? ⟨b1, 3, none⟩ = some (.int .i64 0) := HB1.out.cell 3
  have z4 : w1.cell? ⟨b1, 4, none⟩ = some (.int .i64 0) := HB1.out.cell 4
  have z5 : w1.cell? ⟨b1, 5, none⟩ = some (.int .i64 0) := HB1.out.cell 5
  have z6 : w1.cell? ⟨b1, 6, none⟩ = some (.int .i64 0) := HB1.out.cell 6
  have z7 : w1.cell? ⟨b1, 7, none⟩ = some (.int .i64 0) := HB1.out.cell 7
  have z8 : w1.cell? ⟨b1, 8, none⟩ = some (.int .i64 0) := HB1.out.cell 8
  have z9 : w1.cell? ⟨b1, 9, none⟩ = some (.int .i64 7) := HB1.out.cell 9
  have z10 : w1.cell? ⟨b1, 10, none⟩ = some (.int .i64 16) := HB1.out.cell 10
  go_wp2_with fail
  clear z0 z1 z2 z3 z4 z5 z6 z7 z8 z9 z10
  refine (bit_F _).mono ?_
  rintro e wx ⟨rfl, rfl⟩
  go_wp2_with fail
  refine (put_3_0_1 HBW.out).mono ?_
  rintro e wx ⟨rfl, rfl⟩
  have HC := Go.Lib.hid ((HC.out.drew).setCell (p := ⟨bw, 0, none⟩) (fun hl => by have := HNE.out.2; simp at hl; omega) (.int .u32 6))
  have HB1 := Go.Lib.hid (HB1.out.drew.far (p := ⟨bw, 0, none⟩) HNE.out.1 (.int .u32 6))
  have HBW : Hid (Blk ((w1).drew.setCell ⟨bw, 0, none⟩ (.int .u32 6)) bw 29 #[.int .u32 6]) := Go.Lib.hid (HBW.out.drew.set_ 0 (.int .u32 6))
  generalize (w1).drew.setCell ⟨bw, 0, none⟩ (.int .u32 6) = w2 at *
  have z0 : w2.cell? ⟨b1, 0, none⟩ = some (.int .i64 6) := HB1.out.cell 0
  have z1 : w2.cell? ⟨b1, 1, none⟩ = some (.bool false) := HB1.out.cell 1
  have z2 : w2.cell? ⟨b1, 2, none⟩ = some (.bool false) := HB1.out.cell 2
  have z3 : w2.cell? ⟨b1, 3, none⟩ = some (.int .i64 0) := HB1.out.cell 3
  have z4 : w2.cell? ⟨b1, 4, none⟩ = some (.int .i64 0) := HB1.out.cell 4
  have z5 : w2.cell? ⟨b1, 5, none⟩ = some (.int .i64 0) := HB1.out.cell 5
  have z6 : w2.cell? ⟨b1, 6, none⟩ = some (.int .i64 0) := HB1.out.cell 6
  have z7 : w2.cell? ⟨b1, 7, none⟩ = some (.int .i64 0) := HB1.out.cell 7
  have z8 : w2.cell? ⟨b1, 8, none⟩ = some (.int .i64 0) := HB1.out.cell 8
  have z9 : w2.cell? ⟨b1, 9, none⟩ = some (.int .i64 7) := HB1.out.cell 9
  have z10 : w2.cell? ⟨b1, 10, none⟩ = some (.int .i64 16) := HB1.out.cell 10
  go_wp2_with fail
  clear z0 z1 z2 z3 z4 z5 z6 z7 z8 z9 z10
  refine (bit_T _).mono ?_
  rintro e wx ⟨rfl, rfl⟩
  go_wp2_with fail
  refine (put_6_1_1 HBW.out).mono ?_
  rintro e wx ⟨rfl, rfl⟩
  have HC := Go.Lib.hid ((HC.out.drew).setCell (p := ⟨bw, 0, none⟩) (fun hl => by have := HNE.out.2; simp at hl; omega) (.int .u32 13))
  have HB1 := Go.Lib.hid (HB1.out.drew.far (p := ⟨bw, 0, none⟩) HNE.out.1 (.int .u32 13))
  have HBW : Hid (Blk ((w2).drew.setCell ⟨bw, 0, none⟩ (.int .u32 13)) bw 29 #[.int .u32 13]) := Go.Lib.hid (HBW.out.drew.set_ 0 (.int .u32 13))
  generalize (w2).drew.setCell ⟨bw, 0, none⟩ (.int .u32 13) = w3 at *
  have z0 : w3.cell? ⟨b1, 0, none⟩ = some (.int .i64 6) := HB1.out.cell 0
  have z1 : w3.cell? ⟨b1, 1, none⟩ = some (.bool false) := HB1.out.cell 1
  have z2 : w3.cell? ⟨b1, 2, none⟩ = some (.bool false) := HB1.out.cell 2
  have z3 : w3.cell? ⟨b1, 3, none⟩ = some (.int .i64 0) := HB1.out.cell 3
  have z4 : w3.cell? ⟨b1, 4, none⟩ = some (.int .i64 0) := HB1.out.cell 4
  have z5 : w3.cell? ⟨b1, 5, none⟩ = some (.int .i64 0) := HB1.out.cell 5
  have z6 : w3.cell? ⟨b1, 6, none⟩ = some (.int .i64 0) := HB1.out.cell 6
  have z7 : w3.cell? ⟨b1, 7, none⟩ = some (.int .i64 0) := HB1.out.cell 7
  have z8 : w3.cell? ⟨b1, 8, none⟩ = some (.int .i64 0) := HB1.out.cell 8
  have z9 : w3.cell? ⟨b1, 9, none⟩ = some (.int .i64 7) := HB1.out.cell 9
  have z10 : w3.cell? ⟨b1, 10, none⟩ = some (.int .i64 16) := HB1.out.cell 10
  go_wp2_with fail
  clear z0 z1 z2 z3 z4 z5 z6 z7 z8 z9 z10
  refine (put_13_7_4 HBW.out).mono ?_
  rintro e wx ⟨rfl, rfl⟩
  have HC := Go.Lib.hid ((HC.out.drew).setCell (p := ⟨bw, 0, none⟩) (fun hl => by have := HNE.out.2; simp at hl; omega) (.int .u32 215))
  have HB1 := Go.Lib.hid (HB1.out.drew.far (p := ⟨bw, 0, none⟩) HNE.out.1 (.int .u32 215))
  have HBW : Hid (Blk ((w3).drew.setCell ⟨bw, 0, none⟩ (.int .u32 215)) bw 29 #[.int .u32 215]) := Go.Lib.hid (HBW.out.drew.set_ 0 (.int .u32 215))
  generalize (w3).drew.setCell ⟨bw, 0, none⟩ (.int .u32 215) = w4 at *
  have z0 : w4.cell? ⟨b1, 0, none⟩ = some (.int .i64 6) := HB1.out.cell 0
  have z1 : w4.cell? ⟨b1, 1, none⟩ = some (.bool false) := HB1.out.cell 1
  have z2 : w4.cell? ⟨b1, 2, none⟩ = some (.bool false) := HB1.out.cell 2
  have z3 : w4.cell? ⟨b1, 3, none⟩ = some (.int .i64 0) := HB1.out.cell 3
  have z4 : w4.cell? ⟨b1, 4, none⟩ = some (.int .i64 0) := HB1.out.cell 4
  have z5 : w4.cell? ⟨b1, 5, none⟩ = some (.int .i64 0) := HB1.out.cell 5
  have z6 : w4.cell? ⟨b1, 6, none⟩ = some (.int .i64 0) := HB1.out.cell 6
  have z7 : w4.cell? ⟨b1, 7, none⟩ = some (.int .i64 0) := HB1.out.cell 7
  have z8 : w4.cell? ⟨b1, 8, none⟩ = some (.int .i64 0) := HB1.out.cell 8
  have z9 : w4.cell? ⟨b1, 9, none⟩ = some (.int .i64 7) := HB1.out.cell 9
  have z10 : w4.cell? ⟨b1, 10, none⟩ = some (.int .i64 16) := HB1.out.cell 10
  go_wp2_with fail
  clear z0 z1 z2 z3 z4 z5 z6 z7 z8 z9 z10
  refine (put_215_268_24 HBW.out).mono ?_
  rintro e wx ⟨rfl, rfl⟩
  have HC := Go.Lib.hid ((HC.out.drew).setCell (p := ⟨bw, 0, none⟩) (fun hl => by have := HNE.out.2; simp at hl; omega) (.int .u32 3607101708))
  have HB1 := Go.Lib.hid (HB1.out.drew.far (p := ⟨bw, 0, none⟩) HNE.out.1 (.int .u32 3607101708))
  have HBW : Hid (Blk ((w4).drew.setCell ⟨bw, 0, none⟩ (.int .u32 3607101708)) bw 29 #[.int .u32 3607101708]) := Go.Lib.hid (HBW.out.drew.set_ 0 (.int .u32 3607101708))
  generalize (w4).drew.setCell ⟨bw, 0, none⟩ (.int .u32 3607101708) = w5 at *
  have z0 : w5.cell? ⟨b1, 0, none⟩ = some (.int .i64 6) := HB1.out.cell 0
  have z1 : w5.cell? ⟨b1, 1, none⟩ = some (.bool false) := HB1.out.cell 1
  have z2 : w5.cell? ⟨b1, 2, none⟩ = some (.bool false) := HB1.out.cell 2
  have z3 : w5.cell? ⟨b1, 3, none⟩ = some (.int .i64 0) := HB1.out.cell 3
  have z4 : w5.cell? ⟨b1, 4, none⟩ = some (.int .i64 0) := HB1.out.cell 4
  have z5 : w5.cell? ⟨b1, 5, none⟩ = some (.int .i64 0) := HB1.out.cell 5
  have z6 : w5.cell? ⟨b1, 6, none⟩ = some (.int .i64 0) := HB1.out.cell 6
  have z7 : w5.cell? ⟨b1, 7, none⟩ = some (.int .i64 0) := HB1.out.cell 7
  have z8 : w5.cell? ⟨b1, 8, none⟩ = some (.int .i64 0) := HB1.out.cell 8
  have z9 : w5.cell? ⟨b1, 9, none⟩ = some (.int .i64 7) := HB1.out.cell 9
  have z10 : w5.cell? ⟨b1, 10, none⟩ = some (.int .i64 16) := HB1.out.cell 10
  have zw : w5.cell? ⟨bw, 0, none⟩ = some (.int .u32 3607101708) := HBW.out.cell 0
  go_wp2_with fail
  go_ret
  exact ⟨rfl, HC.out⟩
set_option maxRecDepth 100000 in
set_option maxHeartbeats 16000000 in
theorem may_sys (W : World) : Calls Try.prog 89 #[.agg #[.int .i64 6, .bool false, .bool false, .int .i64 0, .int .i64 0, .int .i64 0, .int .i64 0, .int .i64 0, .int .i64 0, .int .i64 7, .int .i64 16]] W fun e w' => e = .returned (.bool true) ∧ Chg NoB W w' := by
  have HC : Hid (Chg NoB W (W.alloc (.cells #[.int .i64 6, .bool false, .bool false, .int .i64 0, .int .i64 0, .int .i64 0, .int .i64 0, .int .i64 0, .int .i64 0, .int .i64 7, .int .i64 16] INS))) := Go.Lib.hid ((Chg.refl NoB W).alloc _)
  have HB1 : Hid (Blk (W.alloc (.cells #[.int .i64 6, .bool false, .bool false, .int .i64 0, .int .i64 0, .int .i64 0, .int .i64 0, .int .i64 0, .int .i64 0, .int .i64 7, .int .i64 16] INS)) W.heap.size INS #[.int .i64 6, .bool false, .bool false, .int .i64 0, .int .i64 0, .int .i64 0, .int .i64 0, .int .i64 0, .int .i64 0, .int .i64 7, .int .i64 16]) := Go.Lib.hid (Blk.new W INS _)
  go_enter Try.func89, Try.ntmps89
  go_wp2_with fail
  generalize W.alloc (.cells #[.int .i64 6, .bool false, .bool false, .int .i64 0, .int .i64 0, .int .i64 0, .int .i64 0, .int .i64 0, .int .i64 0, .int .i64 7, .int .i64 16] INS) = w0 at *
  generalize W.heap.size = b1 at *
  refine regionT 55 (fun V' => Chg NoB (w0) V') (by kernel_rfl) (by decide) ((Chg.refl NoB w0).drew) (fun inv hHeld => ?_)
  refine tkT 0 3 ?v1393 inv hHeld ?h1393 ?_
  case h1393 => (intro V' hSw; obtain ⟨z0, z1, z2, z3, z4, z5, z6, z7, z8, z9, z10⟩ := cells11 (HB1.out.chg hSw id); clear hSw; go_simp; try with_reducible rfl)
  clear inv; intro inv; try simp only [sw1, sw2, sw3]
  refine tkT 1 4 ?v1394 inv hHeld ?h1394 ?_
  case h1394 => (intro V' hSw; obtain ⟨z0, z1, z2, z3, z4, z5, z6, z7, z8, z9, z10⟩ := cells11 (HB1.out.chg hSw id); clear hSw; go_simp; try with_reducible rfl)
  clear inv; intro inv; try simp only [sw1, sw2, sw3]
  refine callT (i := 2) (t := 5) (f := 94) (args := #[.agg #[.int .i64 6, .bool false, .bool false, .int .i64 0, .int .i64 0, .int .i64 0, .int .i64 0, .int .i64 0, .int .i64 0, .int .i64 7, .int .i64 16]]) rfl (by kernel_rfl) rfl (by rfl) ?hx159 inv (by decide) ?hc159
  case hx159 => (go_simp; try rfl)
  case hc159 =>
    refine (bare_sys _).mono ?_
    rintro e w2 ⟨rfl, hc⟩
    refine ⟨_, rfl, hHeld.trans hc, fun inv2 hHeld2 => ?_⟩
    clear inv hHeld
    have inv := inv2
    have hHeld := hHeld2
    clear inv2 hHeld2
    try simp only [sw1, sw2, sw3]
    refine tkT 3 6 (.bool false) inv hHeld ?h1395 ?_
    case h1395 => (intro V' hSw; obtain ⟨z0, z1, z2, z3, z4, z5, z6, z7, z8, z9, z10⟩ := cells11 (HB1.out.chg hSw id); clear hSw; go_simp; try with_reducible rfl)
    clear inv; intro inv; try simp only [sw1, sw2, sw3]
    refine tkT 4 7 (.bool false) inv hHeld ?h1396 ?_
    case h1396 => (intro V' hSw; obtain ⟨z0, z1, z2, z3, z4, z5, z6, z7, z8, z9, z10⟩ := cells11 (HB1.out.chg hSw id); clear hSw; go_simp; try with_reducible rfl)
    clear inv; intro inv; try simp only [sw1, sw2, sw3]
    refine tkT 5 8 ?v1397 inv hHeld ?h1397 ?_
    case h1397 => (intro V' hSw; obtain ⟨z0, z1, z2, z3, z4, z5, z6, z7, z8, z9, z10⟩ := cells11 (HB1.out.chg hSw id); clear hSw; go_simp; try with_reducible rfl)
    clear inv; intro inv; try simp only [sw1, sw2, sw3]
    refine tkT 6 9 ?v1398 inv hHeld ?h1398 ?_
    case h1398 => (intro V' hSw; obtain ⟨z0, z1, z2, z3, z4, z5, z6, z7, z8, z9, z10⟩ := cells11 (HB1.out.chg hSw id); clear hSw; go_simp; try with_reducible rfl)
    clear inv; intro inv; try simp only [sw1, sw2, sw3]
    refine tkT 7 10 (.bool false) inv hHeld ?h1399 ?_
    case h1399 => (intro V' hSw; obtain ⟨z0, z1, z2, z3, z4, z5, z6, z7, z8, z9, z10⟩ := cells11 (HB1.out.chg hSw id); clear hSw; go_simp; try with_reducible rfl)
    clear inv; intro inv; try simp only [sw1, sw2, sw3]
    refine tkT 8 11 (.bool false) inv hHeld ?h1400 ?_
    case h1400 => (intro V' hSw; obtain ⟨z0, z1, z2, z3, z4, z5, z6, z7, z8, z9, z10⟩ := cells11 (HB1.out.chg hSw id); clear hSw; go_simp; try with_reducible rfl)
    clear inv; intro inv; try simp only [sw1, sw2, sw3]
    refine tkT 9 12 (.bool false) inv hHeld ?h1401 ?_
    case h1401 => (intro V' hSw; obtain ⟨z0, z1, z2, z3, z4, z5, z6, z7, z8, z9, z10⟩ := cells11 (HB1.out.chg hSw id); clear hSw; go_simp; try with_reducible rfl)
    clear inv; intro inv; try simp only [sw1, sw2, sw3]
    refine tkT 10 13 ?v1402 inv hHeld ?h1402 ?_
    case h1402 => (intro V' hSw; obtain ⟨z0, z1, z2, z3, z4, z5, z6, z7, z8, z9, z10⟩ := cells11 (HB1.out.chg hSw id); clear hSw; go_simp; try with_reducible rfl)
    clear inv; intro inv; try simp only [sw1, sw2, sw3]
    refine tkT 11 14 ?v1403 inv hHeld ?h1403 ?_
    case h1403 => (intro V' hSw; obtain ⟨z0, z1, z2, z3, z4, z5, z6, z7, z8, z9, z10⟩ := cells11 (HB1.out.chg hSw id); clear hSw; go_simp; try with_reducible rfl)
    clear inv; intro inv; try simp only [sw1, sw2, sw3]
    refine tkT 12 15 (.bool false) inv hHeld ?h1404 ?_
    case h1404 => (intro V' hSw; obtain ⟨z0, z1, z2, z3, z4, z5, z6, z7, z8, z9, z10⟩ := cells11 (HB1.out.chg hSw id); clear hSw; go_simp; try with_reducible rfl)
    clear inv; intro inv; try simp only [sw1, sw2, sw3]
    refine tkT 13 16 (.bool false) inv hHeld ?h1405 ?_
    case h1405 => (intro V' hSw; obtain ⟨z0, z1, z2, z3, z4, z5, z6, z7, z8, z9, z10⟩ := cells11 (HB1.out.chg hSw id); clear hSw; go_simp; try with_reducible rfl)
    clear inv; intro inv; try simp only [sw1, sw2, sw3]
    refine tkT 14 17 (.bool false) inv hHeld ?h1406 ?_
    case h1406 => (intro V' hSw; obtain ⟨z0, z1, z2, z3, z4, z5, z6, z7, z8, z9, z10⟩ := cells11 (HB1.out.chg hSw id); clear hSw; go_simp; try with_reducible rfl)
    clear inv; intro inv; try simp only [sw1, sw2, sw3]
    refine tkT 15 18 ?v1407 inv hHeld ?h1407 ?_
    case h1407 => (intro V' hSw; obtain ⟨z0, z1, z2, z3, z4, z5, z6, z7, z8, z9, z10⟩ := cells11 (HB1.out.chg hSw id); clear hSw; go_simp; try with_reducible rfl)
    clear inv; intro inv; try simp only [sw1, sw2, sw3]
    refine tkT 16 19 ?v1408 inv hHeld ?h1408 ?_
    case h1408 => (intro V' hSw; obtain ⟨z0, z1, z2, z3, z4, z5, z6, z7, z8, z9, z10⟩ := cells11 (HB1.out.chg hSw id); clear hSw; go_simp; try with_reducible rfl)
    clear inv; intro inv; try simp only [sw1, sw2, sw3]
    refine callT (i := 17) (t := 20) (f := 95) (args := #[.int .i64 0, .int .i64 16]) rfl (by kernel_rfl) rfl (by rfl) ?hx174 inv (by decide) ?hc174
    case hx174 => (go_simp; try rfl)
    case hc174 =>
      refine (within_T 0 16 (by decide) (by decide) _).mono ?_
      rintro e w2 ⟨rfl, hc⟩
      refine ⟨_, rfl, hHeld.trans hc, fun inv2 hHeld2 => ?_⟩
      clear inv hHeld
      have inv := inv2
      have hHeld := hHeld2
      clear inv2 hHeld2
      try simp only [sw1, sw2, sw3]
      refine tkT 18 21 (.bool false) inv hHeld ?h1409 ?_
      case h1409 => (intro V' hSw; obtain ⟨z0, z1, z2, z3, z4, z5, z6, z7, z8, z9, z10⟩ := cells11 (HB1.out.chg hSw id); clear hSw; go_simp; try with_reducible rfl)
      clear inv; intro inv; try simp only [sw1, sw2, sw3]
      refine tkT 19 22 (.bool false) inv hHeld ?h1410 ?_
      case h1410 => (intro V' hSw; obtain ⟨z0, z1, z2, z3, z4, z5, z6, z7, z8, z9, z10⟩ := cells11 (HB1.out.chg hSw id); clear hSw; go_simp; try with_reducible rfl)
      clear inv; intro inv; try simp only [sw1, sw2, sw3]
      refine tkT 20 23 (.bool false) inv hHeld ?h1411 ?_
      case h1411 => (intro V' hSw; obtain ⟨z0, z1, z2, z3, z4, z5, z6, z7, z8, z9, z10⟩ := cells11 (HB1.out.chg hSw id); clear hSw; go_simp; try with_reducible rfl)
      clear inv; intro inv; try simp only [sw1, sw2, sw3]
      refine tkT 21 24 ?v1412 inv hHeld ?h1412 ?_
      case h1412 => (intro V' hSw; obtain ⟨z0, z1, z2, z3, z4, z5, z6, z7, z8, z9, z10⟩ := cells11 (HB1.out.chg hSw id); clear hSw; go_simp; try with_reducible rfl)
      clear inv; intro inv; try simp only [sw1, sw2, sw3]
      refine tkT 22 25 ?v1413 inv hHeld ?h1413 ?_
      case h1413 => (intro V' hSw; obtain ⟨z0, z1, z2, z3, z4, z5, z6, z7, z8, z9, z10⟩ := cells11 (HB1.out.chg hSw id); clear hSw; go_simp; try with_reducible rfl)
      clear inv; intro inv; try simp only [sw1, sw2, sw3]
      refine callT (i := 23) (t := 26) (f := 95) (args := #[.int .i64 0, .int .i64 16]) rfl (by kernel_rfl) rfl (by rfl) ?hx180 inv (by decide) ?hc180
      case hx180 => (go_simp; try rfl)
      case hc180 =>
        refine (within_T 0 16 (by decide) (by decide) _).mono ?_
        rintro e w2 ⟨rfl, hc⟩
        refine ⟨_, rfl, hHeld.trans hc, fun inv2 hHeld2 => ?_⟩
        clear inv hHeld
        have inv := inv2
        have hHeld := hHeld2
        clear inv2 hHeld2
        try simp only [sw1, sw2, sw3]
        refine tkT 24 27 (.bool false) inv hHeld ?h1414 ?_
        case h1414 => (intro V' hSw; obtain ⟨z0, z1, z2, z3, z4, z5, z6, z7, z8, z9, z10⟩ := cells11 (HB1.out.chg hSw id); clear hSw; go_simp; try with_reducible rfl)
        clear inv; intro inv; try simp only [sw1, sw2, sw3]
        refine tkT 25 28 (.bool false) inv hHeld ?h1415 ?_
        case h1415 => (intro V' hSw; obtain ⟨z0, z1, z2, z3, z4, z5, z6, z7, z8, z9, z10⟩ := cells11 (HB1.out.chg hSw id); clear hSw; go_simp; try with_reducible rfl)
        clear inv; intro inv; try simp only [sw1, sw2, sw3]
        refine tkT 26 29 (.bool false) inv hHeld ?h1416 ?_
        case h1416 => (intro V' hSw; obtain ⟨z0, z1, z2, z3, z4, z5, z6, z7, z8, z9, z10⟩ := cells11 (HB1.out.chg hSw id); clear hSw; go_simp; try with_reducible rfl)
        clear inv; intro inv; try simp only [sw1, sw2, sw3]
        refine tkT 27 30 ?v1417 inv hHeld ?h1417 ?_
        case h1417 => (intro V' hSw; obtain ⟨z0, z1, z2, z3, z4, z5, z6, z7, z8, z9, z10⟩ := cells11 (HB1.out.chg hSw id); clear hSw; go_simp; try with_reducible rfl)
        clear inv; intro inv; try simp only [sw1, sw2, sw3]
        refine tkT 28 31 ?v1418 inv hHeld ?h1418 ?_
        case h1418 => (intro V' hSw; obtain ⟨z0, z1, z2, z3, z4, z5, z6, z7, z8, z9, z10⟩ := cells11 (HB1.out.chg hSw id); clear hSw; go_simp; try with_reducible rfl)
        clear inv; intro inv; try simp only [sw1, sw2, sw3]
        refine callT (i := 29) (t := 32) (f := 95) (args := #[.int .i64 0, .int .i64 16]) rfl (by kernel_rfl) rfl (by rfl) ?hx186 inv (by decide) ?hc186
        case hx186 => (go_simp; try rfl)
        case hc186 =>
          refine (within_T 0 16 (by decide) (by decide) _).mono ?_
          rintro e w2 ⟨rfl, hc⟩
          refine ⟨_, rfl, hHeld.trans hc, fun inv2 hHeld2 => ?_⟩
          clear inv hHeld
          have inv := inv2
          have hHeld := hHeld2
          clear inv2 hHeld2
          try simp only [sw1, sw2, sw3]
          refine tkT 30 33 (.bool false) inv hHeld ?h1419 ?_
          case h1419 => (intro V' hSw; obtain ⟨z0, z1, z2, z3, z4, z5, z6, z7, z8, z9, z10⟩ := cells11 (HB1.out.chg hSw id); clear hSw; go_simp; try with_reducible rfl)
          clear inv; intro inv; try simp only [sw1, sw2, sw3]
          refine tkT 31 34 (.bool false) inv hHeld ?h1420 ?_
          case h1420 => (intro V' hSw; obtain ⟨z0, z1, z2, z3, z4, z5, z6, z7, z8, z9, z10⟩ := cells11 (HB1.out.chg hSw id); clear hSw; go_simp; try with_reducible rfl)
          clear inv; intro inv; try simp only [sw1, sw2, sw3]
          refine tkT 32 35 (.bool false) inv hHeld ?h1421 ?_
          case h1421 => (intro V' hSw; obtain ⟨z0, z1, z2, z3, z4, z5, z6, z7, z8, z9, z10⟩ := cells11 (HB1.out.chg hSw id); clear hSw; go_simp; try with_reducible rfl)
          clear inv; intro inv; try simp only [sw1, sw2, sw3]
          refine tkT 33 36 ?v1422 inv hHeld ?h1422 ?_
          case h1422 => (intro V' hSw; obtain ⟨z0, z1, z2, z3, z4, z5, z6, z7, z8, z9, z10⟩ := cells11 (HB1.out.chg hSw id); clear hSw; go_simp; try with_reducible rfl)
          clear inv; intro inv; try simp only [sw1, sw2, sw3]
          refine tkT 34 37 ?v1423 inv hHeld ?h1423 ?_
          case h1423 => (intro V' hSw; obtain ⟨z0, z1, z2, z3, z4, z5, z6, z7, z8, z9, z10⟩ := cells11 (HB1.out.chg hSw id); clear hSw; go_simp; try with_reducible rfl)
          clear inv; intro inv; try simp only [sw1, sw2, sw3]
          refine callT (i := 35) (t := 38) (f := 95) (args := #[.int .i64 7, .int .i64 16]) rfl (by kernel_rfl) rfl (by rfl) ?hx192 inv (by decide) ?hc192
          case hx192 => (go_simp; try rfl)
          case hc192 =>
            refine (within_T 7 16 (by decide) (by decide) _).mono ?_
            rintro e w2 ⟨rfl, hc⟩
            refine ⟨_, rfl, hHeld.trans hc, fun inv2 hHeld2 => ?_⟩
            clear inv hHeld
            have inv := inv2
            have hHeld := hHeld2
            clear inv2 hHeld2
            try simp only [sw1, sw2, sw3]
            refine tkT 36 39 (.bool false) inv hHeld ?h1424 ?_
            case h1424 => (intro V' hSw; obtain ⟨z0, z1, z2, z3, z4, z5, z6, z7, z8, z9, z10⟩ := cells11 (HB1.out.chg hSw id); clear hSw; go_simp; try with_reducible rfl)
            clear inv; intro inv; try simp only [sw1, sw2, sw3]
            refine tkT 37 40 (.bool false) inv hHeld ?h1425 ?_
            case h1425 => (intro V' hSw; obtain ⟨z0, z1, z2, z3, z4, z5, z6, z7, z8, z9, z10⟩ := cells11 (HB1.out.chg hSw id); clear hSw; go_simp; try with_reducible rfl)
            clear inv; intro inv; try simp only [sw1, sw2, sw3]
            refine tkT 38 41 (.bool false) inv hHeld ?h1426 ?_
            case h1426 => (intro V' hSw; obtain ⟨z0, z1, z2, z3, z4, z5, z6, z7, z8, z9, z10⟩ := cells11 (HB1.out.chg hSw id); clear hSw; go_simp; try with_reducible rfl)
            clear inv; intro inv; try simp only [sw1, sw2, sw3]
            refine tkT 39 42 ?v1427 inv hHeld ?h1427 ?_
            case h1427 => (intro V' hSw; obtain ⟨z0, z1, z2, z3, z4, z5, z6, z7, z8, z9, z10⟩ := cells11 (HB1.out.chg hSw id); clear hSw; go_simp; try with_reducible rfl)
            clear inv; intro inv; try simp only [sw1, sw2, sw3]
            refine tkT 40 43 ?v1428 inv hHeld ?h1428 ?_
            case h1428 => (intro V' hSw; obtain ⟨z0, z1, z2, z3, z4, z5, z6, z7, z8, z9, z10⟩ := cells11 (HB1.out.chg hSw id); clear hSw; go_simp; try with_reducible rfl)
            clear inv; intro inv; try simp only [sw1, sw2, sw3]
            refine callT (i := 41) (t := 44) (f := 95) (args := #[.int .i64 0, .int .i64 65536]) rfl (by kernel_rfl) rfl (by rfl) ?hx198 inv (by decide) ?hc198
            case hx198 => (go_simp; try rfl)
            case hc198 =>
              refine (within_T 0 65536 (by decide) (by decide) _).mono ?_
              rintro e w2 ⟨rfl, hc⟩
              refine ⟨_, rfl, hHeld.trans hc, fun inv2 hHeld2 => ?_⟩
              clear inv hHeld
              have inv := inv2
              have hHeld := hHeld2
              clear inv2 hHeld2
              try simp only [sw1, sw2, sw3]
              refine tkT 42 45 (.bool false) inv hHeld ?h1429 ?_
              case h1429 => (intro V' hSw; obtain ⟨z0, z1, z2, z3, z4, z5, z6, z7, z8, z9, z10⟩ := cells11 (HB1.out.chg hSw id); clear hSw; go_simp; try with_reducible rfl)
              clear inv; intro inv; try simp only [sw1, sw2, sw3]
              refine tkT 43 46 (.bool false) inv hHeld ?h1430 ?_
              case h1430 => (intro V' hSw; obtain ⟨z0, z1, z2, z3, z4, z5, z6, z7, z8, z9, z10⟩ := cells11 (HB1.out.chg hSw id); clear hSw; go_simp; try with_reducible rfl)
              clear inv; intro inv; try simp only [sw1, sw2, sw3]
              refine tkT 44 47 (.bool false) inv hHeld ?h1431 ?_
              case h1431 => (intro V' hSw; obtain ⟨z0, z1, z2, z3, z4, z5, z6, z7, z8, z9, z10⟩ := cells11 (HB1.out.chg hSw id); clear hSw; go_simp; try with_reducible rfl)
              clear inv; intro inv; try simp only [sw1, sw2, sw3]
              refine tkT 45 48 ?v1432 inv hHeld ?h1432 ?_
              case h1432 => (intro V' hSw; obtain ⟨z0, z1, z2, z3, z4, z5, z6, z7, z8, z9, z10⟩ := cells11 (HB1.out.chg hSw id); clear hSw; go_simp; try with_reducible rfl)
              clear inv; intro inv; try simp only [sw1, sw2, sw3]
              refine tkT 46 49 ?v1433 inv hHeld ?h1433 ?_
              case h1433 => (intro V' hSw; obtain ⟨z0, z1, z2, z3, z4, z5, z6, z7, z8, z9, z10⟩ := cells11 (HB1.out.chg hSw id); clear hSw; go_simp; try with_reducible rfl)
              clear inv; intro inv; try simp only [sw1, sw2, sw3]
              refine callT (i := 47) (t := 50) (f := 95) (args := #[.int .i64 16, .int .i64 256]) rfl (by kernel_rfl) rfl (by rfl) ?hx204 inv (by decide) ?hc204
              case hx204 => (go_simp; try rfl)
              case hc204 =>
                refine (within_T 16 256 (by decide) (by decide) _).mono ?_
                rintro e w2 ⟨rfl, hc⟩
                refine ⟨_, rfl, hHeld.trans hc, fun inv2 hHeld2 => ?_⟩
                clear inv hHeld
                have inv := inv2
                have hHeld := hHeld2
                clear inv2 hHeld2
                try simp only [sw1, sw2, sw3]
                refine tkT 48 51 (.bool false) inv hHeld ?h1434 ?_
                case h1434 => (intro V' hSw; obtain ⟨z0, z1, z2, z3, z4, z5, z6, z7, z8, z9, z10⟩ := cells11 (HB1.out.chg hSw id); clear hSw; go_simp; try with_reducible rfl)
                clear inv; intro inv; try simp only [sw1, sw2, sw3]
                refine tkT 49 52 (.bool false) inv hHeld ?h1435 ?_
                case h1435 => (intro V' hSw; obtain ⟨z0, z1, z2, z3, z4, z5, z6, z7, z8, z9, z10⟩ := cells11 (HB1.out.chg hSw id); clear hSw; go_simp; try with_reducible rfl)
                clear inv; intro inv; try simp only [sw1, sw2, sw3]
                refine tkT 50 53 (.bool false) inv hHeld ?h1436 ?_
                case h1436 => (intro V' hSw; obtain ⟨z0, z1, z2, z3, z4, z5, z6, z7, z8, z9, z10⟩ := cells11 (HB1.out.chg hSw id); clear hSw; go_simp; try with_reducible rfl)
                clear inv; intro inv; try simp only [sw1, sw2, sw3]
                refine tkT 51 54 ?v1437 inv hHeld ?h1437 ?_
                case h1437 => (intro V' hSw; obtain ⟨z0, z1, z2, z3, z4, z5, z6, z7, z8, z9, z10⟩ := cells11 (HB1.out.chg hSw id); clear hSw; go_simp; try with_reducible rfl)
                clear inv; intro inv; try simp only [sw1, sw2, sw3]
                refine tkT 52 55 ?v1438 inv hHeld ?h1438 ?_
                case h1438 => (intro V' hSw; obtain ⟨z0, z1, z2, z3, z4, z5, z6, z7, z8, z9, z10⟩ := cells11 (HB1.out.chg hSw id); clear hSw; go_simp; try with_reducible rfl)
                clear inv; intro inv; try simp only [sw1, sw2, sw3]
                refine callT (i := 53) (t := 56) (f := 95) (args := #[.int .i64 0, .int .i64 12]) rfl (by kernel_rfl) rfl (by rfl) ?hx210 inv (by decide) ?hc210
                case hx210 => (go_simp; try rfl)
                case hc210 =>
                  refine (within_T 0 12 (by decide) (by decide) _).mono ?_
                  rintro e w2 ⟨rfl, hc⟩
                  refine ⟨_, rfl, hHeld.trans hc, fun inv2 hHeld2 => ?_⟩
                  clear inv hHeld
                  have inv := inv2
                  have hHeld := hHeld2
                  clear inv2 hHeld2
                  try simp only [sw1, sw2, sw3]
                  refine tkT 54 57 (.bool false) inv hHeld ?h1439 ?_
                  case h1439 => (intro V' hSw; obtain ⟨z0, z1, z2, z3, z4, z5, z6, z7, z8, z9, z10⟩ := cells11 (HB1.out.chg hSw id); clear hSw; go_simp; try with_reducible rfl)
                  clear inv; intro inv; try simp only [sw1, sw2, sw3]
                  refine lastV (i := 55) (t := 58) (v := .bool false) (w' := w2) rfl (by kernel_rfl) rfl (by rfl) ?hx212 (by decide) (by kernel_rfl) ?_
                  case hx212 => (go_simp; try with_reducible rfl)
                  clear inv
                  have HX := Go.Lib.hid (HC.out.trans hHeld)
                  have z0 : w2.cell? ⟨b1, 0, none⟩ = some (.int .i64 6) := (HB1.out.chg hHeld id).cell 0
                  have z1 : w2.cell? ⟨b1, 1, none⟩ = some (.bool false) := (HB1.out.chg hHeld id).cell 1
                  have z2 : w2.cell? ⟨b1, 2, none⟩ = some (.bool false) := (HB1.out.chg hHeld id).cell 2
                  have z3 : w2.cell? ⟨b1, 3, none⟩ = some (.int .i64 0) := (HB1.out.chg hHeld id).cell 3
                  have z4 : w2.cell? ⟨b1, 4, none⟩ = some (.int .i64 0) := (HB1.out.chg hHeld id).cell 4
                  have z5 : w2.cell? ⟨b1, 5, none⟩ = some (.int .i64 0) := (HB1.out.chg hHeld id).cell 5
                  have z6 : w2.cell? ⟨b1, 6, none⟩ = some (.int .i64 0) := (HB1.out.chg hHeld id).cell 6
                  have z7 : w2.cell? ⟨b1, 7, none⟩ = some (.int .i64 0) := (HB1.out.chg hHeld id).cell 7
                  have z8 : w2.cell? ⟨b1, 8, none⟩ = some (.int .i64 0) := (HB1.out.chg hHeld id).cell 8
                  have z9 : w2.cell? ⟨b1, 9, none⟩ = some (.int .i64 7) := (HB1.out.chg hHeld id).cell 9
                  have z10 : w2.cell? ⟨b1, 10, none⟩ = some (.int .i64 16) := (HB1.out.chg hHeld id).cell 10
                  go_wp2_with fail
                  go_ret
                  exact ⟨rfl, HX.out⟩
set_option maxRecDepth 100000 in
theorem isaWord_sys (W : World) : Calls Try.prog 83 #[.agg #[.int .i64 6, .bool false, .bool false, .int .i64 0, .int .i64 0, .int .i64 0, .int .i64 0, .int .i64 0, .int .i64 0, .int .i64 7, .int .i64 16]] W fun e w' => e = .returned (.tuple #[.int .u32 3607101708, .int .i64 0]) ∧ Chg NoB W w' := by
  have HC : Hid (Chg NoB W (W.alloc (.cells #[.int .i64 6, .bool false, .bool false, .int .i64 0, .int .i64 0, .int .i64 0, .int .i64 0, .int .i64 0, .int .i64 0, .int .i64 7, .int .i64 16] INS))) := Go.Lib.hid ((Chg.refl NoB W).alloc _)
  have HB1 : Hid (Blk (W.alloc (.cells #[.int .i64 6, .bool false, .bool false, .int .i64 0, .int .i64 0, .int .i64 0, .int .i64 0, .int .i64 0, .int .i64 0, .int .i64 7, .int .i64 16] INS)) W.heap.size INS #[.int .i64 6, .bool false, .bool false, .int .i64 0, .int .i64 0, .int .i64 0, .int .i64 0, .int .i64 0, .int .i64 0, .int .i64 7, .int .i64 16]) := Go.Lib.hid (Blk.new W INS _)
  go_enter Try.func83, Try.ntmps83
  go_wp2_with fail
  refine (may_sys _).mono ?_
  rintro e w1 ⟨rfl, hc⟩
  have HC1 := Go.Lib.hid (HC.out.trans hc)
  have HB := Go.Lib.hid (HB1.out.chg hc id)
  generalize W.heap.size = b1 at *
  clear hc HB1 HC
  have z0 : w1.cell? ⟨b1, 0, none⟩ = some (.int .i64 6) := HB.out.cell 0
  have z1 : w1.cell? ⟨b1, 1, none⟩ = some (.bool false) := HB.out.cell 1
  have z2 : w1.cell? ⟨b1, 2, none⟩ = some (.bool false) := HB.out.cell 2
  have z3 : w1.cell? ⟨b1, 3, none⟩ = some (.int .i64 0) := HB.out.cell 3
  have z4 : w1.cell? ⟨b1, 4, none⟩ = some (.int .i64 0) := HB.out.cell 4
  have z5 : w1.cell? ⟨b1, 5, none⟩ = some (.int .i64 0) := HB.out.cell 5
  have z6 : w1.cell? ⟨b1, 6, none⟩ = some (.int .i64 0) := HB.out.cell 6
  have z7 : w1.cell? ⟨b1, 7, none⟩ = some (.int .i64 0) := HB.out.cell 7
  have z8 : w1.cell? ⟨b1, 8, none⟩ = some (.int .i64 0) := HB.out.cell 8
  have z9 : w1.cell? ⟨b1, 9, none⟩ = some (.int .i64 7) := HB.out.cell 9
  have z10 : w1.cell? ⟨b1, 10, none⟩ = some (.int .i64 16) := HB.out.cell 10
  go_wp2_with fail
  refine (pack_sys _).mono ?_
  rintro e w2 ⟨rfl, hc⟩
  have HC2 := Go.Lib.hid (HC1.out.trans hc)
  clear hc
  go_wp2_with fail
  refine bodyPost_ret (results_tmp2 rfl _ _ _) rfl ?_
  exact ⟨rfl, HC2.out⟩
end Go.Proofs.Yteleglkoagnmcaa
