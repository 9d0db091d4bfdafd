import Derived.Test.YtggknljlibhkjaaGreatMcE
import Derived.Deep.CutRange
import Derived.Deep.CutBlock
set_option linter.unusedSimpArgs false
set_option linter.unusedVariables false
namespace Go.Proofs.YtggknljlibhkjaaGreat
open Go Go.RowKit
section
variable {P : Program} {ops : Array Oper} {Q : Exit → Act → World → Prop} {md : Region.Mode} {S : World → Prop} {n : Nat}
variable {i t fuel : Nat} {oi : Oper} {v : Value} {listed : Array Bool} {a : Act} {w w' : World}
theorem valE (hi : ops[i]? = some oi) (hr : Region.ready md ops listed = [i]) (hdst : oi.dst = some t) (hw : Region.wanted oi (yielded ops a.tmps) = true) (hx : (execOp a.eval oi).run P w = .ok (.value v) w') (hin : ¬ i < n)
  (h : wpAnyT P md ops Q S n fuel (listed.setIfInBounds i true) { tmps := a.tmps.setIfInBounds t v, defers := a.defers } w') : wpAnyT P md ops Q S n (fuel + 1) listed a w := by
 refine oneT hi hr ?_
 rw [if_pos hw]
 unfold Oper.wp
 rw [hx]
 exact ⟨fun h => absurd h hin, by rw [hdst]; exact h⟩
end
section
variable {P : Program} {o : Oper} {a : Act} {W : World}
theorem exec_load_row (ty : TypeId) (x : Operand) (ho : o.op = .load ty x) (g : Nat) (hx : a.eval x = .pointer (some ⟨g, 0, none⟩)) {t : TypeId} {cs : Array Value} {d : TypeDesc} (hg : Blk W g t cs)
  (hu : P.underlying ty = some d) (hd : (match d with | .struct _ | .array _ _ => true | _ => false) = true) (hi : (P.info? ty).map (·.size) = some cs.size) : (execOp a.eval o).run P W = .ok (.value (.agg cs)) W := by
 unfold execOp
 simp only [ho, hx, Instr.loadAt, Instr.sureAddr, Sem.run_bind, Sem.run_pure, Result.andThen_ok, run_loadVar_row W g t ty cs (0, 0) d hg hu hd hi]
theorem exec_store_row (ty : TypeId) (x y : Operand) (ho : o.op = .store ty x y) (g : Nat) (cells : Array Value) (hx : a.eval x = .pointer (some ⟨g, 0, none⟩)) (hy : a.eval y = .agg cells)
  {t : TypeId} {old : Array Value} (hg : Blk W g t old) (hi : (P.info? ty).map (·.size) = some cells.size) (hold : old.size = cells.size) (h1 : cells.all (·.oneCell') = true) : (execOp a.eval o).run P W = .ok .skip (W.setRow g cells) := by
 unfold execOp
 simp only [ho, hx, hy, Instr.storeAt, Instr.sureAddr, Sem.run_bind, Sem.run_pure, Result.andThen_ok, run_storeVar_row W g t ty old cells hg hi hold h1]
end
section
variable {F : Nat → Prop} {w w' : World} {g : Nat} {t : TypeId} {cs : Array Value}
theorem Blk.setRow (h : Blk w g t cs) (cs' : Array Value) : Blk (w.setRow g cs') g t cs' := setRow_heap w g cs cs' t (0, 0) h
theorem Blk.farRow (h : Blk w g t cs) {b : Nat} (hb : g ≠ b) (cs' : Array Value) : Blk (w.setRow b cs') g t cs := (setRow_other w b g cs' (fun e => hb e)).trans h
theorem Chg.setRow {a : World} (h : Chg F a w) {b : Nat} (hb : b < a.heap.size → F b) (cs' : Array Value) : Chg F a (w.setRow b cs') :=
 ⟨h.os, h.tape, h.output, by simpa using h.size, fun i hi hn => (setRow_other w b i cs' (by rintro rfl; exact hn (hb hi))).trans (h.block i hi hn)⟩
end
abbrev InT : TypeId := 33
theorem bits_bd (op : BinOp) (x y : Int) : 0 ≤ bits op .u32 x y ∧ bits op .u32 x y < 4294967296 := by
 unfold bits
 simp only [IntKind.wrap_u32]
 omega
theorem wTurn_bd (a b : Int) : 0 ≤ wTurn a b ∧ wTurn a b < 4294967296 := bits_bd _ _ _
def opX (c : Cp) (i : In) : Option (Cp × Int) :=
 let b := c.R i.b.toNat
 let n := numOf c i
 if i.op = 0 then some (c, n)
 else if i.op = 1 then some (c, wLeft b n)
 else if i.op = 2 then some (c, wRight b n)
 else if i.op = 3 then some (c, wTurn b n)
 else if i.op = 4 then some (c, bits .and .u32 b n)
 else if i.op = 5 then some (c, bits .andNot .u32 b n)
 else if i.op = 6 then some (c, bits .or .u32 b n)
 else if i.op = 7 then some (c, bits .xor .u32 b n)
 else if i.op = 8 then some ({ c with c := cAdd b n (i.u && c.c), v := vAdd b n (wAdd b n (i.u && c.c)) }, wAdd b n (i.u && c.c))
 else if i.op = 9 then some ({ c with c := bSub b n (wSub b n (i.u && c.c)) == 1, v := vSub b n (wSub b n (i.u && c.c)) }, wSub b n (i.u && c.c))
 else if i.op = 10 then some ({ c with h := pMul b n (!i.u) / 4294967296 % 4294967296 }, pMul b n (!i.u) % 4294967296)
 else if wrap32 n ≤ 0 then none else some ({ c with h := wrap32 b % wrap32 n % 4294967296 }, wrap32 b / wrap32 n % 4294967296)
def opXN (c : Cp) (b n op : Int) (u : Bool) : Option (Cp × Int) :=
 if op = 0 then some (c, n)
 else if op = 1 then some (c, wLeft b n)
 else if op = 2 then some (c, wRight b n)
 else if op = 3 then some (c, wTurn b n)
 else if op = 4 then some (c, bits .and .u32 b n)
 else if op = 5 then some (c, bits .andNot .u32 b n)
 else if op = 6 then some (c, bits .or .u32 b n)
 else if op = 7 then some (c, bits .xor .u32 b n)
 else if op = 8 then some ({ c with c := cAdd b n (u && c.c), v := vAdd b n (wAdd b n (u && c.c)) }, wAdd b n (u && c.c))
 else if op = 9 then some ({ c with c := bSub b n (wSub b n (u && c.c)) == 1, v := vSub b n (wSub b n (u && c.c)) }, wSub b n (u && c.c))
 else if op = 10 then some ({ c with h := pMul b n (!u) / 4294967296 % 4294967296 }, pMul b n (!u) % 4294967296)
 else if wrap32 n ≤ 0 then none else some ({ c with h := wrap32 b % wrap32 n % 4294967296 }, wrap32 b / wrap32 n % 4294967296)
theorem opX_N (c : Cp) (i : In) : opX c i = opXN c (c.R i.b.toNat) (numOf c i) i.op i.u := rfl
def opF (c : Cp) (i : In) : Option Cp := (opX c i).map fun x => x.1.set i.a.toNat x.2
def OpPost (b : Nat) (c : Cp) (o : Option Cp) (w : World) (e : Ending) (w' : World) : Prop := Chg (fun k => k = b) w w' ∧ match o with | none => e = .returned (.bool false) ∧ CpAt w' b c | some c' => e = .returned (.bool true) ∧ CpAt w' b c'
section
variable {w w' : World} {b : Nat} {c : Cp}
theorem numOf_bd (hc : c.Ok) (i : In) (h0 : 0 ≤ i.im ∧ i.im < 65536) : 0 ≤ numOf c i ∧ numOf c i < 4294967296 := by
 unfold numOf valueOf
 split
 ·split
  ·omega
  ·split
   ·exact bits_bd _ _ _
   ·omega
 ·split
  ·split
   ·exact hc.h
   ·exact flN_bd _ _
  ·exact hc.r _
structure InOk (i : In) (ra rb rc : Nat) : Prop where
 a : i.a = ra
 b : i.b = rb
 c : i.c = rc
 al : ra < 16
 bl : rb < 16
 cl : i.fo ≠ 1 → rc < 16
 im : 0 ≤ i.im ∧ i.im < 65536
 op : 0 ≤ i.op ∧ i.op ≤ 11
set_option maxHeartbeats 4000000 in
set_option maxRecDepth 100000 in
theorem operate_c (h : CpAt w b c) (hok : c.Ok) (i : In) {ra rb rc : Nat} (hi : InOk i ra rb rc) : Calls Tryz.prog 94 #[ptr b, i.val] w (OpPost b c (opF c i) w) := by
 have hn := numOf_bd hok i hi.im
 have hB := hok.r rb
 have hop := hi.op
 have HS := Go.Lib.hid (fun (c' : Cp) (x : Int) (hx : 0 ≤ x ∧ x < 4294967296) W (hW : CpAt W b c') => set_c hW hi.al x hx.1 hx.2)
 have HN := Go.Lib.hid (fun W (hW : CpAt W b c) => number_c hW i hi.im hi.c hi.cl)
 have HF : Hid (∀ x : Cp × Int, opX c i = some x → opF c i = some (x.1.set ra x.2)) := Go.Lib.hid fun x hx => by unfold opF; rw [hx, Option.map_some, hi.a]; rfl
 have hbl := hi.bl
 have hal := hi.al
 have HH := Go.Lib.hid h
 have cr := h.reg hi.bl
 have fz := fun k => h.frozen k
 have hlt := h.lt
 have Ha := Go.Lib.hid hi.a
 have HBi := Go.Lib.hid hi.b
 have HX := Go.Lib.hid (show opX c i = opX c i from rfl)
 have hHeld44 : i.arr[4]? = some (.int .i64 rb) := by rw [← hi.b]; rfl
 have HBX := Go.Lib.hid (Blk.new w 33 i.arr)
 have hbA := hi.b
 have haA := hi.a
 clear hi hok h
 have i1 : (w.alloc (.cells i.arr 33)).drew.cell? ⟨w.heap.size, 1, none⟩ = some (.bool i.u) := HBX.out.cell 1
 have i3 : (w.alloc (.cells i.arr 33)).drew.cell? ⟨w.heap.size, 3, none⟩ = some (.int .i64 i.a) := HBX.out.cell 3
 have i4 : (w.alloc (.cells i.arr 33)).drew.cell? ⟨w.heap.size, 4, none⟩ = some (.int .i64 i.b) := HBX.out.cell 4
 have i6 : (w.alloc (.cells i.arr 33)).drew.cell? ⟨w.heap.size, 6, none⟩ = some (.int .i64 i.op) := HBX.out.cell 6
 rw [hbA] at i4
 rw [haA] at i3
 clear hbA haA
 unfold ptr at *
 unfold In.val at *
 go_enter Tryz.func94, Tryz.ntmps94
 have HW0 := Go.Lib.hid ((Chg.refl NoB w).alloc (.cells i.arr 33))
 have cr' : (w.alloc (.cells i.arr 33)).drew.cell? ⟨b, rb, none⟩ = some (.int .u32 (c.R rb)) := (World.cell?_of_block (HW0.out.block b hlt id)).trans cr
 have hbi0 : (0 : Int) ≤ rb := by omega
 have hbi1 : (rb : Int) < 16 := by omega
 clear cr
 go_upto_region 1 with fail
 try dsimp only [Act.put]
 refine regionT 10 (fun W => Blk W w.heap.size 33 i.arr ∧ Blk W b CpT c.arr ∧ W.cell? ⟨w.heap.size, 4, none⟩ = some (.int .i64 rb) ∧ W.cell? ⟨b, rb, none⟩ = some (.int .u32 (c.R rb))) (by kernel_rfl) (by decide) (⟨HBX.out, Blk.alloc HH.out _, i4, cr'⟩) (fun inv0 hHeld => ?_)
 refine takeT (i := 0) (t := 11) (v := ?v0) rfl (by kernel_rfl) (fun _ _ _ h => h) rfl (Or.inl ⟨by rfl, ?h0⟩) inv0 hHeld ?r0
 case h0 => (intro W hSw; obtain ⟨s1, s2, s3, s4⟩ := hSw; go_simp; try with_reducible rfl)
 intro inv01
 clear inv0
 try simp only [sw1, sw2, sw3]
 refine takeT (i := 1) (t := 12) (v := ?v1) rfl (by kernel_rfl) (fun _ _ _ h => h) rfl (Or.inl ⟨by rfl, ?h1⟩) inv01 hHeld ?r1
 case h1 => (intro W hSw; obtain ⟨s1, s2, s3, s4⟩ := hSw; go_simp; try with_reducible rfl)
 intro inv11
 clear inv01
 try simp only [sw1, sw2, sw3]
 refine takeT (i := 2) (t := 13) (v := ?v2) rfl (by kernel_rfl) (fun _ _ _ h => h) rfl (Or.inl ⟨by rfl, ?h2⟩) inv11 hHeld ?r2
 case h2 => (intro W hSw; obtain ⟨s1, s2, s3, s4⟩ := hSw; go_simp; try with_reducible rfl)
 intro inv21
 clear inv11
 try simp only [sw1, sw2, sw3]
 refine takeT (i := 3) (t := 14) (v := ?v3) rfl (by kernel_rfl) (fun _ _ _ h => h) rfl (Or.inl ⟨by rfl, ?h3⟩) inv21 hHeld ?r3
 case h3 => (intro W hSw; obtain ⟨s1, s2, s3, s4⟩ := hSw; go_simp; try with_reducible rfl)
 intro inv31
 clear inv21
 try simp only [sw1, sw2, sw3]
 refine takeT (i := 4) (t := 15) (v := ?v4) rfl (by kernel_rfl) (fun _ _ _ h => h) rfl (Or.inl ⟨by rfl, ?h4⟩) inv31 hHeld ?r4
 case h4 => (intro W hSw; obtain ⟨s1, s2, s3, s4⟩ := hSw; go_simp; try with_reducible rfl)
 intro inv41
 clear inv31
 try simp only [sw1, sw2, sw3]
 refine takeT (i := 5) (t := 16) (v := ?v5) rfl (by kernel_rfl) (fun _ _ _ h => h) rfl (Or.inl ⟨by rfl, ?h5⟩) inv41 hHeld ?r5
 case h5 => (intro W hSw; obtain ⟨s1, s2, s3, s4⟩ := hSw; go_simp; try with_reducible rfl)
 intro inv51
 clear inv41
 try simp only [sw1, sw2, sw3]
 refine takeT (i := 6) (t := 17) (v := ?v6) rfl (by kernel_rfl) (fun _ _ _ h => h) rfl (Or.inl ⟨by rfl, ?h6⟩) inv51 hHeld ?r6
 case h6 => (intro W hSw; obtain ⟨s1, s2, s3, s4⟩ := hSw; go_simp; try with_reducible rfl)
 intro inv61
 clear inv51
 try simp only [sw1, sw2, sw3]
 refine takeT (i := 7) (t := 18) (v := ?v7) rfl (by kernel_rfl) (fun _ _ _ h => h) rfl (Or.inl ⟨by rfl, ?h7⟩) inv61 hHeld ?r7
 case h7 => (intro W hSw; obtain ⟨s1, s2, s3, s4⟩ := hSw; go_simp; try with_reducible rfl)
 intro inv71
 clear inv61
 try simp only [sw1, sw2, sw3]
 refine takeT (i := 8) (t := 19) (v := ?v8) rfl (by kernel_rfl) (fun _ _ _ h => h) rfl (Or.inl ⟨by rfl, ?h8⟩) inv71 hHeld ?r8
 case h8 => (intro W hSw; obtain ⟨s1, s2, s3, s4⟩ := hSw; (refine exec_load_row 33 (.tmp 3) ?_ w.heap.size ?_ s1 Tryz.underlying33 rfl (by kernel_rfl)) <;> rfl)
 intro inv81
 clear inv71
 try simp only [sw1, sw2, sw3]
 refine callT (i := 9) (t := 20) (f := 122) (args := #[.pointer (some ⟨b, 0, none⟩), .agg i.arr]) rfl (by kernel_rfl) rfl (by rfl) ?hx9 inv81 (by decide) ?hc9
 case hx9 => (go_simp; try rfl)
 case hc9 =>
  refine (HN.out _ hHeld.2.1).mono ?_
  rintro e w1 ⟨rfl, hc1⟩
  refine ⟨_, rfl, ⟨hHeld.1.chg hc1 (fun h => h), hHeld.2.1.chg hc1 (fun h => h), ((hHeld.1.chg hc1 (fun h => h)).cell 4).trans hHeld44, ((hHeld.2.1.chg hc1 (fun h => h)).cell rb).trans (c.reg hbl)⟩, fun inv91 hHeld9 => ?_⟩
  try simp only [sw1, sw2, sw3]
  refine valE (i := 10) (t := 5) (v := .int .u32 (c.R rb)) (w' := w1) rfl (by kernel_rfl) rfl (by rfl) ?hx10 (by decide) ?r10
  case hx10 => (go_simp; try with_reducible rfl)
  try simp only [sw1, sw2, sw3]
  refine lastV (i := 11) (t := 6) (v := .int .u32 (numOf c i)) (w' := w1) rfl (by kernel_rfl) rfl (by rfl) ?hx11 (by decide) (by kernel_rfl) ?r11
  case hx11 => (go_simp; try with_reducible rfl)
  try simp only [sw1, sw2, sw3]
  have hC : Chg NoB w w1 := HW0.out.drew.trans hc1
  obtain ⟨s1, s2, _, _⟩ := hHeld9
  have i1 : w1.cell? ⟨w.heap.size, 1, none⟩ = some (.bool i.u) := s1.cell 1
  have i3 : w1.cell? ⟨w.heap.size, 3, none⟩ = some (.int .i64 i.a) := s1.cell 3
  have i6 : w1.cell? ⟨w.heap.size, 6, none⟩ = some (.int .i64 i.op) := s1.cell 6
  obtain ⟨c16, c17, c18, c19, c20, c21⟩ := CpAt.cells s2
  have f16 := s2.frozen 16
  have f19 := s2.frozen 19
  have f20 := s2.frozen 20
  have hbne : b ≠ w.heap.size := by omega
  rw [Ha.out] at i3
  have HC := Go.Lib.hid hC
  have HC1 := Go.Lib.hid s2
  have HO : opX c i = opXN c (c.R rb) (numOf c i) i.op i.u := by rw [opX_N, HBi.out]; rfl
  clear inv91 hHeld hc1 hC s1 s2 HBi Ha HX HBX HH HW0 HN hlt hHeld44
  generalize numOf c i = n at *
  generalize c.R rb = B at *
  generalize i.op = op at *
  generalize i.u = u at *
  have hcase : op = 0 ∨ op = 1 ∨ op = 2 ∨ op = 3 ∨ op = 4 ∨ op = 5 ∨ op = 6 ∨ op = 7 ∨ op = 8 ∨ op = 9 ∨ op = 10 ∨ op = 11 := by omega
  clear hop
  rcases hcase with rfl | rfl | rfl | rfl | rfl | rfl | rfl | rfl | rfl | rfl | rfl | rfl
  ·
   have HS' := Go.Lib.hid (HS.out (c) (n) (hn) _ (HC1.out))
   unfold SetPost at HS'
   have HO' := Go.Lib.hid (HF.out _ (HO.trans (by rfl)))
   go_wp2_with fail
   refine HS'.out.mono ?_
   rintro e w2 ⟨rfl, h2, h3⟩
   have H23 := Go.Lib.hid (And.intro h2 h3)
   clear h2 h3
   go_wp2_with fail
   go_ret
   exact ⟨(HC.out.mono (fun _ _ h => h.elim)).trans ((Chg.refl _ w1).trans H23.out.2), by rw [HO'.out]; exact ⟨rfl, H23.out.1⟩⟩
  ·
   have HS' := Go.Lib.hid (HS.out (c) (wLeft B n) (by unfold wLeft; omega) _ (HC1.out))
   unfold SetPost at HS'
   have HO' := Go.Lib.hid (HF.out _ (HO.trans (by rfl)))
   go_wp2_with fail
   refine (left_c B n hB hn _).mono ?_
   rintro e w1' ⟨rfl, rfl⟩
   go_wp2_with fail
   refine HS'.out.mono ?_
   rintro e w2 ⟨rfl, h2, h3⟩
   have H23 := Go.Lib.hid (And.intro h2 h3)
   clear h2 h3
   go_wp2_with fail
   go_ret
   exact ⟨(HC.out.mono (fun _ _ h => h.elim)).trans ((Chg.refl _ w1).trans H23.out.2), by rw [HO'.out]; exact ⟨rfl, H23.out.1⟩⟩
  ·
   have HS' := Go.Lib.hid (HS.out (c) (wRight B n) (by unfold wRight; omega) _ (HC1.out))
   unfold SetPost at HS'
   have HO' := Go.Lib.hid (HF.out _ (HO.trans (by rfl)))
   go_wp2_with fail
   refine (right_c B n hB hn _).mono ?_
   rintro e w1' ⟨rfl, rfl⟩
   go_wp2_with fail
   refine HS'.out.mono ?_
   rintro e w2 ⟨rfl, h2, h3⟩
   have H23 := Go.Lib.hid (And.intro h2 h3)
   clear h2 h3
   go_wp2_with fail
   go_ret
   exact ⟨(HC.out.mono (fun _ _ h => h.elim)).trans ((Chg.refl _ w1).trans H23.out.2), by rw [HO'.out]; exact ⟨rfl, H23.out.1⟩⟩
  ·
   have HS' := Go.Lib.hid (HS.out (c) (wTurn B n) (wTurn_bd _ _) _ (HC1.out))
   unfold SetPost at HS'
   have HO' := Go.Lib.hid (HF.out _ (HO.trans (by rfl)))
   go_wp2_with fail
   refine (turn_c B n hB hn _).mono ?_
   rintro e w1' ⟨rfl, rfl⟩
   go_wp2_with fail
   refine HS'.out.mono ?_
   rintro e w2 ⟨rfl, h2, h3⟩
   have H23 := Go.Lib.hid (And.intro h2 h3)
   clear h2 h3
   go_wp2_with fail
   go_ret
   exact ⟨(HC.out.mono (fun _ _ h => h.elim)).trans ((Chg.refl _ w1).trans H23.out.2), by rw [HO'.out]; exact ⟨rfl, H23.out.1⟩⟩
  ·
   have HS' := Go.Lib.hid (HS.out (c) (bits .and .u32 B n) (bits_bd _ _ _) _ (HC1.out))
   unfold SetPost at HS'
   have HO' := Go.Lib.hid (HF.out _ (HO.trans (by rfl)))
   go_wp2_with fail
   refine HS'.out.mono ?_
   rintro e w2 ⟨rfl, h2, h3⟩
   have H23 := Go.Lib.hid (And.intro h2 h3)
   clear h2 h3
   go_wp2_with fail
   go_ret
   exact ⟨(HC.out.mono (fun _ _ h => h.elim)).trans ((Chg.refl _ w1).trans H23.out.2), by rw [HO'.out]; exact ⟨rfl, H23.out.1⟩⟩
  ·
   have HS' := Go.Lib.hid (HS.out (c) (bits .andNot .u32 B n) (bits_bd _ _ _) _ (HC1.out))
   unfold SetPost at HS'
   have HO' := Go.Lib.hid (HF.out _ (HO.trans (by rfl)))
   go_wp2_with fail
   refine HS'.out.mono ?_
   rintro e w2 ⟨rfl, h2, h3⟩
   have H23 := Go.Lib.hid (And.intro h2 h3)
   clear h2 h3
   go_wp2_with fail
   go_ret
   exact ⟨(HC.out.mono (fun _ _ h => h.elim)).trans ((Chg.refl _ w1).trans H23.out.2), by rw [HO'.out]; exact ⟨rfl, H23.out.1⟩⟩
  ·
   have HS' := Go.Lib.hid (HS.out (c) (bits .or .u32 B n) (bits_bd _ _ _) _ (HC1.out))
   unfold SetPost at HS'
   have HO' := Go.Lib.hid (HF.out _ (HO.trans (by rfl)))
   go_wp2_with fail
   refine HS'.out.mono ?_
   rintro e w2 ⟨rfl, h2, h3⟩
   have H23 := Go.Lib.hid (And.intro h2 h3)
   clear h2 h3
   go_wp2_with fail
   go_ret
   exact ⟨(HC.out.mono (fun _ _ h => h.elim)).trans ((Chg.refl _ w1).trans H23.out.2), by rw [HO'.out]; exact ⟨rfl, H23.out.1⟩⟩
  ·
   have HS' := Go.Lib.hid (HS.out (c) (bits .xor .u32 B n) (bits_bd _ _ _) _ (HC1.out))
   unfold SetPost at HS'
   have HO' := Go.Lib.hid (HF.out _ (HO.trans (by rfl)))
   go_wp2_with fail
   refine HS'.out.mono ?_
   rintro e w2 ⟨rfl, h2, h3⟩
   have H23 := Go.Lib.hid (And.intro h2 h3)
   clear h2 h3
   go_wp2_with fail
   go_ret
   exact ⟨(HC.out.mono (fun _ _ h => h.elim)).trans ((Chg.refl _ w1).trans H23.out.2), by rw [HO'.out]; exact ⟨rfl, H23.out.1⟩⟩
  ·
   cases u
   ·
    have HB1 : Blk (w1.setCell ⟨b, 19, none⟩ (.bool (cAdd B n (false)))) b CpT ({ c with c := cAdd B n (false) } : Cp).arr := HC1.out.set_ 19 _
    have HB2 : Blk ((w1.setCell ⟨b, 19, none⟩ (.bool (cAdd B n (false)))).setCell ⟨b, 20, none⟩ (.bool (vAdd B n (wAdd B n (false))))) b CpT ({ c with c := cAdd B n (false), v := vAdd B n (wAdd B n (false)) } : Cp).arr := HB1.set_ 20 _
    have HB3 := Go.Lib.hid HB2
    clear HB1 HB2
    have HS' := Go.Lib.hid (HS.out ({ c with c := cAdd B n (false), v := vAdd B n (wAdd B n (false)) }) (wAdd B n (false)) (by unfold wAdd; omega) _ (HB3.out))
    unfold SetPost at HS'
    have HO' := Go.Lib.hid (HF.out _ (HO.trans (by rfl)))
    go_wp2_with fail
    refine (add_c B n hB hn _ (false)).mono ?_
    rintro e w1' ⟨rfl, rfl⟩
    go_wp2_with fail
    refine HS'.out.mono ?_
    rintro e w2 ⟨rfl, h2, h3⟩
    have H23 := Go.Lib.hid (And.intro h2 h3)
    clear h2 h3
    go_wp2_with fail
    go_ret
    exact ⟨(HC.out.mono (fun _ _ h => h.elim)).trans ((((Chg.refl (fun k => k = b) w1).setCell (p := ⟨b, 19, none⟩) (fun _ => rfl) _).setCell (p := ⟨b, 20, none⟩) (fun _ => rfl) _).trans H23.out.2), by rw [HO'.out]; exact ⟨rfl, H23.out.1⟩⟩
   ·
    obtain ⟨qc, hqc⟩ : ∃ q, c.c = q := ⟨_, rfl⟩
    rw [hqc] at c19
    simp only [opXN, hqc, Bool.true_and] at HO
    clear hqc
    have HB1 : Blk (w1.setCell ⟨b, 19, none⟩ (.bool (cAdd B n (qc)))) b CpT ({ c with c := cAdd B n (qc) } : Cp).arr := HC1.out.set_ 19 _
    have HB2 : Blk ((w1.setCell ⟨b, 19, none⟩ (.bool (cAdd B n (qc)))).setCell ⟨b, 20, none⟩ (.bool (vAdd B n (wAdd B n (qc))))) b CpT ({ c with c := cAdd B n (qc), v := vAdd B n (wAdd B n (qc)) } : Cp).arr := HB1.set_ 20 _
    have HB3 := Go.Lib.hid HB2
    clear HB1 HB2
    have HS' := Go.Lib.hid (HS.out ({ c with c := cAdd B n (qc), v := vAdd B n (wAdd B n (qc)) }) (wAdd B n (qc)) (by unfold wAdd; omega) _ (HB3.out))
    unfold SetPost at HS'
    have HO' := Go.Lib.hid (HF.out _ (HO.trans (by rfl)))
    go_wp2_with fail
    refine (add_c B n hB hn _ (qc)).mono ?_
    rintro e w1' ⟨rfl, rfl⟩
    go_wp2_with fail
    refine HS'.out.mono ?_
    rintro e w2 ⟨rfl, h2, h3⟩
    have H23 := Go.Lib.hid (And.intro h2 h3)
    clear h2 h3
    go_wp2_with fail
    go_ret
    exact ⟨(HC.out.mono (fun _ _ h => h.elim)).trans ((((Chg.refl (fun k => k = b) w1).setCell (p := ⟨b, 19, none⟩) (fun _ => rfl) _).setCell (p := ⟨b, 20, none⟩) (fun _ => rfl) _).trans H23.out.2), by rw [HO'.out]; exact ⟨rfl, H23.out.1⟩⟩
  ·
   cases u
   ·
    have HB1 : Blk (w1.setCell ⟨b, 19, none⟩ (.bool (bSub B n (wSub B n (false)) == 1))) b CpT ({ c with c := bSub B n (wSub B n (false)) == 1 } : Cp).arr := HC1.out.set_ 19 _
    have HB2 : Blk ((w1.setCell ⟨b, 19, none⟩ (.bool (bSub B n (wSub B n (false)) == 1))).setCell ⟨b, 20, none⟩ (.bool (vSub B n (wSub B n (false))))) b CpT ({ c with c := bSub B n (wSub B n (false)) == 1, v := vSub B n (wSub B n (false)) } : Cp).arr := HB1.set_ 20 _
    have HB3 := Go.Lib.hid HB2
    clear HB1 HB2
    have HS' := Go.Lib.hid (HS.out ({ c with c := bSub B n (wSub B n (false)) == 1, v := vSub B n (wSub B n (false)) }) (wSub B n (false)) (by unfold wSub; omega) _ (HB3.out))
    unfold SetPost at HS'
    have HO' := Go.Lib.hid (HF.out _ (HO.trans (by rfl)))
    go_wp2_with fail
    refine (sub_c B n hB hn _ (false)).mono ?_
    rintro e w1' ⟨rfl, rfl⟩
    go_wp2_with fail
    refine HS'.out.mono ?_
    rintro e w2 ⟨rfl, h2, h3⟩
    have H23 := Go.Lib.hid (And.intro h2 h3)
    clear h2 h3
    go_wp2_with fail
    go_ret
    exact ⟨(HC.out.mono (fun _ _ h => h.elim)).trans ((((Chg.refl (fun k => k = b) w1).setCell (p := ⟨b, 19, none⟩) (fun _ => rfl) _).setCell (p := ⟨b, 20, none⟩) (fun _ => rfl) _).trans H23.out.2), by rw [HO'.out]; exact ⟨rfl, H23.out.1⟩⟩
   ·
    obtain ⟨qc, hqc⟩ : ∃ q, c.c = q := ⟨_, rfl⟩
    rw [hqc] at c19
    simp only [opXN, hqc, Bool.true_and] at HO
    clear hqc
    have HB1 : Blk (w1.setCell ⟨b, 19, none⟩ (.bool (bSub B n (wSub B n (qc)) == 1))) b CpT ({ c with c := bSub B n (wSub B n (qc)) == 1 } : Cp).arr := HC1.out.set_ 19 _
    have HB2 : Blk ((w1.setCell ⟨b, 19, none⟩ (.bool (bSub B n (wSub B n (qc)) == 1))).setCell ⟨b, 20, none⟩ (.bool (vSub B n (wSub B n (qc))))) b CpT ({ c with c := bSub B n (wSub B n (qc)) == 1, v := vSub B n (wSub B n (qc)) } : Cp).arr := HB1.set_ 20 _
    have HB3 := Go.Lib.hid HB2
    clear HB1 HB2
    have HS' := Go.Lib.hid (HS.out ({ c with c := bSub B n (wSub B n (qc)) == 1, v := vSub B n (wSub B n (qc)) }) (wSub B n (qc)) (by unfold wSub; omega) _ (HB3.out))
    unfold SetPost at HS'
    have HO' := Go.Lib.hid (HF.out _ (HO.trans (by rfl)))
    go_wp2_with fail
    refine (sub_c B n hB hn _ (qc)).mono ?_
    rintro e w1' ⟨rfl, rfl⟩
    go_wp2_with fail
    refine HS'.out.mono ?_
    rintro e w2 ⟨rfl, h2, h3⟩
    have H23 := Go.Lib.hid (And.intro h2 h3)
    clear h2 h3
    go_wp2_with fail
    go_ret
    exact ⟨(HC.out.mono (fun _ _ h => h.elim)).trans ((((Chg.refl (fun k => k = b) w1).setCell (p := ⟨b, 19, none⟩) (fun _ => rfl) _).setCell (p := ⟨b, 20, none⟩) (fun _ => rfl) _).trans H23.out.2), by rw [HO'.out]; exact ⟨rfl, H23.out.1⟩⟩
  ·
   cases u
   ·
    have HB1 : Blk (w1.setCell ⟨b, 16, none⟩ (.int .u32 (pMul B n (true) / 4294967296 % 4294967296))) b CpT ({ c with h := pMul B n (true) / 4294967296 % 4294967296 } : Cp).arr := by rw [← Cp.setH]; exact HC1.out.set_ 16 _
    have HB3 := Go.Lib.hid HB1
    clear HB1
    have HS' := Go.Lib.hid (HS.out ({ c with h := pMul B n (true) / 4294967296 % 4294967296 }) (pMul B n (true) % 4294967296) (by omega) _ (HB3.out))
    unfold SetPost at HS'
    have HO' := Go.Lib.hid (HF.out _ (HO.trans (by rfl)))
    go_wp2_with fail
    refine (mul_c B n hB hn _ (true)).mono ?_
    rintro e w1' ⟨rfl, rfl⟩
    go_wp2_with fail
    refine HS'.out.mono ?_
    rintro e w2 ⟨rfl, h2, h3⟩
    have H23 := Go.Lib.hid (And.intro h2 h3)
    clear h2 h3
    go_wp2_with fail
    go_ret
    exact ⟨(HC.out.mono (fun _ _ h => h.elim)).trans (((Chg.refl (fun k => k = b) w1).setCell (p := ⟨b, 16, none⟩) (fun _ => rfl) _).trans H23.out.2), by rw [HO'.out]; exact ⟨rfl, H23.out.1⟩⟩
   ·
    have HB1 : Blk (w1.setCell ⟨b, 16, none⟩ (.int .u32 (pMul B n (false) / 4294967296 % 4294967296))) b CpT ({ c with h := pMul B n (false) / 4294967296 % 4294967296 } : Cp).arr := by rw [← Cp.setH]; exact HC1.out.set_ 16 _
    have HB3 := Go.Lib.hid HB1
    clear HB1
    have HS' := Go.Lib.hid (HS.out ({ c with h := pMul B n (false) / 4294967296 % 4294967296 }) (pMul B n (false) % 4294967296) (by omega) _ (HB3.out))
    unfold SetPost at HS'
    have HO' := Go.Lib.hid (HF.out _ (HO.trans (by rfl)))
    go_wp2_with fail
    refine (mul_c B n hB hn _ (false)).mono ?_
    rintro e w1' ⟨rfl, rfl⟩
    go_wp2_with fail
    refine HS'.out.mono ?_
    rintro e w2 ⟨rfl, h2, h3⟩
    have H23 := Go.Lib.hid (And.intro h2 h3)
    clear h2 h3
    go_wp2_with fail
    go_ret
    exact ⟨(HC.out.mono (fun _ _ h => h.elim)).trans (((Chg.refl (fun k => k = b) w1).setCell (p := ⟨b, 16, none⟩) (fun _ => rfl) _).trans H23.out.2), by rw [HO'.out]; exact ⟨rfl, H23.out.1⟩⟩
  ·
   by_cases hz : wrap32 n ≤ 0
   ·
    have HO' : opF c i = none := by unfold opF; rw [HO]; unfold opXN; simp [hz]
    have HO2 := Go.Lib.hid HO'
    have HD := Go.Lib.hid (show divRes B n = _ from if_pos hz)
    clear HO' hz HO HF HS
    go_wp2_with fail
    refine (div_c B n hB hn _).mono ?_
    rintro e w1' ⟨rfl, k, rfl⟩
    rw [HD.out]
    go_wp2_with fail
    go_ret
    exact ⟨(HC.out.mono (fun _ _ h => h.elim)).drewN _, by rw [HO2.out]; exact ⟨rfl, HC1.out.drewN _⟩⟩
   ·
    have HD := Go.Lib.hid (show divRes B n = _ from if_neg hz)
    have HO1 : opX c i = some ({ c with h := wrap32 B % wrap32 n % 4294967296 }, wrap32 B / wrap32 n % 4294967296) := by rw [HO]; unfold opXN; simp [hz]
    have HO' := Go.Lib.hid (HF.out _ HO1)
    clear HO HO1 hz
    have hr1 : 0 ≤ wrap32 B % wrap32 n % 4294967296 ∧ wrap32 B % wrap32 n % 4294967296 < 4294967296 := by omega
    have hr2 : 0 ≤ wrap32 B / wrap32 n % 4294967296 ∧ wrap32 B / wrap32 n % 4294967296 < 4294967296 := by omega
    generalize wrap32 B % wrap32 n % 4294967296 = r at *
    generalize wrap32 B / wrap32 n % 4294967296 = q at *
    go_wp2_with fail
    refine (div_c B n hB hn _).mono ?_
    rintro e w1' ⟨rfl, k, rfl⟩
    rw [HD.out]
    have HB1 : Blk ((w1.drewN k).setCell ⟨b, 16, none⟩ (.int .u32 r)) b CpT ({ c with h := r } : Cp).arr := by rw [← Cp.setH]; exact (HC1.out.drewN k).set_ 16 _
    have HS' := Go.Lib.hid (HS.out ({ c with h := r }) q hr2 _ HB1)
    unfold SetPost at HS'
    clear HB1
    go_wp2_with fail
    refine HS'.out.mono ?_
    rintro e w2 ⟨rfl, h2, h3⟩
    have H23 := Go.Lib.hid (And.intro h2 h3)
    clear h2 h3
    go_wp2_with fail
    go_ret
    exact ⟨(HC.out.mono (fun _ _ h => h.elim)).trans ((((Chg.refl (fun k => k = b) w1).drewN k).setCell (p := ⟨b, 16, none⟩) (fun _ => rfl) _).trans H23.out.2), by rw [HO'.out]; exact ⟨rfl, H23.out.1⟩⟩
end
end Go.Proofs.YtggknljlibhkjaaGreat
