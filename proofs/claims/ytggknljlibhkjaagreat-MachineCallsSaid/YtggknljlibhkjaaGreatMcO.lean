import Derived.Test.YtggknljlibhkjaaGreatMcN
import Derived.Test.YtggknljlibhkjaaGreatTail3
set_option linter.unusedSimpArgs false
set_option linter.unusedVariables false
namespace Go.Proofs.YtggknljlibhkjaaGreat
open Go Go.RowKit
structure EvOk (e : Ev) (rg pl vl : Nat) : Prop where
 kind : 0 ≤ e.kind ∧ e.kind ≤ 5
 place : e.place = pl
 pl : pl < 4294967296
 reg : e.reg = rg
 rg : rg < 16
 value : e.value = vl
 vl : vl < 4294967296
 n : 0 ≤ e.n ∧ e.n < 256
theorem insF_ok {c : Cp} (hc : c.Ok) {i : In} {ra rb rc : Nat} (hi : InW i ra rb rc) : (insF c i).1.Ok ∧ ∃ rg pl vl, EvOk (insF c i).2 rg pl vl := by
 have key : ∀ (e : Ev) (x y z : Int), e.kind = x → 0 ≤ x ∧ x ≤ 5 → e.place = y → 0 ≤ y ∧ y < 4294967296 → (∃ rg : Nat, e.reg = rg ∧ rg < 16) → e.value = z → 0 ≤ z ∧ z < 4294967296 → 0 ≤ e.n ∧ e.n < 256 → ∃ rg pl vl, EvOk e rg pl vl := by
  rintro e x y z h1 h2 h3 h4 ⟨rg, h5, h6⟩ h7 h8 h9
  exact ⟨rg, y.toNat, z.toNat, ⟨by omega, by omega, by omega, h5, h6, by omega, by omega, h9⟩⟩
 have hr := hc.r
 have kno : ∃ rg pl vl, EvOk Ev.none rg pl vl := ⟨0, 0, 0, ⟨by decide, rfl, by decide, rfl, by decide, rfl, by decide, by decide⟩⟩
 have kodd : ∃ rg pl vl, EvOk Ev.odd rg pl vl := ⟨0, 0, 0, ⟨by decide, rfl, by decide, rfl, by decide, rfl, by decide, by decide⟩⟩
 unfold insF
 split
 ·cases ho : opF c i with
  | none => exact ⟨hc, kodd⟩
  | some c' => exact ⟨opF_ok hc hi.ok.im ho, kno⟩
 ·split
  ·exact ⟨hc, key _ 1 ((c.R i.b.toNat + i.off % 4294967296) % 4294967296) 0 rfl (by decide) rfl (by omega) ⟨ra, hi.ok.a, hi.ok.al⟩ rfl (by decide) (by show (0 : Int) ≤ 0 ∧ (0 : Int) < 256; decide)⟩
  ·split
   ·refine ⟨hc, key _ 2 ((c.R i.b.toNat + i.off % 4294967296) % 4294967296) (if i.v = true then bits .and .u32 (c.R i.a.toNat) 255 else c.R i.a.toNat) rfl (by decide) rfl (by omega) ⟨rb, hi.ok.b, hi.ok.bl⟩ rfl ?_ (by show (0 : Int) ≤ 0 ∧ (0 : Int) < 256; decide)⟩
    split
    ·exact bits_bd _ _ _
    ·exact hr _
   ·split
    ·split
     ·exact ⟨hc, key _ (if 16 ≤ i.n then 4 else 3) 0 0 rfl (by split <;> decide) rfl (by decide) ⟨0, rfl, by decide⟩ rfl (by decide) hi.n⟩
     ·exact ⟨hc, kno⟩
    ·split
     ·refine ⟨⟨fun k => ?_, hc.h, ?_⟩, kno⟩
      ·show 0 ≤ (if i.v = true then upd c.R 15 (4 * c.pc % 4294967296) else c.R) k ∧ (if i.v = true then upd c.R 15 (4 * c.pc % 4294967296) else c.R) k < 4294967296
       split
       ·unfold upd
        split
        ·omega
        ·exact hr k
       ·exact hr k
      ·show 0 ≤ (if i.fo = 5 then c.R i.c.toNat / 4 else (c.pc + i.off % 4294967296) % 4294967296) ∧ (if i.fo = 5 then c.R i.c.toNat / 4 else (c.pc + i.off % 4294967296) % 4294967296) < 4294967296
       have := hr i.c.toNat
       split <;> omega
     ·exact ⟨hc, kno⟩
theorem stepF_ok {c : Cp} (hc : c.Ok) {x : Int} (h0 : 0 ≤ x) (h1 : x < 4294967296) : (stepF c x).1.Ok ∧ ∃ rg pl vl, EvOk (stepF c x).2 rg pl vl := by
 unfold stepF
 cases ho : ofW x with
 | none => exact ⟨Cp.next_ok hc, show ∃ rg pl vl, EvOk Ev.odd rg pl vl from ⟨0, 0, 0, ⟨by decide, rfl, by decide, rfl, by decide, rfl, by decide, by decide⟩⟩⟩
 | some i =>
  obtain ⟨ra, rb, rc, hi⟩ := ofW_ok h0 h1 ho
  exact insF_ok (Cp.next_ok hc) hi
def Mc.act (d : Mc) (e : Ev) (pl vl : Nat) (rg : Nat) : Mc :=
 if e.kind = 1 then (if pl < d.n ∧ (e.byte = true ∨ pl % 4 = 0) then { d with c := d.c.set rg (if e.byte = true then d.M pl else wordAt d.M pl) } else { d with kind := 6, code := 0 })
 else if e.kind = 2 then
  (if rg = 14 ∧ (d.n ≤ pl ∨ pl < d.heap) then { d with kind := 3, code := 0 }
   else if pl < d.n ∧ (e.byte = true ∨ pl % 4 = 0) then { d with M := if e.byte = true then upd d.M pl ((vl : Int) % 256) else putWord d.M pl vl } else { d with kind := 6, code := 0 })
 else if e.kind = 3 then { d with kind := 2, code := e.n }
 else if e.kind = 4 then (if e.n = 16 then { d with kind := 1, code := d.c.R 0 } else if e.n = 17 then newF d (d.c.R 0).toNat else { d with kind := 7, code := 0 })
 else if e.kind = 5 then { d with kind := 7, code := 0 } else d
section
variable {W0 W W' : World} {p mb s mm : Nat} {d : Mc}
theorem MAt.mm_ne (h : MAt W p mb s mm d) {a : Nat} {t : TypeId} {cs : Array Value} (hb : Blk W a t cs) : mm ≠ a := by
 rintro rfl
 have hh := h.code
 rw [show W.heap[mm]? = _ from hb] at hh
 cases hh
structure AI (W0 : World) (p mb s mm : Nat) (d : Mc) (A3 A4 : Option Nat) (W : World) : Prop where
 m : MAt W p mb s mm d
 chg : Chg NoB W0 W
 b3 : ∀ a, A3 = some a → CpAt W a Cp.zero ∧ W0.heap.size ≤ a
 b4 : ∀ a, A4 = some a → Blk W a EvT Ev.none.arr ∧ W0.heap.size ≤ a
variable {A3 A4 : Option Nat}
theorem AI.quiet (h : AI W0 p mb s mm d A3 A4 W) (hc : Chg NoB W W') : AI W0 p mb s mm d A3 A4 W' :=
 ⟨h.m.quiet hc, h.chg.trans hc, fun a ha => ⟨(h.b3 a ha).1.chg hc (fun h => h), (h.b3 a ha).2⟩, fun a ha => ⟨(h.b4 a ha).1.chg hc (fun h => h), (h.b4 a ha).2⟩⟩
theorem AI.alloc3 (h : AI W0 p mb s mm d none A4 W) : AI W0 p mb s mm d (some W.heap.size) A4 (W.alloc (.cells Cp.zero.arr CpT)) :=
 ⟨h.m.quiet ((Chg.refl _ _).alloc _), h.chg.alloc _, fun a ha => by obtain rfl : W.heap.size = a := Option.some.inj ha; exact ⟨Blk.new _ _ _, h.chg.size⟩, fun a ha => ⟨(h.b4 a ha).1.alloc _, (h.b4 a ha).2⟩⟩
theorem AI.alloc4 (h : AI W0 p mb s mm d A3 none W) : AI W0 p mb s mm d A3 (some W.heap.size) (W.alloc (.cells Ev.none.arr EvT)) :=
 ⟨h.m.quiet ((Chg.refl _ _).alloc _), h.chg.alloc _, fun a ha => ⟨(h.b3 a ha).1.alloc _, (h.b3 a ha).2⟩, fun a ha => by obtain rfl : W.heap.size = a := Option.some.inj ha; exact ⟨Blk.new _ _ _, h.chg.size⟩⟩
def AfterStep (W0 : World) (p mb s mm : Nat) (d : Mc) (c : Cp) (e : Ev) (v3 v4 : Value) (W : World) : Prop := ∃ a3 a4, v3 = .pointer (some ⟨a3, 0, none⟩) ∧ v4 = .pointer (some ⟨a4, 0, none⟩) ∧ MAt W p mb s mm d ∧ Chg NoB W0 W ∧ CpAt W a3 c ∧ Blk W a4 EvT e.arr ∧ W0.heap.size ≤ a3 ∧ W0.heap.size ≤ a4
theorem AI.fin {a3 a4 : Nat} (h : AI W0 p mb s mm d (some a3) (some a4) W) (c : Cp) (e : Ev) : AfterStep W0 p mb s mm d c e (.pointer (some ⟨a3, 0, none⟩)) (.pointer (some ⟨a4, 0, none⟩)) ((W.setRow a3 c.arr).setRow a4 e.arr) := by
 obtain ⟨b3, l3⟩ := h.b3 a3 rfl
 obtain ⟨b4, l4⟩ := h.b4 a4 rfl
 have hne : a3 ≠ a4 := b3.ne_ b4 (by decide)
 have hc : Chg (fun k => k = a3 ∨ k = a4) W ((W.setRow a3 c.arr).setRow a4 e.arr) := ((Chg.refl _ W).setRow (fun _ => .inl rfl) _).setRow (fun _ => .inr rfl) _
 have hp := h.m.lt
 have hm := h.m
 have n1 : p ≠ a3 ∧ p ≠ a4 := ⟨fun e => by subst e; exact absurd rfl (hm.m.ne_ b3 (by decide)), fun e => by subst e; exact absurd rfl (hm.m.ne_ b4 (by decide))⟩
 have n2 : mb ≠ a3 ∧ mb ≠ a4 := ⟨fun e => by subst e; exact absurd rfl (hm.b.ne_ b3 (by decide)), fun e => by subst e; exact absurd rfl (hm.b.ne_ b4 (by decide))⟩
 have n3 : mm ≠ a3 ∧ mm ≠ a4 := ⟨hm.mm_ne b3, hm.mm_ne b4⟩
 exact ⟨a3, a4, rfl, rfl, hm.chg hc (by omega) (by omega) (by omega), h.chg.step hc fun k hk e => by omega, (b3.setRow _).farRow hne _, (b4.farRow (Ne.symm hne) _).setRow _, l3, l4⟩
end
def Mc.ev (d : Mc) : Cp × Ev := stepF d.c (wordAt d.M (4 * d.c.pc.toNat))
section
variable {W W' : World} {p mb s mm : Nat} {d : Mc}
def MStepPost (p mb s mm : Nat) (d : Mc) (W : World) (e : Ending) (w' : World) : Prop := ∃ rg pl vl, EvOk d.ev.2 rg pl vl ∧ MPost p mb s mm (.bool (decide ((Mc.act { d with c := d.ev.1 } d.ev.2 pl vl rg).kind = 0))) (Mc.act { d with c := d.ev.1 } d.ev.2 pl vl rg) W e w'
set_option maxHeartbeats 4000000 in
set_option maxRecDepth 100000 in
theorem mstep_pre (h : MAt W p mb s mm d) (hd : d.Ok) (hk : d.kind = 0) (hh : d.heap ≤ d.n) (hsys : d.ev.2.kind = 4 → d.ev.2.n < 18 ∨ 28 < d.ev.2.n) (pn : Nat) (hpn : d.c.pc = pn) (hp : 4 * pn < d.n) : Calls Tryz.prog 15 #[.pointer (some ⟨p, 0, none⟩)] W (MStepPost p mb s mm d W) := by
 have hev : stepF d.c (wordAt d.M (4 * pn)) = d.ev := by unfold Mc.ev; rw [hpn]; rfl
 obtain ⟨hcok, rg, pl, vl, hek⟩ := stepF_ok hd.c (wordAt_bd hd.m (4 * pn)).1 (wordAt_bd hd.m (4 * pn)).2
 rw [hev] at hcok hek
 have HEK := Go.Lib.hid (And.intro hcok hek)
 have HEVQ := Go.Lib.hid hev
 clear hev hcok hek
 have HT := Go.Lib.hid (mthere_c h)
 have HGet : Hid (∀ V, MAt V p mb s mm d → Calls Tryz.prog 40 #[.pointer (some ⟨p, 0, none⟩), .int .u32 (4 * (pn : Int)), .bool false] V (Quiet (.int .u32 (wordAt d.M (4 * pn))) V)) := Go.Lib.hid fun V hV => by
  have hg := getWord_c hV hd.n.2.1 hd.m (4 * pn) (by have := hd.n.2.2; omega)
  rw [show ((4 * pn : Nat) : Int) = 4 * (pn : Int) by omega] at hg
  exact hg.mono fun e w' hq => ⟨hq.1, by obtain ⟨k, hk⟩ := hq.2; rw [hk]; exact (Chg.refl _ _).drewN _⟩
 have HStep := Go.Lib.hid (fun V => step_c d.c hd.c (wordAt d.M (4 * pn)) (wordAt_bd hd.m _).1 (wordAt_bd hd.m _).2 V)
 have hpc := hd.c.pc
 have hnb := hd.n.2.1
 obtain ⟨k21, k22, k23, k24, k25, k26, k27⟩ := h.cells
 have H := Go.Lib.hid h
 have hlt' : (4 * (pn : Int)) < (d.n : Int) := by omega
 rw [hk] at k25
 clear h
 go_enter Tryz.func15, Tryz.ntmps15
 go_wp2_with fail
 refine HT.out.mono ?_
 rintro e w1 ⟨rfl, rfl⟩
 go_wp2_with fail
 go_quiet (fail)
 go_wp2_with fail
 have HC0 := Go.Lib.hid ((Chg.refl NoB W).drewN nq)
 have H1 := Go.Lib.hid (H.out.quiet HC0.out)
 clear k21 k22 k23 k24 k25 k26 k27 H HT
 generalize W.drewN nq = W1 at H1 HC0 ⊢
 have h := H1.out
 have HAI : Hid (AI W1.drew p mb s mm d none none W1.drew) := Go.Lib.hid ⟨h.quiet (Chg.refl NoB _).drew, Chg.refl _ _, (by intro _ h; cases h), (by intro _ h; cases h)⟩
 have ew4 : IntKind.u32.wrap (4 * (pn : Int)) = 4 * (pn : Int) := by rw [IntKind.wrap_u32]; omega
 clear hlt'
 go_cut [3, 4] from 33 to 48 (fun v3 v4 wx => AfterStep W1.drew p mb s mm d (stepF d.c (wordAt d.M (4 * pn))).1 (stepF d.c (wordAt d.M (4 * pn))).2 v3 v4 wx)
 case first =>
  refine regionT 19 (fun V => MAt V p mb s mm d) (by kernel_rfl) (by decide) (h.quiet (Chg.refl NoB _).drew) (fun inv0 hHeld => ?_)
  refine takeT (i := 0) (t := 34) (v := ?v0z1) rfl (by kernel_rfl) (fun _ _ _ h => h) rfl (Or.inl ⟨by rfl, ?h0z1⟩) inv0 hHeld ?r0z1
  case h0z1 => (intro V hSw; obtain ⟨q21, q22, q23, q24, q25, q26, q27⟩ := hSw.cells; clear hSw; go_simp; try with_reducible rfl)
  intro inv01
  clear inv0
  try simp only [sw1, sw2, sw3]
  refine takeT (i := 1) (t := 35) (v := ?v1z2) rfl (by kernel_rfl) (fun _ _ _ h => h) rfl (Or.inl ⟨by rfl, ?h1z2⟩) inv01 hHeld ?r1z2
  case h1z2 => (intro V hSw; obtain ⟨q21, q22, q23, q24, q25, q26, q27⟩ := hSw.cells; clear hSw; go_simp; try with_reducible rfl)
  intro inv11
  clear inv01
  try simp only [sw1, sw2, sw3]
  refine takeT (i := 2) (t := 36) (v := ?v2z3) rfl (by kernel_rfl) (fun _ _ _ h => h) rfl (Or.inl ⟨by rfl, ?h2z3⟩) inv11 hHeld ?r2z3
  case h2z3 => (intro V hSw; obtain ⟨q21, q22, q23, q24, q25, q26, q27⟩ := hSw.cells; clear hSw; go_simp; try with_reducible rfl)
  intro inv21
  clear inv11
  try simp only [sw1, sw2, sw3]
  refine takeT (i := 3) (t := 37) (v := ?v3z4) rfl (by kernel_rfl) (fun _ _ _ h => h) rfl (Or.inl ⟨by rfl, ?h3z4⟩) inv21 hHeld ?r3z4
  case h3z4 => (intro V hSw; (refine exec_load_mid 42 (.tmp 36) ?_ p 0 ?_ hSw.cpRange Tryz.underlying42 rfl (by kernel_rfl)) <;> rfl)
  intro inv31
  clear inv21
  try simp only [sw1, sw2, sw3]
  refine takeT (i := 4) (t := 38) (v := ?v4z5) rfl (by kernel_rfl) (fun _ _ _ h => h) rfl (Or.inl ⟨by rfl, ?h4z5⟩) inv31 hHeld ?r4z5
  case h4z5 => (intro V hSw; obtain ⟨q21, q22, q23, q24, q25, q26, q27⟩ := hSw.cells; clear hSw; go_simp; try with_reducible rfl)
  intro inv41
  clear inv31
  try simp only [sw1, sw2, sw3]
  refine takeT (i := 5) (t := 39) (v := ?v5z6) rfl (by kernel_rfl) (fun _ _ _ h => h) rfl (Or.inl ⟨by rfl, ?h5z6⟩) inv41 hHeld ?r5z6
  case h5z6 => (intro V hSw; obtain ⟨q21, q22, q23, q24, q25, q26, q27⟩ := hSw.cells; clear hSw; go_simp; try with_reducible rfl)
  intro inv51
  clear inv41
  try simp only [sw1, sw2, sw3]
  refine takeT (i := 6) (t := 40) (v := ?v6z7) rfl (by kernel_rfl) (fun _ _ _ h => h) rfl (Or.inl ⟨by rfl, ?h6z7⟩) inv51 hHeld ?r6z7
  case h6z7 => (intro V hSw; obtain ⟨q21, q22, q23, q24, q25, q26, q27⟩ := hSw.cells; clear hSw; go_simp; try with_reducible rfl)
  intro inv61
  clear inv51
  try simp only [sw1, sw2, sw3]
  refine takeT (i := 7) (t := 41) (v := ?v7z8) rfl (by kernel_rfl) (fun _ _ _ h => h) rfl (Or.inl ⟨by rfl, ?h7z8⟩) inv61 hHeld ?r7z8
  case h7z8 => (intro V hSw; obtain ⟨q21, q22, q23, q24, q25, q26, q27⟩ := hSw.cells; clear hSw; go_simp; try with_reducible rfl)
  intro inv71
  clear inv61
  try simp only [sw1, sw2, sw3]
  refine takeT (i := 8) (t := 42) (v := ?v8z9) rfl (by kernel_rfl) (fun _ _ _ h => h) rfl (Or.inl ⟨by rfl, ?h8z9⟩) inv71 hHeld ?r8z9
  case h8z9 => (intro V hSw; obtain ⟨q21, q22, q23, q24, q25, q26, q27⟩ := hSw.cells; clear hSw; go_simp; try with_reducible rfl)
  intro inv81
  clear inv71
  try simp only [sw1, sw2, sw3]
  refine takeT (i := 9) (t := 43) (v := ?v9z10) rfl (by kernel_rfl) (fun _ _ _ h => h) rfl (Or.inl ⟨by rfl, ?h9z10⟩) inv81 hHeld ?r9z10
  case h9z10 => (intro V hSw; obtain ⟨q21, q22, q23, q24, q25, q26, q27⟩ := hSw.cells; clear hSw; go_simp; try with_reducible rfl)
  intro inv91
  clear inv81
  try simp only [sw1, sw2, sw3]
  refine takeT (i := 10) (t := 44) (v := ?v10z11) rfl (by kernel_rfl) (fun _ _ _ h => h) rfl (Or.inl ⟨by rfl, ?h10z11⟩) inv91 hHeld ?r10z11
  case h10z11 => (intro V hSw; obtain ⟨q21, q22, q23, q24, q25, q26, q27⟩ := hSw.cells; clear hSw; go_simp; try with_reducible rfl)
  intro inv101
  clear inv91
  try simp only [sw1, sw2, sw3]
  have hI := HAI.out
  clear hHeld
  refine manyT (i := 11) (l := [16, 17]) (by kernel_rfl) (by decide) inv101 ?ho11x0
  case ho11x0 =>
   intro j hj
   simp only [List.mem_cons, List.not_mem_nil, or_false] at hj
   rcases hj with rfl | rfl | rfl
   ·
    intro iv12
    clear inv101
    refine opCall (t := 45) (f := 40) (args := #[.pointer (some ⟨p, 0, none⟩), .int .u32 (4 * (pn : Int)), .bool false]) rfl rfl (by rfl) ?hx12 ?hc12
    case hx12 => (go_simp; try rfl)
    case hc12 =>
     refine (HGet.out W1.drew hI.m).mono ?_
     rintro e W12 ⟨rfl, hq⟩
     have hI12 := hI.quiet hq
     clear hq hI
     refine ⟨_, rfl, hI12.m, ?_⟩
     try simp only [sw1, sw2, sw3]
     refine manyT (i := 12) (l := [16, 17]) (by kernel_rfl) (by decide) iv12 ?ho12x1
     case ho12x1 =>
      intro j hj
      simp only [List.mem_cons, List.not_mem_nil, or_false] at hj
      rcases hj with rfl | rfl | rfl
      ·
       intro iv13
       clear iv12
       refine opCall (t := 46) (f := 39) (args := #[d.c.val, .int .u32 (wordAt d.M (4 * pn))]) rfl rfl (by rfl) ?hx13 ?hc13
       case hx13 => (go_simp; try rfl)
       case hc13 =>
        refine (HStep.out W12).mono ?_
        rintro e W13 ⟨rfl, hq⟩
        have hI13 := hI12.quiet hq
        clear hq hI12
        refine ⟨_, rfl, hI13.m, ?_⟩
        try simp only [sw1, sw2, sw3]
        refine takeT (i := 13) (t := 33) (v := ?v13z14) rfl (by kernel_rfl) (fun _ _ _ h => h) rfl (Or.inl ⟨by rfl, ?h13z14⟩) iv13 hI13.m ?r13z14
        case h13z14 => (intro V hSw; obtain ⟨q21, q22, q23, q24, q25, q26, q27⟩ := hSw.cells; clear hSw; go_simp; try with_reducible rfl)
        intro inv131
        clear iv13
        try simp only [sw1, sw2, sw3]
        refine takeT (i := 14) (t := 47) (v := ?v14z15) rfl (by kernel_rfl) (fun _ _ _ h => h) rfl (Or.inl ⟨by rfl, ?h14z15⟩) inv131 hI13.m ?r14z15
        case h14z15 => (intro V hSw; obtain ⟨q21, q22, q23, q24, q25, q26, q27⟩ := hSw.cells; clear hSw; go_simp; try with_reducible rfl)
        intro inv141
        clear inv131
        try simp only [sw1, sw2, sw3]
        refine takeT (i := 15) (t := 48) (v := ?v15z16) rfl (by kernel_rfl) (fun _ _ _ h => h) rfl (Or.inl ⟨by rfl, ?h15z16⟩) inv141 hI13.m ?r15z16
        case h15z16 => (intro V hSw; obtain ⟨q21, q22, q23, q24, q25, q26, q27⟩ := hSw.cells; clear hSw; go_simp; try with_reducible rfl)
        intro inv151
        clear inv141
        try simp only [sw1, sw2, sw3]
        refine manyT (i := 16) (l := [17]) (by kernel_rfl) (by decide) inv151 ?ho16x2
        case ho16x2 =>
         intro j hj
         simp only [List.mem_cons, List.not_mem_nil, or_false] at hj
         rcases hj with rfl | rfl
         ·
          intro iv17
          clear inv151
          refine opVal (t := 3) (v := .pointer (some ⟨(World.heap W13).size, 0, none⟩)) (w' := World.alloc W13 (.cells Cp.zero.arr CpT)) rfl rfl (by rfl) ?hx17 (hI13.alloc3).m ?hr17
          case hx17 => (go_simp; try rfl)
          case hr17 =>
           have hI17 := hI13.alloc3
           clear hI13
           generalize World.alloc W13 (.cells Cp.zero.arr CpT) = W17 at hI17 ⊢
           generalize (World.heap W13).size = a3 at hI17 ⊢
           try simp only [sw1, sw2, sw3]
           refine manyT (i := 17) (l := []) (by kernel_rfl) (by decide) iv17 ?ho17x3
           case ho17x3 =>
            intro j hj
            simp only [List.mem_cons, List.not_mem_nil, or_false] at hj
            rcases hj with rfl
            ·
             intro iv18
             clear iv17
             refine opVal (t := 4) (v := .pointer (some ⟨(World.heap W17).size, 0, none⟩)) (w' := World.alloc W17 (.cells Ev.none.arr EvT)) rfl rfl (by rfl) ?hx18 (hI17.alloc4).m ?hr18
             case hx18 => (go_simp; try rfl)
             case hr18 =>
              have hI18 := hI17.alloc4
              clear hI17
              generalize World.alloc W17 (.cells Ev.none.arr EvT) = W18 at hI18 ⊢
              generalize (World.heap W17).size = a4 at hI18 ⊢
              try simp only [sw1, sw2, sw3]
              refine storeT (i := 18) (w' := World.setRow W18 a3 ((stepF d.c (wordAt d.M (4 * pn))).1 : Cp).arr) rfl (by kernel_rfl) rfl (by rfl) ?hs19 iv18 (by decide) (hI18.m.chg (F := fun k => k = a3) ((Chg.refl (fun k => k = a3) _).setRow (fun _ => rfl) _) ?hp19a ?hp19b ?hp19c) ?hr19
              case hs19 => (refine exec_store_row 42 (.tmp 3) (.tmp 47) ?_ a3 ((stepF d.c (wordAt d.M (4 * pn))).1 : Cp).arr ?_ ?_ (hI18.b3 a3 rfl).1 (by kernel_rfl) (by rfl) (by kernel_rfl)) <;> rfl
              case hp19a => (intro e; subst e; exact absurd rfl (hI18.m.m.ne_ (hI18.b3 _ rfl).1 (by decide)))
              case hp19b => (intro e; subst e; exact absurd rfl (hI18.m.b.ne_ (hI18.b3 _ rfl).1 (by decide)))
              case hp19c => exact hI18.m.mm_ne (hI18.b3 a3 rfl).1
              intro inv18 hH18
              refine lastT (i := 19) (w' := World.setRow (World.setRow W18 a3 ((stepF d.c (wordAt d.M (4 * pn))).1 : Cp).arr) a4 ((stepF d.c (wordAt d.M (4 * pn))).2 : Ev).arr) rfl (by kernel_rfl) rfl (by rfl) ?ht19 (by decide) (by kernel_rfl) ?hu19
              case ht19 => (refine exec_store_row 110 (.tmp 4) (.tmp 48) ?_ a4 ((stepF d.c (wordAt d.M (4 * pn))).2 : Ev).arr ?_ ?_ (Blk.farRow (hI18.b4 a4 rfl).1 (fun e => absurd e.symm ((hI18.b3 a3 rfl).1.ne_ (hI18.b4 a4 rfl).1 (by decide))) _) (by kernel_rfl) (by rfl) (by kernel_rfl)) <;> rfl
              try simp only [sw1, sw2, sw3]
              go_wp2_with fail
              go_meet
              case rel => exact hI18.fin ((stepF d.c (wordAt d.M (4 * pn))).1 : Cp) ((stepF d.c (wordAt d.M (4 * pn))).2 : Ev)
         ·
          intro iv20
          clear inv151
          refine opVal (t := 4) (v := .pointer (some ⟨(World.heap W13).size, 0, none⟩)) (w' := World.alloc W13 (.cells Ev.none.arr EvT)) rfl rfl (by rfl) ?hx20 (hI13.alloc4).m ?hr20
          case hx20 => (go_simp; try rfl)
          case hr20 =>
           have hI20 := hI13.alloc4
           clear hI13
           generalize World.alloc W13 (.cells Ev.none.arr EvT) = W20 at hI20 ⊢
           generalize (World.heap W13).size = a4 at hI20 ⊢
           try simp only [sw1, sw2, sw3]
           refine manyT (i := 16) (l := []) (by kernel_rfl) (by decide) iv20 ?ho20x3
           case ho20x3 =>
            intro j hj
            simp only [List.mem_cons, List.not_mem_nil, or_false] at hj
            rcases hj with rfl
            ·
             intro iv21
             clear iv20
             refine opVal (t := 3) (v := .pointer (some ⟨(World.heap W20).size, 0, none⟩)) (w' := World.alloc W20 (.cells Cp.zero.arr CpT)) rfl rfl (by rfl) ?hx21 (hI20.alloc3).m ?hr21
             case hx21 => (go_simp; try rfl)
             case hr21 =>
              have hI21 := hI20.alloc3
              clear hI20
              generalize World.alloc W20 (.cells Cp.zero.arr CpT) = W21 at hI21 ⊢
              generalize (World.heap W20).size = a3 at hI21 ⊢
              try simp only [sw1, sw2, sw3]
              refine storeT (i := 18) (w' := World.setRow W21 a3 ((stepF d.c (wordAt d.M (4 * pn))).1 : Cp).arr) rfl (by kernel_rfl) rfl (by rfl) ?hs22 iv21 (by decide) (hI21.m.chg (F := fun k => k = a3) ((Chg.refl (fun k => k = a3) _).setRow (fun _ => rfl) _) ?hp22a ?hp22b ?hp22c) ?hr22
              case hs22 => (refine exec_store_row 42 (.tmp 3) (.tmp 47) ?_ a3 ((stepF d.c (wordAt d.M (4 * pn))).1 : Cp).arr ?_ ?_ (hI21.b3 a3 rfl).1 (by kernel_rfl) (by rfl) (by kernel_rfl)) <;> rfl
              case hp22a => (intro e; subst e; exact absurd rfl (hI21.m.m.ne_ (hI21.b3 _ rfl).1 (by decide)))
              case hp22b => (intro e; subst e; exact absurd rfl (hI21.m.b.ne_ (hI21.b3 _ rfl).1 (by decide)))
              case hp22c => exact hI21.m.mm_ne (hI21.b3 a3 rfl).1
              intro inv18 hH18
              refine lastT (i := 19) (w' := World.setRow (World.setRow W21 a3 ((stepF d.c (wordAt d.M (4 * pn))).1 : Cp).arr) a4 ((stepF d.c (wordAt d.M (4 * pn))).2 : Ev).arr) rfl (by kernel_rfl) rfl (by rfl) ?ht22 (by decide) (by kernel_rfl) ?hu22
              case ht22 => (refine exec_store_row 110 (.tmp 4) (.tmp 48) ?_ a4 ((stepF d.c (wordAt d.M (4 * pn))).2 : Ev).arr ?_ ?_ (Blk.farRow (hI21.b4 a4 rfl).1 (fun e => absurd e.symm ((hI21.b3 a3 rfl).1.ne_ (hI21.b4 a4 rfl).1 (by decide))) _) (by kernel_rfl) (by rfl) (by kernel_rfl)) <;> rfl
              try simp only [sw1, sw2, sw3]
              go_wp2_with fail
              go_meet
              case rel => exact hI21.fin ((stepF d.c (wordAt d.M (4 * pn))).1 : Cp) ((stepF d.c (wordAt d.M (4 * pn))).2 : Ev)
      ·
       intro iv23
       clear iv12
       refine opVal (t := 3) (v := .pointer (some ⟨(World.heap W12).size, 0, none⟩)) (w' := World.alloc W12 (.cells Cp.zero.arr CpT)) rfl rfl (by rfl) ?hx23 (hI12.alloc3).m ?hr23
       case hx23 => (go_simp; try rfl)
       case hr23 =>
        have hI23 := hI12.alloc3
        clear hI12
        generalize World.alloc W12 (.cells Cp.zero.arr CpT) = W23 at hI23 ⊢
        generalize (World.heap W12).size = a3 at hI23 ⊢
        try simp only [sw1, sw2, sw3]
        refine manyT (i := 12) (l := [17]) (by kernel_rfl) (by decide) iv23 ?ho23x2
        case ho23x2 =>
         intro j hj
         simp only [List.mem_cons, List.not_mem_nil, or_false] at hj
         rcases hj with rfl | rfl
         ·
          intro iv24
          clear iv23
          refine opCall (t := 46) (f := 39) (args := #[d.c.val, .int .u32 (wordAt d.M (4 * pn))]) rfl rfl (by rfl) ?hx24 ?hc24
          case hx24 => (go_simp; try rfl)
          case hc24 =>
           refine (HStep.out W23).mono ?_
           rintro e W24 ⟨rfl, hq⟩
           have hI24 := hI23.quiet hq
           clear hq hI23
           refine ⟨_, rfl, hI24.m, ?_⟩
           try simp only [sw1, sw2, sw3]
           refine takeT (i := 13) (t := 33) (v := ?v13z25) rfl (by kernel_rfl) (fun _ _ _ h => h) rfl (Or.inl ⟨by rfl, ?h13z25⟩) iv24 hI24.m ?r13z25
           case h13z25 => (intro V hSw; obtain ⟨q21, q22, q23, q24, q25, q26, q27⟩ := hSw.cells; clear hSw; go_simp; try with_reducible rfl)
           intro inv131
           clear iv24
           try simp only [sw1, sw2, sw3]
           refine takeT (i := 14) (t := 47) (v := ?v14z26) rfl (by kernel_rfl) (fun _ _ _ h => h) rfl (Or.inl ⟨by rfl, ?h14z26⟩) inv131 hI24.m ?r14z26
           case h14z26 => (intro V hSw; obtain ⟨q21, q22, q23, q24, q25, q26, q27⟩ := hSw.cells; clear hSw; go_simp; try with_reducible rfl)
           intro inv141
           clear inv131
           try simp only [sw1, sw2, sw3]
           refine takeT (i := 15) (t := 48) (v := ?v15z27) rfl (by kernel_rfl) (fun _ _ _ h => h) rfl (Or.inl ⟨by rfl, ?h15z27⟩) inv141 hI24.m ?r15z27
           case h15z27 => (intro V hSw; obtain ⟨q21, q22, q23, q24, q25, q26, q27⟩ := hSw.cells; clear hSw; go_simp; try with_reducible rfl)
           intro inv151
           clear inv141
           try simp only [sw1, sw2, sw3]
           refine manyT (i := 17) (l := []) (by kernel_rfl) (by decide) inv151 ?ho27x3
           case ho27x3 =>
            intro j hj
            simp only [List.mem_cons, List.not_mem_nil, or_false] at hj
            rcases hj with rfl
            ·
             intro iv28
             clear inv151
             refine opVal (t := 4) (v := .pointer (some ⟨(World.heap W24).size, 0, none⟩)) (w' := World.alloc W24 (.cells Ev.none.arr EvT)) rfl rfl (by rfl) ?hx28 (hI24.alloc4).m ?hr28
             case hx28 => (go_simp; try rfl)
             case hr28 =>
              have hI28 := hI24.alloc4
              clear hI24
              generalize World.alloc W24 (.cells Ev.none.arr EvT) = W28 at hI28 ⊢
              generalize (World.heap W24).size = a4 at hI28 ⊢
              try simp only [sw1, sw2, sw3]
              refine storeT (i := 18) (w' := World.setRow W28 a3 ((stepF d.c (wordAt d.M (4 * pn))).1 : Cp).arr) rfl (by kernel_rfl) rfl (by rfl) ?hs29 iv28 (by decide) (hI28.m.chg (F := fun k => k = a3) ((Chg.refl (fun k => k = a3) _).setRow (fun _ => rfl) _) ?hp29a ?hp29b ?hp29c) ?hr29
              case hs29 => (refine exec_store_row 42 (.tmp 3) (.tmp 47) ?_ a3 ((stepF d.c (wordAt d.M (4 * pn))).1 : Cp).arr ?_ ?_ (hI28.b3 a3 rfl).1 (by kernel_rfl) (by rfl) (by kernel_rfl)) <;> rfl
              case hp29a => (intro e; subst e; exact absurd rfl (hI28.m.m.ne_ (hI28.b3 _ rfl).1 (by decide)))
              case hp29b => (intro e; subst e; exact absurd rfl (hI28.m.b.ne_ (hI28.b3 _ rfl).1 (by decide)))
              case hp29c => exact hI28.m.mm_ne (hI28.b3 a3 rfl).1
              intro inv18 hH18
              refine lastT (i := 19) (w' := World.setRow (World.setRow W28 a3 ((stepF d.c (wordAt d.M (4 * pn))).1 : Cp).arr) a4 ((stepF d.c (wordAt d.M (4 * pn))).2 : Ev).arr) rfl (by kernel_rfl) rfl (by rfl) ?ht29 (by decide) (by kernel_rfl) ?hu29
              case ht29 => (refine exec_store_row 110 (.tmp 4) (.tmp 48) ?_ a4 ((stepF d.c (wordAt d.M (4 * pn))).2 : Ev).arr ?_ ?_ (Blk.farRow (hI28.b4 a4 rfl).1 (fun e => absurd e.symm ((hI28.b3 a3 rfl).1.ne_ (hI28.b4 a4 rfl).1 (by decide))) _) (by kernel_rfl) (by rfl) (by kernel_rfl)) <;> rfl
              try simp only [sw1, sw2, sw3]
              go_wp2_with fail
              go_meet
              case rel => exact hI28.fin ((stepF d.c (wordAt d.M (4 * pn))).1 : Cp) ((stepF d.c (wordAt d.M (4 * pn))).2 : Ev)
         ·
          intro iv30
          clear iv23
          refine opVal (t := 4) (v := .pointer (some ⟨(World.heap W23).size, 0, none⟩)) (w' := World.alloc W23 (.cells Ev.none.arr EvT)) rfl rfl (by rfl) ?hx30 (hI23.alloc4).m ?hr30
          case hx30 => (go_simp; try rfl)
          case hr30 =>
           have hI30 := hI23.alloc4
           clear hI23
           generalize World.alloc W23 (.cells Ev.none.arr EvT) = W30 at hI30 ⊢
           generalize (World.heap W23).size = a4 at hI30 ⊢
           try simp only [sw1, sw2, sw3]
           refine manyT (i := 12) (l := []) (by kernel_rfl) (by decide) iv30 ?ho30x3
           case ho30x3 =>
            intro j hj
            simp only [List.mem_cons, List.not_mem_nil, or_false] at hj
            rcases hj with rfl
            ·
             intro iv31
             clear iv30
             refine opCall (t := 46) (f := 39) (args := #[d.c.val, .int .u32 (wordAt d.M (4 * pn))]) rfl rfl (by rfl) ?hx31 ?hc31
             case hx31 => (go_simp; try rfl)
             case hc31 =>
              refine (HStep.out W30).mono ?_
              rintro e W31 ⟨rfl, hq⟩
              have hI31 := hI30.quiet hq
              clear hq hI30
              refine ⟨_, rfl, hI31.m, ?_⟩
              try simp only [sw1, sw2, sw3]
              refine takeT (i := 13) (t := 33) (v := ?v13z32) rfl (by kernel_rfl) (fun _ _ _ h => h) rfl (Or.inl ⟨by rfl, ?h13z32⟩) iv31 hI31.m ?r13z32
              case h13z32 => (intro V hSw; obtain ⟨q21, q22, q23, q24, q25, q26, q27⟩ := hSw.cells; clear hSw; go_simp; try with_reducible rfl)
              intro inv131
              clear iv31
              try simp only [sw1, sw2, sw3]
              refine takeT (i := 14) (t := 47) (v := ?v14z33) rfl (by kernel_rfl) (fun _ _ _ h => h) rfl (Or.inl ⟨by rfl, ?h14z33⟩) inv131 hI31.m ?r14z33
              case h14z33 => (intro V hSw; obtain ⟨q21, q22, q23, q24, q25, q26, q27⟩ := hSw.cells; clear hSw; go_simp; try with_reducible rfl)
              intro inv141
              clear inv131
              try simp only [sw1, sw2, sw3]
              refine takeT (i := 15) (t := 48) (v := ?v15z34) rfl (by kernel_rfl) (fun _ _ _ h => h) rfl (Or.inl ⟨by rfl, ?h15z34⟩) inv141 hI31.m ?r15z34
              case h15z34 => (intro V hSw; obtain ⟨q21, q22, q23, q24, q25, q26, q27⟩ := hSw.cells; clear hSw; go_simp; try with_reducible rfl)
              intro inv151
              clear inv141
              try simp only [sw1, sw2, sw3]
              refine storeT (i := 18) (w' := World.setRow W31 a3 ((stepF d.c (wordAt d.M (4 * pn))).1 : Cp).arr) rfl (by kernel_rfl) rfl (by rfl) ?hs35 inv151 (by decide) (hI31.m.chg (F := fun k => k = a3) ((Chg.refl (fun k => k = a3) _).setRow (fun _ => rfl) _) ?hp35a ?hp35b ?hp35c) ?hr35
              case hs35 => (refine exec_store_row 42 (.tmp 3) (.tmp 47) ?_ a3 ((stepF d.c (wordAt d.M (4 * pn))).1 : Cp).arr ?_ ?_ (hI31.b3 a3 rfl).1 (by kernel_rfl) (by rfl) (by kernel_rfl)) <;> rfl
              case hp35a => (intro e; subst e; exact absurd rfl (hI31.m.m.ne_ (hI31.b3 _ rfl).1 (by decide)))
              case hp35b => (intro e; subst e; exact absurd rfl (hI31.m.b.ne_ (hI31.b3 _ rfl).1 (by decide)))
              case hp35c => exact hI31.m.mm_ne (hI31.b3 a3 rfl).1
              intro inv18 hH18
              refine lastT (i := 19) (w' := World.setRow (World.setRow W31 a3 ((stepF d.c (wordAt d.M (4 * pn))).1 : Cp).arr) a4 ((stepF d.c (wordAt d.M (4 * pn))).2 : Ev).arr) rfl (by kernel_rfl) rfl (by rfl) ?ht35 (by decide) (by kernel_rfl) ?hu35
              case ht35 => (refine exec_store_row 110 (.tmp 4) (.tmp 48) ?_ a4 ((stepF d.c (wordAt d.M (4 * pn))).2 : Ev).arr ?_ ?_ (Blk.farRow (hI31.b4 a4 rfl).1 (fun e => absurd e.symm ((hI31.b3 a3 rfl).1.ne_ (hI31.b4 a4 rfl).1 (by decide))) _) (by kernel_rfl) (by rfl) (by kernel_rfl)) <;> rfl
              try simp only [sw1, sw2, sw3]
              go_wp2_with fail
              go_meet
              case rel => exact hI31.fin ((stepF d.c (wordAt d.M (4 * pn))).1 : Cp) ((stepF d.c (wordAt d.M (4 * pn))).2 : Ev)
      ·
       intro iv36
       clear iv12
       refine opVal (t := 4) (v := .pointer (some ⟨(World.heap W12).size, 0, none⟩)) (w' := World.alloc W12 (.cells Ev.none.arr EvT)) rfl rfl (by rfl) ?hx36 (hI12.alloc4).m ?hr36
       case hx36 => (go_simp; try rfl)
       case hr36 =>
        have hI36 := hI12.alloc4
        clear hI12
        generalize World.alloc W12 (.cells Ev.none.arr EvT) = W36 at hI36 ⊢
        generalize (World.heap W12).size = a4 at hI36 ⊢
        try simp only [sw1, sw2, sw3]
        refine manyT (i := 12) (l := [16]) (by kernel_rfl) (by decide) iv36 ?ho36x2
        case ho36x2 =>
         intro j hj
         simp only [List.mem_cons, List.not_mem_nil, or_false] at hj
         rcases hj with rfl | rfl
         ·
          intro iv37
          clear iv36
          refine opCall (t := 46) (f := 39) (args := #[d.c.val, .int .u32 (wordAt d.M (4 * pn))]) rfl rfl (by rfl) ?hx37 ?hc37
          case hx37 => (go_simp; try rfl)
          case hc37 =>
           refine (HStep.out W36).mono ?_
           rintro e W37 ⟨rfl, hq⟩
           have hI37 := hI36.quiet hq
           clear hq hI36
           refine ⟨_, rfl, hI37.m, ?_⟩
           try simp only [sw1, sw2, sw3]
           refine takeT (i := 13) (t := 33) (v := ?v13z38) rfl (by kernel_rfl) (fun _ _ _ h => h) rfl (Or.inl ⟨by rfl, ?h13z38⟩) iv37 hI37.m ?r13z38
           case h13z38 => (intro V hSw; obtain ⟨q21, q22, q23, q24, q25, q26, q27⟩ := hSw.cells; clear hSw; go_simp; try with_reducible rfl)
           intro inv131
           clear iv37
           try simp only [sw1, sw2, sw3]
           refine takeT (i := 14) (t := 47) (v := ?v14z39) rfl (by kernel_rfl) (fun _ _ _ h => h) rfl (Or.inl ⟨by rfl, ?h14z39⟩) inv131 hI37.m ?r14z39
           case h14z39 => (intro V hSw; obtain ⟨q21, q22, q23, q24, q25, q26, q27⟩ := hSw.cells; clear hSw; go_simp; try with_reducible rfl)
           intro inv141
           clear inv131
           try simp only [sw1, sw2, sw3]
           refine takeT (i := 15) (t := 48) (v := ?v15z40) rfl (by kernel_rfl) (fun _ _ _ h => h) rfl (Or.inl ⟨by rfl, ?h15z40⟩) inv141 hI37.m ?r15z40
           case h15z40 => (intro V hSw; obtain ⟨q21, q22, q23, q24, q25, q26, q27⟩ := hSw.cells; clear hSw; go_simp; try with_reducible rfl)
           intro inv151
           clear inv141
           try simp only [sw1, sw2, sw3]
           refine manyT (i := 16) (l := []) (by kernel_rfl) (by decide) inv151 ?ho40x3
           case ho40x3 =>
            intro j hj
            simp only [List.mem_cons, List.not_mem_nil, or_false] at hj
            rcases hj with rfl
            ·
             intro iv41
             clear inv151
             refine opVal (t := 3) (v := .pointer (some ⟨(World.heap W37).size, 0, none⟩)) (w' := World.alloc W37 (.cells Cp.zero.arr CpT)) rfl rfl (by rfl) ?hx41 (hI37.alloc3).m ?hr41
             case hx41 => (go_simp; try rfl)
             case hr41 =>
              have hI41 := hI37.alloc3
              clear hI37
              generalize World.alloc W37 (.cells Cp.zero.arr CpT) = W41 at hI41 ⊢
              generalize (World.heap W37).size = a3 at hI41 ⊢
              try simp only [sw1, sw2, sw3]
              refine storeT (i := 18) (w' := World.setRow W41 a3 ((stepF d.c (wordAt d.M (4 * pn))).1 : Cp).arr) rfl (by kernel_rfl) rfl (by rfl) ?hs42 iv41 (by decide) (hI41.m.chg (F := fun k => k = a3) ((Chg.refl (fun k => k = a3) _).setRow (fun _ => rfl) _) ?hp42a ?hp42b ?hp42c) ?hr42
              case hs42 => (refine exec_store_row 42 (.tmp 3) (.tmp 47) ?_ a3 ((stepF d.c (wordAt d.M (4 * pn))).1 : Cp).arr ?_ ?_ (hI41.b3 a3 rfl).1 (by kernel_rfl) (by rfl) (by kernel_rfl)) <;> rfl
              case hp42a => (intro e; subst e; exact absurd rfl (hI41.m.m.ne_ (hI41.b3 _ rfl).1 (by decide)))
              case hp42b => (intro e; subst e; exact absurd rfl (hI41.m.b.ne_ (hI41.b3 _ rfl).1 (by decide)))
              case hp42c => exact hI41.m.mm_ne (hI41.b3 a3 rfl).1
              intro inv18 hH18
              refine lastT (i := 19) (w' := World.setRow (World.setRow W41 a3 ((stepF d.c (wordAt d.M (4 * pn))).1 : Cp).arr) a4 ((stepF d.c (wordAt d.M (4 * pn))).2 : Ev).arr) rfl (by kernel_rfl) rfl (by rfl) ?ht42 (by decide) (by kernel_rfl) ?hu42
              case ht42 => (refine exec_store_row 110 (.tmp 4) (.tmp 48) ?_ a4 ((stepF d.c (wordAt d.M (4 * pn))).2 : Ev).arr ?_ ?_ (Blk.farRow (hI41.b4 a4 rfl).1 (fun e => absurd e.symm ((hI41.b3 a3 rfl).1.ne_ (hI41.b4 a4 rfl).1 (by decide))) _) (by kernel_rfl) (by rfl) (by kernel_rfl)) <;> rfl
              try simp only [sw1, sw2, sw3]
              go_wp2_with fail
              go_meet
              case rel => exact hI41.fin ((stepF d.c (wordAt d.M (4 * pn))).1 : Cp) ((stepF d.c (wordAt d.M (4 * pn))).2 : Ev)
         ·
          intro iv43
          clear iv36
          refine opVal (t := 3) (v := .pointer (some ⟨(World.heap W36).size, 0, none⟩)) (w' := World.alloc W36 (.cells Cp.zero.arr CpT)) rfl rfl (by rfl) ?hx43 (hI36.alloc3).m ?hr43
          case hx43 => (go_simp; try rfl)
          case hr43 =>
           have hI43 := hI36.alloc3
           clear hI36
           generalize World.alloc W36 (.cells Cp.zero.arr CpT) = W43 at hI43 ⊢
           generalize (World.heap W36).size = a3 at hI43 ⊢
           try simp only [sw1, sw2, sw3]
           refine manyT (i := 12) (l := []) (by kernel_rfl) (by decide) iv43 ?ho43x3
           case ho43x3 =>
            intro j hj
            simp only [List.mem_cons, List.not_mem_nil, or_false] at hj
            rcases hj with rfl
            ·
             intro iv44
             clear iv43
             refine opCall (t := 46) (f := 39) (args := #[d.c.val, .int .u32 (wordAt d.M (4 * pn))]) rfl rfl (by rfl) ?hx44 ?hc44
             case hx44 => (go_simp; try rfl)
             case hc44 =>
              refine (HStep.out W43).mono ?_
              rintro e W44 ⟨rfl, hq⟩
              have hI44 := hI43.quiet hq
              clear hq hI43
              refine ⟨_, rfl, hI44.m, ?_⟩
              try simp only [sw1, sw2, sw3]
              refine takeT (i := 13) (t := 33) (v := ?v13z45) rfl (by kernel_rfl) (fun _ _ _ h => h) rfl (Or.inl ⟨by rfl, ?h13z45⟩) iv44 hI44.m ?r13z45
              case h13z45 => (intro V hSw; obtain ⟨q21, q22, q23, q24, q25, q26, q27⟩ := hSw.cells; clear hSw; go_simp; try with_reducible rfl)
              intro inv131
              clear iv44
              try simp only [sw1, sw2, sw3]
              refine takeT (i := 14) (t := 47) (v := ?v14z46) rfl (by kernel_rfl) (fun _ _ _ h => h) rfl (Or.inl ⟨by rfl, ?h14z46⟩) inv131 hI44.m ?r14z46
              case h14z46 => (intro V hSw; obtain ⟨q21, q22, q23, q24, q25, q26, q27⟩ := hSw.cells; clear hSw; go_simp; try with_reducible rfl)
              intro inv141
              clear inv131
              try simp only [sw1, sw2, sw3]
              refine takeT (i := 15) (t := 48) (v := ?v15z47) rfl (by kernel_rfl) (fun _ _ _ h => h) rfl (Or.inl ⟨by rfl, ?h15z47⟩) inv141 hI44.m ?r15z47
              case h15z47 => (intro V hSw; obtain ⟨q21, q22, q23, q24, q25, q26, q27⟩ := hSw.cells; clear hSw; go_simp; try with_reducible rfl)
              intro inv151
              clear inv141
              try simp only [sw1, sw2, sw3]
              refine storeT (i := 18) (w' := World.setRow W44 a3 ((stepF d.c (wordAt d.M (4 * pn))).1 : Cp).arr) rfl (by kernel_rfl) rfl (by rfl) ?hs48 inv151 (by decide) (hI44.m.chg (F := fun k => k = a3) ((Chg.refl (fun k => k = a3) _).setRow (fun _ => rfl) _) ?hp48a ?hp48b ?hp48c) ?hr48
              case hs48 => (refine exec_store_row 42 (.tmp 3) (.tmp 47) ?_ a3 ((stepF d.c (wordAt d.M (4 * pn))).1 : Cp).arr ?_ ?_ (hI44.b3 a3 rfl).1 (by kernel_rfl) (by rfl) (by kernel_rfl)) <;> rfl
              case hp48a => (intro e; subst e; exact absurd rfl (hI44.m.m.ne_ (hI44.b3 _ rfl).1 (by decide)))
              case hp48b => (intro e; subst e; exact absurd rfl (hI44.m.b.ne_ (hI44.b3 _ rfl).1 (by decide)))
              case hp48c => exact hI44.m.mm_ne (hI44.b3 a3 rfl).1
              intro inv18 hH18
              refine lastT (i := 19) (w' := World.setRow (World.setRow W44 a3 ((stepF d.c (wordAt d.M (4 * pn))).1 : Cp).arr) a4 ((stepF d.c (wordAt d.M (4 * pn))).2 : Ev).arr) rfl (by kernel_rfl) rfl (by rfl) ?ht48 (by decide) (by kernel_rfl) ?hu48
              case ht48 => (refine exec_store_row 110 (.tmp 4) (.tmp 48) ?_ a4 ((stepF d.c (wordAt d.M (4 * pn))).2 : Ev).arr ?_ ?_ (Blk.farRow (hI44.b4 a4 rfl).1 (fun e => absurd e.symm ((hI44.b3 a3 rfl).1.ne_ (hI44.b4 a4 rfl).1 (by decide))) _) (by kernel_rfl) (by rfl) (by kernel_rfl)) <;> rfl
              try simp only [sw1, sw2, sw3]
              go_wp2_with fail
              go_meet
              case rel => exact hI44.fin ((stepF d.c (wordAt d.M (4 * pn))).1 : Cp) ((stepF d.c (wordAt d.M (4 * pn))).2 : Ev)
   ·
    intro iv49
    clear inv101
    refine opVal (t := 3) (v := .pointer (some ⟨(World.heap W1.drew).size, 0, none⟩)) (w' := World.alloc W1.drew (.cells Cp.zero.arr CpT)) rfl rfl (by rfl) ?hx49 (hI.alloc3).m ?hr49
    case hx49 => (go_simp; try rfl)
    case hr49 =>
     have hI49 := hI.alloc3
     clear hI
     generalize World.alloc W1.drew (.cells Cp.zero.arr CpT) = W49 at hI49 ⊢
     generalize (World.heap W1.drew).size = a3 at hI49 ⊢
     try simp only [sw1, sw2, sw3]
     refine manyT (i := 11) (l := [17]) (by kernel_rfl) (by decide) iv49 ?ho49x1
     case ho49x1 =>
      intro j hj
      simp only [List.mem_cons, List.not_mem_nil, or_false] at hj
      rcases hj with rfl | rfl
      ·
       intro iv50
       clear iv49
       refine opCall (t := 45) (f := 40) (args := #[.pointer (some ⟨p, 0, none⟩), .int .u32 (4 * (pn : Int)), .bool false]) rfl rfl (by rfl) ?hx50 ?hc50
       case hx50 => (go_simp; try rfl)
       case hc50 =>
        refine (HGet.out W49 hI49.m).mono ?_
        rintro e W50 ⟨rfl, hq⟩
        have hI50 := hI49.quiet hq
        clear hq hI49
        refine ⟨_, rfl, hI50.m, ?_⟩
        try simp only [sw1, sw2, sw3]
        refine manyT (i := 12) (l := [17]) (by kernel_rfl) (by decide) iv50 ?ho50x2
        case ho50x2 =>
         intro j hj
         simp only [List.mem_cons, List.not_mem_nil, or_false] at hj
         rcases hj with rfl | rfl
         ·
          intro iv51
          clear iv50
          refine opCall (t := 46) (f := 39) (args := #[d.c.val, .int .u32 (wordAt d.M (4 * pn))]) rfl rfl (by rfl) ?hx51 ?hc51
          case hx51 => (go_simp; try rfl)
          case hc51 =>
           refine (HStep.out W50).mono ?_
           rintro e W51 ⟨rfl, hq⟩
           have hI51 := hI50.quiet hq
           clear hq hI50
           refine ⟨_, rfl, hI51.m, ?_⟩
           try simp only [sw1, sw2, sw3]
           refine takeT (i := 13) (t := 33) (v := ?v13z52) rfl (by kernel_rfl) (fun _ _ _ h => h) rfl (Or.inl ⟨by rfl, ?h13z52⟩) iv51 hI51.m ?r13z52
           case h13z52 => (intro V hSw; obtain ⟨q21, q22, q23, q24, q25, q26, q27⟩ := hSw.cells; clear hSw; go_simp; try with_reducible rfl)
           intro inv131
           clear iv51
           try simp only [sw1, sw2, sw3]
           refine takeT (i := 14) (t := 47) (v := ?v14z53) rfl (by kernel_rfl) (fun _ _ _ h => h) rfl (Or.inl ⟨by rfl, ?h14z53⟩) inv131 hI51.m ?r14z53
           case h14z53 => (intro V hSw; obtain ⟨q21, q22, q23, q24, q25, q26, q27⟩ := hSw.cells; clear hSw; go_simp; try with_reducible rfl)
           intro inv141
           clear inv131
           try simp only [sw1, sw2, sw3]
           refine takeT (i := 15) (t := 48) (v := ?v15z54) rfl (by kernel_rfl) (fun _ _ _ h => h) rfl (Or.inl ⟨by rfl, ?h15z54⟩) inv141 hI51.m ?r15z54
           case h15z54 => (intro V hSw; obtain ⟨q21, q22, q23, q24, q25, q26, q27⟩ := hSw.cells; clear hSw; go_simp; try with_reducible rfl)
           intro inv151
           clear inv141
           try simp only [sw1, sw2, sw3]
           refine manyT (i := 17) (l := []) (by kernel_rfl) (by decide) inv151 ?ho54x3
           case ho54x3 =>
            intro j hj
            simp only [List.mem_cons, List.not_mem_nil, or_false] at hj
            rcases hj with rfl
            ·
             intro iv55
             clear inv151
             refine opVal (t := 4) (v := .pointer (some ⟨(World.heap W51).size, 0, none⟩)) (w' := World.alloc W51 (.cells Ev.none.arr EvT)) rfl rfl (by rfl) ?hx55 (hI51.alloc4).m ?hr55
             case hx55 => (go_simp; try rfl)
             case hr55 =>
              have hI55 := hI51.alloc4
              clear hI51
              generalize World.alloc W51 (.cells Ev.none.arr EvT) = W55 at hI55 ⊢
              generalize (World.heap W51).size = a4 at hI55 ⊢
              try simp only [sw1, sw2, sw3]
              refine storeT (i := 18) (w' := World.setRow W55 a3 ((stepF d.c (wordAt d.M (4 * pn))).1 : Cp).arr) rfl (by kernel_rfl) rfl (by rfl) ?hs56 iv55 (by decide) (hI55.m.chg (F := fun k => k = a3) ((Chg.refl (fun k => k = a3) _).setRow (fun _ => rfl) _) ?hp56a ?hp56b ?hp56c) ?hr56
              case hs56 => (refine exec_store_row 42 (.tmp 3) (.tmp 47) ?_ a3 ((stepF d.c (wordAt d.M (4 * pn))).1 : Cp).arr ?_ ?_ (hI55.b3 a3 rfl).1 (by kernel_rfl) (by rfl) (by kernel_rfl)) <;> rfl
              case hp56a => (intro e; subst e; exact absurd rfl (hI55.m.m.ne_ (hI55.b3 _ rfl).1 (by decide)))
              case hp56b => (intro e; subst e; exact absurd rfl (hI55.m.b.ne_ (hI55.b3 _ rfl).1 (by decide)))
              case hp56c => exact hI55.m.mm_ne (hI55.b3 a3 rfl).1
              intro inv18 hH18
              refine lastT (i := 19) (w' := World.setRow (World.setRow W55 a3 ((stepF d.c (wordAt d.M (4 * pn))).1 : Cp).arr) a4 ((stepF d.c (wordAt d.M (4 * pn))).2 : Ev).arr) rfl (by kernel_rfl) rfl (by rfl) ?ht56 (by decide) (by kernel_rfl) ?hu56
              case ht56 => (refine exec_store_row 110 (.tmp 4) (.tmp 48) ?_ a4 ((stepF d.c (wordAt d.M (4 * pn))).2 : Ev).arr ?_ ?_ (Blk.farRow (hI55.b4 a4 rfl).1 (fun e => absurd e.symm ((hI55.b3 a3 rfl).1.ne_ (hI55.b4 a4 rfl).1 (by decide))) _) (by kernel_rfl) (by rfl) (by kernel_rfl)) <;> rfl
              try simp only [sw1, sw2, sw3]
              go_wp2_with fail
              go_meet
              case rel => exact hI55.fin ((stepF d.c (wordAt d.M (4 * pn))).1 : Cp) ((stepF d.c (wordAt d.M (4 * pn))).2 : Ev)
         ·
          intro iv57
          clear iv50
          refine opVal (t := 4) (v := .pointer (some ⟨(World.heap W50).size, 0, none⟩)) (w' := World.alloc W50 (.cells Ev.none.arr EvT)) rfl rfl (by rfl) ?hx57 (hI50.alloc4).m ?hr57
          case hx57 => (go_simp; try rfl)
          case hr57 =>
           have hI57 := hI50.alloc4
           clear hI50
           generalize World.alloc W50 (.cells Ev.none.arr EvT) = W57 at hI57 ⊢
           generalize (World.heap W50).size = a4 at hI57 ⊢
           try simp only [sw1, sw2, sw3]
           refine manyT (i := 12) (l := []) (by kernel_rfl) (by decide) iv57 ?ho57x3
           case ho57x3 =>
            intro j hj
            simp only [List.mem_cons, List.not_mem_nil, or_false] at hj
            rcases hj with rfl
            ·
             intro iv58
             clear iv57
             refine opCall (t := 46) (f := 39) (args := #[d.c.val, .int .u32 (wordAt d.M (4 * pn))]) rfl rfl (by rfl) ?hx58 ?hc58
             case hx58 => (go_simp; try rfl)
             case hc58 =>
              refine (HStep.out W57).mono ?_
              rintro e W58 ⟨rfl, hq⟩
              have hI58 := hI57.quiet hq
              clear hq hI57
              refine ⟨_, rfl, hI58.m, ?_⟩
              try simp only [sw1, sw2, sw3]
              refine takeT (i := 13) (t := 33) (v := ?v13z59) rfl (by kernel_rfl) (fun _ _ _ h => h) rfl (Or.inl ⟨by rfl, ?h13z59⟩) iv58 hI58.m ?r13z59
              case h13z59 => (intro V hSw; obtain ⟨q21, q22, q23, q24, q25, q26, q27⟩ := hSw.cells; clear hSw; go_simp; try with_reducible rfl)
              intro inv131
              clear iv58
              try simp only [sw1, sw2, sw3]
              refine takeT (i := 14) (t := 47) (v := ?v14z60) rfl (by kernel_rfl) (fun _ _ _ h => h) rfl (Or.inl ⟨by rfl, ?h14z60⟩) inv131 hI58.m ?r14z60
              case h14z60 => (intro V hSw; obtain ⟨q21, q22, q23, q24, q25, q26, q27⟩ := hSw.cells; clear hSw; go_simp; try with_reducible rfl)
              intro inv141
              clear inv131
              try simp only [sw1, sw2, sw3]
              refine takeT (i := 15) (t := 48) (v := ?v15z61) rfl (by kernel_rfl) (fun _ _ _ h => h) rfl (Or.inl ⟨by rfl, ?h15z61⟩) inv141 hI58.m ?r15z61
              case h15z61 => (intro V hSw; obtain ⟨q21, q22, q23, q24, q25, q26, q27⟩ := hSw.cells; clear hSw; go_simp; try with_reducible rfl)
              intro inv151
              clear inv141
              try simp only [sw1, sw2, sw3]
              refine storeT (i := 18) (w' := World.setRow W58 a3 ((stepF d.c (wordAt d.M (4 * pn))).1 : Cp).arr) rfl (by kernel_rfl) rfl (by rfl) ?hs62 inv151 (by decide) (hI58.m.chg (F := fun k => k = a3) ((Chg.refl (fun k => k = a3) _).setRow (fun _ => rfl) _) ?hp62a ?hp62b ?hp62c) ?hr62
              case hs62 => (refine exec_store_row 42 (.tmp 3) (.tmp 47) ?_ a3 ((stepF d.c (wordAt d.M (4 * pn))).1 : Cp).arr ?_ ?_ (hI58.b3 a3 rfl).1 (by kernel_rfl) (by rfl) (by kernel_rfl)) <;> rfl
              case hp62a => (intro e; subst e; exact absurd rfl (hI58.m.m.ne_ (hI58.b3 _ rfl).1 (by decide)))
              case hp62b => (intro e; subst e; exact absurd rfl (hI58.m.b.ne_ (hI58.b3 _ rfl).1 (by decide)))
              case hp62c => exact hI58.m.mm_ne (hI58.b3 a3 rfl).1
              intro inv18 hH18
              refine lastT (i := 19) (w' := World.setRow (World.setRow W58 a3 ((stepF d.c (wordAt d.M (4 * pn))).1 : Cp).arr) a4 ((stepF d.c (wordAt d.M (4 * pn))).2 : Ev).arr) rfl (by kernel_rfl) rfl (by rfl) ?ht62 (by decide) (by kernel_rfl) ?hu62
              case ht62 => (refine exec_store_row 110 (.tmp 4) (.tmp 48) ?_ a4 ((stepF d.c (wordAt d.M (4 * pn))).2 : Ev).arr ?_ ?_ (Blk.farRow (hI58.b4 a4 rfl).1 (fun e => absurd e.symm ((hI58.b3 a3 rfl).1.ne_ (hI58.b4 a4 rfl).1 (by decide))) _) (by kernel_rfl) (by rfl) (by kernel_rfl)) <;> rfl
              try simp only [sw1, sw2, sw3]
              go_wp2_with fail
              go_meet
              case rel => exact hI58.fin ((stepF d.c (wordAt d.M (4 * pn))).1 : Cp) ((stepF d.c (wordAt d.M (4 * pn))).2 : Ev)
      ·
       intro iv63
       clear iv49
       refine opVal (t := 4) (v := .pointer (some ⟨(World.heap W49).size, 0, none⟩)) (w' := World.alloc W49 (.cells Ev.none.arr EvT)) rfl rfl (by rfl) ?hx63 (hI49.alloc4).m ?hr63
       case hx63 => (go_simp; try rfl)
       case hr63 =>
        have hI63 := hI49.alloc4
        clear hI49
        generalize World.alloc W49 (.cells Ev.none.arr EvT) = W63 at hI63 ⊢
        generalize (World.heap W49).size = a4 at hI63 ⊢
        try simp only [sw1, sw2, sw3]
        refine manyT (i := 11) (l := []) (by kernel_rfl) (by decide) iv63 ?ho63x2
        case ho63x2 =>
         intro j hj
         simp only [List.mem_cons, List.not_mem_nil, or_false] at hj
         rcases hj with rfl
         ·
          intro iv64
          clear iv63
          refine opCall (t := 45) (f := 40) (args := #[.pointer (some ⟨p, 0, none⟩), .int .u32 (4 * (pn : Int)), .bool false]) rfl rfl (by rfl) ?hx64 ?hc64
          case hx64 => (go_simp; try rfl)
          case hc64 =>
           refine (HGet.out W63 hI63.m).mono ?_
           rintro e W64 ⟨rfl, hq⟩
           have hI64 := hI63.quiet hq
           clear hq hI63
           refine ⟨_, rfl, hI64.m, ?_⟩
           try simp only [sw1, sw2, sw3]
           refine manyT (i := 12) (l := []) (by kernel_rfl) (by decide) iv64 ?ho64x3
           case ho64x3 =>
            intro j hj
            simp only [List.mem_cons, List.not_mem_nil, or_false] at hj
            rcases hj with rfl
            ·
             intro iv65
             clear iv64
             refine opCall (t := 46) (f := 39) (args := #[d.c.val, .int .u32 (wordAt d.M (4 * pn))]) rfl rfl (by rfl) ?hx65 ?hc65
             case hx65 => (go_simp; try rfl)
             case hc65 =>
              refine (HStep.out W64).mono ?_
              rintro e W65 ⟨rfl, hq⟩
              have hI65 := hI64.quiet hq
              clear hq hI64
              refine ⟨_, rfl, hI65.m, ?_⟩
              try simp only [sw1, sw2, sw3]
              refine takeT (i := 13) (t := 33) (v := ?v13z66) rfl (by kernel_rfl) (fun _ _ _ h => h) rfl (Or.inl ⟨by rfl, ?h13z66⟩) iv65 hI65.m ?r13z66
              case h13z66 => (intro V hSw; obtain ⟨q21, q22, q23, q24, q25, q26, q27⟩ := hSw.cells; clear hSw; go_simp; try with_reducible rfl)
              intro inv131
              clear iv65
              try simp only [sw1, sw2, sw3]
              refine takeT (i := 14) (t := 47) (v := ?v14z67) rfl (by kernel_rfl) (fun _ _ _ h => h) rfl (Or.inl ⟨by rfl, ?h14z67⟩) inv131 hI65.m ?r14z67
              case h14z67 => (intro V hSw; obtain ⟨q21, q22, q23, q24, q25, q26, q27⟩ := hSw.cells; clear hSw; go_simp; try with_reducible rfl)
              intro inv141
              clear inv131
              try simp only [sw1, sw2, sw3]
              refine takeT (i := 15) (t := 48) (v := ?v15z68) rfl (by kernel_rfl) (fun _ _ _ h => h) rfl (Or.inl ⟨by rfl, ?h15z68⟩) inv141 hI65.m ?r15z68
              case h15z68 => (intro V hSw; obtain ⟨q21, q22, q23, q24, q25, q26, q27⟩ := hSw.cells; clear hSw; go_simp; try with_reducible rfl)
              intro inv151
              clear inv141
              try simp only [sw1, sw2, sw3]
              refine storeT (i := 18) (w' := World.setRow W65 a3 ((stepF d.c (wordAt d.M (4 * pn))).1 : Cp).arr) rfl (by kernel_rfl) rfl (by rfl) ?hs69 inv151 (by decide) (hI65.m.chg (F := fun k => k = a3) ((Chg.refl (fun k => k = a3) _).setRow (fun _ => rfl) _) ?hp69a ?hp69b ?hp69c) ?hr69
              case hs69 => (refine exec_store_row 42 (.tmp 3) (.tmp 47) ?_ a3 ((stepF d.c (wordAt d.M (4 * pn))).1 : Cp).arr ?_ ?_ (hI65.b3 a3 rfl).1 (by kernel_rfl) (by rfl) (by kernel_rfl)) <;> rfl
              case hp69a => (intro e; subst e; exact absurd rfl (hI65.m.m.ne_ (hI65.b3 _ rfl).1 (by decide)))
              case hp69b => (intro e; subst e; exact absurd rfl (hI65.m.b.ne_ (hI65.b3 _ rfl).1 (by decide)))
              case hp69c => exact hI65.m.mm_ne (hI65.b3 a3 rfl).1
              intro inv18 hH18
              refine lastT (i := 19) (w' := World.setRow (World.setRow W65 a3 ((stepF d.c (wordAt d.M (4 * pn))).1 : Cp).arr) a4 ((stepF d.c (wordAt d.M (4 * pn))).2 : Ev).arr) rfl (by kernel_rfl) rfl (by rfl) ?ht69 (by decide) (by kernel_rfl) ?hu69
              case ht69 => (refine exec_store_row 110 (.tmp 4) (.tmp 48) ?_ a4 ((stepF d.c (wordAt d.M (4 * pn))).2 : Ev).arr ?_ ?_ (Blk.farRow (hI65.b4 a4 rfl).1 (fun e => absurd e.symm ((hI65.b3 a3 rfl).1.ne_ (hI65.b4 a4 rfl).1 (by decide))) _) (by kernel_rfl) (by rfl) (by kernel_rfl)) <;> rfl
              try simp only [sw1, sw2, sw3]
              go_wp2_with fail
              go_meet
              case rel => exact hI65.fin ((stepF d.c (wordAt d.M (4 * pn))).1 : Cp) ((stepF d.c (wordAt d.M (4 * pn))).2 : Ev)
   ·
    intro iv70
    clear inv101
    refine opVal (t := 4) (v := .pointer (some ⟨(World.heap W1.drew).size, 0, none⟩)) (w' := World.alloc W1.drew (.cells Ev.none.arr EvT)) rfl rfl (by rfl) ?hx70 (hI.alloc4).m ?hr70
    case hx70 => (go_simp; try rfl)
    case hr70 =>
     have hI70 := hI.alloc4
     clear hI
     generalize World.alloc W1.drew (.cells Ev.none.arr EvT) = W70 at hI70 ⊢
     generalize (World.heap W1.drew).size = a4 at hI70 ⊢
     try simp only [sw1, sw2, sw3]
     refine manyT (i := 11) (l := [16]) (by kernel_rfl) (by decide) iv70 ?ho70x1
     case ho70x1 =>
      intro j hj
      simp only [List.mem_cons, List.not_mem_nil, or_false] at hj
      rcases hj with rfl | rfl
      ·
       intro iv71
       clear iv70
       refine opCall (t := 45) (f := 40) (args := #[.pointer (some ⟨p, 0, none⟩), .int .u32 (4 * (pn : Int)), .bool false]) rfl rfl (by rfl) ?hx71 ?hc71
       case hx71 => (go_simp; try rfl)
       case hc71 =>
        refine (HGet.out W70 hI70.m).mono ?_
        rintro e W71 ⟨rfl, hq⟩
        have hI71 := hI70.quiet hq
        clear hq hI70
        refine ⟨_, rfl, hI71.m, ?_⟩
        try simp only [sw1, sw2, sw3]
        refine manyT (i := 12) (l := [16]) (by kernel_rfl) (by decide) iv71 ?ho71x2
        case ho71x2 =>
         intro j hj
         simp only [List.mem_cons, List.not_mem_nil, or_false] at hj
         rcases hj with rfl | rfl
         ·
          intro iv72
          clear iv71
          refine opCall (t := 46) (f := 39) (args := #[d.c.val, .int .u32 (wordAt d.M (4 * pn))]) rfl rfl (by rfl) ?hx72 ?hc72
          case hx72 => (go_simp; try rfl)
          case hc72 =>
           refine (HStep.out W71).mono ?_
           rintro e W72 ⟨rfl, hq⟩
           have hI72 := hI71.quiet hq
           clear hq hI71
           refine ⟨_, rfl, hI72.m, ?_⟩
           try simp only [sw1, sw2, sw3]
           refine takeT (i := 13) (t := 33) (v := ?v13z73) rfl (by kernel_rfl) (fun _ _ _ h => h) rfl (Or.inl ⟨by rfl, ?h13z73⟩) iv72 hI72.m ?r13z73
           case h13z73 => (intro V hSw; obtain ⟨q21, q22, q23, q24, q25, q26, q27⟩ := hSw.cells; clear hSw; go_simp; try with_reducible rfl)
           intro inv131
           clear iv72
           try simp only [sw1, sw2, sw3]
           refine takeT (i := 14) (t := 47) (v := ?v14z74) rfl (by kernel_rfl) (fun _ _ _ h => h) rfl (Or.inl ⟨by rfl, ?h14z74⟩) inv131 hI72.m ?r14z74
           case h14z74 => (intro V hSw; obtain ⟨q21, q22, q23, q24, q25, q26, q27⟩ := hSw.cells; clear hSw; go_simp; try with_reducible rfl)
           intro inv141
           clear inv131
           try simp only [sw1, sw2, sw3]
           refine takeT (i := 15) (t := 48) (v := ?v15z75) rfl (by kernel_rfl) (fun _ _ _ h => h) rfl (Or.inl ⟨by rfl, ?h15z75⟩) inv141 hI72.m ?r15z75
           case h15z75 => (intro V hSw; obtain ⟨q21, q22, q23, q24, q25, q26, q27⟩ := hSw.cells; clear hSw; go_simp; try with_reducible rfl)
           intro inv151
           clear inv141
           try simp only [sw1, sw2, sw3]
           refine manyT (i := 16) (l := []) (by kernel_rfl) (by decide) inv151 ?ho75x3
           case ho75x3 =>
            intro j hj
            simp only [List.mem_cons, List.not_mem_nil, or_false] at hj
            rcases hj with rfl
            ·
             intro iv76
             clear inv151
             refine opVal (t := 3) (v := .pointer (some ⟨(World.heap W72).size, 0, none⟩)) (w' := World.alloc W72 (.cells Cp.zero.arr CpT)) rfl rfl (by rfl) ?hx76 (hI72.alloc3).m ?hr76
             case hx76 => (go_simp; try rfl)
             case hr76 =>
              have hI76 := hI72.alloc3
              clear hI72
              generalize World.alloc W72 (.cells Cp.zero.arr CpT) = W76 at hI76 ⊢
              generalize (World.heap W72).size = a3 at hI76 ⊢
              try simp only [sw1, sw2, sw3]
              refine storeT (i := 18) (w' := World.setRow W76 a3 ((stepF d.c (wordAt d.M (4 * pn))).1 : Cp).arr) rfl (by kernel_rfl) rfl (by rfl) ?hs77 iv76 (by decide) (hI76.m.chg (F := fun k => k = a3) ((Chg.refl (fun k => k = a3) _).setRow (fun _ => rfl) _) ?hp77a ?hp77b ?hp77c) ?hr77
              case hs77 => (refine exec_store_row 42 (.tmp 3) (.tmp 47) ?_ a3 ((stepF d.c (wordAt d.M (4 * pn))).1 : Cp).arr ?_ ?_ (hI76.b3 a3 rfl).1 (by kernel_rfl) (by rfl) (by kernel_rfl)) <;> rfl
              case hp77a => (intro e; subst e; exact absurd rfl (hI76.m.m.ne_ (hI76.b3 _ rfl).1 (by decide)))
              case hp77b => (intro e; subst e; exact absurd rfl (hI76.m.b.ne_ (hI76.b3 _ rfl).1 (by decide)))
              case hp77c => exact hI76.m.mm_ne (hI76.b3 a3 rfl).1
              intro inv18 hH18
              refine lastT (i := 19) (w' := World.setRow (World.setRow W76 a3 ((stepF d.c (wordAt d.M (4 * pn))).1 : Cp).arr) a4 ((stepF d.c (wordAt d.M (4 * pn))).2 : Ev).arr) rfl (by kernel_rfl) rfl (by rfl) ?ht77 (by decide) (by kernel_rfl) ?hu77
              case ht77 => (refine exec_store_row 110 (.tmp 4) (.tmp 48) ?_ a4 ((stepF d.c (wordAt d.M (4 * pn))).2 : Ev).arr ?_ ?_ (Blk.farRow (hI76.b4 a4 rfl).1 (fun e => absurd e.symm ((hI76.b3 a3 rfl).1.ne_ (hI76.b4 a4 rfl).1 (by decide))) _) (by kernel_rfl) (by rfl) (by kernel_rfl)) <;> rfl
              try simp only [sw1, sw2, sw3]
              go_wp2_with fail
              go_meet
              case rel => exact hI76.fin ((stepF d.c (wordAt d.M (4 * pn))).1 : Cp) ((stepF d.c (wordAt d.M (4 * pn))).2 : Ev)
         ·
          intro iv78
          clear iv71
          refine opVal (t := 3) (v := .pointer (some ⟨(World.heap W71).size, 0, none⟩)) (w' := World.alloc W71 (.cells Cp.zero.arr CpT)) rfl rfl (by rfl) ?hx78 (hI71.alloc3).m ?hr78
          case hx78 => (go_simp; try rfl)
          case hr78 =>
           have hI78 := hI71.alloc3
           clear hI71
           generalize World.alloc W71 (.cells Cp.zero.arr CpT) = W78 at hI78 ⊢
           generalize (World.heap W71).size = a3 at hI78 ⊢
           try simp only [sw1, sw2, sw3]
           refine manyT (i := 12) (l := []) (by kernel_rfl) (by decide) iv78 ?ho78x3
           case ho78x3 =>
            intro j hj
            simp only [List.mem_cons, List.not_mem_nil, or_false] at hj
            rcases hj with rfl
            ·
             intro iv79
             clear iv78
             refine opCall (t := 46) (f := 39) (args := #[d.c.val, .int .u32 (wordAt d.M (4 * pn))]) rfl rfl (by rfl) ?hx79 ?hc79
             case hx79 => (go_simp; try rfl)
             case hc79 =>
              refine (HStep.out W78).mono ?_
              rintro e W79 ⟨rfl, hq⟩
              have hI79 := hI78.quiet hq
              clear hq hI78
              refine ⟨_, rfl, hI79.m, ?_⟩
              try simp only [sw1, sw2, sw3]
              refine takeT (i := 13) (t := 33) (v := ?v13z80) rfl (by kernel_rfl) (fun _ _ _ h => h) rfl (Or.inl ⟨by rfl, ?h13z80⟩) iv79 hI79.m ?r13z80
              case h13z80 => (intro V hSw; obtain ⟨q21, q22, q23, q24, q25, q26, q27⟩ := hSw.cells; clear hSw; go_simp; try with_reducible rfl)
              intro inv131
              clear iv79
              try simp only [sw1, sw2, sw3]
              refine takeT (i := 14) (t := 47) (v := ?v14z81) rfl (by kernel_rfl) (fun _ _ _ h => h) rfl (Or.inl ⟨by rfl, ?h14z81⟩) inv131 hI79.m ?r14z81
              case h14z81 => (intro V hSw; obtain ⟨q21, q22, q23, q24, q25, q26, q27⟩ := hSw.cells; clear hSw; go_simp; try with_reducible rfl)
              intro inv141
              clear inv131
              try simp only [sw1, sw2, sw3]
              refine takeT (i := 15) (t := 48) (v := ?v15z82) rfl (by kernel_rfl) (fun _ _ _ h => h) rfl (Or.inl ⟨by rfl, ?h15z82⟩) inv141 hI79.m ?r15z82
              case h15z82 => (intro V hSw; obtain ⟨q21, q22, q23, q24, q25, q26, q27⟩ := hSw.cells; clear hSw; go_simp; try with_reducible rfl)
              intro inv151
              clear inv141
              try simp only [sw1, sw2, sw3]
              refine storeT (i := 18) (w' := World.setRow W79 a3 ((stepF d.c (wordAt d.M (4 * pn))).1 : Cp).arr) rfl (by kernel_rfl) rfl (by rfl) ?hs83 inv151 (by decide) (hI79.m.chg (F := fun k => k = a3) ((Chg.refl (fun k => k = a3) _).setRow (fun _ => rfl) _) ?hp83a ?hp83b ?hp83c) ?hr83
              case hs83 => (refine exec_store_row 42 (.tmp 3) (.tmp 47) ?_ a3 ((stepF d.c (wordAt d.M (4 * pn))).1 : Cp).arr ?_ ?_ (hI79.b3 a3 rfl).1 (by kernel_rfl) (by rfl) (by kernel_rfl)) <;> rfl
              case hp83a => (intro e; subst e; exact absurd rfl (hI79.m.m.ne_ (hI79.b3 _ rfl).1 (by decide)))
              case hp83b => (intro e; subst e; exact absurd rfl (hI79.m.b.ne_ (hI79.b3 _ rfl).1 (by decide)))
              case hp83c => exact hI79.m.mm_ne (hI79.b3 a3 rfl).1
              intro inv18 hH18
              refine lastT (i := 19) (w' := World.setRow (World.setRow W79 a3 ((stepF d.c (wordAt d.M (4 * pn))).1 : Cp).arr) a4 ((stepF d.c (wordAt d.M (4 * pn))).2 : Ev).arr) rfl (by kernel_rfl) rfl (by rfl) ?ht83 (by decide) (by kernel_rfl) ?hu83
              case ht83 => (refine exec_store_row 110 (.tmp 4) (.tmp 48) ?_ a4 ((stepF d.c (wordAt d.M (4 * pn))).2 : Ev).arr ?_ ?_ (Blk.farRow (hI79.b4 a4 rfl).1 (fun e => absurd e.symm ((hI79.b3 a3 rfl).1.ne_ (hI79.b4 a4 rfl).1 (by decide))) _) (by kernel_rfl) (by rfl) (by kernel_rfl)) <;> rfl
              try simp only [sw1, sw2, sw3]
              go_wp2_with fail
              go_meet
              case rel => exact hI79.fin ((stepF d.c (wordAt d.M (4 * pn))).1 : Cp) ((stepF d.c (wordAt d.M (4 * pn))).2 : Ev)
      ·
       intro iv84
       clear iv70
       refine opVal (t := 3) (v := .pointer (some ⟨(World.heap W70).size, 0, none⟩)) (w' := World.alloc W70 (.cells Cp.zero.arr CpT)) rfl rfl (by rfl) ?hx84 (hI70.alloc3).m ?hr84
       case hx84 => (go_simp; try rfl)
       case hr84 =>
        have hI84 := hI70.alloc3
        clear hI70
        generalize World.alloc W70 (.cells Cp.zero.arr CpT) = W84 at hI84 ⊢
        generalize (World.heap W70).size = a3 at hI84 ⊢
        try simp only [sw1, sw2, sw3]
        refine manyT (i := 11) (l := []) (by kernel_rfl) (by decide) iv84 ?ho84x2
        case ho84x2 =>
         intro j hj
         simp only [List.mem_cons, List.not_mem_nil, or_false] at hj
         rcases hj with rfl
         ·
          intro iv85
          clear iv84
          refine opCall (t := 45) (f := 40) (args := #[.pointer (some ⟨p, 0, none⟩), .int .u32 (4 * (pn : Int)), .bool false]) rfl rfl (by rfl) ?hx85 ?hc85
          case hx85 => (go_simp; try rfl)
          case hc85 =>
           refine (HGet.out W84 hI84.m).mono ?_
           rintro e W85 ⟨rfl, hq⟩
           have hI85 := hI84.quiet hq
           clear hq hI84
           refine ⟨_, rfl, hI85.m, ?_⟩
           try simp only [sw1, sw2, sw3]
           refine manyT (i := 12) (l := []) (by kernel_rfl) (by decide) iv85 ?ho85x3
           case ho85x3 =>
            intro j hj
            simp only [List.mem_cons, List.not_mem_nil, or_false] at hj
            rcases hj with rfl
            ·
             intro iv86
             clear iv85
             refine opCall (t := 46) (f := 39) (args := #[d.c.val, .int .u32 (wordAt d.M (4 * pn))]) rfl rfl (by rfl) ?hx86 ?hc86
             case hx86 => (go_simp; try rfl)
             case hc86 =>
              refine (HStep.out W85).mono ?_
              rintro e W86 ⟨rfl, hq⟩
              have hI86 := hI85.quiet hq
              clear hq hI85
              refine ⟨_, rfl, hI86.m, ?_⟩
              try simp only [sw1, sw2, sw3]
              refine takeT (i := 13) (t := 33) (v := ?v13z87) rfl (by kernel_rfl) (fun _ _ _ h => h) rfl (Or.inl ⟨by rfl, ?h13z87⟩) iv86 hI86.m ?r13z87
              case h13z87 => (intro V hSw; obtain ⟨q21, q22, q23, q24, q25, q26, q27⟩ := hSw.cells; clear hSw; go_simp; try with_reducible rfl)
              intro inv131
              clear iv86
              try simp only [sw1, sw2, sw3]
              refine takeT (i := 14) (t := 47) (v := ?v14z88) rfl (by kernel_rfl) (fun _ _ _ h => h) rfl (Or.inl ⟨by rfl, ?h14z88⟩) inv131 hI86.m ?r14z88
              case h14z88 => (intro V hSw; obtain ⟨q21, q22, q23, q24, q25, q26, q27⟩ := hSw.cells; clear hSw; go_simp; try with_reducible rfl)
              intro inv141
              clear inv131
              try simp only [sw1, sw2, sw3]
              refine takeT (i := 15) (t := 48) (v := ?v15z89) rfl (by kernel_rfl) (fun _ _ _ h => h) rfl (Or.inl ⟨by rfl, ?h15z89⟩) inv141 hI86.m ?r15z89
              case h15z89 => (intro V hSw; obtain ⟨q21, q22, q23, q24, q25, q26, q27⟩ := hSw.cells; clear hSw; go_simp; try with_reducible rfl)
              intro inv151
              clear inv141
              try simp only [sw1, sw2, sw3]
              refine storeT (i := 18) (w' := World.setRow W86 a3 ((stepF d.c (wordAt d.M (4 * pn))).1 : Cp).arr) rfl (by kernel_rfl) rfl (by rfl) ?hs90 inv151 (by decide) (hI86.m.chg (F := fun k => k = a3) ((Chg.refl (fun k => k = a3) _).setRow (fun _ => rfl) _) ?hp90a ?hp90b ?hp90c) ?hr90
              case hs90 => (refine exec_store_row 42 (.tmp 3) (.tmp 47) ?_ a3 ((stepF d.c (wordAt d.M (4 * pn))).1 : Cp).arr ?_ ?_ (hI86.b3 a3 rfl).1 (by kernel_rfl) (by rfl) (by kernel_rfl)) <;> rfl
              case hp90a => (intro e; subst e; exact absurd rfl (hI86.m.m.ne_ (hI86.b3 _ rfl).1 (by decide)))
              case hp90b => (intro e; subst e; exact absurd rfl (hI86.m.b.ne_ (hI86.b3 _ rfl).1 (by decide)))
              case hp90c => exact hI86.m.mm_ne (hI86.b3 a3 rfl).1
              intro inv18 hH18
              refine lastT (i := 19) (w' := World.setRow (World.setRow W86 a3 ((stepF d.c (wordAt d.M (4 * pn))).1 : Cp).arr) a4 ((stepF d.c (wordAt d.M (4 * pn))).2 : Ev).arr) rfl (by kernel_rfl) rfl (by rfl) ?ht90 (by decide) (by kernel_rfl) ?hu90
              case ht90 => (refine exec_store_row 110 (.tmp 4) (.tmp 48) ?_ a4 ((stepF d.c (wordAt d.M (4 * pn))).2 : Ev).arr ?_ ?_ (Blk.farRow (hI86.b4 a4 rfl).1 (fun e => absurd e.symm ((hI86.b3 a3 rfl).1.ne_ (hI86.b4 a4 rfl).1 (by decide))) _) (by kernel_rfl) (by rfl) (by kernel_rfl)) <;> rfl
              try simp only [sw1, sw2, sw3]
              go_wp2_with fail
              go_meet
              case rel => exact hI86.fin ((stepF d.c (wordAt d.M (4 * pn))).1 : Cp) ((stepF d.c (wordAt d.M (4 * pn))).2 : Ev)
 case rest =>
  obtain ⟨a3, a4, rfl, rfl, hm, hc, hb3, hb4, hl3, hl4⟩ := hcut
  have HQ := Go.Lib.hid ((HC0.out.trans (Chg.refl NoB W1).drew).trans hc)
  clear hc HGet HStep HAI h H1 HC0 hl3 hl4 ew4
  rw [HEVQ.out] at hb3 hb4
  clear HEVQ
  obtain ⟨ce, hce⟩ : ∃ ce, d.ev = ce := ⟨_, rfl⟩
  have HCE := Go.Lib.hid hce
  rw [hce] at hb3 hb4 HEK hsys
  clear hce
  obtain ⟨c', e⟩ := ce
  simp only at hb3 hb4 HEK hsys
  have HSYS := Go.Lib.hid hsys
  clear hsys
  clear hpn hp
  have hne : a4 ≠ p := fun e => by subst e; exact absurd rfl (hm.m.ne_ hb4 (by decide))
  have hne2 : a4 ≠ mb := fun e => by subst e; exact absurd rfl (hm.b.ne_ hb4 (by decide))
  have HM := Go.Lib.hid (hm.setCpu c')
  have HEv : Hid (Blk (wc.setCells p 0 c'.arr.toList) a4 EvT e.arr) := Go.Lib.hid ((setCells_far hne _ _ _).trans hb4)
  have HCV := Go.Lib.hid ((HQ.out.mono (fun _ _ h => h.elim)).trans (setCells_chg (F := memF p mb) (g := p) (.inl rfl) c'.arr.toList 0 wc (Chg.refl _ wc)))
  have HT : Hid (World.there wc p 0 c'.arr.size) := Go.Lib.hid fun j hj => by
   have hj : j < 22 := hj
   refine ⟨?_, hm.m.frozen _⟩
   rw [Nat.zero_add, hm.m.cell j, arr_front d _ _ _ hj]
   have : j < d.c.arr.size := hj
   simp [Array.getElem?_eq_getElem this]
  have HB3 := Go.Lib.hid hb3
  clear hm hb3 hb4 HQ
  go_upto_region 8 with (first
   | (refine wpList_load_row rfl 42 (.tmp 3) rfl a3 rfl CpT c'.arr (0, 0) _ HB3.out Tryz.underlying42 rfl (by kernel_rfl) ?_)
   | (refine wpList_store_mid rfl 42 (.tmp 52) (.tmp 50) rfl p 0 c'.arr rfl rfl HT.out (by kernel_rfl) (by kernel_rfl) ?_))
  clear HB3 HT
  generalize World.setCells wc p 0 c'.arr.toList = V at HM HEv HCV ⊢
  have ho : ({ d with c := c' } : Mc).Ok := ⟨HEK.out.1, hd.m, hd.n, hd.heap⟩
  obtain ⟨d1, hd1⟩ : ∃ d1 : Mc, { d with c := c' } = d1 := ⟨_, rfl⟩
  rw [hd1] at HM ho
  have HD1 := Go.Lib.hid hd1
  have hk1 : d1.kind = 0 := by rw [← hd1]; exact hk
  have hh1 : d1.heap ≤ d1.n := by rw [← hd1]; exact hh
  clear hd1 hd hk hh
  have HO := Go.Lib.hid ho
  have hn1 := ho.n.2.1
  have hn4 := ho.n.2.2
  obtain ⟨k21, k22, k23, k24, k25, k26, k27⟩ := HM.out.cells
  rw [hk1] at k25
  have e0 : V.cell? ⟨a4, 0, none⟩ = some (.int .i64 e.kind) := HEv.out.cell 0
  have e1 : V.cell? ⟨a4, 1, none⟩ = some (.int .u32 e.place) := HEv.out.cell 1
  have e2 : V.cell? ⟨a4, 2, none⟩ = some (.bool e.byte) := HEv.out.cell 2
  have e3 : V.cell? ⟨a4, 3, none⟩ = some (.int .i64 e.reg) := HEv.out.cell 3
  have e4 : V.cell? ⟨a4, 4, none⟩ = some (.int .u32 e.value) := HEv.out.cell 4
  have e5 : V.cell? ⟨a4, 5, none⟩ = some (.int .i64 e.n) := HEv.out.cell 5
  rw [HEK.out.2.place] at e1
  rw [HEK.out.2.reg] at e3
  rw [HEK.out.2.value] at e4
  have hkd := HEK.out.2.kind
  have hpl := HEK.out.2.pl
  have hrg := HEK.out.2.rg
  have hvl := HEK.out.2.vl
  have hen := HEK.out.2.n
  clear ho
  have FINX : Hid (∀ (D' : Mc) (r : Value) w3, d1.act e pl vl rg = D' → r = .bool (decide (D'.kind = 0)) → MAt w3 p mb s mm D' → Chg (memF p mb) V w3 → MStepPost p mb s mm d W (.returned r) w3) := Go.Lib.hid fun D' r w3 hD hr hM3 hC3 => by
   unfold MStepPost
   rw [HCE.out]
   refine ⟨rg, pl, vl, HEK.out.2, ?_⟩
   rw [HD1.out, hD]
   exact ⟨by rw [hr], hM3, HCV.out.trans hC3⟩
  have hkd1 := Go.Lib.hid hk1
  clear hk1
  have hcase : e.kind = 0 ∨ e.kind = 1 ∨ e.kind = 2 ∨ e.kind = 3 ∨ e.kind = 4 ∨ e.kind = 5 := by omega
  clear hkd
  rcases hcase with hf | hf | hf | hf | hf | hf
  all_goals rw [hf] at e0
  all_goals have HF := Go.Lib.hid hf
  all_goals clear hf
  ·
   go_wp2_with fail
   go_quiet (fail)
   go_wp2_with fail
   go_ret
   exact FINX.out d1 _ _ (by unfold Mc.act; simp [HF.out]) (by rw [hkd1.out]; rfl) (HM.out.quiet ((Chg.refl NoB V).drewN _)) ((Chg.refl _ V).drewN _)
  ·
   by_cases hin : pl < d1.n ∧ (e.byte = true ∨ pl % 4 = 0)
   ·
    have HIN := Go.Lib.hid (fun k => minside_c (HM.out.quiet ((Chg.refl NoB V).drewN k)) hn1 pl hpl e.byte)
    have hq : (decide (pl < d1.n) && (e.byte || decide (pl % 4 = 0))) = true := by simpa using hin
    rw [hq] at HIN
    clear hq
    have HN := Go.Lib.hid hin
    cases hby : e.byte
    ·
     have hp4 : pl + 4 ≤ d1.n := by rw [hby] at hin; simp at hin; omega
     clear hin
     rw [hby] at e2 HIN
     have HBY := Go.Lib.hid hby
     clear hby
     have HG : Hid (∀ V', MAt V' p mb s mm d1 → Calls Tryz.prog 40 #[.pointer (some ⟨p, 0, none⟩), .int .u32 pl, .bool false] V' (Quiet (.int .u32 (wordAt d1.M pl)) V')) := Go.Lib.hid fun V' hV => (getWord_c hV hn1 HO.out.m pl hp4).mono fun e w' hq => ⟨hq.1, by obtain ⟨k, hk⟩ := hq.2; rw [hk]; exact (Chg.refl _ _).drewN _⟩
     have HL : Hid (∀ V', Calls Tryz.prog 42 #[d1.c.val, .int .i64 rg, .int .u32 (wordAt d1.M pl)] V' (Quiet (.tuple #[(d1.c.set rg (wordAt d1.M pl)).val, .int .i64 0]) V')) := Go.Lib.hid fun V' => loaded_c d1.c rg hrg _ (wordAt_bd HO.out.m pl).1 (wordAt_bd HO.out.m pl).2 V'
     go_wp2_with fail
     go_quiet (fail)
     go_wp2_with fail
     refine (HIN.out _).mono ?_
     rintro ee w2 ⟨rfl, rfl⟩
     go_wp2_with fail
     have HC2 := Go.Lib.hid ((Chg.refl NoB V).drewN nq)
     have HV2 := Go.Lib.hid (HM.out.quiet HC2.out)
     have HE2 := Go.Lib.hid (HEv.out.chg HC2.out (fun h => h))
     generalize World.drewN V nq = V2 at HV2 HE2 HC2 ⊢
     refine regionH (fun V' => Blk V' a4 EvT e.arr) (by kernel_rfl) HE2.out (fun hS => ?_)
     clear k21 k22 k23 k24 k25 k26 k27 e0 e1 e2 e3 e4 e5
     refine takeH (i := 0) (t := 110) (v := ?v0y91) rfl (by kernel_rfl) (fun _ _ _ h => h) rfl (Or.inl ⟨by rfl, ?h0y91⟩) hS ?r0y91
     case h0y91 => (intro V' hSw; go_simp; try with_reducible rfl)
     try simp only [sw1, sw2, sw3]
     refine takeH (i := 1) (t := 111) (v := ?v1y92) rfl (by kernel_rfl) (fun _ _ _ h => h) rfl (Or.inl ⟨by rfl, ?h1y92⟩) hS ?r1y92
     case h1y92 => (intro V' hSw; go_simp; try with_reducible rfl)
     try simp only [sw1, sw2, sw3]
     refine takeH (i := 2) (t := 112) (v := ?v2y93) rfl (by kernel_rfl) (fun _ _ _ h => h) rfl (Or.inl ⟨by rfl, ?h2y93⟩) hS ?r2y93
     case h2y93 => (intro V' hSw; go_simp; try with_reducible rfl)
     try simp only [sw1, sw2, sw3]
     refine takeH (i := 3) (t := 113) (v := ?v3y94) rfl (by kernel_rfl) (fun _ _ _ h => h) rfl (Or.inl ⟨by rfl, ?h3y94⟩) hS ?r3y94
     case h3y94 => (intro V' hSw; go_simp; try with_reducible rfl)
     try simp only [sw1, sw2, sw3]
     refine takeH (i := 5) (t := 115) (v := ?v5y95) rfl (by kernel_rfl) (fun _ _ _ h => h) rfl (Or.inl ⟨by rfl, ?h5y95⟩) hS ?r5y95
     case h5y95 => (intro V' hSw; go_simp; try with_reducible rfl)
     try simp only [sw1, sw2, sw3]
     refine takeH (i := 6) (t := 116) (v := ?v6y96) rfl (by kernel_rfl) (fun _ _ _ h => h) rfl (Or.inl ⟨by rfl, ?h6y96⟩) hS ?r6y96
     case h6y96 => (intro V' hSw; have z1 := hSw.cell 1; have z2 := hSw.cell 2; have z3 := hSw.cell 3; change _ = some (Value.int .u32 e.place) at z1; change _ = some (Value.bool e.byte) at z2; change _ = some (Value.int .i64 e.reg) at z3; rw [HEK.out.2.place] at z1; rw [HBY.out] at z2; rw [HEK.out.2.reg] at z3; clear hSw; go_simp; try with_reducible rfl)
     try simp only [sw1, sw2, sw3]
     refine takeH (i := 7) (t := 117) (v := ?v7y97) rfl (by kernel_rfl) (fun _ _ _ h => h) rfl (Or.inl ⟨by rfl, ?h7y97⟩) hS ?r7y97
     case h7y97 => (intro V' hSw; go_simp; try with_reducible rfl)
     try simp only [sw1, sw2, sw3]
     refine takeH (i := 8) (t := 118) (v := ?v8y98) rfl (by kernel_rfl) (fun _ _ _ h => h) rfl (Or.inl ⟨by rfl, ?h8y98⟩) hS ?r8y98
     case h8y98 => (intro V' hSw; go_simp; try with_reducible rfl)
     try simp only [sw1, sw2, sw3]
     refine takeH (i := 9) (t := 119) (v := ?v9y99) rfl (by kernel_rfl) (fun _ _ _ h => h) rfl (Or.inl ⟨by rfl, ?h9y99⟩) hS ?r9y99
     case h9y99 => (intro V' hSw; have z1 := hSw.cell 1; have z2 := hSw.cell 2; have z3 := hSw.cell 3; change _ = some (Value.int .u32 e.place) at z1; change _ = some (Value.bool e.byte) at z2; change _ = some (Value.int .i64 e.reg) at z3; rw [HEK.out.2.place] at z1; rw [HBY.out] at z2; rw [HEK.out.2.reg] at z3; clear hSw; go_simp; try with_reducible rfl)
     try simp only [sw1, sw2, sw3]
     refine takeH (i := 10) (t := 120) (v := ?v10y100) rfl (by kernel_rfl) (fun _ _ _ h => h) rfl (Or.inl ⟨by rfl, ?h10y100⟩) hS ?r10y100
     case h10y100 => (intro V' hSw; go_simp; try with_reducible rfl)
     try simp only [sw1, sw2, sw3]
     refine takeH (i := 11) (t := 121) (v := ?v11y101) rfl (by kernel_rfl) (fun _ _ _ h => h) rfl (Or.inl ⟨by rfl, ?h11y101⟩) hS ?r11y101
     case h11y101 => (intro V' hSw; have z1 := hSw.cell 1; have z2 := hSw.cell 2; have z3 := hSw.cell 3; change _ = some (Value.int .u32 e.place) at z1; change _ = some (Value.bool e.byte) at z2; change _ = some (Value.int .i64 e.reg) at z3; rw [HEK.out.2.place] at z1; rw [HBY.out] at z2; rw [HEK.out.2.reg] at z3; clear hSw; go_simp; try with_reducible rfl)
     try simp only [sw1, sw2, sw3]
     refine manyH (i := 4) (l := [12]) (by kernel_rfl) ?ha102
     case ha102 =>
      intro j hj
      simp only [List.mem_cons, List.not_mem_nil, or_false] at hj
      rcases hj with rfl | rfl
      ·
       refine opValH (t := 114) (v := .agg d1.c.arr.toList.toArray) (w' := V2.drew) rfl rfl (by rfl) ?hl102a hS ?hn102a
       case hl102a => (refine exec_load_mid 42 (.tmp 113) ?_ p 0 ?_ (HV2.out.quiet (Chg.refl NoB _).drew).cpRange Tryz.underlying42 rfl (by kernel_rfl)) <;> rfl
       try simp only [sw1, sw2, sw3]
       refine manyH (i := 12) (l := []) (by kernel_rfl) ?hb102
       case hb102 =>
        intro j hj
        obtain rfl : j = 12 := by simpa using hj
        refine opCallH (t := 122) (f := 40) (args := #[.pointer (some ⟨p, 0, none⟩), .int .u32 pl, .bool false]) rfl rfl (by rfl) ?hx102b ?hc102b
        case hx102b => (go_simp; try rfl)
        case hc102b =>
         refine (HG.out V2.drew (HV2.out.quiet (Chg.refl NoB _).drew)).mono ?_
         rintro ee w4 ⟨rfl, hq⟩
         have hm2 := (HV2.out.quiet (Chg.refl NoB _).drew).quiet hq
         have hS := hS.chg hq (fun h => h)
         have HC3 := Go.Lib.hid ((HC2.out.trans (Chg.refl NoB _).drew).trans hq)
         refine ⟨_, rfl, hS, ?_⟩
         try simp only [sw1, sw2, sw3]
         refine manyH (i := 13) (l := []) (by kernel_rfl) ?hm102c
         case hm102c =>
          intro j hj
          obtain rfl : j = 13 := by simpa using hj
          refine opCallH (t := 123) (f := 42) (args := #[d1.c.val, .int .i64 rg, .int .u32 (wordAt d1.M pl)]) rfl rfl (by rfl) ?hx102c ?hc102c
          case hx102c => (go_simp; try rfl)
          case hc102c =>
           refine (HL.out w4).mono ?_
           rintro ee w5 ⟨rfl, hq⟩
           have hm3 := hm2.quiet hq
           have hS := hS.chg hq (fun h => h)
           have HC4 := Go.Lib.hid (HC3.out.trans hq)
           have HT3 : Hid (World.there w5 p 0 (d1.c.set rg (wordAt d1.M pl)).arr.size) := Go.Lib.hid fun j hj => by
            have hj : j < 22 := hj
            refine ⟨?_, hm3.m.frozen _⟩
            rw [Nat.zero_add, hm3.m.cell j, arr_front d1 _ _ _ hj]
            have : j < d1.c.arr.size := hj
            simp [Array.getElem?_eq_getElem this]
           refine ⟨_, rfl, hS, ?_⟩
           try simp only [sw1, sw2, sw3]
           refine takeH (i := 14) (t := 109) (v := ?v14y103) rfl (by kernel_rfl) (fun _ _ _ h => h) rfl (Or.inl ⟨by rfl, ?h14y103⟩) hS ?r14y103
           case h14y103 => (intro V' hSw; go_simp; try with_reducible rfl)
           try simp only [sw1, sw2, sw3]
           refine takeH (i := 15) (t := 124) (v := ?v15y104) rfl (by kernel_rfl) (fun _ _ _ h => h) rfl (Or.inl ⟨by rfl, ?h15y104⟩) hS ?r15y104
           case h15y104 => (intro V' hSw; go_simp; try with_reducible rfl)
           try simp only [sw1, sw2, sw3]
           refine takeH (i := 16) (t := 125) (v := ?v16y105) rfl (by kernel_rfl) (fun _ _ _ h => h) rfl (Or.inl ⟨by rfl, ?h16y105⟩) hS ?r16y105
           case h16y105 => (intro V' hSw; go_simp; try with_reducible rfl)
           try simp only [sw1, sw2, sw3]
           refine takeH (i := 17) (t := 126) (v := ?v17y106) rfl (by kernel_rfl) (fun _ _ _ h => h) rfl (Or.inl ⟨by rfl, ?h17y106⟩) hS ?r17y106
           case h17y106 => (intro V' hSw; go_simp; try with_reducible rfl)
           try simp only [sw1, sw2, sw3]
           refine takeH (i := 18) (t := 127) (v := ?v18y107) rfl (by kernel_rfl) (fun _ _ _ h => h) rfl (Or.inl ⟨by rfl, ?h18y107⟩) hS ?r18y107
           case h18y107 => (intro V' hSw; go_simp; try with_reducible rfl)
           try simp only [sw1, sw2, sw3]
           refine storeLastH (i := 19) (w' := World.setCells w5 p 0 (d1.c.set rg (wordAt d1.M pl)).arr.toList) rfl (by kernel_rfl) rfl (by rfl) ?hz102c ((setCells_far hne _ _ _).trans hS) (by kernel_rfl) ?hy102c
           case hz102c => (refine exec_store_mid 42 (.tmp 127) (.tmp 124) ?_ p 0 (d1.c.set rg (wordAt d1.M pl)).arr ?_ ?_ HT3.out (by kernel_rfl) (by kernel_rfl)) <;> rfl
           have H3 := Go.Lib.hid (hm3.setCpu (d1.c.set rg (wordAt d1.M pl)))
           have HE3 : Hid (Blk (World.setCells w5 p 0 (d1.c.set rg (wordAt d1.M pl)).arr.toList) a4 EvT e.arr) := Go.Lib.hid ((setCells_far hne _ _ _).trans hS)
           have HC5 := Go.Lib.hid ((HC4.out.mono (fun _ _ h => h.elim)).trans (setCells_chg (F := memF p mb) (g := p) (.inl rfl) (d1.c.set rg (wordAt d1.M pl)).arr.toList 0 w5 (Chg.refl _ w5)))
           clear hm3 hm2 hS
           generalize World.setCells w5 p 0 (d1.c.set rg (wordAt d1.M pl)).arr.toList = w6 at H3 HE3 HC5 ⊢
           have e0 : w6.cell? ⟨a4, 0, none⟩ = some (.int .i64 e.kind) := HE3.out.cell 0
           rw [HF.out] at e0
           obtain ⟨_, _, _, _, k25, _⟩ := H3.out.cells
           change w6.cell? ⟨p, 25, none⟩ = some (.int .i64 d1.kind) at k25
           rw [hkd1.out] at k25
           go_wp2_with fail
           go_ret
           exact FINX.out { d1 with c := d1.c.set rg (wordAt d1.M pl) } _ _ (by unfold Mc.act; rw [if_pos HF.out, if_pos HN.out, HBY.out]; rfl) (by show _ = Value.bool (decide (d1.kind = 0)); rw [hkd1.out]; rfl) H3.out HC5.out
      ·
       refine opCallH (t := 122) (f := 40) (args := #[.pointer (some ⟨p, 0, none⟩), .int .u32 pl, .bool false]) rfl rfl (by rfl) ?hx102d ?hc102d
       case hx102d => (go_simp; try rfl)
       case hc102d =>
        refine (HG.out V2.drew (HV2.out.quiet (Chg.refl NoB _).drew)).mono ?_
        rintro ee w4 ⟨rfl, hq⟩
        have hm2 := (HV2.out.quiet (Chg.refl NoB _).drew).quiet hq
        have hS := hS.chg hq (fun h => h)
        have HC3 := Go.Lib.hid ((HC2.out.trans (Chg.refl NoB _).drew).trans hq)
        refine ⟨_, rfl, hS, ?_⟩
        try simp only [sw1, sw2, sw3]
        refine manyH (i := 4) (l := []) (by kernel_rfl) ?he102
        case he102 =>
         intro j hj
         obtain rfl : j = 4 := by simpa using hj
         refine opValH (t := 114) (v := .agg d1.c.arr.toList.toArray) (w' := w4) rfl rfl (by rfl) ?hl102f hS ?hn102f
         case hl102f => (refine exec_load_mid 42 (.tmp 113) ?_ p 0 ?_ (hm2).cpRange Tryz.underlying42 rfl (by kernel_rfl)) <;> rfl
         try simp only [sw1, sw2, sw3]
         refine manyH (i := 13) (l := []) (by kernel_rfl) ?hm102g
         case hm102g =>
          intro j hj
          obtain rfl : j = 13 := by simpa using hj
          refine opCallH (t := 123) (f := 42) (args := #[d1.c.val, .int .i64 rg, .int .u32 (wordAt d1.M pl)]) rfl rfl (by rfl) ?hx102g ?hc102g
          case hx102g => (go_simp; try rfl)
          case hc102g =>
           refine (HL.out w4).mono ?_
           rintro ee w5 ⟨rfl, hq⟩
           have hm3 := hm2.quiet hq
           have hS := hS.chg hq (fun h => h)
           have HC4 := Go.Lib.hid (HC3.out.trans hq)
           have HT3 : Hid (World.there w5 p 0 (d1.c.set rg (wordAt d1.M pl)).arr.size) := Go.Lib.hid fun j hj => by
            have hj : j < 22 := hj
            refine ⟨?_, hm3.m.frozen _⟩
            rw [Nat.zero_add, hm3.m.cell j, arr_front d1 _ _ _ hj]
            have : j < d1.c.arr.size := hj
            simp [Array.getElem?_eq_getElem this]
           refine ⟨_, rfl, hS, ?_⟩
           try simp only [sw1, sw2, sw3]
           refine takeH (i := 14) (t := 109) (v := ?v14y108) rfl (by kernel_rfl) (fun _ _ _ h => h) rfl (Or.inl ⟨by rfl, ?h14y108⟩) hS ?r14y108
           case h14y108 => (intro V' hSw; go_simp; try with_reducible rfl)
           try simp only [sw1, sw2, sw3]
           refine takeH (i := 15) (t := 124) (v := ?v15y109) rfl (by kernel_rfl) (fun _ _ _ h => h) rfl (Or.inl ⟨by rfl, ?h15y109⟩) hS ?r15y109
           case h15y109 => (intro V' hSw; go_simp; try with_reducible rfl)
           try simp only [sw1, sw2, sw3]
           refine takeH (i := 16) (t := 125) (v := ?v16y110) rfl (by kernel_rfl) (fun _ _ _ h => h) rfl (Or.inl ⟨by rfl, ?h16y110⟩) hS ?r16y110
           case h16y110 => (intro V' hSw; go_simp; try with_reducible rfl)
           try simp only [sw1, sw2, sw3]
           refine takeH (i := 17) (t := 126) (v := ?v17y111) rfl (by kernel_rfl) (fun _ _ _ h => h) rfl (Or.inl ⟨by rfl, ?h17y111⟩) hS ?r17y111
           case h17y111 => (intro V' hSw; go_simp; try with_reducible rfl)
           try simp only [sw1, sw2, sw3]
           refine takeH (i := 18) (t := 127) (v := ?v18y112) rfl (by kernel_rfl) (fun _ _ _ h => h) rfl (Or.inl ⟨by rfl, ?h18y112⟩) hS ?r18y112
           case h18y112 => (intro V' hSw; go_simp; try with_reducible rfl)
           try simp only [sw1, sw2, sw3]
           refine storeLastH (i := 19) (w' := World.setCells w5 p 0 (d1.c.set rg (wordAt d1.M pl)).arr.toList) rfl (by kernel_rfl) rfl (by rfl) ?hz102g ((setCells_far hne _ _ _).trans hS) (by kernel_rfl) ?hy102g
           case hz102g => (refine exec_store_mid 42 (.tmp 127) (.tmp 124) ?_ p 0 (d1.c.set rg (wordAt d1.M pl)).arr ?_ ?_ HT3.out (by kernel_rfl) (by kernel_rfl)) <;> rfl
           have H3 := Go.Lib.hid (hm3.setCpu (d1.c.set rg (wordAt d1.M pl)))
           have HE3 : Hid (Blk (World.setCells w5 p 0 (d1.c.set rg (wordAt d1.M pl)).arr.toList) a4 EvT e.arr) := Go.Lib.hid ((setCells_far hne _ _ _).trans hS)
           have HC5 := Go.Lib.hid ((HC4.out.mono (fun _ _ h => h.elim)).trans (setCells_chg (F := memF p mb) (g := p) (.inl rfl) (d1.c.set rg (wordAt d1.M pl)).arr.toList 0 w5 (Chg.refl _ w5)))
           clear hm3 hm2 hS
           generalize World.setCells w5 p 0 (d1.c.set rg (wordAt d1.M pl)).arr.toList = w6 at H3 HE3 HC5 ⊢
           have e0 : w6.cell? ⟨a4, 0, none⟩ = some (.int .i64 e.kind) := HE3.out.cell 0
           rw [HF.out] at e0
           obtain ⟨_, _, _, _, k25, _⟩ := H3.out.cells
           change w6.cell? ⟨p, 25, none⟩ = some (.int .i64 d1.kind) at k25
           rw [hkd1.out] at k25
           go_wp2_with fail
           go_ret
           exact FINX.out { d1 with c := d1.c.set rg (wordAt d1.M pl) } _ _ (by unfold Mc.act; rw [if_pos HF.out, if_pos HN.out, HBY.out]; rfl) (by show _ = Value.bool (decide (d1.kind = 0)); rw [hkd1.out]; rfl) H3.out HC5.out
    ·
     have hin1 := hin.1
     clear hin
     rw [hby] at e2 HIN
     have HBY := Go.Lib.hid hby
     clear hby
     have HG : Hid (∀ V', MAt V' p mb s mm d1 → Calls Tryz.prog 40 #[.pointer (some ⟨p, 0, none⟩), .int .u32 pl, .bool true] V' (Quiet (.int .u32 (d1.M pl)) V')) := Go.Lib.hid fun V' hV => (getByte_c hV hn1 HO.out.m pl hin1).mono fun e w' hq => ⟨hq.1, by rw [← hq.2]; exact Chg.refl _ _⟩
     have HL : Hid (∀ V', Calls Tryz.prog 42 #[d1.c.val, .int .i64 rg, .int .u32 (d1.M pl)] V' (Quiet (.tuple #[(d1.c.set rg (d1.M pl)).val, .int .i64 0]) V')) := Go.Lib.hid fun V' => loaded_c d1.c rg hrg _ ((show 0 ≤ d1.M pl ∧ d1.M pl < 4294967296 from ⟨(HO.out.m pl).1, by have := (HO.out.m pl).2; omega⟩)).1 ((show 0 ≤ d1.M pl ∧ d1.M pl < 4294967296 from ⟨(HO.out.m pl).1, by have := (HO.out.m pl).2; omega⟩)).2 V'
     go_wp2_with fail
     go_quiet (fail)
     go_wp2_with fail
     refine (HIN.out _).mono ?_
     rintro ee w2 ⟨rfl, rfl⟩
     go_wp2_with fail
     have HC2 := Go.Lib.hid ((Chg.refl NoB V).drewN nq)
     have HV2 := Go.Lib.hid (HM.out.quiet HC2.out)
     have HE2 := Go.Lib.hid (HEv.out.chg HC2.out (fun h => h))
     generalize World.drewN V nq = V2 at HV2 HE2 HC2 ⊢
     refine regionH (fun V' => Blk V' a4 EvT e.arr) (by kernel_rfl) HE2.out (fun hS => ?_)
     clear k21 k22 k23 k24 k25 k26 k27 e0 e1 e2 e3 e4 e5
     refine takeH (i := 0) (t := 110) (v := ?v0y113) rfl (by kernel_rfl) (fun _ _ _ h => h) rfl (Or.inl ⟨by rfl, ?h0y113⟩) hS ?r0y113
     case h0y113 => (intro V' hSw; go_simp; try with_reducible rfl)
     try simp only [sw1, sw2, sw3]
     refine takeH (i := 1) (t := 111) (v := ?v1y114) rfl (by kernel_rfl) (fun _ _ _ h => h) rfl (Or.inl ⟨by rfl, ?h1y114⟩) hS ?r1y114
     case h1y114 => (intro V' hSw; go_simp; try with_reducible rfl)
     try simp only [sw1, sw2, sw3]
     refine takeH (i := 2) (t := 112) (v := ?v2y115) rfl (by kernel_rfl) (fun _ _ _ h => h) rfl (Or.inl ⟨by rfl, ?h2y115⟩) hS ?r2y115
     case h2y115 => (intro V' hSw; go_simp; try with_reducible rfl)
     try simp only [sw1, sw2, sw3]
     refine takeH (i := 3) (t := 113) (v := ?v3y116) rfl (by kernel_rfl) (fun _ _ _ h => h) rfl (Or.inl ⟨by rfl, ?h3y116⟩) hS ?r3y116
     case h3y116 => (intro V' hSw; go_simp; try with_reducible rfl)
     try simp only [sw1, sw2, sw3]
     refine takeH (i := 5) (t := 115) (v := ?v5y117) rfl (by kernel_rfl) (fun _ _ _ h => h) rfl (Or.inl ⟨by rfl, ?h5y117⟩) hS ?r5y117
     case h5y117 => (intro V' hSw; go_simp; try with_reducible rfl)
     try simp only [sw1, sw2, sw3]
     refine takeH (i := 6) (t := 116) (v := ?v6y118) rfl (by kernel_rfl) (fun _ _ _ h => h) rfl (Or.inl ⟨by rfl, ?h6y118⟩) hS ?r6y118
     case h6y118 => (intro V' hSw; have z1 := hSw.cell 1; have z2 := hSw.cell 2; have z3 := hSw.cell 3; change _ = some (Value.int .u32 e.place) at z1; change _ = some (Value.bool e.byte) at z2; change _ = some (Value.int .i64 e.reg) at z3; rw [HEK.out.2.place] at z1; rw [HBY.out] at z2; rw [HEK.out.2.reg] at z3; clear hSw; go_simp; try with_reducible rfl)
     try simp only [sw1, sw2, sw3]
     refine takeH (i := 7) (t := 117) (v := ?v7y119) rfl (by kernel_rfl) (fun _ _ _ h => h) rfl (Or.inl ⟨by rfl, ?h7y119⟩) hS ?r7y119
     case h7y119 => (intro V' hSw; go_simp; try with_reducible rfl)
     try simp only [sw1, sw2, sw3]
     refine takeH (i := 8) (t := 118) (v := ?v8y120) rfl (by kernel_rfl) (fun _ _ _ h => h) rfl (Or.inl ⟨by rfl, ?h8y120⟩) hS ?r8y120
     case h8y120 => (intro V' hSw; go_simp; try with_reducible rfl)
     try simp only [sw1, sw2, sw3]
     refine takeH (i := 9) (t := 119) (v := ?v9y121) rfl (by kernel_rfl) (fun _ _ _ h => h) rfl (Or.inl ⟨by rfl, ?h9y121⟩) hS ?r9y121
     case h9y121 => (intro V' hSw; have z1 := hSw.cell 1; have z2 := hSw.cell 2; have z3 := hSw.cell 3; change _ = some (Value.int .u32 e.place) at z1; change _ = some (Value.bool e.byte) at z2; change _ = some (Value.int .i64 e.reg) at z3; rw [HEK.out.2.place] at z1; rw [HBY.out] at z2; rw [HEK.out.2.reg] at z3; clear hSw; go_simp; try with_reducible rfl)
     try simp only [sw1, sw2, sw3]
     refine takeH (i := 10) (t := 120) (v := ?v10y122) rfl (by kernel_rfl) (fun _ _ _ h => h) rfl (Or.inl ⟨by rfl, ?h10y122⟩) hS ?r10y122
     case h10y122 => (intro V' hSw; go_simp; try with_reducible rfl)
     try simp only [sw1, sw2, sw3]
     refine takeH (i := 11) (t := 121) (v := ?v11y123) rfl (by kernel_rfl) (fun _ _ _ h => h) rfl (Or.inl ⟨by rfl, ?h11y123⟩) hS ?r11y123
     case h11y123 => (intro V' hSw; have z1 := hSw.cell 1; have z2 := hSw.cell 2; have z3 := hSw.cell 3; change _ = some (Value.int .u32 e.place) at z1; change _ = some (Value.bool e.byte) at z2; change _ = some (Value.int .i64 e.reg) at z3; rw [HEK.out.2.place] at z1; rw [HBY.out] at z2; rw [HEK.out.2.reg] at z3; clear hSw; go_simp; try with_reducible rfl)
     try simp only [sw1, sw2, sw3]
     refine manyH (i := 4) (l := [12]) (by kernel_rfl) ?ha124
     case ha124 =>
      intro j hj
      simp only [List.mem_cons, List.not_mem_nil, or_false] at hj
      rcases hj with rfl | rfl
      ·
       refine opValH (t := 114) (v := .agg d1.c.arr.toList.toArray) (w' := V2.drew) rfl rfl (by rfl) ?hl124a hS ?hn124a
       case hl124a => (refine exec_load_mid 42 (.tmp 113) ?_ p 0 ?_ (HV2.out.quiet (Chg.refl NoB _).drew).cpRange Tryz.underlying42 rfl (by kernel_rfl)) <;> rfl
       try simp only [sw1, sw2, sw3]
       refine manyH (i := 12) (l := []) (by kernel_rfl) ?hb124
       case hb124 =>
        intro j hj
        obtain rfl : j = 12 := by simpa using hj
        refine opCallH (t := 122) (f := 40) (args := #[.pointer (some ⟨p, 0, none⟩), .int .u32 pl, .bool true]) rfl rfl (by rfl) ?hx124b ?hc124b
        case hx124b => (go_simp; try rfl)
        case hc124b =>
         refine (HG.out V2.drew (HV2.out.quiet (Chg.refl NoB _).drew)).mono ?_
         rintro ee w4 ⟨rfl, hq⟩
         have hm2 := (HV2.out.quiet (Chg.refl NoB _).drew).quiet hq
         have hS := hS.chg hq (fun h => h)
         have HC3 := Go.Lib.hid ((HC2.out.trans (Chg.refl NoB _).drew).trans hq)
         refine ⟨_, rfl, hS, ?_⟩
         try simp only [sw1, sw2, sw3]
         refine manyH (i := 13) (l := []) (by kernel_rfl) ?hm124c
         case hm124c =>
          intro j hj
          obtain rfl : j = 13 := by simpa using hj
          refine opCallH (t := 123) (f := 42) (args := #[d1.c.val, .int .i64 rg, .int .u32 (d1.M pl)]) rfl rfl (by rfl) ?hx124c ?hc124c
          case hx124c => (go_simp; try rfl)
          case hc124c =>
           refine (HL.out w4).mono ?_
           rintro ee w5 ⟨rfl, hq⟩
           have hm3 := hm2.quiet hq
           have hS := hS.chg hq (fun h => h)
           have HC4 := Go.Lib.hid (HC3.out.trans hq)
           have HT3 : Hid (World.there w5 p 0 (d1.c.set rg (d1.M pl)).arr.size) := Go.Lib.hid fun j hj => by
            have hj : j < 22 := hj
            refine ⟨?_, hm3.m.frozen _⟩
            rw [Nat.zero_add, hm3.m.cell j, arr_front d1 _ _ _ hj]
            have : j < d1.c.arr.size := hj
            simp [Array.getElem?_eq_getElem this]
           refine ⟨_, rfl, hS, ?_⟩
           try simp only [sw1, sw2, sw3]
           refine takeH (i := 14) (t := 109) (v := ?v14y125) rfl (by kernel_rfl) (fun _ _ _ h => h) rfl (Or.inl ⟨by rfl, ?h14y125⟩) hS ?r14y125
           case h14y125 => (intro V' hSw; go_simp; try with_reducible rfl)
           try simp only [sw1, sw2, sw3]
           refine takeH (i := 15) (t := 124) (v := ?v15y126) rfl (by kernel_rfl) (fun _ _ _ h => h) rfl (Or.inl ⟨by rfl, ?h15y126⟩) hS ?r15y126
           case h15y126 => (intro V' hSw; go_simp; try with_reducible rfl)
           try simp only [sw1, sw2, sw3]
           refine takeH (i := 16) (t := 125) (v := ?v16y127) rfl (by kernel_rfl) (fun _ _ _ h => h) rfl (Or.inl ⟨by rfl, ?h16y127⟩) hS ?r16y127
           case h16y127 => (intro V' hSw; go_simp; try with_reducible rfl)
           try simp only [sw1, sw2, sw3]
           refine takeH (i := 17) (t := 126) (v := ?v17y128) rfl (by kernel_rfl) (fun _ _ _ h => h) rfl (Or.inl ⟨by rfl, ?h17y128⟩) hS ?r17y128
           case h17y128 => (intro V' hSw; go_simp; try with_reducible rfl)
           try simp only [sw1, sw2, sw3]
           refine takeH (i := 18) (t := 127) (v := ?v18y129) rfl (by kernel_rfl) (fun _ _ _ h => h) rfl (Or.inl ⟨by rfl, ?h18y129⟩) hS ?r18y129
           case h18y129 => (intro V' hSw; go_simp; try with_reducible rfl)
           try simp only [sw1, sw2, sw3]
           refine storeLastH (i := 19) (w' := World.setCells w5 p 0 (d1.c.set rg (d1.M pl)).arr.toList) rfl (by kernel_rfl) rfl (by rfl) ?hz124c ((setCells_far hne _ _ _).trans hS) (by kernel_rfl) ?hy124c
           case hz124c => (refine exec_store_mid 42 (.tmp 127) (.tmp 124) ?_ p 0 (d1.c.set rg (d1.M pl)).arr ?_ ?_ HT3.out (by kernel_rfl) (by kernel_rfl)) <;> rfl
           have H3 := Go.Lib.hid (hm3.setCpu (d1.c.set rg (d1.M pl)))
           have HE3 : Hid (Blk (World.setCells w5 p 0 (d1.c.set rg (d1.M pl)).arr.toList) a4 EvT e.arr) := Go.Lib.hid ((setCells_far hne _ _ _).trans hS)
           have HC5 := Go.Lib.hid ((HC4.out.mono (fun _ _ h => h.elim)).trans (setCells_chg (F := memF p mb) (g := p) (.inl rfl) (d1.c.set rg (d1.M pl)).arr.toList 0 w5 (Chg.refl _ w5)))
           clear hm3 hm2 hS
           generalize World.setCells w5 p 0 (d1.c.set rg (d1.M pl)).arr.toList = w6 at H3 HE3 HC5 ⊢
           have e0 : w6.cell? ⟨a4, 0, none⟩ = some (.int .i64 e.kind) := HE3.out.cell 0
           rw [HF.out] at e0
           obtain ⟨_, _, _, _, k25, _⟩ := H3.out.cells
           change w6.cell? ⟨p, 25, none⟩ = some (.int .i64 d1.kind) at k25
           rw [hkd1.out] at k25
           go_wp2_with fail
           go_ret
           exact FINX.out { d1 with c := d1.c.set rg (d1.M pl) } _ _ (by unfold Mc.act; rw [if_pos HF.out, if_pos HN.out, HBY.out]; rfl) (by show _ = Value.bool (decide (d1.kind = 0)); rw [hkd1.out]; rfl) H3.out HC5.out
      ·
       refine opCallH (t := 122) (f := 40) (args := #[.pointer (some ⟨p, 0, none⟩), .int .u32 pl, .bool true]) rfl rfl (by rfl) ?hx124d ?hc124d
       case hx124d => (go_simp; try rfl)
       case hc124d =>
        refine (HG.out V2.drew (HV2.out.quiet (Chg.refl NoB _).drew)).mono ?_
        rintro ee w4 ⟨rfl, hq⟩
        have hm2 := (HV2.out.quiet (Chg.refl NoB _).drew).quiet hq
        have hS := hS.chg hq (fun h => h)
        have HC3 := Go.Lib.hid ((HC2.out.trans (Chg.refl NoB _).drew).trans hq)
        refine ⟨_, rfl, hS, ?_⟩
        try simp only [sw1, sw2, sw3]
        refine manyH (i := 4) (l := []) (by kernel_rfl) ?he124
        case he124 =>
         intro j hj
         obtain rfl : j = 4 := by simpa using hj
         refine opValH (t := 114) (v := .agg d1.c.arr.toList.toArray) (w' := w4) rfl rfl (by rfl) ?hl124f hS ?hn124f
         case hl124f => (refine exec_load_mid 42 (.tmp 113) ?_ p 0 ?_ (hm2).cpRange Tryz.underlying42 rfl (by kernel_rfl)) <;> rfl
         try simp only [sw1, sw2, sw3]
         refine manyH (i := 13) (l := []) (by kernel_rfl) ?hm124g
         case hm124g =>
          intro j hj
          obtain rfl : j = 13 := by simpa using hj
          refine opCallH (t := 123) (f := 42) (args := #[d1.c.val, .int .i64 rg, .int .u32 (d1.M pl)]) rfl rfl (by rfl) ?hx124g ?hc124g
          case hx124g => (go_simp; try rfl)
          case hc124g =>
           refine (HL.out w4).mono ?_
           rintro ee w5 ⟨rfl, hq⟩
           have hm3 := hm2.quiet hq
           have hS := hS.chg hq (fun h => h)
           have HC4 := Go.Lib.hid (HC3.out.trans hq)
           have HT3 : Hid (World.there w5 p 0 (d1.c.set rg (d1.M pl)).arr.size) := Go.Lib.hid fun j hj => by
            have hj : j < 22 := hj
            refine ⟨?_, hm3.m.frozen _⟩
            rw [Nat.zero_add, hm3.m.cell j, arr_front d1 _ _ _ hj]
            have : j < d1.c.arr.size := hj
            simp [Array.getElem?_eq_getElem this]
           refine ⟨_, rfl, hS, ?_⟩
           try simp only [sw1, sw2, sw3]
           refine takeH (i := 14) (t := 109) (v := ?v14y130) rfl (by kernel_rfl) (fun _ _ _ h => h) rfl (Or.inl ⟨by rfl, ?h14y130⟩) hS ?r14y130
           case h14y130 => (intro V' hSw; go_simp; try with_reducible rfl)
           try simp only [sw1, sw2, sw3]
           refine takeH (i := 15) (t := 124) (v := ?v15y131) rfl (by kernel_rfl) (fun _ _ _ h => h) rfl (Or.inl ⟨by rfl, ?h15y131⟩) hS ?r15y131
           case h15y131 => (intro V' hSw; go_simp; try with_reducible rfl)
           try simp only [sw1, sw2, sw3]
           refine takeH (i := 16) (t := 125) (v := ?v16y132) rfl (by kernel_rfl) (fun _ _ _ h => h) rfl (Or.inl ⟨by rfl, ?h16y132⟩) hS ?r16y132
           case h16y132 => (intro V' hSw; go_simp; try with_reducible rfl)
           try simp only [sw1, sw2, sw3]
           refine takeH (i := 17) (t := 126) (v := ?v17y133) rfl (by kernel_rfl) (fun _ _ _ h => h) rfl (Or.inl ⟨by rfl, ?h17y133⟩) hS ?r17y133
           case h17y133 => (intro V' hSw; go_simp; try with_reducible rfl)
           try simp only [sw1, sw2, sw3]
           refine takeH (i := 18) (t := 127) (v := ?v18y134) rfl (by kernel_rfl) (fun _ _ _ h => h) rfl (Or.inl ⟨by rfl, ?h18y134⟩) hS ?r18y134
           case h18y134 => (intro V' hSw; go_simp; try with_reducible rfl)
           try simp only [sw1, sw2, sw3]
           refine storeLastH (i := 19) (w' := World.setCells w5 p 0 (d1.c.set rg (d1.M pl)).arr.toList) rfl (by kernel_rfl) rfl (by rfl) ?hz124g ((setCells_far hne _ _ _).trans hS) (by kernel_rfl) ?hy124g
           case hz124g => (refine exec_store_mid 42 (.tmp 127) (.tmp 124) ?_ p 0 (d1.c.set rg (d1.M pl)).arr ?_ ?_ HT3.out (by kernel_rfl) (by kernel_rfl)) <;> rfl
           have H3 := Go.Lib.hid (hm3.setCpu (d1.c.set rg (d1.M pl)))
           have HE3 : Hid (Blk (World.setCells w5 p 0 (d1.c.set rg (d1.M pl)).arr.toList) a4 EvT e.arr) := Go.Lib.hid ((setCells_far hne _ _ _).trans hS)
           have HC5 := Go.Lib.hid ((HC4.out.mono (fun _ _ h => h.elim)).trans (setCells_chg (F := memF p mb) (g := p) (.inl rfl) (d1.c.set rg (d1.M pl)).arr.toList 0 w5 (Chg.refl _ w5)))
           clear hm3 hm2 hS
           generalize World.setCells w5 p 0 (d1.c.set rg (d1.M pl)).arr.toList = w6 at H3 HE3 HC5 ⊢
           have e0 : w6.cell? ⟨a4, 0, none⟩ = some (.int .i64 e.kind) := HE3.out.cell 0
           rw [HF.out] at e0
           obtain ⟨_, _, _, _, k25, _⟩ := H3.out.cells
           change w6.cell? ⟨p, 25, none⟩ = some (.int .i64 d1.kind) at k25
           rw [hkd1.out] at k25
           go_wp2_with fail
           go_ret
           exact FINX.out { d1 with c := d1.c.set rg (d1.M pl) } _ _ (by unfold Mc.act; rw [if_pos HF.out, if_pos HN.out, HBY.out]; rfl) (by show _ = Value.bool (decide (d1.kind = 0)); rw [hkd1.out]; rfl) H3.out HC5.out
   ·
    have HIN := Go.Lib.hid (fun k => minside_c (HM.out.quiet ((Chg.refl NoB V).drewN k)) hn1 pl hpl e.byte)
    have hq : (decide (pl < d1.n) && (e.byte || decide (pl % 4 = 0))) = false := by rw [Bool.eq_false_iff]; intro hy; exact hin (by simpa using hy)
    rw [hq] at HIN
    clear hq
    have HN := Go.Lib.hid hin
    clear hin
    go_wp2_with fail
    go_quiet (fail)
    go_wp2_with fail
    refine (HIN.out _).mono ?_
    rintro ee w2 ⟨rfl, rfl⟩
    go_wp2_with fail
    refine (mend_c (HM.out.quiet ((Chg.refl NoB V).drewN _)) 6 0).mono ?_
    rintro ee w3 ⟨rfl, h1, h2⟩
    have H3 := Go.Lib.hid (And.intro h1 h2)
    clear h1 h2 k21 k22 k23 k24 k25 k26 k27
    obtain ⟨k21, k22, k23, k24, k25, k26, k27⟩ := H3.out.1.cells
    go_wp2_with fail
    go_ret
    exact FINX.out _ _ _ (by unfold Mc.act; rw [if_pos HF.out, if_neg HN.out]) (by rfl) H3.out.1 ((show Chg (memF p mb) V _ from (Chg.refl _ V).drewN _).trans H3.out.2)
  ·
   by_cases hr14 : rg = 14
   ·
    subst hr14
    by_cases hA : d1.n ≤ pl
    ·
     have hbA : decide ((d1.n : Int) ≤ (pl : Int)) = true := by simp; omega
     have hbA2 : decide (d1.n ≤ pl) = true := by simp; omega
     have HA := Go.Lib.hid hA
     go_wp2_with fail
     go_quiet (fail)
     go_wp2_with fail
     refine (mend_c (HM.out.quiet ((Chg.refl NoB V).drewN _)) 3 0).mono ?_
     rintro ee w3 ⟨rfl, h1, h2⟩
     have H3 := Go.Lib.hid (And.intro h1 h2)
     clear h1 h2 k21 k22 k23 k24 k25 k26 k27
     obtain ⟨k21, k22, k23, k24, k25, k26, k27⟩ := H3.out.1.cells
     go_wp2_with fail
     go_ret
     exact FINX.out _ _ _ (by unfold Mc.act; simp [HF.out, HA.out]) (by rfl) H3.out.1 ((show Chg (memF p mb) V _ from (Chg.refl _ V).drewN _).trans H3.out.2)
    ·
     have hA2 : pl < d1.n := by omega
     have hbA : decide ((d1.n : Int) ≤ (pl : Int)) = false := by simp; omega
     have hbA2 : decide (d1.n ≤ pl) = false := by simp; omega
     by_cases hB : pl < d1.heap
     ·
      have hbB : decide ((pl : Int) < (d1.heap : Int)) = true := by simp; omega
      have hbB2 : decide (pl < d1.heap) = true := by simp; omega
      have HA := Go.Lib.hid hA
      have HB := Go.Lib.hid hB
      clear hA
      go_wp2_with fail
      go_quiet (fail)
      go_wp2_with fail
      refine (mend_c (HM.out.quiet ((Chg.refl NoB V).drewN _)) 3 0).mono ?_
      rintro ee w3 ⟨rfl, h1, h2⟩
      have H3 := Go.Lib.hid (And.intro h1 h2)
      clear h1 h2 k21 k22 k23 k24 k25 k26 k27
      obtain ⟨k21, k22, k23, k24, k25, k26, k27⟩ := H3.out.1.cells
      go_wp2_with fail
      go_ret
      exact FINX.out _ _ _ (by unfold Mc.act; simp [HF.out, HA.out, HB.out]) (by rfl) H3.out.1 ((show Chg (memF p mb) V _ from (Chg.refl _ V).drewN _).trans H3.out.2)
     ·
      have HA := Go.Lib.hid hA
      have HB := Go.Lib.hid hB
      have hB2 : d1.heap ≤ pl := by omega
      have hbB : decide ((pl : Int) < (d1.heap : Int)) = false := by simp; omega
      have hbB2 : decide (pl < d1.heap) = false := by simp; omega
      clear hA hB
      by_cases hin : pl < d1.n ∧ (e.byte = true ∨ pl % 4 = 0)
      ·
       have HIN := Go.Lib.hid (fun k => minside_c (HM.out.quiet ((Chg.refl NoB V).drewN k)) hn1 pl hpl e.byte)
       have hq : (decide (pl < d1.n) && (e.byte || decide (pl % 4 = 0))) = true := by simpa using hin
       rw [hq] at HIN
       clear hq
       have HN := Go.Lib.hid hin
       cases hby : e.byte
       ·
        have hp4 : pl + 4 ≤ d1.n := by rw [hby] at hin; simp at hin; omega
        clear hin
        have hvl2 : (0 : Int) ≤ vl ∧ (vl : Int) < 4294967296 := by omega
        rw [hby] at e2 HIN
        have HBY := Go.Lib.hid hby
        clear hby
        go_wp2_with fail
        go_quiet (fail)
        go_wp2_with fail
        refine (HIN.out _).mono ?_
        rintro ee w2 ⟨rfl, rfl⟩
        go_wp2_with fail
        refine (putWord_c (HM.out.quiet ((Chg.refl NoB V).drewN _)) hn1 pl hp4 vl hvl2).mono ?_
        rintro ee w3 ⟨rfl, h1, h2⟩
        have H3 := Go.Lib.hid (And.intro h1 h2)
        have HE3 := Go.Lib.hid (HEv.out.chg ((show Chg (memF p mb) V _ from (Chg.refl _ V).drewN _).trans h2) (fun h => by rcases h with h | h; exact hne h; exact hne2 h))
        clear h1 h2 k21 k22 k23 k24 k25 k26 k27 e0 e1 e2 e3 e4 e5
        have e0 : w3.cell? ⟨a4, 0, none⟩ = some (.int .i64 e.kind) := HE3.out.cell 0
        rw [HF.out] at e0
        obtain ⟨_, _, _, _, k25, _⟩ := H3.out.1.cells
        change w3.cell? ⟨p, 25, none⟩ = some (.int .i64 d1.kind) at k25
        rw [hkd1.out] at k25
        go_wp2_with fail
        go_ret
        exact FINX.out { d1 with M := putWord d1.M pl vl } _ _ (by unfold Mc.act; rw [if_neg (by rw [HF.out]; decide), if_pos HF.out, if_neg (by rintro ⟨_, h | h⟩; exact HA.out h; exact HB.out h), if_pos HN.out, HBY.out]; rfl) (by show _ = Value.bool (decide (d1.kind = 0)); rw [hkd1.out]; rfl) H3.out.1 ((show Chg (memF p mb) V _ from (Chg.refl _ V).drewN _).trans H3.out.2)
       ·
        have hin1 := hin.1
        clear hin
        have hvl2 : (0 : Int) ≤ vl ∧ (vl : Int) < 4294967296 := by omega
        rw [hby] at e2 HIN
        have HBY := Go.Lib.hid hby
        clear hby
        go_wp2_with fail
        go_quiet (fail)
        go_wp2_with fail
        refine (HIN.out _).mono ?_
        rintro ee w2 ⟨rfl, rfl⟩
        go_wp2_with fail
        refine (putByte_c (HM.out.quiet ((Chg.refl NoB V).drewN _)) hn1 pl hin1 vl hvl2).mono ?_
        rintro ee w3 ⟨rfl, h1, h2⟩
        have H3 := Go.Lib.hid (And.intro h1 h2)
        have HE3 := Go.Lib.hid (HEv.out.chg ((show Chg (memF p mb) V _ from (Chg.refl _ V).drewN _).trans h2) (fun h => by rcases h with h | h; exact hne h; exact hne2 h))
        clear h1 h2 k21 k22 k23 k24 k25 k26 k27 e0 e1 e2 e3 e4 e5
        have e0 : w3.cell? ⟨a4, 0, none⟩ = some (.int .i64 e.kind) := HE3.out.cell 0
        rw [HF.out] at e0
        obtain ⟨_, _, _, _, k25, _⟩ := H3.out.1.cells
        change w3.cell? ⟨p, 25, none⟩ = some (.int .i64 d1.kind) at k25
        rw [hkd1.out] at k25
        go_wp2_with fail
        go_ret
        exact FINX.out { d1 with M := upd d1.M pl ((vl : Int) % 256) } _ _ (by unfold Mc.act; rw [if_neg (by rw [HF.out]; decide), if_pos HF.out, if_neg (by rintro ⟨_, h | h⟩; exact HA.out h; exact HB.out h), if_pos HN.out, HBY.out]; rfl) (by show _ = Value.bool (decide (d1.kind = 0)); rw [hkd1.out]; rfl) H3.out.1 ((show Chg (memF p mb) V _ from (Chg.refl _ V).drewN _).trans H3.out.2)
      ·
       have HIN := Go.Lib.hid (fun k => minside_c (HM.out.quiet ((Chg.refl NoB V).drewN k)) hn1 pl hpl e.byte)
       have hq : (decide (pl < d1.n) && (e.byte || decide (pl % 4 = 0))) = false := by rw [Bool.eq_false_iff]; intro hy; exact hin (by simpa using hy)
       rw [hq] at HIN
       clear hq
       have HN := Go.Lib.hid hin
       clear hin
       go_wp2_with fail
       go_quiet (fail)
       go_wp2_with fail
       refine (HIN.out _).mono ?_
       rintro ee w2 ⟨rfl, rfl⟩
       go_wp2_with fail
       refine (mend_c (HM.out.quiet ((Chg.refl NoB V).drewN _)) 6 0).mono ?_
       rintro ee w3 ⟨rfl, h1, h2⟩
       have H3 := Go.Lib.hid (And.intro h1 h2)
       clear h1 h2 k21 k22 k23 k24 k25 k26 k27
       obtain ⟨k21, k22, k23, k24, k25, k26, k27⟩ := H3.out.1.cells
       go_wp2_with fail
       go_ret
       exact FINX.out _ _ _ (by unfold Mc.act; rw [if_neg (by rw [HF.out]; decide), if_pos HF.out, if_neg (by rintro ⟨_, h | h⟩; exact HA.out h; exact HB.out h), if_neg HN.out]) (by rfl) H3.out.1 ((show Chg (memF p mb) V _ from (Chg.refl _ V).drewN _).trans H3.out.2)
   ·
    have hrb : ((rg : Int) == 14) = false := by simp; omega
    have H14 := Go.Lib.hid hr14
    clear hr14
    by_cases hin : pl < d1.n ∧ (e.byte = true ∨ pl % 4 = 0)
    ·
     have HIN := Go.Lib.hid (fun k => minside_c (HM.out.quiet ((Chg.refl NoB V).drewN k)) hn1 pl hpl e.byte)
     have hq : (decide (pl < d1.n) && (e.byte || decide (pl % 4 = 0))) = true := by simpa using hin
     rw [hq] at HIN
     clear hq
     have HN := Go.Lib.hid hin
     cases hby : e.byte
     ·
      have hp4 : pl + 4 ≤ d1.n := by rw [hby] at hin; simp at hin; omega
      clear hin
      have hvl2 : (0 : Int) ≤ vl ∧ (vl : Int) < 4294967296 := by omega
      rw [hby] at e2 HIN
      have HBY := Go.Lib.hid hby
      clear hby
      go_wp2_with fail
      go_quiet (fail)
      go_wp2_with fail
      refine (HIN.out _).mono ?_
      rintro ee w2 ⟨rfl, rfl⟩
      go_wp2_with fail
      refine (putWord_c (HM.out.quiet ((Chg.refl NoB V).drewN _)) hn1 pl hp4 vl hvl2).mono ?_
      rintro ee w3 ⟨rfl, h1, h2⟩
      have H3 := Go.Lib.hid (And.intro h1 h2)
      have HE3 := Go.Lib.hid (HEv.out.chg ((show Chg (memF p mb) V _ from (Chg.refl _ V).drewN _).trans h2) (fun h => by rcases h with h | h; exact hne h; exact hne2 h))
      clear h1 h2 k21 k22 k23 k24 k25 k26 k27 e0 e1 e2 e3 e4 e5
      have e0 : w3.cell? ⟨a4, 0, none⟩ = some (.int .i64 e.kind) := HE3.out.cell 0
      rw [HF.out] at e0
      obtain ⟨_, _, _, _, k25, _⟩ := H3.out.1.cells
      change w3.cell? ⟨p, 25, none⟩ = some (.int .i64 d1.kind) at k25
      rw [hkd1.out] at k25
      go_wp2_with fail
      go_ret
      exact FINX.out { d1 with M := putWord d1.M pl vl } _ _ (by unfold Mc.act; rw [if_neg (by rw [HF.out]; decide), if_pos HF.out, if_neg (fun h => H14.out h.1), if_pos HN.out, HBY.out]; rfl) (by show _ = Value.bool (decide (d1.kind = 0)); rw [hkd1.out]; rfl) H3.out.1 ((show Chg (memF p mb) V _ from (Chg.refl _ V).drewN _).trans H3.out.2)
     ·
      have hin1 := hin.1
      clear hin
      have hvl2 : (0 : Int) ≤ vl ∧ (vl : Int) < 4294967296 := by omega
      rw [hby] at e2 HIN
      have HBY := Go.Lib.hid hby
      clear hby
      go_wp2_with fail
      go_quiet (fail)
      go_wp2_with fail
      refine (HIN.out _).mono ?_
      rintro ee w2 ⟨rfl, rfl⟩
      go_wp2_with fail
      refine (putByte_c (HM.out.quiet ((Chg.refl NoB V).drewN _)) hn1 pl hin1 vl hvl2).mono ?_
      rintro ee w3 ⟨rfl, h1, h2⟩
      have H3 := Go.Lib.hid (And.intro h1 h2)
      have HE3 := Go.Lib.hid (HEv.out.chg ((show Chg (memF p mb) V _ from (Chg.refl _ V).drewN _).trans h2) (fun h => by rcases h with h | h; exact hne h; exact hne2 h))
      clear h1 h2 k21 k22 k23 k24 k25 k26 k27 e0 e1 e2 e3 e4 e5
      have e0 : w3.cell? ⟨a4, 0, none⟩ = some (.int .i64 e.kind) := HE3.out.cell 0
      rw [HF.out] at e0
      obtain ⟨_, _, _, _, k25, _⟩ := H3.out.1.cells
      change w3.cell? ⟨p, 25, none⟩ = some (.int .i64 d1.kind) at k25
      rw [hkd1.out] at k25
      go_wp2_with fail
      go_ret
      exact FINX.out { d1 with M := upd d1.M pl ((vl : Int) % 256) } _ _ (by unfold Mc.act; rw [if_neg (by rw [HF.out]; decide), if_pos HF.out, if_neg (fun h => H14.out h.1), if_pos HN.out, HBY.out]; rfl) (by show _ = Value.bool (decide (d1.kind = 0)); rw [hkd1.out]; rfl) H3.out.1 ((show Chg (memF p mb) V _ from (Chg.refl _ V).drewN _).trans H3.out.2)
    ·
     have HIN := Go.Lib.hid (fun k => minside_c (HM.out.quiet ((Chg.refl NoB V).drewN k)) hn1 pl hpl e.byte)
     have hq : (decide (pl < d1.n) && (e.byte || decide (pl % 4 = 0))) = false := by rw [Bool.eq_false_iff]; intro hy; exact hin (by simpa using hy)
     rw [hq] at HIN
     clear hq
     have HN := Go.Lib.hid hin
     clear hin
     go_wp2_with fail
     go_quiet (fail)
     go_wp2_with fail
     refine (HIN.out _).mono ?_
     rintro ee w2 ⟨rfl, rfl⟩
     go_wp2_with fail
     refine (mend_c (HM.out.quiet ((Chg.refl NoB V).drewN _)) 6 0).mono ?_
     rintro ee w3 ⟨rfl, h1, h2⟩
     have H3 := Go.Lib.hid (And.intro h1 h2)
     clear h1 h2 k21 k22 k23 k24 k25 k26 k27
     obtain ⟨k21, k22, k23, k24, k25, k26, k27⟩ := H3.out.1.cells
     go_wp2_with fail
     go_ret
     exact FINX.out _ _ _ (by unfold Mc.act; rw [if_neg (by rw [HF.out]; decide), if_pos HF.out, if_neg (fun h => H14.out h.1), if_neg HN.out]) (by rfl) H3.out.1 ((show Chg (memF p mb) V _ from (Chg.refl _ V).drewN _).trans H3.out.2)
  ·
   go_wp2_with fail
   go_quiet (fail)
   go_wp2_with fail
   refine (mend_c (HM.out.quiet ((Chg.refl NoB V).drewN _)) 2 e.n).mono ?_
   rintro ee w3 ⟨rfl, h1, h2⟩
   have H3 := Go.Lib.hid (And.intro h1 h2)
   clear h1 h2 k21 k22 k23 k24 k25 k26 k27
   obtain ⟨k21, k22, k23, k24, k25, k26, k27⟩ := H3.out.1.cells
   go_wp2_with fail
   go_ret
   exact FINX.out _ _ _ (by unfold Mc.act; simp [HF.out]) (by rfl) H3.out.1 ((show Chg (memF p mb) V _ from (Chg.refl _ V).drewN _).trans H3.out.2)
  ·
   by_cases h16 : e.n = 16
   ·
    have H16 := Go.Lib.hid h16
    rw [h16] at e5
    clear h16
    go_wp2_with fail
    go_quiet (fail)
    go_wp2_with fail
    refine (sys_16 (HM.out.quiet ((Chg.refl NoB V).drewN _))).mono ?_
    rintro ee w3 ⟨rfl, h1, h2⟩
    have H3 := Go.Lib.hid (And.intro h1 h2)
    clear h1 h2 k21 k22 k23 k24 k25 k26 k27
    obtain ⟨_, _, _, _, k25, _⟩ := H3.out.1.cells
    go_wp2_with fail
    go_ret
    exact FINX.out _ _ _ (by unfold Mc.act; simp [HF.out, H16.out]) (by rfl) H3.out.1 ((show Chg (memF p mb) V _ from (Chg.refl _ V).drewN _).trans H3.out.2)
   ·
    by_cases h17 : e.n = 17
    ·
     have H17 := Go.Lib.hid h17
     have H16 := Go.Lib.hid h16
     rw [h17] at e5
     clear h17 h16
     go_wp2_with fail
     go_quiet (fail)
     go_wp2_with fail
     refine (sys_17 (HM.out.quiet ((Chg.refl NoB V).drewN _)) HO.out hh1).mono ?_
     rintro ee w3 ⟨rfl, h1, h2⟩
     have H3 := Go.Lib.hid (And.intro h1 h2)
     clear h1 h2 k21 k22 k23 k24 k25 k26 k27
     obtain ⟨_, _, _, _, k25, _⟩ := H3.out.1.cells
     generalize hnf : (newF d1 (d1.c.R 0).toNat).kind = nk at k25
     have HNF := Go.Lib.hid hnf
     clear hnf
     go_wp2_with fail
     go_ret
     exact FINX.out _ _ _ (by unfold Mc.act; simp [HF.out, H17.out]) (by rw [HNF.out]; rfl) H3.out.1 ((show Chg (memF p mb) V _ from (Chg.refl _ V).drewN _).trans H3.out.2)
    ·
     have hso : e.n < 16 ∨ 28 < e.n := by have := HSYS.out HF.out; omega
     have H17 := Go.Lib.hid h17
     have H16 := Go.Lib.hid h16
     clear h17 h16
     go_wp2_with fail
     go_quiet (fail)
     go_wp2_with fail
     refine (sys_out (HM.out.quiet ((Chg.refl NoB V).drewN _)) e.n hso).mono ?_
     rintro ee w3 ⟨rfl, h1, h2⟩
     have H3 := Go.Lib.hid (And.intro h1 h2)
     clear h1 h2 k21 k22 k23 k24 k25 k26 k27
     obtain ⟨_, _, _, _, k25, _⟩ := H3.out.1.cells
     go_wp2_with fail
     go_ret
     exact FINX.out _ _ _ (by unfold Mc.act; simp [HF.out, H16.out, H17.out]) (by rfl) H3.out.1 ((show Chg (memF p mb) V _ from (Chg.refl _ V).drewN _).trans H3.out.2)
  ·
   go_wp2_with fail
   go_quiet (fail)
   go_wp2_with fail
   refine (mend_c (HM.out.quiet ((Chg.refl NoB V).drewN _)) 7 0).mono ?_
   rintro ee w3 ⟨rfl, h1, h2⟩
   have H3 := Go.Lib.hid (And.intro h1 h2)
   clear h1 h2 k21 k22 k23 k24 k25 k26 k27
   obtain ⟨k21, k22, k23, k24, k25, k26, k27⟩ := H3.out.1.cells
   go_wp2_with fail
   go_ret
   exact FINX.out _ _ _ (by unfold Mc.act; simp [HF.out]) (by rfl) H3.out.1 ((show Chg (memF p mb) V _ from (Chg.refl _ V).drewN _).trans H3.out.2)
end
end Go.Proofs.YtggknljlibhkjaaGreat
