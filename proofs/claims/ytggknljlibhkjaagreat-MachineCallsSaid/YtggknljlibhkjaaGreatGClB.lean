import Derived.Test.YtggknljlibhkjaaGreatMcP
import Derived.Test.YtggknljlibhkjaaGreatStoreW
import Derived.Test.YtggknljlibhkjaaGreatGMcC
import Derived.Test.YtggknljlibhkjaaGreatGDo
import Derived.Laws.BytesArg
import Derived.Test.YtggknljlibhkjaaGreatSteps
set_option linter.unusedSimpArgs false
set_option linter.unusedVariables false
namespace Go.Proofs.YtggknljlibhkjaaGreat
open Go Go.RowKit
section
variable {W W' : World} {p mb s mm : Nat} {d : Mc}
set_option maxRecDepth 100000 in
theorem sys_st (h : MAt W p mb s mm d) (n : Int) (j : Nat) (f : FuncId) (hf : Instr.findNow (.int .i64) (.int .i64 n) codeEs.toList 0 = some (some (j, .func (.func f) #[] #[]))) (hcf : ∀ (xs : Array Value) W, (callFunc f xs).run Tryz.prog W = .ok (.enter f xs) W) (x : Int) (ok : Bool) (d' : Mc) (hk : d'.c.R 0 = d.c.R 0 ∧ d'.c.R 1 = d.c.R 1)
  (E : World → Prop) (hE : ∀ w1 w2, E w1 → Chg (fun k => k = p) w1 w2 → E w2)
  (hc : Calls Tryz.prog f #[.pointer (some ⟨p, 0, none⟩), .int .u32 (d.c.R 0), .int .u32 (d.c.R 1)] W.drew (fun e w1 => e = .returned (.tuple #[.int .u32 x, .bool ok]) ∧ MAt w1 p mb s mm d' ∧ E w1)) :
  Calls Tryz.prog 43 #[.pointer (some ⟨p, 0, none⟩), .int .i64 n] W (fun e w1 => e = .returned (.tuple #[]) ∧ MAt w1 p mb s mm (if ok = true then { d' with c := { d'.c with R := upd d'.c.R 0 x } } else d') ∧ E w1) := by
 have hlk : (Instr.lookup MapT (.map (some mm)) (.int .i64 n) true).run Tryz.prog W = .ok (.tuple #[.func (.func f) #[] #[], .bool true]) W := lookup_code h.code n _ hf
 obtain ⟨_, _, _, _, _, _, k27⟩ := h.cells
 have k0 := h.reg (i := 0) (by decide)
 have k1 := h.reg (i := 1) (by decide)
 have HC := Go.Lib.hid hc
 have HK := Go.Lib.hid hk
 have HEE := Go.Lib.hid hE
 have hcf' := hcf #[.pointer (some ⟨p, 0, none⟩), .int .u32 (d.c.R 0), .int .u32 (d.c.R 1)] W.drew
 clear h hf hc hcf hk hE
 obtain ⟨D, hD⟩ : ∃ D, (if ok = true then { d' with c := { d'.c with R := upd d'.c.R 0 x } } else d') = D := ⟨_, rfl⟩
 have HD := Go.Lib.hid hD
 rw [hD]
 clear hD
 generalize d.c.R 0 = r0 at *
 generalize d.c.R 1 = r1 at *
 go_enter Tryz.func43, Tryz.ntmps43
 go_wp2_with fail
 -- BEGIN
 refine regionT 19 (fun V => V.cell? ⟨p, 0, none⟩ = some (.int .u32 r0) ∧ V.cell? ⟨p, 1, none⟩ = some (.int .u32 r1)) (by kernel_rfl) (by decide) (⟨k0, k1⟩) (fun inv0 hHeld => ?_)
 refine takeT (i := 0) (t := 22) (v := ?v0) rfl (by kernel_rfl) (fun _ _ _ h => h) rfl (Or.inl ⟨by rfl, ?h0⟩) inv0 hHeld ?r0
 case h0 => (intro w hSw; (try dsimp only at hSw); go_simp; try with_reducible rfl)
 intro inv01
 clear inv0
 try simp only [sw1, sw2, sw3]
 refine takeT (i := 1) (t := 23) (v := ?v1) rfl (by kernel_rfl) (fun _ _ _ h => h) rfl (Or.inl ⟨by rfl, ?h1⟩) inv01 hHeld ?r1
 case h1 => (intro w hSw; (try dsimp only at hSw); go_simp; try with_reducible rfl)
 intro inv11
 clear inv01
 try simp only [sw1, sw2, sw3]
 refine takeT (i := 2) (t := 24) (v := ?v2) rfl (by kernel_rfl) (fun _ _ _ h => h) rfl (Or.inl ⟨by rfl, ?h2⟩) inv11 hHeld ?r2
 case h2 => (intro w hSw; (try dsimp only at hSw); go_simp; try with_reducible rfl)
 intro inv21
 clear inv11
 try simp only [sw1, sw2, sw3]
 refine takeT (i := 3) (t := 25) (v := ?v3) rfl (by kernel_rfl) (fun _ _ _ h => h) rfl (Or.inl ⟨by rfl, ?h3⟩) inv21 hHeld ?r3
 case h3 => (intro w hSw; (try dsimp only at hSw); go_simp; try with_reducible rfl)
 intro inv31
 clear inv21
 try simp only [sw1, sw2, sw3]
 refine takeT (i := 4) (t := 26) (v := ?v4) rfl (by kernel_rfl) (fun _ _ _ h => h) rfl (Or.inl ⟨by rfl, ?h4⟩) inv31 hHeld ?r4
 case h4 => (intro w hSw; (try dsimp only at hSw); go_simp; try with_reducible rfl)
 intro inv41
 clear inv31
 try simp only [sw1, sw2, sw3]
 refine takeT (i := 5) (t := 27) (v := ?v5) rfl (by kernel_rfl) (fun _ _ _ h => h) rfl (Or.inl ⟨by rfl, ?h5⟩) inv41 hHeld ?r5
 case h5 => (intro w hSw; (try dsimp only at hSw); go_simp; try with_reducible rfl)
 intro inv51
 clear inv41
 try simp only [sw1, sw2, sw3]
 refine takeT (i := 6) (t := 28) (v := ?v6) rfl (by kernel_rfl) (fun _ _ _ h => h) rfl (Or.inl ⟨by rfl, ?h6⟩) inv51 hHeld ?r6
 case h6 => (intro w hSw; (try dsimp only at hSw); go_simp; try with_reducible rfl)
 intro inv61
 clear inv51
 try simp only [sw1, sw2, sw3]
 refine takeT (i := 7) (t := 29) (v := ?v7) rfl (by kernel_rfl) (fun _ _ _ h => h) rfl (Or.inl ⟨by rfl, ?h7⟩) inv61 hHeld ?r7
 case h7 => (intro w hSw; (try dsimp only at hSw); go_simp; try with_reducible rfl)
 intro inv71
 clear inv61
 try simp only [sw1, sw2, sw3]
 refine takeT (i := 8) (t := 30) (v := ?v8) rfl (by kernel_rfl) (fun _ _ _ h => h) rfl (Or.inl ⟨by rfl, ?h8⟩) inv71 hHeld ?r8
 case h8 => (intro w hSw; (try dsimp only at hSw); go_simp; try with_reducible rfl)
 intro inv81
 clear inv71
 try simp only [sw1, sw2, sw3]
 refine takeT (i := 9) (t := 31) (v := ?v9) rfl (by kernel_rfl) (fun _ _ _ h => h) rfl (Or.inl ⟨by rfl, ?h9⟩) inv81 hHeld ?r9
 case h9 => (intro w hSw; (try dsimp only at hSw); go_simp; try with_reducible rfl)
 intro inv91
 clear inv81
 try simp only [sw1, sw2, sw3]
 refine takeT (i := 10) (t := 32) (v := ?v10) rfl (by kernel_rfl) (fun _ _ _ h => h) rfl (Or.inl ⟨by rfl, ?h10⟩) inv91 hHeld ?r10
 case h10 => (intro w hSw; (try dsimp only at hSw); go_simp; try with_reducible rfl)
 intro inv101
 clear inv91
 try simp only [sw1, sw2, sw3]
 refine takeT (i := 11) (t := 33) (v := ?v11) rfl (by kernel_rfl) (fun _ _ _ h => h) rfl (Or.inl ⟨by rfl, ?h11⟩) inv101 hHeld ?r11
 case h11 => (intro w hSw; (try dsimp only at hSw); go_simp; try with_reducible rfl)
 intro inv111
 clear inv101
 try simp only [sw1, sw2, sw3]
 refine takeT (i := 12) (t := 34) (v := ?v12) rfl (by kernel_rfl) (fun _ _ _ h => h) rfl (Or.inl ⟨by rfl, ?h12⟩) inv111 hHeld ?r12
 case h12 => (intro w hSw; (try dsimp only at hSw); go_simp; try with_reducible rfl)
 intro inv121
 clear inv111
 try simp only [sw1, sw2, sw3]
 refine takeT (i := 13) (t := 35) (v := ?v13) rfl (by kernel_rfl) (fun _ _ _ h => h) rfl (Or.inl ⟨by rfl, ?h13⟩) inv121 hHeld ?r13
 case h13 => (intro w hSw; (try dsimp only at hSw); go_simp; try with_reducible rfl)
 intro inv131
 clear inv121
 try simp only [sw1, sw2, sw3]
 refine callT (i := 14) (t := 36) (f := f) (args := #[.pointer (some ⟨p, 0, none⟩), .int .u32 r0, .int .u32 r1]) rfl (by kernel_rfl) rfl (by rfl) ?hx14 inv131 (by decide) ?hc14
 case hx14 => (go_simp; try rfl)
 case hc14 =>
  refine HC.out.mono ?_
  rintro e w1 ⟨rfl, h1, h2⟩
  refine ⟨_, rfl, ⟨by rw [← HK.out.1]; exact h1.reg (by decide), by rw [← HK.out.2]; exact h1.reg (by decide)⟩, fun inv141 hHeld14 => ?_⟩
  clear hHeld inv131
  have H1 := Go.Lib.hid h1
  have H2 := Go.Lib.hid h2
  clear h1 h2 hlk k27 k0 k1
  refine takeT (i := 15) (t := 21) (v := ?v15) rfl (by kernel_rfl) (fun _ _ _ h => h) rfl (Or.inl ⟨by rfl, ?h15⟩) inv141 hHeld14 ?r15
  case h15 => (intro w hSw; (try dsimp only at hSw); go_simp; try with_reducible rfl)
  intro inv151
  clear inv141
  try simp only [sw1, sw2, sw3]
  refine takeT (i := 16) (t := 37) (v := ?v16) rfl (by kernel_rfl) (fun _ _ _ h => h) rfl (Or.inl ⟨by rfl, ?h16⟩) inv151 hHeld14 ?r16
  case h16 => (intro w hSw; (try dsimp only at hSw); go_simp; try with_reducible rfl)
  intro inv161
  clear inv151
  try simp only [sw1, sw2, sw3]
  refine takeT (i := 17) (t := 38) (v := ?v17) rfl (by kernel_rfl) (fun _ _ _ h => h) rfl (Or.inl ⟨by rfl, ?h17⟩) inv161 hHeld14 ?r17
  case h17 => (intro w hSw; (try dsimp only at hSw); go_simp; try with_reducible rfl)
  intro inv171
  clear inv161
  try simp only [sw1, sw2, sw3]
  refine takeT (i := 18) (t := 6) (v := ?v18) rfl (by kernel_rfl) (fun _ _ _ h => h) rfl (Or.inl ⟨by rfl, ?h18⟩) inv171 hHeld14 ?r18
  case h18 => (intro w hSw; (try dsimp only at hSw); go_simp; try with_reducible rfl)
  intro inv181
  clear inv171
  try simp only [sw1, sw2, sw3]
  refine lastV (i := 19) (t := 7) (v := .bool ok) (w' := w1) rfl (by kernel_rfl) rfl (by rfl) ?hx19 (by decide) (by kernel_rfl) ?_
  case hx19 => (go_simp; try with_reducible rfl)
  try simp only [sw1, sw2, sw3]
  clear inv181 hHeld14
 -- END
  cases ok
  ·obtain rfl : d' = D := HD.out
   go_wp2_with fail
   go_end0
   exact ⟨rfl, H1.out, H2.out⟩
  ·obtain rfl : { d' with c := { d'.c with R := upd d'.c.R 0 x } } = D := HD.out
   have HA := Go.Lib.hid (answered_c d'.c x w1)
   unfold Cp.val at HA
   have HR := Go.Lib.hid H1.out.cpRange
   have HT : Hid (∀ W, Chg NoB w1 W → World.there W p 0 ({ d'.c with R := upd d'.c.R 0 x } : Cp).arr.size) := Go.Lib.hid fun W hW j hj => by
    have hM := (H1.out.quiet hW).m
    have hj : j < 22 := hj
    refine ⟨?_, hM.frozen _⟩
    rw [Nat.zero_add, hM.cell j, arr_front d' _ _ _ hj]
    have : j < d'.c.arr.size := hj
    simp [Array.getElem?_eq_getElem this]
   go_wp2_with (refine wpList_load_mid rfl 42 (.tmp 43) rfl p 0 rfl d'.c.arr.toList _ HR.out Tryz.underlying42 rfl (by kernel_rfl) ?_)
   refine HA.out.mono ?_
   rintro e w2 ⟨rfl, h2⟩
   have H3 := Go.Lib.hid h2
   clear h2
   go_wp2_with (refine wpList_store_mid rfl 42 (.tmp 48) (.tmp 46) rfl p 0 ({ d'.c with R := upd d'.c.R 0 x } : Cp).arr rfl rfl (HT.out _ H3.out) (by kernel_rfl) (by kernel_rfl) ?_)
   go_end0
   exact ⟨rfl, (H1.out.quiet H3.out).setCpu _, HEE.out _ _ H2.out (setCells_chg (F := fun k => k = p) (g := p) rfl _ 0 w2 (H3.out.mono (fun _ _ h => h.elim)))⟩
set_option maxHeartbeats 4000000 in
set_option maxRecDepth 100000 in
theorem mstep_sys (h : MAt W p mb s mm d) (hd : d.Ok) (hk : d.kind = 0) (hh : d.heap ≤ d.n) (hsys : d.ev.2.kind = 4) (pn : Nat) (hpn : d.c.pc = pn) (hp : 4 * pn < d.n) (kd : Int) (R : World → Prop) (hR : ∀ w', R w' → w'.cell? ⟨p, 25, none⟩ = some (.int .i64 kd))
  (hS : ∀ V, MAt V p mb s mm { d with c := d.ev.1 } → Chg (fun k => k = p) W V → Calls Tryz.prog 43 #[.pointer (some ⟨p, 0, none⟩), .int .i64 d.ev.2.n] V (fun e w1 => e = .returned (.tuple #[]) ∧ R w1)) :
  Calls Tryz.prog 15 #[.pointer (some ⟨p, 0, none⟩)] W (fun e w1 => e = .returned (.bool (decide (kd = 0))) ∧ R w1) := by
 have HR0 := Go.Lib.hid hR
 have HS0 := Go.Lib.hid hS
 clear hR hS
 have hev : stepF d.c (wordAt d.M (4 * pn)) = d.ev := by unfold Mc.ev; rw [hpn]; rfl
 obtain ⟨hcok, rg, pl, vl, hek⟩ := stepF_ok hd.c (wordAt_bd hd.m (4 * pn)).1 (wordAt_bd hd.m (4 * pn)).2
 rw [hev] at hcok hek
 have HEK := Go.Lib.hid (And.intro hcok hek)
 have HEVQ := Go.Lib.hid hev
 clear hev hcok hek
 have HT := Go.Lib.hid (mthere_c h)
 have HGet : Hid (∀ V, MAt V p mb s mm d → Calls Tryz.prog 40 #[.pointer (some ⟨p, 0, none⟩), .int .u32 (4 * (pn : Int)), .bool false] V (Quiet (.int .u32 (wordAt d.M (4 * pn))) V)) := Go.Lib.hid fun V hV => by
  have hg := getWord_c hV hd.n.2.1 hd.m (4 * pn) (by have := hd.n.2.2; omega)
  rw [show ((4 * pn : Nat) : Int) = 4 * (pn : Int) by omega] at hg
  exact hg.mono fun e w' hq => ⟨hq.1, by obtain ⟨k, hk⟩ := hq.2; rw [hk]; exact (Chg.refl _ _).drewN _⟩
 have HStep := Go.Lib.hid (fun V => step_c d.c hd.c (wordAt d.M (4 * pn)) (wordAt_bd hd.m _).1 (wordAt_bd hd.m _).2 V)
 have hpc := hd.c.pc
 have hnb := hd.n.2.1
 obtain ⟨k21, k22, k23, k24, k25, k26, k27⟩ := h.cells
 have H := Go.Lib.hid h
 have hlt' : (4 * (pn : Int)) < (d.n : Int) := by omega
 rw [hk] at k25
 clear h
 go_enter Tryz.func15, Tryz.ntmps15
 go_wp2_with fail
 refine HT.out.mono ?_
 rintro e w1 ⟨rfl, rfl⟩
 go_wp2_with fail
 go_quiet (fail)
 go_wp2_with fail
 have HC0 := Go.Lib.hid ((Chg.refl NoB W).drewN nq)
 have H1 := Go.Lib.hid (H.out.quiet HC0.out)
 clear k21 k22 k23 k24 k25 k26 k27 H HT
 generalize W.drewN nq = W1 at H1 HC0 ⊢
 have h := H1.out
 have HAI : Hid (AI W1.drew p mb s mm d none none W1.drew) := Go.Lib.hid ⟨h.quiet (Chg.refl NoB _).drew, Chg.refl _ _, (by intro _ h; cases h), (by intro _ h; cases h)⟩
 have ew4 : IntKind.u32.wrap (4 * (pn : Int)) = 4 * (pn : Int) := by rw [IntKind.wrap_u32]; omega
 clear hlt'
 go_cut [3, 4] from 33 to 48 (fun v3 v4 wx => AfterStep W1.drew p mb s mm d (stepF d.c (wordAt d.M (4 * pn))).1 (stepF d.c (wordAt d.M (4 * pn))).2 v3 v4 wx)
 case first =>
  refine regionT 19 (fun V => MAt V p mb s mm d) (by kernel_rfl) (by decide) (h.quiet (Chg.refl NoB _).drew) (fun inv0 hHeld => ?_)
  refine takeT (i := 0) (t := 34) (v := ?v0z1) rfl (by kernel_rfl) (fun _ _ _ h => h) rfl (Or.inl ⟨by rfl, ?h0z1⟩) inv0 hHeld ?r0z1
  case h0z1 => (intro V hSw; obtain ⟨q21, q22, q23, q24, q25, q26, q27⟩ := hSw.cells; clear hSw; go_simp; try with_reducible rfl)
  intro inv01
  clear inv0
  try simp only [sw1, sw2, sw3]
  refine takeT (i := 1) (t := 35) (v := ?v1z2) rfl (by kernel_rfl) (fun _ _ _ h => h) rfl (Or.inl ⟨by rfl, ?h1z2⟩) inv01 hHeld ?r1z2
  case h1z2 => (intro V hSw; obtain ⟨q21, q22, q23, q24, q25, q26, q27⟩ := hSw.cells; clear hSw; go_simp; try with_reducible rfl)
  intro inv11
  clear inv01
  try simp only [sw1, sw2, sw3]
  refine takeT (i := 2) (t := 36) (v := ?v2z3) rfl (by kernel_rfl) (fun _ _ _ h => h) rfl (Or.inl ⟨by rfl, ?h2z3⟩) inv11 hHeld ?r2z3
  case h2z3 => (intro V hSw; obtain ⟨q21, q22, q23, q24, q25, q26, q27⟩ := hSw.cells; clear hSw; go_simp; try with_reducible rfl)
  intro inv21
  clear inv11
  try simp only [sw1, sw2, sw3]
  refine takeT (i := 3) (t := 37) (v := ?v3z4) rfl (by kernel_rfl) (fun _ _ _ h => h) rfl (Or.inl ⟨by rfl, ?h3z4⟩) inv21 hHeld ?r3z4
  case h3z4 => (intro V hSw; (refine exec_load_mid 42 (.tmp 36) ?_ p 0 ?_ hSw.cpRange Tryz.underlying42 rfl (by kernel_rfl)) <;> rfl)
  intro inv31
  clear inv21
  try simp only [sw1, sw2, sw3]
  refine takeT (i := 4) (t := 38) (v := ?v4z5) rfl (by kernel_rfl) (fun _ _ _ h => h) rfl (Or.inl ⟨by rfl, ?h4z5⟩) inv31 hHeld ?r4z5
  case h4z5 => (intro V hSw; obtain ⟨q21, q22, q23, q24, q25, q26, q27⟩ := hSw.cells; clear hSw; go_simp; try with_reducible rfl)
  intro inv41
  clear inv31
  try simp only [sw1, sw2, sw3]
  refine takeT (i := 5) (t := 39) (v := ?v5z6) rfl (by kernel_rfl) (fun _ _ _ h => h) rfl (Or.inl ⟨by rfl, ?h5z6⟩) inv41 hHeld ?r5z6
  case h5z6 => (intro V hSw; obtain ⟨q21, q22, q23, q24, q25, q26, q27⟩ := hSw.cells; clear hSw; go_simp; try with_reducible rfl)
  intro inv51
  clear inv41
  try simp only [sw1, sw2, sw3]
  refine takeT (i := 6) (t := 40) (v := ?v6z7) rfl (by kernel_rfl) (fun _ _ _ h => h) rfl (Or.inl ⟨by rfl, ?h6z7⟩) inv51 hHeld ?r6z7
  case h6z7 => (intro V hSw; obtain ⟨q21, q22, q23, q24, q25, q26, q27⟩ := hSw.cells; clear hSw; go_simp; try with_reducible rfl)
  intro inv61
  clear inv51
  try simp only [sw1, sw2, sw3]
  refine takeT (i := 7) (t := 41) (v := ?v7z8) rfl (by kernel_rfl) (fun _ _ _ h => h) rfl (Or.inl ⟨by rfl, ?h7z8⟩) inv61 hHeld ?r7z8
  case h7z8 => (intro V hSw; obtain ⟨q21, q22, q23, q24, q25, q26, q27⟩ := hSw.cells; clear hSw; go_simp; try with_reducible rfl)
  intro inv71
  clear inv61
  try simp only [sw1, sw2, sw3]
  refine takeT (i := 8) (t := 42) (v := ?v8z9) rfl (by kernel_rfl) (fun _ _ _ h => h) rfl (Or.inl ⟨by rfl, ?h8z9⟩) inv71 hHeld ?r8z9
  case h8z9 => (intro V hSw; obtain ⟨q21, q22, q23, q24, q25, q26, q27⟩ := hSw.cells; clear hSw; go_simp; try with_reducible rfl)
  intro inv81
  clear inv71
  try simp only [sw1, sw2, sw3]
  refine takeT (i := 9) (t := 43) (v := ?v9z10) rfl (by kernel_rfl) (fun _ _ _ h => h) rfl (Or.inl ⟨by rfl, ?h9z10⟩) inv81 hHeld ?r9z10
  case h9z10 => (intro V hSw; obtain ⟨q21, q22, q23, q24, q25, q26, q27⟩ := hSw.cells; clear hSw; go_simp; try with_reducible rfl)
  intro inv91
  clear inv81
  try simp only [sw1, sw2, sw3]
  refine takeT (i := 10) (t := 44) (v := ?v10z11) rfl (by kernel_rfl) (fun _ _ _ h => h) rfl (Or.inl ⟨by rfl, ?h10z11⟩) inv91 hHeld ?r10z11
  case h10z11 => (intro V hSw; obtain ⟨q21, q22, q23, q24, q25, q26, q27⟩ := hSw.cells; clear hSw; go_simp; try with_reducible rfl)
  intro inv101
  clear inv91
  try simp only [sw1, sw2, sw3]
  have hI := HAI.out
  clear hHeld
  refine manyT (i := 11) (l := [16, 17]) (by kernel_rfl) (by decide) inv101 ?ho11x0
  case ho11x0 =>
   intro j hj
   simp only [List.mem_cons, List.not_mem_nil, or_false] at hj
   rcases hj with rfl | rfl | rfl
   ·
    intro iv12
    clear inv101
    refine opCall (t := 45) (f := 40) (args := #[.pointer (some ⟨p, 0, none⟩), .int .u32 (4 * (pn : Int)), .bool false]) rfl rfl (by rfl) ?hx12 ?hc12
    case hx12 => (go_simp; try rfl)
    case hc12 =>
     refine (HGet.out W1.drew hI.m).mono ?_
     rintro e W12 ⟨rfl, hq⟩
     have hI12 := hI.quiet hq
     clear hq hI
     refine ⟨_, rfl, hI12.m, ?_⟩
     try simp only [sw1, sw2, sw3]
     refine manyT (i := 12) (l := [16, 17]) (by kernel_rfl) (by decide) iv12 ?ho12x1
     case ho12x1 =>
      intro j hj
      simp only [List.mem_cons, List.not_mem_nil, or_false] at hj
      rcases hj with rfl | rfl | rfl
      ·
       intro iv13
       clear iv12
       refine opCall (t := 46) (f := 39) (args := #[d.c.val, .int .u32 (wordAt d.M (4 * pn))]) rfl rfl (by rfl) ?hx13 ?hc13
       case hx13 => (go_simp; try rfl)
       case hc13 =>
        refine (HStep.out W12).mono ?_
        rintro e W13 ⟨rfl, hq⟩
        have hI13 := hI12.quiet hq
        clear hq hI12
        refine ⟨_, rfl, hI13.m, ?_⟩
        try simp only [sw1, sw2, sw3]
        refine takeT (i := 13) (t := 33) (v := ?v13z14) rfl (by kernel_rfl) (fun _ _ _ h => h) rfl (Or.inl ⟨by rfl, ?h13z14⟩) iv13 hI13.m ?r13z14
        case h13z14 => (intro V hSw; obtain ⟨q21, q22, q23, q24, q25, q26, q27⟩ := hSw.cells; clear hSw; go_simp; try with_reducible rfl)
        intro inv131
        clear iv13
        try simp only [sw1, sw2, sw3]
        refine takeT (i := 14) (t := 47) (v := ?v14z15) rfl (by kernel_rfl) (fun _ _ _ h => h) rfl (Or.inl ⟨by rfl, ?h14z15⟩) inv131 hI13.m ?r14z15
        case h14z15 => (intro V hSw; obtain ⟨q21, q22, q23, q24, q25, q26, q27⟩ := hSw.cells; clear hSw; go_simp; try with_reducible rfl)
        intro inv141
        clear inv131
        try simp only [sw1, sw2, sw3]
        refine takeT (i := 15) (t := 48) (v := ?v15z16) rfl (by kernel_rfl) (fun _ _ _ h => h) rfl (Or.inl ⟨by rfl, ?h15z16⟩) inv141 hI13.m ?r15z16
        case h15z16 => (intro V hSw; obtain ⟨q21, q22, q23, q24, q25, q26, q27⟩ := hSw.cells; clear hSw; go_simp; try with_reducible rfl)
        intro inv151
        clear inv141
        try simp only [sw1, sw2, sw3]
        refine manyT (i := 16) (l := [17]) (by kernel_rfl) (by decide) inv151 ?ho16x2
        case ho16x2 =>
         intro j hj
         simp only [List.mem_cons, List.not_mem_nil, or_false] at hj
         rcases hj with rfl | rfl
         ·
          intro iv17
          clear inv151
          refine opVal (t := 3) (v := .pointer (some ⟨(World.heap W13).size, 0, none⟩)) (w' := World.alloc W13 (.cells Cp.zero.arr CpT)) rfl rfl (by rfl) ?hx17 (hI13.alloc3).m ?hr17
          case hx17 => (go_simp; try rfl)
          case hr17 =>
           have hI17 := hI13.alloc3
           clear hI13
           generalize World.alloc W13 (.cells Cp.zero.arr CpT) = W17 at hI17 ⊢
           generalize (World.heap W13).size = a3 at hI17 ⊢
           try simp only [sw1, sw2, sw3]
           refine manyT (i := 17) (l := []) (by kernel_rfl) (by decide) iv17 ?ho17x3
           case ho17x3 =>
            intro j hj
            simp only [List.mem_cons, List.not_mem_nil, or_false] at hj
            rcases hj with rfl
            ·
             intro iv18
             clear iv17
             refine opVal (t := 4) (v := .pointer (some ⟨(World.heap W17).size, 0, none⟩)) (w' := World.alloc W17 (.cells Ev.none.arr EvT)) rfl rfl (by rfl) ?hx18 (hI17.alloc4).m ?hr18
             case hx18 => (go_simp; try rfl)
             case hr18 =>
              have hI18 := hI17.alloc4
              clear hI17
              generalize World.alloc W17 (.cells Ev.none.arr EvT) = W18 at hI18 ⊢
              generalize (World.heap W17).size = a4 at hI18 ⊢
              try simp only [sw1, sw2, sw3]
              refine storeT (i := 18) (w' := World.setRow W18 a3 ((stepF d.c (wordAt d.M (4 * pn))).1 : Cp).arr) rfl (by kernel_rfl) rfl (by rfl) ?hs19 iv18 (by decide) (hI18.m.chg (F := fun k => k = a3) ((Chg.refl (fun k => k = a3) _).setRow (fun _ => rfl) _) ?hp19a ?hp19b ?hp19c) ?hr19
              case hs19 => (refine exec_store_row 42 (.tmp 3) (.tmp 47) ?_ a3 ((stepF d.c (wordAt d.M (4 * pn))).1 : Cp).arr ?_ ?_ (hI18.b3 a3 rfl).1 (by kernel_rfl) (by rfl) (by kernel_rfl)) <;> rfl
              case hp19a => (intro e; subst e; exact absurd rfl (hI18.m.m.ne_ (hI18.b3 _ rfl).1 (by decide)))
              case hp19b => (intro e; subst e; exact absurd rfl (hI18.m.b.ne_ (hI18.b3 _ rfl).1 (by decide)))
              case hp19c => exact hI18.m.mm_ne (hI18.b3 a3 rfl).1
              intro inv18 hH18
              refine lastT (i := 19) (w' := World.setRow (World.setRow W18 a3 ((stepF d.c (wordAt d.M (4 * pn))).1 : Cp).arr) a4 ((stepF d.c (wordAt d.M (4 * pn))).2 : Ev).arr) rfl (by kernel_rfl) rfl (by rfl) ?ht19 (by decide) (by kernel_rfl) ?hu19
              case ht19 => (refine exec_store_row 110 (.tmp 4) (.tmp 48) ?_ a4 ((stepF d.c (wordAt d.M (4 * pn))).2 : Ev).arr ?_ ?_ (Blk.farRow (hI18.b4 a4 rfl).1 (fun e => absurd e.symm ((hI18.b3 a3 rfl).1.ne_ (hI18.b4 a4 rfl).1 (by decide))) _) (by kernel_rfl) (by rfl) (by kernel_rfl)) <;> rfl
              try simp only [sw1, sw2, sw3]
              go_wp2_with fail
              go_meet
              case rel => exact hI18.fin ((stepF d.c (wordAt d.M (4 * pn))).1 : Cp) ((stepF d.c (wordAt d.M (4 * pn))).2 : Ev)
         ·
          intro iv20
          clear inv151
          refine opVal (t := 4) (v := .pointer (some ⟨(World.heap W13).size, 0, none⟩)) (w' := World.alloc W13 (.cells Ev.none.arr EvT)) rfl rfl (by rfl) ?hx20 (hI13.alloc4).m ?hr20
          case hx20 => (go_simp; try rfl)
          case hr20 =>
           have hI20 := hI13.alloc4
           clear hI13
           generalize World.alloc W13 (.cells Ev.none.arr EvT) = W20 at hI20 ⊢
           generalize (World.heap W13).size = a4 at hI20 ⊢
           try simp only [sw1, sw2, sw3]
           refine manyT (i := 16) (l := []) (by kernel_rfl) (by decide) iv20 ?ho20x3
           case ho20x3 =>
            intro j hj
            simp only [List.mem_cons, List.not_mem_nil, or_false] at hj
            rcases hj with rfl
            ·
             intro iv21
             clear iv20
             refine opVal (t := 3) (v := .pointer (some ⟨(World.heap W20).size, 0, none⟩)) (w' := World.alloc W20 (.cells Cp.zero.arr CpT)) rfl rfl (by rfl) ?hx21 (hI20.alloc3).m ?hr21
             case hx21 => (go_simp; try rfl)
             case hr21 =>
              have hI21 := hI20.alloc3
              clear hI20
              generalize World.alloc W20 (.cells Cp.zero.arr CpT) = W21 at hI21 ⊢
              generalize (World.heap W20).size = a3 at hI21 ⊢
              try simp only [sw1, sw2, sw3]
              refine storeT (i := 18) (w' := World.setRow W21 a3 ((stepF d.c (wordAt d.M (4 * pn))).1 : Cp).arr) rfl (by kernel_rfl) rfl (by rfl) ?hs22 iv21 (by decide) (hI21.m.chg (F := fun k => k = a3) ((Chg.refl (fun k => k = a3) _).setRow (fun _ => rfl) _) ?hp22a ?hp22b ?hp22c) ?hr22
              case hs22 => (refine exec_store_row 42 (.tmp 3) (.tmp 47) ?_ a3 ((stepF d.c (wordAt d.M (4 * pn))).1 : Cp).arr ?_ ?_ (hI21.b3 a3 rfl).1 (by kernel_rfl) (by rfl) (by kernel_rfl)) <;> rfl
              case hp22a => (intro e; subst e; exact absurd rfl (hI21.m.m.ne_ (hI21.b3 _ rfl).1 (by decide)))
              case hp22b => (intro e; subst e; exact absurd rfl (hI21.m.b.ne_ (hI21.b3 _ rfl).1 (by decide)))
              case hp22c => exact hI21.m.mm_ne (hI21.b3 a3 rfl).1
              intro inv18 hH18
              refine lastT (i := 19) (w' := World.setRow (World.setRow W21 a3 ((stepF d.c (wordAt d.M (4 * pn))).1 : Cp).arr) a4 ((stepF d.c (wordAt d.M (4 * pn))).2 : Ev).arr) rfl (by kernel_rfl) rfl (by rfl) ?ht22 (by decide) (by kernel_rfl) ?hu22
              case ht22 => (refine exec_store_row 110 (.tmp 4) (.tmp 48) ?_ a4 ((stepF d.c (wordAt d.M (4 * pn))).2 : Ev).arr ?_ ?_ (Blk.farRow (hI21.b4 a4 rfl).1 (fun e => absurd e.symm ((hI21.b3 a3 rfl).1.ne_ (hI21.b4 a4 rfl).1 (by decide))) _) (by kernel_rfl) (by rfl) (by kernel_rfl)) <;> rfl
              try simp only [sw1, sw2, sw3]
              go_wp2_with fail
              go_meet
              case rel => exact hI21.fin ((stepF d.c (wordAt d.M (4 * pn))).1 : Cp) ((stepF d.c (wordAt d.M (4 * pn))).2 : Ev)
      ·
       intro iv23
       clear iv12
       refine opVal (t := 3) (v := .pointer (some ⟨(World.heap W12).size, 0, none⟩)) (w' := World.alloc W12 (.cells Cp.zero.arr CpT)) rfl rfl (by rfl) ?hx23 (hI12.alloc3).m ?hr23
       case hx23 => (go_simp; try rfl)
       case hr23 =>
        have hI23 := hI12.alloc3
        clear hI12
        generalize World.alloc W12 (.cells Cp.zero.arr CpT) = W23 at hI23 ⊢
        generalize (World.heap W12).size = a3 at hI23 ⊢
        try simp only [sw1, sw2, sw3]
        refine manyT (i := 12) (l := [17]) (by kernel_rfl) (by decide) iv23 ?ho23x2
        case ho23x2 =>
         intro j hj
         simp only [List.mem_cons, List.not_mem_nil, or_false] at hj
         rcases hj with rfl | rfl
         ·
          intro iv24
          clear iv23
          refine opCall (t := 46) (f := 39) (args := #[d.c.val, .int .u32 (wordAt d.M (4 * pn))]) rfl rfl (by rfl) ?hx24 ?hc24
          case hx24 => (go_simp; try rfl)
          case hc24 =>
           refine (HStep.out W23).mono ?_
           rintro e W24 ⟨rfl, hq⟩
           have hI24 := hI23.quiet hq
           clear hq hI23
           refine ⟨_, rfl, hI24.m, ?_⟩
           try simp only [sw1, sw2, sw3]
           refine takeT (i := 13) (t := 33) (v := ?v13z25) rfl (by kernel_rfl) (fun _ _ _ h => h) rfl (Or.inl ⟨by rfl, ?h13z25⟩) iv24 hI24.m ?r13z25
           case h13z25 => (intro V hSw; obtain ⟨q21, q22, q23, q24, q25, q26, q27⟩ := hSw.cells; clear hSw; go_simp; try with_reducible rfl)
           intro inv131
           clear iv24
           try simp only [sw1, sw2, sw3]
           refine takeT (i := 14) (t := 47) (v := ?v14z26) rfl (by kernel_rfl) (fun _ _ _ h => h) rfl (Or.inl ⟨by rfl, ?h14z26⟩) inv131 hI24.m ?r14z26
           case h14z26 => (intro V hSw; obtain ⟨q21, q22, q23, q24, q25, q26, q27⟩ := hSw.cells; clear hSw; go_simp; try with_reducible rfl)
           intro inv141
           clear inv131
           try simp only [sw1, sw2, sw3]
           refine takeT (i := 15) (t := 48) (v := ?v15z27) rfl (by kernel_rfl) (fun _ _ _ h => h) rfl (Or.inl ⟨by rfl, ?h15z27⟩) inv141 hI24.m ?r15z27
           case h15z27 => (intro V hSw; obtain ⟨q21, q22, q23, q24, q25, q26, q27⟩ := hSw.cells; clear hSw; go_simp; try with_reducible rfl)
           intro inv151
           clear inv141
           try simp only [sw1, sw2, sw3]
           refine manyT (i := 17) (l := []) (by kernel_rfl) (by decide) inv151 ?ho27x3
           case ho27x3 =>
            intro j hj
            simp only [List.mem_cons, List.not_mem_nil, or_false] at hj
            rcases hj with rfl
            ·
             intro iv28
             clear inv151
             refine opVal (t := 4) (v := .pointer (some ⟨(World.heap W24).size, 0, none⟩)) (w' := World.alloc W24 (.cells Ev.none.arr EvT)) rfl rfl (by rfl) ?hx28 (hI24.alloc4).m ?hr28
             case hx28 => (go_simp; try rfl)
             case hr28 =>
              have hI28 := hI24.alloc4
              clear hI24
              generalize World.alloc W24 (.cells Ev.none.arr EvT) = W28 at hI28 ⊢
              generalize (World.heap W24).size = a4 at hI28 ⊢
              try simp only [sw1, sw2, sw3]
              refine storeT (i := 18) (w' := World.setRow W28 a3 ((stepF d.c (wordAt d.M (4 * pn))).1 : Cp).arr) rfl (by kernel_rfl) rfl (by rfl) ?hs29 iv28 (by decide) (hI28.m.chg (F := fun k => k = a3) ((Chg.refl (fun k => k = a3) _).setRow (fun _ => rfl) _) ?hp29a ?hp29b ?hp29c) ?hr29
              case hs29 => (refine exec_store_row 42 (.tmp 3) (.tmp 47) ?_ a3 ((stepF d.c (wordAt d.M (4 * pn))).1 : Cp).arr ?_ ?_ (hI28.b3 a3 rfl).1 (by kernel_rfl) (by rfl) (by kernel_rfl)) <;> rfl
              case hp29a => (intro e; subst e; exact absurd rfl (hI28.m.m.ne_ (hI28.b3 _ rfl).1 (by decide)))
              case hp29b => (intro e; subst e; exact absurd rfl (hI28.m.b.ne_ (hI28.b3 _ rfl).1 (by decide)))
              case hp29c => exact hI28.m.mm_ne (hI28.b3 a3 rfl).1
              intro inv18 hH18
              refine lastT (i := 19) (w' := World.setRow (World.setRow W28 a3 ((stepF d.c (wordAt d.M (4 * pn))).1 : Cp).arr) a4 ((stepF d.c (wordAt d.M (4 * pn))).2 : Ev).arr) rfl (by kernel_rfl) rfl (by rfl) ?ht29 (by decide) (by kernel_rfl) ?hu29
              case ht29 => (refine exec_store_row 110 (.tmp 4) (.tmp 48) ?_ a4 ((stepF d.c (wordAt d.M (4 * pn))).2 : Ev).arr ?_ ?_ (Blk.farRow (hI28.b4 a4 rfl).1 (fun e => absurd e.symm ((hI28.b3 a3 rfl).1.ne_ (hI28.b4 a4 rfl).1 (by decide))) _) (by kernel_rfl) (by rfl) (by kernel_rfl)) <;> rfl
              try simp only [sw1, sw2, sw3]
              go_wp2_with fail
              go_meet
              case rel => exact hI28.fin ((stepF d.c (wordAt d.M (4 * pn))).1 : Cp) ((stepF d.c (wordAt d.M (4 * pn))).2 : Ev)
         ·
          intro iv30
          clear iv23
          refine opVal (t := 4) (v := .pointer (some ⟨(World.heap W23).size, 0, none⟩)) (w' := World.alloc W23 (.cells Ev.none.arr EvT)) rfl rfl (by rfl) ?hx30 (hI23.alloc4).m ?hr30
          case hx30 => (go_simp; try rfl)
          case hr30 =>
           have hI30 := hI23.alloc4
           clear hI23
           generalize World.alloc W23 (.cells Ev.none.arr EvT) = W30 at hI30 ⊢
           generalize (World.heap W23).size = a4 at hI30 ⊢
           try simp only [sw1, sw2, sw3]
           refine manyT (i := 12) (l := []) (by kernel_rfl) (by decide) iv30 ?ho30x3
           case ho30x3 =>
            intro j hj
            simp only [List.mem_cons, List.not_mem_nil, or_false] at hj
            rcases hj with rfl
            ·
             intro iv31
             clear iv30
             refine opCall (t := 46) (f := 39) (args := #[d.c.val, .int .u32 (wordAt d.M (4 * pn))]) rfl rfl (by rfl) ?hx31 ?hc31
             case hx31 => (go_simp; try rfl)
             case hc31 =>
              refine (HStep.out W30).mono ?_
              rintro e W31 ⟨rfl, hq⟩
              have hI31 := hI30.quiet hq
              clear hq hI30
              refine ⟨_, rfl, hI31.m, ?_⟩
              try simp only [sw1, sw2, sw3]
              refine takeT (i := 13) (t := 33) (v := ?v13z32) rfl (by kernel_rfl) (fun _ _ _ h => h) rfl (Or.inl ⟨by rfl, ?h13z32⟩) iv31 hI31.m ?r13z32
              case h13z32 => (intro V hSw; obtain ⟨q21, q22, q23, q24, q25, q26, q27⟩ := hSw.cells; clear hSw; go_simp; try with_reducible rfl)
              intro inv131
              clear iv31
              try simp only [sw1, sw2, sw3]
              refine takeT (i := 14) (t := 47) (v := ?v14z33) rfl (by kernel_rfl) (fun _ _ _ h => h) rfl (Or.inl ⟨by rfl, ?h14z33⟩) inv131 hI31.m ?r14z33
              case h14z33 => (intro V hSw; obtain ⟨q21, q22, q23, q24, q25, q26, q27⟩ := hSw.cells; clear hSw; go_simp; try with_reducible rfl)
              intro inv141
              clear inv131
              try simp only [sw1, sw2, sw3]
              refine takeT (i := 15) (t := 48) (v := ?v15z34) rfl (by kernel_rfl) (fun _ _ _ h => h) rfl (Or.inl ⟨by rfl, ?h15z34⟩) inv141 hI31.m ?r15z34
              case h15z34 => (intro V hSw; obtain ⟨q21, q22, q23, q24, q25, q26, q27⟩ := hSw.cells; clear hSw; go_simp; try with_reducible rfl)
              intro inv151
              clear inv141
              try simp only [sw1, sw2, sw3]
              refine storeT (i := 18) (w' := World.setRow W31 a3 ((stepF d.c (wordAt d.M (4 * pn))).1 : Cp).arr) rfl (by kernel_rfl) rfl (by rfl) ?hs35 inv151 (by decide) (hI31.m.chg (F := fun k => k = a3) ((Chg.refl (fun k => k = a3) _).setRow (fun _ => rfl) _) ?hp35a ?hp35b ?hp35c) ?hr35
              case hs35 => (refine exec_store_row 42 (.tmp 3) (.tmp 47) ?_ a3 ((stepF d.c (wordAt d.M (4 * pn))).1 : Cp).arr ?_ ?_ (hI31.b3 a3 rfl).1 (by kernel_rfl) (by rfl) (by kernel_rfl)) <;> rfl
              case hp35a => (intro e; subst e; exact absurd rfl (hI31.m.m.ne_ (hI31.b3 _ rfl).1 (by decide)))
              case hp35b => (intro e; subst e; exact absurd rfl (hI31.m.b.ne_ (hI31.b3 _ rfl).1 (by decide)))
              case hp35c => exact hI31.m.mm_ne (hI31.b3 a3 rfl).1
              intro inv18 hH18
              refine lastT (i := 19) (w' := World.setRow (World.setRow W31 a3 ((stepF d.c (wordAt d.M (4 * pn))).1 : Cp).arr) a4 ((stepF d.c (wordAt d.M (4 * pn))).2 : Ev).arr) rfl (by kernel_rfl) rfl (by rfl) ?ht35 (by decide) (by kernel_rfl) ?hu35
              case ht35 => (refine exec_store_row 110 (.tmp 4) (.tmp 48) ?_ a4 ((stepF d.c (wordAt d.M (4 * pn))).2 : Ev).arr ?_ ?_ (Blk.farRow (hI31.b4 a4 rfl).1 (fun e => absurd e.symm ((hI31.b3 a3 rfl).1.ne_ (hI31.b4 a4 rfl).1 (by decide))) _) (by kernel_rfl) (by rfl) (by kernel_rfl)) <;> rfl
              try simp only [sw1, sw2, sw3]
              go_wp2_with fail
              go_meet
              case rel => exact hI31.fin ((stepF d.c (wordAt d.M (4 * pn))).1 : Cp) ((stepF d.c (wordAt d.M (4 * pn))).2 : Ev)
      ·
       intro iv36
       clear iv12
       refine opVal (t := 4) (v := .pointer (some ⟨(World.heap W12).size, 0, none⟩)) (w' := World.alloc W12 (.cells Ev.none.arr EvT)) rfl rfl (by rfl) ?hx36 (hI12.alloc4).m ?hr36
       case hx36 => (go_simp; try rfl)
       case hr36 =>
        have hI36 := hI12.alloc4
        clear hI12
        generalize World.alloc W12 (.cells Ev.none.arr EvT) = W36 at hI36 ⊢
        generalize (World.heap W12).size = a4 at hI36 ⊢
        try simp only [sw1, sw2, sw3]
        refine manyT (i := 12) (l := [16]) (by kernel_rfl) (by decide) iv36 ?ho36x2
        case ho36x2 =>
         intro j hj
         simp only [List.mem_cons, List.not_mem_nil, or_false] at hj
         rcases hj with rfl | rfl
         ·
          intro iv37
          clear iv36
          refine opCall (t := 46) (f := 39) (args := #[d.c.val, .int .u32 (wordAt d.M (4 * pn))]) rfl rfl (by rfl) ?hx37 ?hc37
          case hx37 => (go_simp; try rfl)
          case hc37 =>
           refine (HStep.out W36).mono ?_
           rintro e W37 ⟨rfl, hq⟩
           have hI37 := hI36.quiet hq
           clear hq hI36
           refine ⟨_, rfl, hI37.m, ?_⟩
           try simp only [sw1, sw2, sw3]
           refine takeT (i := 13) (t := 33) (v := ?v13z38) rfl (by kernel_rfl) (fun _ _ _ h => h) rfl (Or.inl ⟨by rfl, ?h13z38⟩) iv37 hI37.m ?r13z38
           case h13z38 => (intro V hSw; obtain ⟨q21, q22, q23, q24, q25, q26, q27⟩ := hSw.cells; clear hSw; go_simp; try with_reducible rfl)
           intro inv131
           clear iv37
           try simp only [sw1, sw2, sw3]
           refine takeT (i := 14) (t := 47) (v := ?v14z39) rfl (by kernel_rfl) (fun _ _ _ h => h) rfl (Or.inl ⟨by rfl, ?h14z39⟩) inv131 hI37.m ?r14z39
           case h14z39 => (intro V hSw; obtain ⟨q21, q22, q23, q24, q25, q26, q27⟩ := hSw.cells; clear hSw; go_simp; try with_reducible rfl)
           intro inv141
           clear inv131
           try simp only [sw1, sw2, sw3]
           refine takeT (i := 15) (t := 48) (v := ?v15z40) rfl (by kernel_rfl) (fun _ _ _ h => h) rfl (Or.inl ⟨by rfl, ?h15z40⟩) inv141 hI37.m ?r15z40
           case h15z40 => (intro V hSw; obtain ⟨q21, q22, q23, q24, q25, q26, q27⟩ := hSw.cells; clear hSw; go_simp; try with_reducible rfl)
           intro inv151
           clear inv141
           try simp only [sw1, sw2, sw3]
           refine manyT (i := 16) (l := []) (by kernel_rfl) (by decide) inv151 ?ho40x3
           case ho40x3 =>
            intro j hj
            simp only [List.mem_cons, List.not_mem_nil, or_false] at hj
            rcases hj with rfl
            ·
             intro iv41
             clear inv151
             refine opVal (t := 3) (v := .pointer (some ⟨(World.heap W37).size, 0, none⟩)) (w' := World.alloc W37 (.cells Cp.zero.arr CpT)) rfl rfl (by rfl) ?hx41 (hI37.alloc3).m ?hr41
             case hx41 => (go_simp; try rfl)
             case hr41 =>
              have hI41 := hI37.alloc3
              clear hI37
              generalize World.alloc W37 (.cells Cp.zero.arr CpT) = W41 at hI41 ⊢
              generalize (World.heap W37).size = a3 at hI41 ⊢
              try simp only [sw1, sw2, sw3]
              refine storeT (i := 18) (w' := World.setRow W41 a3 ((stepF d.c (wordAt d.M (4 * pn))).1 : Cp).arr) rfl (by kernel_rfl) rfl (by rfl) ?hs42 iv41 (by decide) (hI41.m.chg (F := fun k => k = a3) ((Chg.refl (fun k => k = a3) _).setRow (fun _ => rfl) _) ?hp42a ?hp42b ?hp42c) ?hr42
              case hs42 => (refine exec_store_row 42 (.tmp 3) (.tmp 47) ?_ a3 ((stepF d.c (wordAt d.M (4 * pn))).1 : Cp).arr ?_ ?_ (hI41.b3 a3 rfl).1 (by kernel_rfl) (by rfl) (by kernel_rfl)) <;> rfl
              case hp42a => (intro e; subst e; exact absurd rfl (hI41.m.m.ne_ (hI41.b3 _ rfl).1 (by decide)))
              case hp42b => (intro e; subst e; exact absurd rfl (hI41.m.b.ne_ (hI41.b3 _ rfl).1 (by decide)))
              case hp42c => exact hI41.m.mm_ne (hI41.b3 a3 rfl).1
              intro inv18 hH18
              refine lastT (i := 19) (w' := World.setRow (World.setRow W41 a3 ((stepF d.c (wordAt d.M (4 * pn))).1 : Cp).arr) a4 ((stepF d.c (wordAt d.M (4 * pn))).2 : Ev).arr) rfl (by kernel_rfl) rfl (by rfl) ?ht42 (by decide) (by kernel_rfl) ?hu42
              case ht42 => (refine exec_store_row 110 (.tmp 4) (.tmp 48) ?_ a4 ((stepF d.c (wordAt d.M (4 * pn))).2 : Ev).arr ?_ ?_ (Blk.farRow (hI41.b4 a4 rfl).1 (fun e => absurd e.symm ((hI41.b3 a3 rfl).1.ne_ (hI41.b4 a4 rfl).1 (by decide))) _) (by kernel_rfl) (by rfl) (by kernel_rfl)) <;> rfl
              try simp only [sw1, sw2, sw3]
              go_wp2_with fail
              go_meet
              case rel => exact hI41.fin ((stepF d.c (wordAt d.M (4 * pn))).1 : Cp) ((stepF d.c (wordAt d.M (4 * pn))).2 : Ev)
         ·
          intro iv43
          clear iv36
          refine opVal (t := 3) (v := .pointer (some ⟨(World.heap W36).size, 0, none⟩)) (w' := World.alloc W36 (.cells Cp.zero.arr CpT)) rfl rfl (by rfl) ?hx43 (hI36.alloc3).m ?hr43
          case hx43 => (go_simp; try rfl)
          case hr43 =>
           have hI43 := hI36.alloc3
           clear hI36
           generalize World.alloc W36 (.cells Cp.zero.arr CpT) = W43 at hI43 ⊢
           generalize (World.heap W36).size = a3 at hI43 ⊢
           try simp only [sw1, sw2, sw3]
           refine manyT (i := 12) (l := []) (by kernel_rfl) (by decide) iv43 ?ho43x3
           case ho43x3 =>
            intro j hj
            simp only [List.mem_cons, List.not_mem_nil, or_false] at hj
            rcases hj with rfl
            ·
             intro iv44
             clear iv43
             refine opCall (t := 46) (f := 39) (args := #[d.c.val, .int .u32 (wordAt d.M (4 * pn))]) rfl rfl (by rfl) ?hx44 ?hc44
             case hx44 => (go_simp; try rfl)
             case hc44 =>
              refine (HStep.out W43).mono ?_
              rintro e W44 ⟨rfl, hq⟩
              have hI44 := hI43.quiet hq
              clear hq hI43
              refine ⟨_, rfl, hI44.m, ?_⟩
              try simp only [sw1, sw2, sw3]
              refine takeT (i := 13) (t := 33) (v := ?v13z45) rfl (by kernel_rfl) (fun _ _ _ h => h) rfl (Or.inl ⟨by rfl, ?h13z45⟩) iv44 hI44.m ?r13z45
              case h13z45 => (intro V hSw; obtain ⟨q21, q22, q23, q24, q25, q26, q27⟩ := hSw.cells; clear hSw; go_simp; try with_reducible rfl)
              intro inv131
              clear iv44
              try simp only [sw1, sw2, sw3]
              refine takeT (i := 14) (t := 47) (v := ?v14z46) rfl (by kernel_rfl) (fun _ _ _ h => h) rfl (Or.inl ⟨by rfl, ?h14z46⟩) inv131 hI44.m ?r14z46
              case h14z46 => (intro V hSw; obtain ⟨q21, q22, q23, q24, q25, q26, q27⟩ := hSw.cells; clear hSw; go_simp; try with_reducible rfl)
              intro inv141
              clear inv131
              try simp only [sw1, sw2, sw3]
              refine takeT (i := 15) (t := 48) (v := ?v15z47) rfl (by kernel_rfl) (fun _ _ _ h => h) rfl (Or.inl ⟨by rfl, ?h15z47⟩) inv141 hI44.m ?r15z47
              case h15z47 => (intro V hSw; obtain ⟨q21, q22, q23, q24, q25, q26, q27⟩ := hSw.cells; clear hSw; go_simp; try with_reducible rfl)
              intro inv151
              clear inv141
              try simp only [sw1, sw2, sw3]
              refine storeT (i := 18) (w' := World.setRow W44 a3 ((stepF d.c (wordAt d.M (4 * pn))).1 : Cp).arr) rfl (by kernel_rfl) rfl (by rfl) ?hs48 inv151 (by decide) (hI44.m.chg (F := fun k => k = a3) ((Chg.refl (fun k => k = a3) _).setRow (fun _ => rfl) _) ?hp48a ?hp48b ?hp48c) ?hr48
              case hs48 => (refine exec_store_row 42 (.tmp 3) (.tmp 47) ?_ a3 ((stepF d.c (wordAt d.M (4 * pn))).1 : Cp).arr ?_ ?_ (hI44.b3 a3 rfl).1 (by kernel_rfl) (by rfl) (by kernel_rfl)) <;> rfl
              case hp48a => (intro e; subst e; exact absurd rfl (hI44.m.m.ne_ (hI44.b3 _ rfl).1 (by decide)))
              case hp48b => (intro e; subst e; exact absurd rfl (hI44.m.b.ne_ (hI44.b3 _ rfl).1 (by decide)))
              case hp48c => exact hI44.m.mm_ne (hI44.b3 a3 rfl).1
              intro inv18 hH18
              refine lastT (i := 19) (w' := World.setRow (World.setRow W44 a3 ((stepF d.c (wordAt d.M (4 * pn))).1 : Cp).arr) a4 ((stepF d.c (wordAt d.M (4 * pn))).2 : Ev).arr) rfl (by kernel_rfl) rfl (by rfl) ?ht48 (by decide) (by kernel_rfl) ?hu48
              case ht48 => (refine exec_store_row 110 (.tmp 4) (.tmp 48) ?_ a4 ((stepF d.c (wordAt d.M (4 * pn))).2 : Ev).arr ?_ ?_ (Blk.farRow (hI44.b4 a4 rfl).1 (fun e => absurd e.symm ((hI44.b3 a3 rfl).1.ne_ (hI44.b4 a4 rfl).1 (by decide))) _) (by kernel_rfl) (by rfl) (by kernel_rfl)) <;> rfl
              try simp only [sw1, sw2, sw3]
              go_wp2_with fail
              go_meet
              case rel => exact hI44.fin ((stepF d.c (wordAt d.M (4 * pn))).1 : Cp) ((stepF d.c (wordAt d.M (4 * pn))).2 : Ev)
   ·
    intro iv49
    clear inv101
    refine opVal (t := 3) (v := .pointer (some ⟨(World.heap W1.drew).size, 0, none⟩)) (w' := World.alloc W1.drew (.cells Cp.zero.arr CpT)) rfl rfl (by rfl) ?hx49 (hI.alloc3).m ?hr49
    case hx49 => (go_simp; try rfl)
    case hr49 =>
     have hI49 := hI.alloc3
     clear hI
     generalize World.alloc W1.drew (.cells Cp.zero.arr CpT) = W49 at hI49 ⊢
     generalize (World.heap W1.drew).size = a3 at hI49 ⊢
     try simp only [sw1, sw2, sw3]
     refine manyT (i := 11) (l := [17]) (by kernel_rfl) (by decide) iv49 ?ho49x1
     case ho49x1 =>
      intro j hj
      simp only [List.mem_cons, List.not_mem_nil, or_false] at hj
      rcases hj with rfl | rfl
      ·
       intro iv50
       clear iv49
       refine opCall (t := 45) (f := 40) (args := #[.pointer (some ⟨p, 0, none⟩), .int .u32 (4 * (pn : Int)), .bool false]) rfl rfl (by rfl) ?hx50 ?hc50
       case hx50 => (go_simp; try rfl)
       case hc50 =>
        refine (HGet.out W49 hI49.m).mono ?_
        rintro e W50 ⟨rfl, hq⟩
        have hI50 := hI49.quiet hq
        clear hq hI49
        refine ⟨_, rfl, hI50.m, ?_⟩
        try simp only [sw1, sw2, sw3]
        refine manyT (i := 12) (l := [17]) (by kernel_rfl) (by decide) iv50 ?ho50x2
        case ho50x2 =>
         intro j hj
         simp only [List.mem_cons, List.not_mem_nil, or_false] at hj
         rcases hj with rfl | rfl
         ·
          intro iv51
          clear iv50
          refine opCall (t := 46) (f := 39) (args := #[d.c.val, .int .u32 (wordAt d.M (4 * pn))]) rfl rfl (by rfl) ?hx51 ?hc51
          case hx51 => (go_simp; try rfl)
          case hc51 =>
           refine (HStep.out W50).mono ?_
           rintro e W51 ⟨rfl, hq⟩
           have hI51 := hI50.quiet hq
           clear hq hI50
           refine ⟨_, rfl, hI51.m, ?_⟩
           try simp only [sw1, sw2, sw3]
           refine takeT (i := 13) (t := 33) (v := ?v13z52) rfl (by kernel_rfl) (fun _ _ _ h => h) rfl (Or.inl ⟨by rfl, ?h13z52⟩) iv51 hI51.m ?r13z52
           case h13z52 => (intro V hSw; obtain ⟨q21, q22, q23, q24, q25, q26, q27⟩ := hSw.cells; clear hSw; go_simp; try with_reducible rfl)
           intro inv131
           clear iv51
           try simp only [sw1, sw2, sw3]
           refine takeT (i := 14) (t := 47) (v := ?v14z53) rfl (by kernel_rfl) (fun _ _ _ h => h) rfl (Or.inl ⟨by rfl, ?h14z53⟩) inv131 hI51.m ?r14z53
           case h14z53 => (intro V hSw; obtain ⟨q21, q22, q23, q24, q25, q26, q27⟩ := hSw.cells; clear hSw; go_simp; try with_reducible rfl)
           intro inv141
           clear inv131
           try simp only [sw1, sw2, sw3]
           refine takeT (i := 15) (t := 48) (v := ?v15z54) rfl (by kernel_rfl) (fun _ _ _ h => h) rfl (Or.inl ⟨by rfl, ?h15z54⟩) inv141 hI51.m ?r15z54
           case h15z54 => (intro V hSw; obtain ⟨q21, q22, q23, q24, q25, q26, q27⟩ := hSw.cells; clear hSw; go_simp; try with_reducible rfl)
           intro inv151
           clear inv141
           try simp only [sw1, sw2, sw3]
           refine manyT (i := 17) (l := []) (by kernel_rfl) (by decide) inv151 ?ho54x3
           case ho54x3 =>
            intro j hj
            simp only [List.mem_cons, List.not_mem_nil, or_false] at hj
            rcases hj with rfl
            ·
             intro iv55
             clear inv151
             refine opVal (t := 4) (v := .pointer (some ⟨(World.heap W51).size, 0, none⟩)) (w' := World.alloc W51 (.cells Ev.none.arr EvT)) rfl rfl (by rfl) ?hx55 (hI51.alloc4).m ?hr55
             case hx55 => (go_simp; try rfl)
             case hr55 =>
              have hI55 := hI51.alloc4
              clear hI51
              generalize World.alloc W51 (.cells Ev.none.arr EvT) = W55 at hI55 ⊢
              generalize (World.heap W51).size = a4 at hI55 ⊢
              try simp only [sw1, sw2, sw3]
              refine storeT (i := 18) (w' := World.setRow W55 a3 ((stepF d.c (wordAt d.M (4 * pn))).1 : Cp).arr) rfl (by kernel_rfl) rfl (by rfl) ?hs56 iv55 (by decide) (hI55.m.chg (F := fun k => k = a3) ((Chg.refl (fun k => k = a3) _).setRow (fun _ => rfl) _) ?hp56a ?hp56b ?hp56c) ?hr56
              case hs56 => (refine exec_store_row 42 (.tmp 3) (.tmp 47) ?_ a3 ((stepF d.c (wordAt d.M (4 * pn))).1 : Cp).arr ?_ ?_ (hI55.b3 a3 rfl).1 (by kernel_rfl) (by rfl) (by kernel_rfl)) <;> rfl
              case hp56a => (intro e; subst e; exact absurd rfl (hI55.m.m.ne_ (hI55.b3 _ rfl).1 (by decide)))
              case hp56b => (intro e; subst e; exact absurd rfl (hI55.m.b.ne_ (hI55.b3 _ rfl).1 (by decide)))
              case hp56c => exact hI55.m.mm_ne (hI55.b3 a3 rfl).1
              intro inv18 hH18
              refine lastT (i := 19) (w' := World.setRow (World.setRow W55 a3 ((stepF d.c (wordAt d.M (4 * pn))).1 : Cp).arr) a4 ((stepF d.c (wordAt d.M (4 * pn))).2 : Ev).arr) rfl (by kernel_rfl) rfl (by rfl) ?ht56 (by decide) (by kernel_rfl) ?hu56
              case ht56 => (refine exec_store_row 110 (.tmp 4) (.tmp 48) ?_ a4 ((stepF d.c (wordAt d.M (4 * pn))).2 : Ev).arr ?_ ?_ (Blk.farRow (hI55.b4 a4 rfl).1 (fun e => absurd e.symm ((hI55.b3 a3 rfl).1.ne_ (hI55.b4 a4 rfl).1 (by decide))) _) (by kernel_rfl) (by rfl) (by kernel_rfl)) <;> rfl
              try simp only [sw1, sw2, sw3]
              go_wp2_with fail
              go_meet
              case rel => exact hI55.fin ((stepF d.c (wordAt d.M (4 * pn))).1 : Cp) ((stepF d.c (wordAt d.M (4 * pn))).2 : Ev)
         ·
          intro iv57
          clear iv50
          refine opVal (t := 4) (v := .pointer (some ⟨(World.heap W50).size, 0, none⟩)) (w' := World.alloc W50 (.cells Ev.none.arr EvT)) rfl rfl (by rfl) ?hx57 (hI50.alloc4).m ?hr57
          case hx57 => (go_simp; try rfl)
          case hr57 =>
           have hI57 := hI50.alloc4
           clear hI50
           generalize World.alloc W50 (.cells Ev.none.arr EvT) = W57 at hI57 ⊢
           generalize (World.heap W50).size = a4 at hI57 ⊢
           try simp only [sw1, sw2, sw3]
           refine manyT (i := 12) (l := []) (by kernel_rfl) (by decide) iv57 ?ho57x3
           case ho57x3 =>
            intro j hj
            simp only [List.mem_cons, List.not_mem_nil, or_false] at hj
            rcases hj with rfl
            ·
             intro iv58
             clear iv57
             refine opCall (t := 46) (f := 39) (args := #[d.c.val, .int .u32 (wordAt d.M (4 * pn))]) rfl rfl (by rfl) ?hx58 ?hc58
             case hx58 => (go_simp; try rfl)
             case hc58 =>
              refine (HStep.out W57).mono ?_
              rintro e W58 ⟨rfl, hq⟩
              have hI58 := hI57.quiet hq
              clear hq hI57
              refine ⟨_, rfl, hI58.m, ?_⟩
              try simp only [sw1, sw2, sw3]
              refine takeT (i := 13) (t := 33) (v := ?v13z59) rfl (by kernel_rfl) (fun _ _ _ h => h) rfl (Or.inl ⟨by rfl, ?h13z59⟩) iv58 hI58.m ?r13z59
              case h13z59 => (intro V hSw; obtain ⟨q21, q22, q23, q24, q25, q26, q27⟩ := hSw.cells; clear hSw; go_simp; try with_reducible rfl)
              intro inv131
              clear iv58
              try simp only [sw1, sw2, sw3]
              refine takeT (i := 14) (t := 47) (v := ?v14z60) rfl (by kernel_rfl) (fun _ _ _ h => h) rfl (Or.inl ⟨by rfl, ?h14z60⟩) inv131 hI58.m ?r14z60
              case h14z60 => (intro V hSw; obtain ⟨q21, q22, q23, q24, q25, q26, q27⟩ := hSw.cells; clear hSw; go_simp; try with_reducible rfl)
              intro inv141
              clear inv131
              try simp only [sw1, sw2, sw3]
              refine takeT (i := 15) (t := 48) (v := ?v15z61) rfl (by kernel_rfl) (fun _ _ _ h => h) rfl (Or.inl ⟨by rfl, ?h15z61⟩) inv141 hI58.m ?r15z61
              case h15z61 => (intro V hSw; obtain ⟨q21, q22, q23, q24, q25, q26, q27⟩ := hSw.cells; clear hSw; go_simp; try with_reducible rfl)
              intro inv151
              clear inv141
              try simp only [sw1, sw2, sw3]
              refine storeT (i := 18) (w' := World.setRow W58 a3 ((stepF d.c (wordAt d.M (4 * pn))).1 : Cp).arr) rfl (by kernel_rfl) rfl (by rfl) ?hs62 inv151 (by decide) (hI58.m.chg (F := fun k => k = a3) ((Chg.refl (fun k => k = a3) _).setRow (fun _ => rfl) _) ?hp62a ?hp62b ?hp62c) ?hr62
              case hs62 => (refine exec_store_row 42 (.tmp 3) (.tmp 47) ?_ a3 ((stepF d.c (wordAt d.M (4 * pn))).1 : Cp).arr ?_ ?_ (hI58.b3 a3 rfl).1 (by kernel_rfl) (by rfl) (by kernel_rfl)) <;> rfl
              case hp62a => (intro e; subst e; exact absurd rfl (hI58.m.m.ne_ (hI58.b3 _ rfl).1 (by decide)))
              case hp62b => (intro e; subst e; exact absurd rfl (hI58.m.b.ne_ (hI58.b3 _ rfl).1 (by decide)))
              case hp62c => exact hI58.m.mm_ne (hI58.b3 a3 rfl).1
              intro inv18 hH18
              refine lastT (i := 19) (w' := World.setRow (World.setRow W58 a3 ((stepF d.c (wordAt d.M (4 * pn))).1 : Cp).arr) a4 ((stepF d.c (wordAt d.M (4 * pn))).2 : Ev).arr) rfl (by kernel_rfl) rfl (by rfl) ?ht62 (by decide) (by kernel_rfl) ?hu62
              case ht62 => (refine exec_store_row 110 (.tmp 4) (.tmp 48) ?_ a4 ((stepF d.c (wordAt d.M (4 * pn))).2 : Ev).arr ?_ ?_ (Blk.farRow (hI58.b4 a4 rfl).1 (fun e => absurd e.symm ((hI58.b3 a3 rfl).1.ne_ (hI58.b4 a4 rfl).1 (by decide))) _) (by kernel_rfl) (by rfl) (by kernel_rfl)) <;> rfl
              try simp only [sw1, sw2, sw3]
              go_wp2_with fail
              go_meet
              case rel => exact hI58.fin ((stepF d.c (wordAt d.M (4 * pn))).1 : Cp) ((stepF d.c (wordAt d.M (4 * pn))).2 : Ev)
      ·
       intro iv63
       clear iv49
       refine opVal (t := 4) (v := .pointer (some ⟨(World.heap W49).size, 0, none⟩)) (w' := World.alloc W49 (.cells Ev.none.arr EvT)) rfl rfl (by rfl) ?hx63 (hI49.alloc4).m ?hr63
       case hx63 => (go_simp; try rfl)
       case hr63 =>
        have hI63 := hI49.alloc4
        clear hI49
        generalize World.alloc W49 (.cells Ev.none.arr EvT) = W63 at hI63 ⊢
        generalize (World.heap W49).size = a4 at hI63 ⊢
        try simp only [sw1, sw2, sw3]
        refine manyT (i := 11) (l := []) (by kernel_rfl) (by decide) iv63 ?ho63x2
        case ho63x2 =>
         intro j hj
         simp only [List.mem_cons, List.not_mem_nil, or_false] at hj
         rcases hj with rfl
         ·
          intro iv64
          clear iv63
          refine opCall (t := 45) (f := 40) (args := #[.pointer (some ⟨p, 0, none⟩), .int .u32 (4 * (pn : Int)), .bool false]) rfl rfl (by rfl) ?hx64 ?hc64
          case hx64 => (go_simp; try rfl)
          case hc64 =>
           refine (HGet.out W63 hI63.m).mono ?_
           rintro e W64 ⟨rfl, hq⟩
           have hI64 := hI63.quiet hq
           clear hq hI63
           refine ⟨_, rfl, hI64.m, ?_⟩
           try simp only [sw1, sw2, sw3]
           refine manyT (i := 12) (l := []) (by kernel_rfl) (by decide) iv64 ?ho64x3
           case ho64x3 =>
            intro j hj
            simp only [List.mem_cons, List.not_mem_nil, or_false] at hj
            rcases hj with rfl
            ·
             intro iv65
             clear iv64
             refine opCall (t := 46) (f := 39) (args := #[d.c.val, .int .u32 (wordAt d.M (4 * pn))]) rfl rfl (by rfl) ?hx65 ?hc65
             case hx65 => (go_simp; try rfl)
             case hc65 =>
              refine (HStep.out W64).mono ?_
              rintro e W65 ⟨rfl, hq⟩
              have hI65 := hI64.quiet hq
              clear hq hI64
              refine ⟨_, rfl, hI65.m, ?_⟩
              try simp only [sw1, sw2, sw3]
              refine takeT (i := 13) (t := 33) (v := ?v13z66) rfl (by kernel_rfl) (fun _ _ _ h => h) rfl (Or.inl ⟨by rfl, ?h13z66⟩) iv65 hI65.m ?r13z66
              case h13z66 => (intro V hSw; obtain ⟨q21, q22, q23, q24, q25, q26, q27⟩ := hSw.cells; clear hSw; go_simp; try with_reducible rfl)
              intro inv131
              clear iv65
              try simp only [sw1, sw2, sw3]
              refine takeT (i := 14) (t := 47) (v := ?v14z67) rfl (by kernel_rfl) (fun _ _ _ h => h) rfl (Or.inl ⟨by rfl, ?h14z67⟩) inv131 hI65.m ?r14z67
              case h14z67 => (intro V hSw; obtain ⟨q21, q22, q23, q24, q25, q26, q27⟩ := hSw.cells; clear hSw; go_simp; try with_reducible rfl)
              intro inv141
              clear inv131
              try simp only [sw1, sw2, sw3]
              refine takeT (i := 15) (t := 48) (v := ?v15z68) rfl (by kernel_rfl) (fun _ _ _ h => h) rfl (Or.inl ⟨by rfl, ?h15z68⟩) inv141 hI65.m ?r15z68
              case h15z68 => (intro V hSw; obtain ⟨q21, q22, q23, q24, q25, q26, q27⟩ := hSw.cells; clear hSw; go_simp; try with_reducible rfl)
              intro inv151
              clear inv141
              try simp only [sw1, sw2, sw3]
              refine storeT (i := 18) (w' := World.setRow W65 a3 ((stepF d.c (wordAt d.M (4 * pn))).1 : Cp).arr) rfl (by kernel_rfl) rfl (by rfl) ?hs69 inv151 (by decide) (hI65.m.chg (F := fun k => k = a3) ((Chg.refl (fun k => k = a3) _).setRow (fun _ => rfl) _) ?hp69a ?hp69b ?hp69c) ?hr69
              case hs69 => (refine exec_store_row 42 (.tmp 3) (.tmp 47) ?_ a3 ((stepF d.c (wordAt d.M (4 * pn))).1 : Cp).arr ?_ ?_ (hI65.b3 a3 rfl).1 (by kernel_rfl) (by rfl) (by kernel_rfl)) <;> rfl
              case hp69a => (intro e; subst e; exact absurd rfl (hI65.m.m.ne_ (hI65.b3 _ rfl).1 (by decide)))
              case hp69b => (intro e; subst e; exact absurd rfl (hI65.m.b.ne_ (hI65.b3 _ rfl).1 (by decide)))
              case hp69c => exact hI65.m.mm_ne (hI65.b3 a3 rfl).1
              intro inv18 hH18
              refine lastT (i := 19) (w' := World.setRow (World.setRow W65 a3 ((stepF d.c (wordAt d.M (4 * pn))).1 : Cp).arr) a4 ((stepF d.c (wordAt d.M (4 * pn))).2 : Ev).arr) rfl (by kernel_rfl) rfl (by rfl) ?ht69 (by decide) (by kernel_rfl) ?hu69
              case ht69 => (refine exec_store_row 110 (.tmp 4) (.tmp 48) ?_ a4 ((stepF d.c (wordAt d.M (4 * pn))).2 : Ev).arr ?_ ?_ (Blk.farRow (hI65.b4 a4 rfl).1 (fun e => absurd e.symm ((hI65.b3 a3 rfl).1.ne_ (hI65.b4 a4 rfl).1 (by decide))) _) (by kernel_rfl) (by rfl) (by kernel_rfl)) <;> rfl
              try simp only [sw1, sw2, sw3]
              go_wp2_with fail
              go_meet
              case rel => exact hI65.fin ((stepF d.c (wordAt d.M (4 * pn))).1 : Cp) ((stepF d.c (wordAt d.M (4 * pn))).2 : Ev)
   ·
    intro iv70
    clear inv101
    refine opVal (t := 4) (v := .pointer (some ⟨(World.heap W1.drew).size, 0, none⟩)) (w' := World.alloc W1.drew (.cells Ev.none.arr EvT)) rfl rfl (by rfl) ?hx70 (hI.alloc4).m ?hr70
    case hx70 => (go_simp; try rfl)
    case hr70 =>
     have hI70 := hI.alloc4
     clear hI
     generalize World.alloc W1.drew (.cells Ev.none.arr EvT) = W70 at hI70 ⊢
     generalize (World.heap W1.drew).size = a4 at hI70 ⊢
     try simp only [sw1, sw2, sw3]
     refine manyT (i := 11) (l := [16]) (by kernel_rfl) (by decide) iv70 ?ho70x1
     case ho70x1 =>
      intro j hj
      simp only [List.mem_cons, List.not_mem_nil, or_false] at hj
      rcases hj with rfl | rfl
      ·
       intro iv71
       clear iv70
       refine opCall (t := 45) (f := 40) (args := #[.pointer (some ⟨p, 0, none⟩), .int .u32 (4 * (pn : Int)), .bool false]) rfl rfl (by rfl) ?hx71 ?hc71
       case hx71 => (go_simp; try rfl)
       case hc71 =>
        refine (HGet.out W70 hI70.m).mono ?_
        rintro e W71 ⟨rfl, hq⟩
        have hI71 := hI70.quiet hq
        clear hq hI70
        refine ⟨_, rfl, hI71.m, ?_⟩
        try simp only [sw1, sw2, sw3]
        refine manyT (i := 12) (l := [16]) (by kernel_rfl) (by decide) iv71 ?ho71x2
        case ho71x2 =>
         intro j hj
         simp only [List.mem_cons, List.not_mem_nil, or_false] at hj
         rcases hj with rfl | rfl
         ·
          intro iv72
          clear iv71
          refine opCall (t := 46) (f := 39) (args := #[d.c.val, .int .u32 (wordAt d.M (4 * pn))]) rfl rfl (by rfl) ?hx72 ?hc72
          case hx72 => (go_simp; try rfl)
          case hc72 =>
           refine (HStep.out W71).mono ?_
           rintro e W72 ⟨rfl, hq⟩
           have hI72 := hI71.quiet hq
           clear hq hI71
           refine ⟨_, rfl, hI72.m, ?_⟩
           try simp only [sw1, sw2, sw3]
           refine takeT (i := 13) (t := 33) (v := ?v13z73) rfl (by kernel_rfl) (fun _ _ _ h => h) rfl (Or.inl ⟨by rfl, ?h13z73⟩) iv72 hI72.m ?r13z73
           case h13z73 => (intro V hSw; obtain ⟨q21, q22, q23, q24, q25, q26, q27⟩ := hSw.cells; clear hSw; go_simp; try with_reducible rfl)
           intro inv131
           clear iv72
           try simp only [sw1, sw2, sw3]
           refine takeT (i := 14) (t := 47) (v := ?v14z74) rfl (by kernel_rfl) (fun _ _ _ h => h) rfl (Or.inl ⟨by rfl, ?h14z74⟩) inv131 hI72.m ?r14z74
           case h14z74 => (intro V hSw; obtain ⟨q21, q22, q23, q24, q25, q26, q27⟩ := hSw.cells; clear hSw; go_simp; try with_reducible rfl)
           intro inv141
           clear inv131
           try simp only [sw1, sw2, sw3]
           refine takeT (i := 15) (t := 48) (v := ?v15z75) rfl (by kernel_rfl) (fun _ _ _ h => h) rfl (Or.inl ⟨by rfl, ?h15z75⟩) inv141 hI72.m ?r15z75
           case h15z75 => (intro V hSw; obtain ⟨q21, q22, q23, q24, q25, q26, q27⟩ := hSw.cells; clear hSw; go_simp; try with_reducible rfl)
           intro inv151
           clear inv141
           try simp only [sw1, sw2, sw3]
           refine manyT (i := 16) (l := []) (by kernel_rfl) (by decide) inv151 ?ho75x3
           case ho75x3 =>
            intro j hj
            simp only [List.mem_cons, List.not_mem_nil, or_false] at hj
            rcases hj with rfl
            ·
             intro iv76
             clear inv151
             refine opVal (t := 3) (v := .pointer (some ⟨(World.heap W72).size, 0, none⟩)) (w' := World.alloc W72 (.cells Cp.zero.arr CpT)) rfl rfl (by rfl) ?hx76 (hI72.alloc3).m ?hr76
             case hx76 => (go_simp; try rfl)
             case hr76 =>
              have hI76 := hI72.alloc3
              clear hI72
              generalize World.alloc W72 (.cells Cp.zero.arr CpT) = W76 at hI76 ⊢
              generalize (World.heap W72).size = a3 at hI76 ⊢
              try simp only [sw1, sw2, sw3]
              refine storeT (i := 18) (w' := World.setRow W76 a3 ((stepF d.c (wordAt d.M (4 * pn))).1 : Cp).arr) rfl (by kernel_rfl) rfl (by rfl) ?hs77 iv76 (by decide) (hI76.m.chg (F := fun k => k = a3) ((Chg.refl (fun k => k = a3) _).setRow (fun _ => rfl) _) ?hp77a ?hp77b ?hp77c) ?hr77
              case hs77 => (refine exec_store_row 42 (.tmp 3) (.tmp 47) ?_ a3 ((stepF d.c (wordAt d.M (4 * pn))).1 : Cp).arr ?_ ?_ (hI76.b3 a3 rfl).1 (by kernel_rfl) (by rfl) (by kernel_rfl)) <;> rfl
              case hp77a => (intro e; subst e; exact absurd rfl (hI76.m.m.ne_ (hI76.b3 _ rfl).1 (by decide)))
              case hp77b => (intro e; subst e; exact absurd rfl (hI76.m.b.ne_ (hI76.b3 _ rfl).1 (by decide)))
              case hp77c => exact hI76.m.mm_ne (hI76.b3 a3 rfl).1
              intro inv18 hH18
              refine lastT (i := 19) (w' := World.setRow (World.setRow W76 a3 ((stepF d.c (wordAt d.M (4 * pn))).1 : Cp).arr) a4 ((stepF d.c (wordAt d.M (4 * pn))).2 : Ev).arr) rfl (by kernel_rfl) rfl (by rfl) ?ht77 (by decide) (by kernel_rfl) ?hu77
              case ht77 => (refine exec_store_row 110 (.tmp 4) (.tmp 48) ?_ a4 ((stepF d.c (wordAt d.M (4 * pn))).2 : Ev).arr ?_ ?_ (Blk.farRow (hI76.b4 a4 rfl).1 (fun e => absurd e.symm ((hI76.b3 a3 rfl).1.ne_ (hI76.b4 a4 rfl).1 (by decide))) _) (by kernel_rfl) (by rfl) (by kernel_rfl)) <;> rfl
              try simp only [sw1, sw2, sw3]
              go_wp2_with fail
              go_meet
              case rel => exact hI76.fin ((stepF d.c (wordAt d.M (4 * pn))).1 : Cp) ((stepF d.c (wordAt d.M (4 * pn))).2 : Ev)
         ·
          intro iv78
          clear iv71
          refine opVal (t := 3) (v := .pointer (some ⟨(World.heap W71).size, 0, none⟩)) (w' := World.alloc W71 (.cells Cp.zero.arr CpT)) rfl rfl (by rfl) ?hx78 (hI71.alloc3).m ?hr78
          case hx78 => (go_simp; try rfl)
          case hr78 =>
           have hI78 := hI71.alloc3
           clear hI71
           generalize World.alloc W71 (.cells Cp.zero.arr CpT) = W78 at hI78 ⊢
           generalize (World.heap W71).size = a3 at hI78 ⊢
           try simp only [sw1, sw2, sw3]
           refine manyT (i := 12) (l := []) (by kernel_rfl) (by decide) iv78 ?ho78x3
           case ho78x3 =>
            intro j hj
            simp only [List.mem_cons, List.not_mem_nil, or_false] at hj
            rcases hj with rfl
            ·
             intro iv79
             clear iv78
             refine opCall (t := 46) (f := 39) (args := #[d.c.val, .int .u32 (wordAt d.M (4 * pn))]) rfl rfl (by rfl) ?hx79 ?hc79
             case hx79 => (go_simp; try rfl)
             case hc79 =>
              refine (HStep.out W78).mono ?_
              rintro e W79 ⟨rfl, hq⟩
              have hI79 := hI78.quiet hq
              clear hq hI78
              refine ⟨_, rfl, hI79.m, ?_⟩
              try simp only [sw1, sw2, sw3]
              refine takeT (i := 13) (t := 33) (v := ?v13z80) rfl (by kernel_rfl) (fun _ _ _ h => h) rfl (Or.inl ⟨by rfl, ?h13z80⟩) iv79 hI79.m ?r13z80
              case h13z80 => (intro V hSw; obtain ⟨q21, q22, q23, q24, q25, q26, q27⟩ := hSw.cells; clear hSw; go_simp; try with_reducible rfl)
              intro inv131
              clear iv79
              try simp only [sw1, sw2, sw3]
              refine takeT (i := 14) (t := 47) (v := ?v14z81) rfl (by kernel_rfl) (fun _ _ _ h => h) rfl (Or.inl ⟨by rfl, ?h14z81⟩) inv131 hI79.m ?r14z81
              case h14z81 => (intro V hSw; obtain ⟨q21, q22, q23, q24, q25, q26, q27⟩ := hSw.cells; clear hSw; go_simp; try with_reducible rfl)
              intro inv141
              clear inv131
              try simp only [sw1, sw2, sw3]
              refine takeT (i := 15) (t := 48) (v := ?v15z82) rfl (by kernel_rfl) (fun _ _ _ h => h) rfl (Or.inl ⟨by rfl, ?h15z82⟩) inv141 hI79.m ?r15z82
              case h15z82 => (intro V hSw; obtain ⟨q21, q22, q23, q24, q25, q26, q27⟩ := hSw.cells; clear hSw; go_simp; try with_reducible rfl)
              intro inv151
              clear inv141
              try simp only [sw1, sw2, sw3]
              refine storeT (i := 18) (w' := World.setRow W79 a3 ((stepF d.c (wordAt d.M (4 * pn))).1 : Cp).arr) rfl (by kernel_rfl) rfl (by rfl) ?hs83 inv151 (by decide) (hI79.m.chg (F := fun k => k = a3) ((Chg.refl (fun k => k = a3) _).setRow (fun _ => rfl) _) ?hp83a ?hp83b ?hp83c) ?hr83
              case hs83 => (refine exec_store_row 42 (.tmp 3) (.tmp 47) ?_ a3 ((stepF d.c (wordAt d.M (4 * pn))).1 : Cp).arr ?_ ?_ (hI79.b3 a3 rfl).1 (by kernel_rfl) (by rfl) (by kernel_rfl)) <;> rfl
              case hp83a => (intro e; subst e; exact absurd rfl (hI79.m.m.ne_ (hI79.b3 _ rfl).1 (by decide)))
              case hp83b => (intro e; subst e; exact absurd rfl (hI79.m.b.ne_ (hI79.b3 _ rfl).1 (by decide)))
              case hp83c => exact hI79.m.mm_ne (hI79.b3 a3 rfl).1
              intro inv18 hH18
              refine lastT (i := 19) (w' := World.setRow (World.setRow W79 a3 ((stepF d.c (wordAt d.M (4 * pn))).1 : Cp).arr) a4 ((stepF d.c (wordAt d.M (4 * pn))).2 : Ev).arr) rfl (by kernel_rfl) rfl (by rfl) ?ht83 (by decide) (by kernel_rfl) ?hu83
              case ht83 => (refine exec_store_row 110 (.tmp 4) (.tmp 48) ?_ a4 ((stepF d.c (wordAt d.M (4 * pn))).2 : Ev).arr ?_ ?_ (Blk.farRow (hI79.b4 a4 rfl).1 (fun e => absurd e.symm ((hI79.b3 a3 rfl).1.ne_ (hI79.b4 a4 rfl).1 (by decide))) _) (by kernel_rfl) (by rfl) (by kernel_rfl)) <;> rfl
              try simp only [sw1, sw2, sw3]
              go_wp2_with fail
              go_meet
              case rel => exact hI79.fin ((stepF d.c (wordAt d.M (4 * pn))).1 : Cp) ((stepF d.c (wordAt d.M (4 * pn))).2 : Ev)
      ·
       intro iv84
       clear iv70
       refine opVal (t := 3) (v := .pointer (some ⟨(World.heap W70).size, 0, none⟩)) (w' := World.alloc W70 (.cells Cp.zero.arr CpT)) rfl rfl (by rfl) ?hx84 (hI70.alloc3).m ?hr84
       case hx84 => (go_simp; try rfl)
       case hr84 =>
        have hI84 := hI70.alloc3
        clear hI70
        generalize World.alloc W70 (.cells Cp.zero.arr CpT) = W84 at hI84 ⊢
        generalize (World.heap W70).size = a3 at hI84 ⊢
        try simp only [sw1, sw2, sw3]
        refine manyT (i := 11) (l := []) (by kernel_rfl) (by decide) iv84 ?ho84x2
        case ho84x2 =>
         intro j hj
         simp only [List.mem_cons, List.not_mem_nil, or_false] at hj
         rcases hj with rfl
         ·
          intro iv85
          clear iv84
          refine opCall (t := 45) (f := 40) (args := #[.pointer (some ⟨p, 0, none⟩), .int .u32 (4 * (pn : Int)), .bool false]) rfl rfl (by rfl) ?hx85 ?hc85
          case hx85 => (go_simp; try rfl)
          case hc85 =>
           refine (HGet.out W84 hI84.m).mono ?_
           rintro e W85 ⟨rfl, hq⟩
           have hI85 := hI84.quiet hq
           clear hq hI84
           refine ⟨_, rfl, hI85.m, ?_⟩
           try simp only [sw1, sw2, sw3]
           refine manyT (i := 12) (l := []) (by kernel_rfl) (by decide) iv85 ?ho85x3
           case ho85x3 =>
            intro j hj
            simp only [List.mem_cons, List.not_mem_nil, or_false] at hj
            rcases hj with rfl
            ·
             intro iv86
             clear iv85
             refine opCall (t := 46) (f := 39) (args := #[d.c.val, .int .u32 (wordAt d.M (4 * pn))]) rfl rfl (by rfl) ?hx86 ?hc86
             case hx86 => (go_simp; try rfl)
             case hc86 =>
              refine (HStep.out W85).mono ?_
              rintro e W86 ⟨rfl, hq⟩
              have hI86 := hI85.quiet hq
              clear hq hI85
              refine ⟨_, rfl, hI86.m, ?_⟩
              try simp only [sw1, sw2, sw3]
              refine takeT (i := 13) (t := 33) (v := ?v13z87) rfl (by kernel_rfl) (fun _ _ _ h => h) rfl (Or.inl ⟨by rfl, ?h13z87⟩) iv86 hI86.m ?r13z87
              case h13z87 => (intro V hSw; obtain ⟨q21, q22, q23, q24, q25, q26, q27⟩ := hSw.cells; clear hSw; go_simp; try with_reducible rfl)
              intro inv131
              clear iv86
              try simp only [sw1, sw2, sw3]
              refine takeT (i := 14) (t := 47) (v := ?v14z88) rfl (by kernel_rfl) (fun _ _ _ h => h) rfl (Or.inl ⟨by rfl, ?h14z88⟩) inv131 hI86.m ?r14z88
              case h14z88 => (intro V hSw; obtain ⟨q21, q22, q23, q24, q25, q26, q27⟩ := hSw.cells; clear hSw; go_simp; try with_reducible rfl)
              intro inv141
              clear inv131
              try simp only [sw1, sw2, sw3]
              refine takeT (i := 15) (t := 48) (v := ?v15z89) rfl (by kernel_rfl) (fun _ _ _ h => h) rfl (Or.inl ⟨by rfl, ?h15z89⟩) inv141 hI86.m ?r15z89
              case h15z89 => (intro V hSw; obtain ⟨q21, q22, q23, q24, q25, q26, q27⟩ := hSw.cells; clear hSw; go_simp; try with_reducible rfl)
              intro inv151
              clear inv141
              try simp only [sw1, sw2, sw3]
              refine storeT (i := 18) (w' := World.setRow W86 a3 ((stepF d.c (wordAt d.M (4 * pn))).1 : Cp).arr) rfl (by kernel_rfl) rfl (by rfl) ?hs90 inv151 (by decide) (hI86.m.chg (F := fun k => k = a3) ((Chg.refl (fun k => k = a3) _).setRow (fun _ => rfl) _) ?hp90a ?hp90b ?hp90c) ?hr90
              case hs90 => (refine exec_store_row 42 (.tmp 3) (.tmp 47) ?_ a3 ((stepF d.c (wordAt d.M (4 * pn))).1 : Cp).arr ?_ ?_ (hI86.b3 a3 rfl).1 (by kernel_rfl) (by rfl) (by kernel_rfl)) <;> rfl
              case hp90a => (intro e; subst e; exact absurd rfl (hI86.m.m.ne_ (hI86.b3 _ rfl).1 (by decide)))
              case hp90b => (intro e; subst e; exact absurd rfl (hI86.m.b.ne_ (hI86.b3 _ rfl).1 (by decide)))
              case hp90c => exact hI86.m.mm_ne (hI86.b3 a3 rfl).1
              intro inv18 hH18
              refine lastT (i := 19) (w' := World.setRow (World.setRow W86 a3 ((stepF d.c (wordAt d.M (4 * pn))).1 : Cp).arr) a4 ((stepF d.c (wordAt d.M (4 * pn))).2 : Ev).arr) rfl (by kernel_rfl) rfl (by rfl) ?ht90 (by decide) (by kernel_rfl) ?hu90
              case ht90 => (refine exec_store_row 110 (.tmp 4) (.tmp 48) ?_ a4 ((stepF d.c (wordAt d.M (4 * pn))).2 : Ev).arr ?_ ?_ (Blk.farRow (hI86.b4 a4 rfl).1 (fun e => absurd e.symm ((hI86.b3 a3 rfl).1.ne_ (hI86.b4 a4 rfl).1 (by decide))) _) (by kernel_rfl) (by rfl) (by kernel_rfl)) <;> rfl
              try simp only [sw1, sw2, sw3]
              go_wp2_with fail
              go_meet
              case rel => exact hI86.fin ((stepF d.c (wordAt d.M (4 * pn))).1 : Cp) ((stepF d.c (wordAt d.M (4 * pn))).2 : Ev)
 case rest =>
  obtain ⟨a3, a4, rfl, rfl, hm, hc, hb3, hb4, hl3, hl4⟩ := hcut
  have HQ := Go.Lib.hid ((HC0.out.trans (Chg.refl NoB W1).drew).trans hc)
  clear hc HGet HStep HAI h H1 HC0 hl3 hl4 ew4
  rw [HEVQ.out] at hb3 hb4
  clear HEVQ
  obtain ⟨ce, hce⟩ : ∃ ce, d.ev = ce := ⟨_, rfl⟩
  have HCE := Go.Lib.hid hce
  rw [hce] at hb3 hb4 HEK hsys HS0
  clear hce
  obtain ⟨c', e⟩ := ce
  simp only at hb3 hb4 HEK hsys HS0
  have HSYS := Go.Lib.hid hsys
  clear hsys
  clear hpn hp
  have hne : a4 ≠ p := fun e => by subst e; exact absurd rfl (hm.m.ne_ hb4 (by decide))
  have hne2 : a4 ≠ mb := fun e => by subst e; exact absurd rfl (hm.b.ne_ hb4 (by decide))
  have HM := Go.Lib.hid (hm.setCpu c')
  have HEv : Hid (Blk (wc.setCells p 0 c'.arr.toList) a4 EvT e.arr) := Go.Lib.hid ((setCells_far hne _ _ _).trans hb4)
  have HCV := Go.Lib.hid ((HQ.out.mono (fun _ _ h => h.elim)).trans (setCells_chg (F := fun k => k = p) (g := p) rfl c'.arr.toList 0 wc (Chg.refl _ wc)))
  have HT : Hid (World.there wc p 0 c'.arr.size) := Go.Lib.hid fun j hj => by
   have hj : j < 22 := hj
   refine ⟨?_, hm.m.frozen _⟩
   rw [Nat.zero_add, hm.m.cell j, arr_front d _ _ _ hj]
   have : j < d.c.arr.size := hj
   simp [Array.getElem?_eq_getElem this]
  have HB3 := Go.Lib.hid hb3
  clear hm hb3 hb4 HQ
  go_upto_region 8 with (first
   | (refine wpList_load_row rfl 42 (.tmp 3) rfl a3 rfl CpT c'.arr (0, 0) _ HB3.out Tryz.underlying42 rfl (by kernel_rfl) ?_)
   | (refine wpList_store_mid rfl 42 (.tmp 52) (.tmp 50) rfl p 0 c'.arr rfl rfl HT.out (by kernel_rfl) (by kernel_rfl) ?_))
  clear HB3 HT
  generalize World.setCells wc p 0 c'.arr.toList = V at HM HEv HCV ⊢
  have ho : ({ d with c := c' } : Mc).Ok := ⟨HEK.out.1, hd.m, hd.n, hd.heap⟩
  obtain ⟨d1, hd1⟩ : ∃ d1 : Mc, { d with c := c' } = d1 := ⟨_, rfl⟩
  rw [hd1] at HM ho HS0
  have HD1 := Go.Lib.hid hd1
  have hk1 : d1.kind = 0 := by rw [← hd1]; exact hk
  have hh1 : d1.heap ≤ d1.n := by rw [← hd1]; exact hh
  clear hd1 hd hk hh
  have HO := Go.Lib.hid ho
  have hn1 := ho.n.2.1
  have hn4 := ho.n.2.2
  obtain ⟨k21, k22, k23, k24, k25, k26, k27⟩ := HM.out.cells
  rw [hk1] at k25
  have e0 : V.cell? ⟨a4, 0, none⟩ = some (.int .i64 e.kind) := HEv.out.cell 0
  have e1 : V.cell? ⟨a4, 1, none⟩ = some (.int .u32 e.place) := HEv.out.cell 1
  have e2 : V.cell? ⟨a4, 2, none⟩ = some (.bool e.byte) := HEv.out.cell 2
  have e3 : V.cell? ⟨a4, 3, none⟩ = some (.int .i64 e.reg) := HEv.out.cell 3
  have e4 : V.cell? ⟨a4, 4, none⟩ = some (.int .u32 e.value) := HEv.out.cell 4
  have e5 : V.cell? ⟨a4, 5, none⟩ = some (.int .i64 e.n) := HEv.out.cell 5
  rw [HEK.out.2.place] at e1
  rw [HEK.out.2.reg] at e3
  rw [HEK.out.2.value] at e4
  have hkd := HEK.out.2.kind
  have hpl := HEK.out.2.pl
  have hrg := HEK.out.2.rg
  have hvl := HEK.out.2.vl
  have hen := HEK.out.2.n
  clear ho
  have hkd1 := Go.Lib.hid hk1
  clear hk1
  clear hkd
  have hf := HSYS.out
  rw [hf] at e0
  clear hf HSYS HCE HD1 HEK
  go_wp2_with fail
  go_quiet (fail)
  go_wp2_with fail
  refine (HS0.out _ (HM.out.quiet ((Chg.refl NoB V).drewN _)) (HCV.out.trans ((Chg.refl _ V).drewN _))).mono ?_
  rintro ee w3 ⟨rfl, h1⟩
  have H3 := Go.Lib.hid h1
  have k25 := HR0.out _ h1
  clear h1 k21 k22 k23 k24 k26 k27
  go_wp2_with fail
  go_ret
  exact ⟨rfl, H3.out⟩
end
end Go.Proofs.YtggknljlibhkjaaGreat
set_option linter.unusedSimpArgs false
set_option linter.unusedVariables false
namespace Go.Proofs.YtggknljlibhkjaaGreat
open Go Go.RowKit
def sg (a : Int) : Int := wrap64 (wrap32 a)
def callF (v : V) (n : Nat) (f : Int) (b : Nat) (nm : ByteArray) : Int × Bool × V :=
 if n = 18 then ((v.old nm).1, false, (v.old nm).2)
 else if n = 19 then ((v.fresh nm).1, false, (v.fresh nm).2)
 else if n = 20 then (if v.eof f = true then 1 else 0, false, v)
 else if n = 21 then ((v.length f : Int) % 4294967296, false, v)
 else if n = 22 then ((v.read f).1.toNat, false, (v.read f).2)
 else if n = 23 then ((v.readWord f).1, false, (v.readWord f).2)
 else if n = 24 then (0, decide ((v.write f [UInt8.ofNat b]).1 ≠ 0), (v.write f [UInt8.ofNat b]).2)
 else if n = 25 then (0, decide ((v.write f (bytesOfWord b)).1 ≠ 0), (v.write f (bytesOfWord b)).2)
 else if n = 26 then (0, false, v.seek f b)
 else if n = 27 then (0, decide ((v.register f).1 ≠ 0), (v.register f).2)
 else (0, false, v.del nm)
theorem tw_cut {α : Type} {p : α → Bool} : ∀ (l : List α) (k : Nat) (hk : k < l.length), (∀ j (h : j < k), p (l[j]'(by omega)) = true) → p l[k] = false → l.takeWhile p = l.take k
 | [], k, hk, _, _ => absurd hk (by simp)
 | x :: r, 0, _, _, h => by simp at h; simp [List.takeWhile_cons, h]
 | x :: r, k + 1, hk, h, h2 => by
  have h0 : p x = true := h 0 (by omega)
  rw [List.takeWhile_cons, if_pos h0, List.take_succ_cons]
  congr 1
  exact tw_cut r k (by simpa using hk) (fun j hj => h (j + 1) (by omega)) h2
theorem tw_all {α : Type} {p : α → Bool} : ∀ (l : List α), (∀ j (h : j < l.length), p l[j] = true) → l.takeWhile p = l
 | [], _ => rfl
 | x :: r, h => by
  have h0 : p x = true := h 0 (by simp)
  rw [List.takeWhile_cons, if_pos h0]
  congr 1
  exact tw_all r fun j hj => h (j + 1) (by simpa using hj)
def cut0 (n : ByteArray) : ByteArray := ⟨(n.data.toList.takeWhile (· ≠ 0)).toArray⟩
theorem cut0_at (n : ByteArray) {k : Nat} (hk : k < n.size) (h : ∀ j, j < k → ∀ h : j < n.size, n[j] ≠ 0) (h0 : n[k] = 0) : cut0 n = n.extract 0 k := by
 have e : n.data.toList.takeWhile (· ≠ 0) = n.data.toList.take k := tw_cut _ k (by simpa using hk) (fun j hj => by
  have hjs : j < n.data.size := by show j < n.size; omega
  have h1 : n.data[j] ≠ 0 := h j hj hjs
  simpa using h1) (by
  have h1 : n.data[k] = 0 := h0
  simpa using h1)
 unfold cut0
 rw [e]
 apply ByteArray.ext
 simp only [ByteArray.data_extract]
 apply Array.toList_inj.1
 simp
theorem cut0_all (n : ByteArray) (h : ∀ j, j < n.size → ∀ h : j < n.size, n[j] ≠ 0) : cut0 n = n := by
 have e : n.data.toList.takeWhile (· ≠ 0) = n.data.toList := tw_all _ (fun j hj => by
  have hj' : j < n.size := by simpa using hj
  have h1 : n.data[j] ≠ 0 := h j hj' hj'
  simpa using h1)
 unfold cut0
 rw [e]
section
variable {W : World} {s base : Nat} {v : V} {F : Nat → Prop}
set_option maxHeartbeats 1000000 in
set_option maxRecDepth 100000 in
theorem call_18 (h : StoreV base W s v F) (a : Int) (ha : 0 ≤ a ∧ a < 4294967296) (b : Nat) (hb : b < 4294967296) (nm : ByteArray) (hsz : nm.size ≤ maxLen) :
  Calls Tryz.prog 16 #[.pointer (some ⟨s, 0, none⟩), .int .i64 18, .int .u32 a, .int .u32 b, .string nm] W (VPost base s F (.tuple #[.int .u32 ((v.old nm).1), .bool (false)]) ((v.old nm).2) W) := by
 have HC := Go.Lib.hid (old_v h nm hsz)
 unfold sg at *
 unfold ptr at HC
 have hle := v.old_le nm
 generalize v.old nm = vr at *
 obtain ⟨an, v2⟩ := vr
 simp only at *
 have hw2 : (an : Int) % 4294967296 = an := by omega
 clear h ha hsz
 go_enter Tryz.func16, Tryz.ntmps16
 go_wp2_with fail
 refine HC.out.mono ?_
 rintro e w1 ⟨rfl, hv⟩
 have HV := Go.Lib.hid hv
 clear hv
 go_wp2_with fail
 go_ret2
 exact ⟨rfl, HV.out⟩
set_option maxHeartbeats 1000000 in
set_option maxRecDepth 100000 in
theorem call_19 (h : StoreV base W s v F) (a : Int) (ha : 0 ≤ a ∧ a < 4294967296) (b : Nat) (hb : b < 4294967296) (nm : ByteArray) (hsz : nm.size ≤ maxLen) :
  Calls Tryz.prog 16 #[.pointer (some ⟨s, 0, none⟩), .int .i64 19, .int .u32 a, .int .u32 b, .string nm] W (VPost base s F (.tuple #[.int .u32 ((v.fresh nm).1), .bool (false)]) ((v.fresh nm).2) W) := by
 have HC := Go.Lib.hid (fresh_v h nm hsz)
 unfold sg at *
 unfold ptr at HC
 have hle := v.fresh_le nm
 generalize v.fresh nm = vr at *
 obtain ⟨an, v2⟩ := vr
 simp only at *
 have hw2 : (an : Int) % 4294967296 = an := by omega
 clear h ha hsz
 go_enter Tryz.func16, Tryz.ntmps16
 go_wp2_with fail
 refine HC.out.mono ?_
 rintro e w1 ⟨rfl, hv⟩
 have HV := Go.Lib.hid hv
 clear hv
 go_wp2_with fail
 go_ret2
 exact ⟨rfl, HV.out⟩
set_option maxHeartbeats 1000000 in
set_option maxRecDepth 100000 in
theorem call_20 (h : StoreV base W s v F) (a : Int) (ha : 0 ≤ a ∧ a < 4294967296) (b : Nat) (hb : b < 4294967296) (nm : ByteArray) (hsz : nm.size ≤ maxLen) :
  Calls Tryz.prog 16 #[.pointer (some ⟨s, 0, none⟩), .int .i64 20, .int .u32 a, .int .u32 b, .string nm] W (VPost base s F (.tuple #[.int .u32 (if v.eof (sg a) = true then 1 else 0), .bool (false)]) (v) W) := by
 have HC := Go.Lib.hid (eof_v h (sg a))
 unfold sg at *
 unfold ptr at HC
 generalize v.eof (wrap64 (wrap32 a)) = ve at *
 clear h ha hsz
 cases ve
 ·
  go_enter Tryz.func16, Tryz.ntmps16
  go_wp2_with fail
  refine HC.out.mono ?_
  rintro e w1 ⟨rfl, hv⟩
  have HV := Go.Lib.hid hv
  clear hv
  go_wp2_with fail
  go_ret2
  exact ⟨rfl, HV.out⟩
 ·
  go_enter Tryz.func16, Tryz.ntmps16
  go_wp2_with fail
  refine HC.out.mono ?_
  rintro e w1 ⟨rfl, hv⟩
  have HV := Go.Lib.hid hv
  clear hv
  go_wp2_with fail
  go_ret2
  exact ⟨rfl, HV.out⟩
set_option maxHeartbeats 1000000 in
set_option maxRecDepth 100000 in
theorem call_21 (h : StoreV base W s v F) (a : Int) (ha : 0 ≤ a ∧ a < 4294967296) (b : Nat) (hb : b < 4294967296) (nm : ByteArray) (hsz : nm.size ≤ maxLen) :
  Calls Tryz.prog 16 #[.pointer (some ⟨s, 0, none⟩), .int .i64 21, .int .u32 a, .int .u32 b, .string nm] W (VPost base s F (.tuple #[.int .u32 ((v.length (sg a) : Int) % 4294967296), .bool (false)]) (v) W) := by
 have HC := Go.Lib.hid (length_v h (sg a))
 unfold sg at *
 unfold ptr at HC
 generalize v.length (wrap64 (wrap32 a)) = vl at *
 clear h ha hsz
 go_enter Tryz.func16, Tryz.ntmps16
 go_wp2_with fail
 refine HC.out.mono ?_
 rintro e w1 ⟨rfl, hv⟩
 have HV := Go.Lib.hid hv
 clear hv
 go_wp2_with fail
 go_ret2
 exact ⟨rfl, HV.out⟩
set_option maxHeartbeats 1000000 in
set_option maxRecDepth 100000 in
theorem call_22 (h : StoreV base W s v F) (a : Int) (ha : 0 ≤ a ∧ a < 4294967296) (b : Nat) (hb : b < 4294967296) (nm : ByteArray) (hsz : nm.size ≤ maxLen) :
  Calls Tryz.prog 16 #[.pointer (some ⟨s, 0, none⟩), .int .i64 22, .int .u32 a, .int .u32 b, .string nm] W (VPost base s F (.tuple #[.int .u32 ((v.read (sg a)).1.toNat), .bool (false)]) ((v.read (sg a)).2) W) := by
 have HC := Go.Lib.hid (read_v h (sg a))
 unfold sg at *
 unfold ptr at HC
 have hlt := (v.read (wrap64 (wrap32 a))).1.toNat_lt
 generalize v.read (wrap64 (wrap32 a)) = vr at *
 obtain ⟨c1, v2⟩ := vr
 simp only at *
 generalize c1.toNat = an at *
 have hw2 : (an : Int) % 4294967296 = an := by omega
 clear h ha hsz
 go_enter Tryz.func16, Tryz.ntmps16
 go_wp2_with fail
 refine HC.out.mono ?_
 rintro e w1 ⟨rfl, hv⟩
 have HV := Go.Lib.hid hv
 clear hv
 go_wp2_with fail
 go_ret2
 exact ⟨rfl, HV.out⟩
set_option maxHeartbeats 1000000 in
set_option maxRecDepth 100000 in
theorem call_23 (h : StoreV base W s v F) (a : Int) (ha : 0 ≤ a ∧ a < 4294967296) (b : Nat) (hb : b < 4294967296) (nm : ByteArray) (hsz : nm.size ≤ maxLen) :
  Calls Tryz.prog 16 #[.pointer (some ⟨s, 0, none⟩), .int .i64 23, .int .u32 a, .int .u32 b, .string nm] W (VPost base s F (.tuple #[.int .u32 ((v.readWord (sg a)).1), .bool (false)]) ((v.readWord (sg a)).2) W) := by
 have HC := Go.Lib.hid (readWord_v h (sg a))
 unfold sg at *
 unfold ptr at HC
 generalize v.readWord (wrap64 (wrap32 a)) = vr at *
 obtain ⟨an, v2⟩ := vr
 simp only at *
 clear h ha hsz
 go_enter Tryz.func16, Tryz.ntmps16
 go_wp2_with fail
 refine HC.out.mono ?_
 rintro e w1 ⟨rfl, hv⟩
 have HV := Go.Lib.hid hv
 clear hv
 go_wp2_with fail
 go_ret2
 exact ⟨rfl, HV.out⟩
set_option maxHeartbeats 1000000 in
set_option maxRecDepth 100000 in
theorem call_24 (h : StoreV base W s v F) (a : Int) (ha : 0 ≤ a ∧ a < 4294967296) (b : Nat) (hb : b < 4294967296) (nm : ByteArray) (hsz : nm.size ≤ maxLen) :
  Calls Tryz.prog 16 #[.pointer (some ⟨s, 0, none⟩), .int .i64 24, .int .u32 a, .int .u32 b, .string nm] W (VPost base s F (.tuple #[.int .u32 (0), .bool (decide ((v.write (sg a) [UInt8.ofNat b]).1 ≠ 0))]) ((v.write (sg a) [UInt8.ofNat b]).2) W) := by
 have HC := Go.Lib.hid (write_v h (sg a) (UInt8.ofNat b))
 unfold sg at *
 unfold ptr at HC
 have hby : ((UInt8.ofNat b).toNat : Int) = (b : Int) % 256 := by simp [UInt8.toNat_ofNat']
 rw [hby] at HC
 clear hby
 generalize v.write (wrap64 (wrap32 a)) [UInt8.ofNat b] = vr at *
 obtain ⟨an, v2⟩ := vr
 simp only at *
 have Hz := Go.Lib.hid (show ((an : Int) != 0) = decide (an ≠ 0) by by_cases h0 : an = 0 <;> simp [h0])
 clear h ha hsz
 go_enter Tryz.func16, Tryz.ntmps16
 go_wp2_with fail
 refine HC.out.mono ?_
 rintro e w1 ⟨rfl, hv⟩
 have HV := Go.Lib.hid hv
 clear hv
 go_wp2_with fail
 refine (num_c _ _).mono ?_
 rintro e w2 ⟨rfl, rfl⟩
 go_wp2_with fail
 go_ret2
 exact ⟨by rw [← Hz.out]; rfl, HV.out⟩
set_option maxHeartbeats 1000000 in
set_option maxRecDepth 100000 in
theorem call_25 (h : StoreV base W s v F) (a : Int) (ha : 0 ≤ a ∧ a < 4294967296) (b : Nat) (hb : b < 4294967296) (nm : ByteArray) (hsz : nm.size ≤ maxLen) :
  Calls Tryz.prog 16 #[.pointer (some ⟨s, 0, none⟩), .int .i64 25, .int .u32 a, .int .u32 b, .string nm] W (VPost base s F (.tuple #[.int .u32 (0), .bool (decide ((v.write (sg a) (bytesOfWord b)).1 ≠ 0))]) ((v.write (sg a) (bytesOfWord b)).2) W) := by
 have HC := Go.Lib.hid (writeWord_v h (sg a) b hb)
 unfold sg at *
 unfold ptr at HC
 generalize v.write (wrap64 (wrap32 a)) (bytesOfWord b) = vr at *
 obtain ⟨an, v2⟩ := vr
 simp only at *
 have Hz := Go.Lib.hid (show ((an : Int) != 0) = decide (an ≠ 0) by by_cases h0 : an = 0 <;> simp [h0])
 clear h ha hsz
 go_enter Tryz.func16, Tryz.ntmps16
 go_wp2_with fail
 refine HC.out.mono ?_
 rintro e w1 ⟨rfl, hv⟩
 have HV := Go.Lib.hid hv
 clear hv
 go_wp2_with fail
 refine (num_c _ _).mono ?_
 rintro e w2 ⟨rfl, rfl⟩
 go_wp2_with fail
 go_ret2
 exact ⟨by rw [← Hz.out]; rfl, HV.out⟩
set_option maxHeartbeats 1000000 in
set_option maxRecDepth 100000 in
theorem call_26 (h : StoreV base W s v F) (a : Int) (ha : 0 ≤ a ∧ a < 4294967296) (b : Nat) (hb : b < 4294967296) (nm : ByteArray) (hsz : nm.size ≤ maxLen) :
  Calls Tryz.prog 16 #[.pointer (some ⟨s, 0, none⟩), .int .i64 26, .int .u32 a, .int .u32 b, .string nm] W (VPost base s F (.tuple #[.int .u32 (0), .bool (false)]) (v.seek (sg a) b) W) := by
 have HC := Go.Lib.hid (seek_v h (sg a) b hb)
 unfold sg at *
 unfold ptr at HC
 generalize v.seek (wrap64 (wrap32 a)) b = v2 at *
 clear h ha hsz
 go_enter Tryz.func16, Tryz.ntmps16
 go_wp2_with fail
 refine HC.out.mono ?_
 rintro e w1 ⟨rfl, hv⟩
 have HV := Go.Lib.hid hv
 clear hv
 go_wp2_with fail
 go_ret2
 exact ⟨rfl, HV.out⟩
set_option maxHeartbeats 1000000 in
set_option maxRecDepth 100000 in
theorem call_27 (h : StoreV base W s v F) (a : Int) (ha : 0 ≤ a ∧ a < 4294967296) (b : Nat) (hb : b < 4294967296) (nm : ByteArray) (hsz : nm.size ≤ maxLen) :
  Calls Tryz.prog 16 #[.pointer (some ⟨s, 0, none⟩), .int .i64 27, .int .u32 a, .int .u32 b, .string nm] W (VPost base s F (.tuple #[.int .u32 (0), .bool (decide ((v.register (sg a)).1 ≠ 0))]) ((v.register (sg a)).2) W) := by
 have HC := Go.Lib.hid (register_v h (sg a))
 unfold sg at *
 unfold ptr at HC
 generalize v.register (wrap64 (wrap32 a)) = vr at *
 obtain ⟨an, v2⟩ := vr
 simp only at *
 have Hz := Go.Lib.hid (show ((an : Int) != 0) = decide (an ≠ 0) by by_cases h0 : an = 0 <;> simp [h0])
 clear h ha hsz
 go_enter Tryz.func16, Tryz.ntmps16
 go_wp2_with fail
 refine HC.out.mono ?_
 rintro e w1 ⟨rfl, hv⟩
 have HV := Go.Lib.hid hv
 clear hv
 go_wp2_with fail
 refine (num_c _ _).mono ?_
 rintro e w2 ⟨rfl, rfl⟩
 go_wp2_with fail
 go_ret2
 exact ⟨by rw [← Hz.out]; rfl, HV.out⟩
set_option maxHeartbeats 1000000 in
set_option maxRecDepth 100000 in
theorem call_28 (h : StoreV base W s v F) (a : Int) (ha : 0 ≤ a ∧ a < 4294967296) (b : Nat) (hb : b < 4294967296) (nm : ByteArray) (hsz : nm.size ≤ maxLen) :
  Calls Tryz.prog 16 #[.pointer (some ⟨s, 0, none⟩), .int .i64 28, .int .u32 a, .int .u32 b, .string nm] W (VPost base s F (.tuple #[.int .u32 (0), .bool (false)]) (v.del nm) W) := by
 have HC := Go.Lib.hid (delete_v h nm)
 unfold sg at *
 unfold ptr at HC
 clear h ha hsz
 go_enter Tryz.func16, Tryz.ntmps16
 go_wp2_with fail
 refine HC.out.mono ?_
 rintro e w1 ⟨rfl, hv⟩
 have HV := Go.Lib.hid hv
 clear hv
 go_wp2_with fail
 go_ret2
 exact ⟨rfl, HV.out⟩
theorem call_c (h : StoreV base W s v F) (n : Nat) (hn : 18 ≤ n ∧ n ≤ 28) (a : Int) (ha : 0 ≤ a ∧ a < 4294967296) (b : Nat) (hb : b < 4294967296) (nm : ByteArray) (hsz : nm.size ≤ maxLen) :
  Calls Tryz.prog 16 #[.pointer (some ⟨s, 0, none⟩), .int .i64 n, .int .u32 a, .int .u32 b, .string nm] W (VPost base s F (.tuple #[.int .u32 (callF v n (sg a) b nm).1, .bool (callF v n (sg a) b nm).2.1]) (callF v n (sg a) b nm).2.2 W) := by
 have hc : n = 18 ∨ n = 19 ∨ n = 20 ∨ n = 21 ∨ n = 22 ∨ n = 23 ∨ n = 24 ∨ n = 25 ∨ n = 26 ∨ n = 27 ∨ n = 28 := by omega
 rcases hc with rfl | rfl | rfl | rfl | rfl | rfl | rfl | rfl | rfl | rfl | rfl
 ·exact call_18 h a ha b hb nm hsz
 ·exact call_19 h a ha b hb nm hsz
 ·exact call_20 h a ha b hb nm hsz
 ·exact call_21 h a ha b hb nm hsz
 ·exact call_22 h a ha b hb nm hsz
 ·exact call_23 h a ha b hb nm hsz
 ·exact call_24 h a ha b hb nm hsz
 ·exact call_25 h a ha b hb nm hsz
 ·exact call_26 h a ha b hb nm hsz
 ·exact call_27 h a ha b hb nm hsz
 ·exact call_28 h a ha b hb nm hsz
set_option maxRecDepth 100000 in
set_option maxHeartbeats 2000000 in
theorem upTo_c (n : ByteArray) (hn : n.size ≤ maxLen) (W : World) : Calls Tryz.prog 17 #[.string n] W (Quiet (.string (cut0 n)) W) := by
 unfold maxLen at hn
 go_enter Tryz.func17, Tryz.ntmps17
 go_wp2_with fail
 go_loopw [3] (fun i wr => ∃ k : Nat, k ≤ n.size ∧ i = .int .i64 k ∧ (∀ j, j < k → ∀ h : j < n.size, n[j] ≠ 0) ∧ wr = W) (fun i _ => n.size - (intOf i).toNat)
 case atStart => exact ⟨0, Nat.zero_le _, rfl, fun _ h => absurd h (by omega), rfl⟩
 case round =>
  obtain ⟨k, hk, rfl, hall, rfl⟩ := hrel
  have Hall := Go.Lib.hid hall
  clear hall
  by_cases hlt : k < n.size
  ·by_cases hz : n[k] = 0
   ·have hzz : ((n[k].toNat : Int) == 0) = true := by rw [hz]; rfl
    have Hz := Go.Lib.hid hz
    clear hz
    go_wp2_with fail
    go_ret
    exact ⟨by rw [cut0_at n hlt Hall.out Hz.out]; rfl, Chg.refl _ _⟩
   ·have hzz : ((n[k].toNat : Int) == 0) = false := by
     rw [beq_eq_false_iff_ne]
     intro e
     exact hz (UInt8.toNat_inj.1 (by simpa using e))
    have Hz := Go.Lib.hid hz
    clear hz
    go_wp2_with fail
    go_roundw
    case rel => exact ⟨k + 1, by omega, by go_num, fun j hj h => by
     by_cases e : j = k
     ·subst e; exact Hz.out
     ·exact Hall.out j (by omega) h, trivial⟩
    case measure => simp [intOf]; omega
  ·go_wp2_with fail
   go_ret
   exact ⟨by rw [cut0_all n (fun j hj h => Hall.out j (by omega) h)]; rfl, Chg.refl _ _⟩
end
end Go.Proofs.YtggknljlibhkjaaGreat
set_option linter.unusedSimpArgs false
set_option linter.unusedVariables false
namespace Go.Proofs.YtggknljlibhkjaaGreat
open Go Go.RowKit
theorem run_text {w : World} {A : Option Addr} {l : List UInt8} {c n : Nat} (hn : l.length = n) (h : CellsAt w A (bv l)) : (convert 44 9 (.slice A n c)).run Tryz.prog w = .ok (.string ⟨l.toArray⟩) w := by
 cases l with
 | nil =>
  subst hn
  rw [List.length_nil, run_convert_bytes_string w _ _ _ A 0 c Tryz.underlying44 Tryz.underlying5 Tryz.underlying9]
  cases A with
  | none => simp [Conv.bytesToString]; rfl
  | some ad =>
   have := run_bytesToString (P := Tryz.prog) w ad 0 c [] (by simpa using run_loadCells_list (P := Tryz.prog) w ad [] (by simp))
   exact this
 | cons b l' =>
  obtain ⟨ad, rfl, hc⟩ := h (by simp [bv])
  have hl := run_loadCells_list (P := Tryz.prog) w ad (bv (b :: l')) (fun j v hj => hc j v hj)
  have e : bv (b :: l') = ((b :: l').map fun c => (c.toNat : Int)).map (Value.int .u8) := by simp [bv]
  rw [run_convert_bytes_string w _ _ _ (some ad) n c Tryz.underlying44 Tryz.underlying5 Tryz.underlying9, run_bytesToString w ad n c ((b :: l').map fun c => (c.toNat : Int)) (by rw [← e, ← hn, show (b :: l').length = (bv (b :: l')).length from (bv_length _).symm]; exact hl), foldl_push_bytes]
  simp [ByteArray.empty, ByteArray.emptyWithCapacity, Function.comp_def]
  rfl
structure MS (W : World) (p mb s mm : Nat) (d : Mc) (v : V) (base : Nat) (F : Nat → Prop) : Prop where
 m : MAt W p mb s mm d
 s : StoreV base W s v F
 ne : ∀ k, F k → k ≠ p ∧ k ≠ mb ∧ k ≠ mm
def SPost (p mb s mm base : Nat) (F : Nat → Prop) (r : Value) (d' : Mc) (v' : V) (W : World) (e : Ending) (W' : World) : Prop :=
 e = .returned r ∧ MAt W' p mb s mm d' ∧ ∃ F', MS W' p mb s mm d' v' base F' ∧ Chg (fun k => F k ∨ memF p mb k) W W' ∧ ∀ k, F' k → k < W.heap.size → F k
section
variable {W W' : World} {p mb s mm base : Nat} {d : Mc} {v : V} {F : Nat → Prop}
theorem MS.quiet (h : MS W p mb s mm d v base F) (hc : Chg NoB W W') : MS W' p mb s mm d v base F := ⟨h.m.quiet hc, h.s.quiet hc, h.ne⟩
theorem MS.of {r r' : Value} {v' : V} {e : Ending} (h : MS W p mb s mm d v base F) (hv : VPost base s F r v' W e W') : SPost p mb s mm base F r' d v' W (.returned r') W' := by
 obtain ⟨he, F', h1, h2, h3⟩ := hv
 have hl := h.m.lt
 have hm := h.m.chg h2 (fun hF => (h.ne _ hF).1 rfl) (fun hF => (h.ne _ hF).2.1 rfl) (fun hF => (h.ne _ hF).2.2 rfl)
 refine ⟨rfl, hm, F', ⟨hm, h1, fun k hk => ?_⟩, h2.mono fun _ _ h => .inl h, h3⟩
 rcases Nat.lt_or_ge k W.heap.size with hlt | hge
 ·exact h.ne k (h3 k hk hlt)
 ·omega
theorem SPost.res {r r2 : Value} {d' : Mc} {v' : V} {w2 : World} (h : SPost p mb s mm base F r d' v' W (.returned r) w2) (e : r = r2) : SPost p mb s mm base F r2 d' v' W (.returned r) w2 := by
 obtain ⟨h1, h2⟩ := h
 exact ⟨by rw [e], h2⟩
theorem SPost.from_ {r : Value} {d' : Mc} {v' : V} {e : Ending} (hc : Chg NoB W W') {w2 : World} (h : SPost p mb s mm base F r d' v' W' e w2) : SPost p mb s mm base F r d' v' W e w2 := by
 obtain ⟨h1, h2, F', h3, h4, h5⟩ := h
 have := hc.size
 exact ⟨h1, h2, F', h3, (hc.mono (fun _ _ h => h.elim)).trans h4, fun k hk hl => h5 k hk (by omega)⟩
theorem rider_c (a : Int) (W : World) : Calls Tryz.prog 104 #[.int .u32 a] W (Still (.int .i64 (sg a)) W) := by
 unfold sg at *
 go_enter Tryz.func104, Tryz.ntmps104
 go_wp2_with fail
 go_ret
 exact ⟨rfl, rfl⟩
end
section
variable {W W' w1 : World} {p mb s mm base : Nat} {d d2 : Mc} {v v' : V} {F : Nat → Prop}
theorem SPost.mem {r r2 : Value} {e : Ending} (h : SPost p mb s mm base F r d v' W e w1) (hm : MAt W' p mb s mm d2) (hc : Chg (memF p mb) w1 W') : SPost p mb s mm base F r2 d2 v' W (.returned r2) W' := by
 obtain ⟨h1, h2, F', h3, h4, h5⟩ := h
 refine ⟨rfl, hm, F', ⟨hm, h3.s.chg hc (fun k hk hx => hx.elim (h3.ne k hk).1 (h3.ne k hk).2.1), h3.ne⟩, h4.trans (hc.mono fun _ _ h => .inr h), h5⟩
theorem mfull_c (h : MAt W p mb s mm d) (x : Int) : Calls Tryz.prog 105 #[.pointer (some ⟨p, 0, none⟩), .int .i64 x] W fun e w' => e = .returned (.tuple #[.int .u32 0, .bool false]) ∧ MAt w' p mb s mm (if x = 0 then d else { d with kind := 5, code := 0 }) ∧ Chg (memF p mb) W w' := by
 have H := Go.Lib.hid h
 have HE := Go.Lib.hid (mend_c h 5 0)
 clear h
 by_cases hx : x = 0
 ·subst hx
  go_enter Tryz.func105, Tryz.ntmps105
  go_wp2_with fail
  go_ret2
  exact ⟨rfl, H.out, Chg.refl _ _⟩
 ·rw [if_neg hx]
  have hb : (x == 0) = false := by simpa using hx
  clear hx
  go_enter Tryz.func105, Tryz.ntmps105
  go_wp2_with fail
  refine HE.out.mono ?_
  rintro e w1 ⟨rfl, h1, h2⟩
  have HH := Go.Lib.hid (And.intro h1 h2)
  clear h1 h2
  go_wp2_with fail
  go_ret2
  exact ⟨rfl, HH.out.1, HH.out.2⟩
end
section
variable {W : World} {p mb s mm base : Nat} {d : Mc} {v : V} {F : Nat → Prop}
set_option maxHeartbeats 1000000 in
set_option maxRecDepth 100000 in
theorem mlength_c (h : MS W p mb s mm d v base F) (a : Int) (b : Int) : Calls Tryz.prog 65 #[.pointer (some ⟨p, 0, none⟩), .int .u32 a, .int .u32 b] W (SPost p mb s mm base F (.tuple #[.int .u32 ((v.length (sg a) : Int) % 4294967296), .bool true]) d (v) W) := by
 have H := Go.Lib.hid (h.quiet (Chg.refl NoB W).drew)
 have HC := Go.Lib.hid (length_v (h.quiet (Chg.refl NoB W).drew).s (sg a))
 obtain ⟨_, _, _, k24, _⟩ := h.m.cells
 have K24 := Go.Lib.hid k24
 clear h k24
 unfold ptr at HC
 have HRI := Go.Lib.hid (fun V => rider_c a V)
 generalize hvl : v.length (sg a) = vl at *
 clear hvl
 generalize sg a = fa at *
 go_enter Tryz.func65, Tryz.ntmps65
 go_wp2_with fail
 refine regionH (fun V' => V'.cell? ⟨p, 24, none⟩ = some (.pointer (some ⟨s, 0, none⟩))) (by kernel_rfl) K24.out (fun hS => ?_)
 refine takeH (i := 0) (t := 8) (v := ?v0y1) rfl (by kernel_rfl) (fun _ _ _ h => h) rfl (Or.inl ⟨by rfl, ?h0y1⟩) hS ?r0y1
 case h0y1 => (intro V' hSw; go_simp; try with_reducible rfl)
 try simp only [sw1, sw2, sw3]
 refine takeH (i := 1) (t := 9) (v := ?v1y2) rfl (by kernel_rfl) (fun _ _ _ h => h) rfl (Or.inl ⟨by rfl, ?h1y2⟩) hS ?r1y2
 case h1y2 => (intro V' hSw; go_simp; try with_reducible rfl)
 try simp only [sw1, sw2, sw3]
 refine takeH (i := 2) (t := 10) (v := ?v2y3) rfl (by kernel_rfl) (fun _ _ _ h => h) rfl (Or.inl ⟨by rfl, ?h2y3⟩) hS ?r2y3
 case h2y3 => (intro V' hSw; go_simp; try with_reducible rfl)
 try simp only [sw1, sw2, sw3]
 refine takeH (i := 3) (t := 11) (v := ?v3y4) rfl (by kernel_rfl) (fun _ _ _ h => h) rfl (Or.inl ⟨by rfl, ?h3y4⟩) hS ?r3y4
 case h3y4 => (intro V' hSw; go_simp; try with_reducible rfl)
 try simp only [sw1, sw2, sw3]
 refine takeH (i := 4) (t := 12) (v := ?v4y5) rfl (by kernel_rfl) (fun _ _ _ h => h) rfl (Or.inl ⟨by rfl, ?h4y5⟩) hS ?r4y5
 case h4y5 => (intro V' hSw; go_simp; try with_reducible rfl)
 try simp only [sw1, sw2, sw3]
 refine manyH (i := 5) (l := []) (by kernel_rfl) ?hm
 case hm =>
  intro j hj
  obtain rfl : j = 5 := by simpa using hj
  refine opCallH (t := 13) (f := 104) (args := #[.int .u32 a]) rfl rfl (by rfl) ?hx ?hc
  case hx => (go_simp; try rfl)
  case hc =>
   refine (HRI.out _).mono ?_
   rintro ee wq ⟨rfl, rfl⟩
   refine ⟨_, rfl, hS, ?_⟩
   try simp only [sw1, sw2, sw3]
   refine manyH (i := 6) (l := []) (by kernel_rfl) ?hm
   case hm =>
    intro j hj
    obtain rfl : j = 6 := by simpa using hj
    refine opCallH (t := 14) (f := 47) (args := #[.pointer (some ⟨s, 0, none⟩), .int .i64 fa]) rfl rfl (by rfl) ?hx ?hc
    case hx => (go_simp; try rfl)
    case hc =>
     refine HC.out.mono ?_
     rintro ee w1 hv
     have hP := H.out.of (r' := .tuple #[.int .u32 (IntKind.u32.wrap (vl : Int)), .bool true]) hv
     obtain ⟨rfl, hv2⟩ := hv
     have HP := Go.Lib.hid hP
     have hS : w1.cell? ⟨p, 24, none⟩ = some (.pointer (some ⟨s, 0, none⟩)) := hP.2.1.cells.2.2.2.1
     clear hP hv2
     refine ⟨_, rfl, hS, ?_⟩
     try simp only [sw1, sw2, sw3]
     refine takeH (i := 7) (t := 15) (v := ?v7y6) rfl (by kernel_rfl) (fun _ _ _ h => h) rfl (Or.inl ⟨by rfl, ?h7y6⟩) hS ?r7y6
     case h7y6 => (intro V' hSw; go_simp; try with_reducible rfl)
     try simp only [sw1, sw2, sw3]
     refine takeH (i := 8) (t := 6) (v := ?v8y7) rfl (by kernel_rfl) (fun _ _ _ h => h) rfl (Or.inl ⟨by rfl, ?h8y7⟩) hS ?r8y7
     case h8y7 => (intro V' hSw; go_simp; try with_reducible rfl)
     try simp only [sw1, sw2, sw3]
     refine takeH (i := 9) (t := 7) (v := ?v9y8) rfl (by kernel_rfl) (fun _ _ _ h => h) rfl (Or.inl ⟨by rfl, ?h9y8⟩) hS ?r9y8
     case h9y8 => (intro V' hSw; go_simp; try with_reducible rfl)
     try simp only [sw1, sw2, sw3]
     refine wpAnyH_done (by kernel_rfl) ?_ _
     clear hS
     go_wp2_with fail
     go_ret2
     exact (HP.out.from_ (Chg.refl NoB W).drew).res (by rw [IntKind.wrap_u32])
set_option maxHeartbeats 1000000 in
set_option maxRecDepth 100000 in
theorem mread_c (h : MS W p mb s mm d v base F) (a : Int) (b : Int) : Calls Tryz.prog 66 #[.pointer (some ⟨p, 0, none⟩), .int .u32 a, .int .u32 b] W (SPost p mb s mm base F (.tuple #[.int .u32 ((v.read (sg a)).1.toNat : Int), .bool true]) d ((v.read (sg a)).2) W) := by
 have H := Go.Lib.hid (h.quiet (Chg.refl NoB W).drew)
 have HC := Go.Lib.hid (read_v (h.quiet (Chg.refl NoB W).drew).s (sg a))
 obtain ⟨_, _, _, k24, _⟩ := h.m.cells
 have K24 := Go.Lib.hid k24
 clear h k24
 unfold ptr at HC
 have HRI := Go.Lib.hid (fun V => rider_c a V)
 have hlt := (v.read (sg a)).1.toNat_lt
 generalize v.read (sg a) = vr at *
 obtain ⟨c1, v2⟩ := vr
 simp only at *
 generalize c1.toNat = cn at *
 have hw : (cn : Int) % 4294967296 = cn := by omega
 generalize sg a = fa at *
 go_enter Tryz.func66, Tryz.ntmps66
 go_wp2_with fail
 refine regionH (fun V' => V'.cell? ⟨p, 24, none⟩ = some (.pointer (some ⟨s, 0, none⟩))) (by kernel_rfl) K24.out (fun hS => ?_)
 refine takeH (i := 0) (t := 8) (v := ?v0y9) rfl (by kernel_rfl) (fun _ _ _ h => h) rfl (Or.inl ⟨by rfl, ?h0y9⟩) hS ?r0y9
 case h0y9 => (intro V' hSw; go_simp; try with_reducible rfl)
 try simp only [sw1, sw2, sw3]
 refine takeH (i := 1) (t := 9) (v := ?v1y10) rfl (by kernel_rfl) (fun _ _ _ h => h) rfl (Or.inl ⟨by rfl, ?h1y10⟩) hS ?r1y10
 case h1y10 => (intro V' hSw; go_simp; try with_reducible rfl)
 try simp only [sw1, sw2, sw3]
 refine takeH (i := 2) (t := 10) (v := ?v2y11) rfl (by kernel_rfl) (fun _ _ _ h => h) rfl (Or.inl ⟨by rfl, ?h2y11⟩) hS ?r2y11
 case h2y11 => (intro V' hSw; go_simp; try with_reducible rfl)
 try simp only [sw1, sw2, sw3]
 refine takeH (i := 3) (t := 11) (v := ?v3y12) rfl (by kernel_rfl) (fun _ _ _ h => h) rfl (Or.inl ⟨by rfl, ?h3y12⟩) hS ?r3y12
 case h3y12 => (intro V' hSw; go_simp; try with_reducible rfl)
 try simp only [sw1, sw2, sw3]
 refine takeH (i := 4) (t := 12) (v := ?v4y13) rfl (by kernel_rfl) (fun _ _ _ h => h) rfl (Or.inl ⟨by rfl, ?h4y13⟩) hS ?r4y13
 case h4y13 => (intro V' hSw; go_simp; try with_reducible rfl)
 try simp only [sw1, sw2, sw3]
 refine manyH (i := 5) (l := []) (by kernel_rfl) ?hm
 case hm =>
  intro j hj
  obtain rfl : j = 5 := by simpa using hj
  refine opCallH (t := 13) (f := 104) (args := #[.int .u32 a]) rfl rfl (by rfl) ?hx ?hc
  case hx => (go_simp; try rfl)
  case hc =>
   refine (HRI.out _).mono ?_
   rintro ee wq ⟨rfl, rfl⟩
   refine ⟨_, rfl, hS, ?_⟩
   try simp only [sw1, sw2, sw3]
   refine manyH (i := 6) (l := []) (by kernel_rfl) ?hm
   case hm =>
    intro j hj
    obtain rfl : j = 6 := by simpa using hj
    refine opCallH (t := 14) (f := 48) (args := #[.pointer (some ⟨s, 0, none⟩), .int .i64 fa]) rfl rfl (by rfl) ?hx ?hc
    case hx => (go_simp; try rfl)
    case hc =>
     refine HC.out.mono ?_
     rintro ee w1 hv
     have hP := H.out.of (r' := .tuple #[.int .u32 (IntKind.u32.wrap (cn : Int)), .bool true]) hv
     obtain ⟨rfl, hv2⟩ := hv
     have HP := Go.Lib.hid hP
     have hS : w1.cell? ⟨p, 24, none⟩ = some (.pointer (some ⟨s, 0, none⟩)) := hP.2.1.cells.2.2.2.1
     clear hP hv2
     refine ⟨_, rfl, hS, ?_⟩
     try simp only [sw1, sw2, sw3]
     refine takeH (i := 7) (t := 15) (v := ?v7y14) rfl (by kernel_rfl) (fun _ _ _ h => h) rfl (Or.inl ⟨by rfl, ?h7y14⟩) hS ?r7y14
     case h7y14 => (intro V' hSw; go_simp; try with_reducible rfl)
     try simp only [sw1, sw2, sw3]
     refine takeH (i := 8) (t := 6) (v := ?v8y15) rfl (by kernel_rfl) (fun _ _ _ h => h) rfl (Or.inl ⟨by rfl, ?h8y15⟩) hS ?r8y15
     case h8y15 => (intro V' hSw; go_simp; try with_reducible rfl)
     try simp only [sw1, sw2, sw3]
     refine takeH (i := 9) (t := 7) (v := ?v9y16) rfl (by kernel_rfl) (fun _ _ _ h => h) rfl (Or.inl ⟨by rfl, ?h9y16⟩) hS ?r9y16
     case h9y16 => (intro V' hSw; go_simp; try with_reducible rfl)
     try simp only [sw1, sw2, sw3]
     refine wpAnyH_done (by kernel_rfl) ?_ _
     clear hS
     go_wp2_with fail
     go_ret2
     exact (HP.out.from_ (Chg.refl NoB W).drew).res (by rw [IntKind.wrap_u32, hw])
set_option maxHeartbeats 1000000 in
set_option maxRecDepth 100000 in
theorem mreadWord_c (h : MS W p mb s mm d v base F) (a : Int) (b : Int) : Calls Tryz.prog 67 #[.pointer (some ⟨p, 0, none⟩), .int .u32 a, .int .u32 b] W (SPost p mb s mm base F (.tuple #[.int .u32 ((v.readWord (sg a)).1 : Int), .bool true]) d ((v.readWord (sg a)).2) W) := by
 have H := Go.Lib.hid (h.quiet (Chg.refl NoB W).drew)
 have HC := Go.Lib.hid (readWord_v (h.quiet (Chg.refl NoB W).drew).s (sg a))
 obtain ⟨_, _, _, k24, _⟩ := h.m.cells
 have K24 := Go.Lib.hid k24
 clear h k24
 unfold ptr at HC
 have HRI := Go.Lib.hid (fun V => rider_c a V)
 generalize v.readWord (sg a) = vr at *
 obtain ⟨cn, v2⟩ := vr
 simp only at *
 generalize sg a = fa at *
 go_enter Tryz.func67, Tryz.ntmps67
 go_wp2_with fail
 refine regionH (fun V' => V'.cell? ⟨p, 24, none⟩ = some (.pointer (some ⟨s, 0, none⟩))) (by kernel_rfl) K24.out (fun hS => ?_)
 refine takeH (i := 0) (t := 8) (v := ?v0y17) rfl (by kernel_rfl) (fun _ _ _ h => h) rfl (Or.inl ⟨by rfl, ?h0y17⟩) hS ?r0y17
 case h0y17 => (intro V' hSw; go_simp; try with_reducible rfl)
 try simp only [sw1, sw2, sw3]
 refine takeH (i := 1) (t := 9) (v := ?v1y18) rfl (by kernel_rfl) (fun _ _ _ h => h) rfl (Or.inl ⟨by rfl, ?h1y18⟩) hS ?r1y18
 case h1y18 => (intro V' hSw; go_simp; try with_reducible rfl)
 try simp only [sw1, sw2, sw3]
 refine takeH (i := 2) (t := 10) (v := ?v2y19) rfl (by kernel_rfl) (fun _ _ _ h => h) rfl (Or.inl ⟨by rfl, ?h2y19⟩) hS ?r2y19
 case h2y19 => (intro V' hSw; go_simp; try with_reducible rfl)
 try simp only [sw1, sw2, sw3]
 refine takeH (i := 3) (t := 11) (v := ?v3y20) rfl (by kernel_rfl) (fun _ _ _ h => h) rfl (Or.inl ⟨by rfl, ?h3y20⟩) hS ?r3y20
 case h3y20 => (intro V' hSw; go_simp; try with_reducible rfl)
 try simp only [sw1, sw2, sw3]
 refine takeH (i := 4) (t := 12) (v := ?v4y21) rfl (by kernel_rfl) (fun _ _ _ h => h) rfl (Or.inl ⟨by rfl, ?h4y21⟩) hS ?r4y21
 case h4y21 => (intro V' hSw; go_simp; try with_reducible rfl)
 try simp only [sw1, sw2, sw3]
 refine manyH (i := 5) (l := []) (by kernel_rfl) ?hm
 case hm =>
  intro j hj
  obtain rfl : j = 5 := by simpa using hj
  refine opCallH (t := 13) (f := 104) (args := #[.int .u32 a]) rfl rfl (by rfl) ?hx ?hc
  case hx => (go_simp; try rfl)
  case hc =>
   refine (HRI.out _).mono ?_
   rintro ee wq ⟨rfl, rfl⟩
   refine ⟨_, rfl, hS, ?_⟩
   try simp only [sw1, sw2, sw3]
   refine manyH (i := 6) (l := []) (by kernel_rfl) ?hm
   case hm =>
    intro j hj
    obtain rfl : j = 6 := by simpa using hj
    refine opCallH (t := 14) (f := 49) (args := #[.pointer (some ⟨s, 0, none⟩), .int .i64 fa]) rfl rfl (by rfl) ?hx ?hc
    case hx => (go_simp; try rfl)
    case hc =>
     refine HC.out.mono ?_
     rintro ee w1 hv
     have hP := H.out.of (r' := .tuple #[.int .u32 (cn : Int), .bool true]) hv
     obtain ⟨rfl, hv2⟩ := hv
     have HP := Go.Lib.hid hP
     have hS : w1.cell? ⟨p, 24, none⟩ = some (.pointer (some ⟨s, 0, none⟩)) := hP.2.1.cells.2.2.2.1
     clear hP hv2
     refine ⟨_, rfl, hS, ?_⟩
     try simp only [sw1, sw2, sw3]
     refine takeH (i := 7) (t := 6) (v := ?v7y22) rfl (by kernel_rfl) (fun _ _ _ h => h) rfl (Or.inl ⟨by rfl, ?h7y22⟩) hS ?r7y22
     case h7y22 => (intro V' hSw; go_simp; try with_reducible rfl)
     try simp only [sw1, sw2, sw3]
     refine takeH (i := 8) (t := 7) (v := ?v8y23) rfl (by kernel_rfl) (fun _ _ _ h => h) rfl (Or.inl ⟨by rfl, ?h8y23⟩) hS ?r8y23
     case h8y23 => (intro V' hSw; go_simp; try with_reducible rfl)
     try simp only [sw1, sw2, sw3]
     refine wpAnyH_done (by kernel_rfl) ?_ _
     clear hS
     go_wp2_with fail
     go_ret2
     exact HP.out.from_ (Chg.refl NoB W).drew
set_option maxHeartbeats 1000000 in
set_option maxRecDepth 100000 in
theorem mwrite_c (h : MS W p mb s mm d v base F) (a : Int) (b : Nat) : Calls Tryz.prog 68 #[.pointer (some ⟨p, 0, none⟩), .int .u32 a, .int .u32 b] W (SPost p mb s mm base F (.tuple #[.int .u32 0, .bool false]) (if ((v.write (sg a) [UInt8.ofNat b]).1 : Int) = 0 then d else { d with kind := 5, code := 0 }) ((v.write (sg a) [UInt8.ofNat b]).2) W) := by
 have H := Go.Lib.hid (h.quiet (Chg.refl NoB W).drew)
 have HC := Go.Lib.hid (write_v (h.quiet (Chg.refl NoB W).drew).s (sg a) (UInt8.ofNat b))
 obtain ⟨_, _, _, k24, _⟩ := h.m.cells
 have K24 := Go.Lib.hid k24
 clear h k24
 unfold ptr at HC
 have HRI := Go.Lib.hid (fun V => rider_c a V)
 have hby : ((UInt8.ofNat b).toNat : Int) = (b : Int) % 256 := by simp [UInt8.toNat_ofNat']
 rw [hby] at HC
 clear hby
 generalize v.write (sg a) [UInt8.ofNat b] = vr at *
 obtain ⟨an, v2⟩ := vr
 simp only at *
 obtain ⟨D2, hD2⟩ : ∃ D2, (if (an : Int) = 0 then d else { d with kind := 5, code := 0 }) = D2 := ⟨_, rfl⟩
 rw [hD2]
 have HD2 := Go.Lib.hid hD2
 clear hD2
 generalize sg a = fa at *
 go_enter Tryz.func68, Tryz.ntmps68
 go_wp2_with fail
 refine regionH (fun V' => V'.cell? ⟨p, 24, none⟩ = some (.pointer (some ⟨s, 0, none⟩))) (by kernel_rfl) K24.out (fun hS => ?_)
 refine takeH (i := 0) (t := 8) (v := ?v0y24) rfl (by kernel_rfl) (fun _ _ _ h => h) rfl (Or.inl ⟨by rfl, ?h0y24⟩) hS ?r0y24
 case h0y24 => (intro V' hSw; go_simp; try with_reducible rfl)
 try simp only [sw1, sw2, sw3]
 refine takeH (i := 1) (t := 9) (v := ?v1y25) rfl (by kernel_rfl) (fun _ _ _ h => h) rfl (Or.inl ⟨by rfl, ?h1y25⟩) hS ?r1y25
 case h1y25 => (intro V' hSw; go_simp; try with_reducible rfl)
 try simp only [sw1, sw2, sw3]
 refine takeH (i := 2) (t := 10) (v := ?v2y26) rfl (by kernel_rfl) (fun _ _ _ h => h) rfl (Or.inl ⟨by rfl, ?h2y26⟩) hS ?r2y26
 case h2y26 => (intro V' hSw; go_simp; try with_reducible rfl)
 try simp only [sw1, sw2, sw3]
 refine takeH (i := 3) (t := 11) (v := ?v3y27) rfl (by kernel_rfl) (fun _ _ _ h => h) rfl (Or.inl ⟨by rfl, ?h3y27⟩) hS ?r3y27
 case h3y27 => (intro V' hSw; go_simp; try with_reducible rfl)
 try simp only [sw1, sw2, sw3]
 refine takeH (i := 4) (t := 12) (v := ?v4y28) rfl (by kernel_rfl) (fun _ _ _ h => h) rfl (Or.inl ⟨by rfl, ?h4y28⟩) hS ?r4y28
 case h4y28 => (intro V' hSw; go_simp; try with_reducible rfl)
 try simp only [sw1, sw2, sw3]
 refine takeH (i := 5) (t := 13) (v := ?v5y29) rfl (by kernel_rfl) (fun _ _ _ h => h) rfl (Or.inl ⟨by rfl, ?h5y29⟩) hS ?r5y29
 case h5y29 => (intro V' hSw; go_simp; try with_reducible rfl)
 try simp only [sw1, sw2, sw3]
 refine takeH (i := 7) (t := 15) (v := ?v7y30) rfl (by kernel_rfl) (fun _ _ _ h => h) rfl (Or.inl ⟨by rfl, ?h7y30⟩) hS ?r7y30
 case h7y30 => (intro V' hSw; go_simp; try with_reducible rfl)
 try simp only [sw1, sw2, sw3]
 refine takeH (i := 8) (t := 16) (v := ?v8y31) rfl (by kernel_rfl) (fun _ _ _ h => h) rfl (Or.inl ⟨by rfl, ?h8y31⟩) hS ?r8y31
 case h8y31 => (intro V' hSw; go_simp; try with_reducible rfl)
 try simp only [sw1, sw2, sw3]
 refine manyH (i := 6) (l := []) (by kernel_rfl) ?hm
 case hm =>
  intro j hj
  obtain rfl : j = 6 := by simpa using hj
  refine opCallH (t := 14) (f := 104) (args := #[.int .u32 a]) rfl rfl (by rfl) ?hx ?hc
  case hx => (go_simp; try rfl)
  case hc =>
   refine (HRI.out _).mono ?_
   rintro ee wq ⟨rfl, rfl⟩
   refine ⟨_, rfl, hS, ?_⟩
   try simp only [sw1, sw2, sw3]
   refine manyH (i := 9) (l := []) (by kernel_rfl) ?hm
   case hm =>
    intro j hj
    obtain rfl : j = 9 := by simpa using hj
    refine opCallH (t := 17) (f := 50) (args := #[.pointer (some ⟨s, 0, none⟩), .int .i64 fa, .int .u8 ((b : Int) % 256)]) rfl rfl (by rfl) ?hx ?hc
    case hx => (go_simp; try rfl)
    case hc =>
     refine HC.out.mono ?_
     rintro ee w1 hv
     have hP := H.out.of (r' := .tuple #[]) hv
     obtain ⟨rfl, hv2⟩ := hv
     have HP := Go.Lib.hid hP
     have hS : w1.cell? ⟨p, 24, none⟩ = some (.pointer (some ⟨s, 0, none⟩)) := hP.2.1.cells.2.2.2.1
     clear hP hv2
     refine ⟨_, rfl, hS, ?_⟩
     try simp only [sw1, sw2, sw3]
     refine manyH (i := 10) (l := []) (by kernel_rfl) ?hm
     case hm =>
      intro j hj
      obtain rfl : j = 10 := by simpa using hj
      refine opCallH (t := 18) (f := 105) (args := #[.pointer (some ⟨p, 0, none⟩), .int .i64 (an : Nat)]) rfl rfl (by rfl) ?hx ?hc
      case hx => (go_simp; try rfl)
      case hc =>
       refine (mfull_c HP.out.2.1 _).mono ?_
       rintro ee w2 ⟨rfl, hm, hc⟩
       have hS : w2.cell? ⟨p, 24, none⟩ = some (.pointer (some ⟨s, 0, none⟩)) := hm.cells.2.2.2.1
       have HP2 := Go.Lib.hid (HP.out.mem (r2 := .tuple #[.int .u32 0, .bool false]) hm hc)
       clear hm hc
       refine ⟨_, rfl, hS, ?_⟩
       try simp only [sw1, sw2, sw3]
       refine takeH (i := 11) (t := 19) (v := ?v11y32) rfl (by kernel_rfl) (fun _ _ _ h => h) rfl (Or.inl ⟨by rfl, ?h11y32⟩) hS ?r11y32
       case h11y32 => (intro V' hSw; go_simp; try with_reducible rfl)
       try simp only [sw1, sw2, sw3]
       refine takeH (i := 12) (t := 20) (v := ?v12y33) rfl (by kernel_rfl) (fun _ _ _ h => h) rfl (Or.inl ⟨by rfl, ?h12y33⟩) hS ?r12y33
       case h12y33 => (intro V' hSw; go_simp; try with_reducible rfl)
       try simp only [sw1, sw2, sw3]
       refine takeH (i := 13) (t := 6) (v := ?v13y34) rfl (by kernel_rfl) (fun _ _ _ h => h) rfl (Or.inl ⟨by rfl, ?h13y34⟩) hS ?r13y34
       case h13y34 => (intro V' hSw; go_simp; try with_reducible rfl)
       try simp only [sw1, sw2, sw3]
       refine takeH (i := 14) (t := 7) (v := ?v14y35) rfl (by kernel_rfl) (fun _ _ _ h => h) rfl (Or.inl ⟨by rfl, ?h14y35⟩) hS ?r14y35
       case h14y35 => (intro V' hSw; go_simp; try with_reducible rfl)
       try simp only [sw1, sw2, sw3]
       refine wpAnyH_done (by kernel_rfl) ?_ _
       clear hS
       go_wp2_with fail
       go_ret2
       have hz := HP2.out.from_ (Chg.refl NoB W).drew
       rw [HD2.out] at hz
       exact hz
set_option maxHeartbeats 1000000 in
set_option maxRecDepth 100000 in
theorem mwriteWord_c (h : MS W p mb s mm d v base F) (a : Int) (b : Nat) (hb : b < 4294967296) : Calls Tryz.prog 69 #[.pointer (some ⟨p, 0, none⟩), .int .u32 a, .int .u32 b] W (SPost p mb s mm base F (.tuple #[.int .u32 0, .bool false]) (if ((v.write (sg a) (bytesOfWord b)).1 : Int) = 0 then d else { d with kind := 5, code := 0 }) ((v.write (sg a) (bytesOfWord b)).2) W) := by
 have H := Go.Lib.hid (h.quiet (Chg.refl NoB W).drew)
 have HC := Go.Lib.hid (writeWord_v (h.quiet (Chg.refl NoB W).drew).s (sg a) b hb)
 obtain ⟨_, _, _, k24, _⟩ := h.m.cells
 have K24 := Go.Lib.hid k24
 clear h k24
 unfold ptr at HC
 have HRI := Go.Lib.hid (fun V => rider_c a V)
 clear hb
 generalize v.write (sg a) (bytesOfWord b) = vr at *
 obtain ⟨an, v2⟩ := vr
 simp only at *
 obtain ⟨D2, hD2⟩ : ∃ D2, (if (an : Int) = 0 then d else { d with kind := 5, code := 0 }) = D2 := ⟨_, rfl⟩
 rw [hD2]
 have HD2 := Go.Lib.hid hD2
 clear hD2
 generalize sg a = fa at *
 go_enter Tryz.func69, Tryz.ntmps69
 go_wp2_with fail
 refine regionH (fun V' => V'.cell? ⟨p, 24, none⟩ = some (.pointer (some ⟨s, 0, none⟩))) (by kernel_rfl) K24.out (fun hS => ?_)
 refine takeH (i := 0) (t := 8) (v := ?v0y36) rfl (by kernel_rfl) (fun _ _ _ h => h) rfl (Or.inl ⟨by rfl, ?h0y36⟩) hS ?r0y36
 case h0y36 => (intro V' hSw; go_simp; try with_reducible rfl)
 try simp only [sw1, sw2, sw3]
 refine takeH (i := 1) (t := 9) (v := ?v1y37) rfl (by kernel_rfl) (fun _ _ _ h => h) rfl (Or.inl ⟨by rfl, ?h1y37⟩) hS ?r1y37
 case h1y37 => (intro V' hSw; go_simp; try with_reducible rfl)
 try simp only [sw1, sw2, sw3]
 refine takeH (i := 2) (t := 10) (v := ?v2y38) rfl (by kernel_rfl) (fun _ _ _ h => h) rfl (Or.inl ⟨by rfl, ?h2y38⟩) hS ?r2y38
 case h2y38 => (intro V' hSw; go_simp; try with_reducible rfl)
 try simp only [sw1, sw2, sw3]
 refine takeH (i := 3) (t := 11) (v := ?v3y39) rfl (by kernel_rfl) (fun _ _ _ h => h) rfl (Or.inl ⟨by rfl, ?h3y39⟩) hS ?r3y39
 case h3y39 => (intro V' hSw; go_simp; try with_reducible rfl)
 try simp only [sw1, sw2, sw3]
 refine takeH (i := 4) (t := 12) (v := ?v4y40) rfl (by kernel_rfl) (fun _ _ _ h => h) rfl (Or.inl ⟨by rfl, ?h4y40⟩) hS ?r4y40
 case h4y40 => (intro V' hSw; go_simp; try with_reducible rfl)
 try simp only [sw1, sw2, sw3]
 refine takeH (i := 5) (t := 13) (v := ?v5y41) rfl (by kernel_rfl) (fun _ _ _ h => h) rfl (Or.inl ⟨by rfl, ?h5y41⟩) hS ?r5y41
 case h5y41 => (intro V' hSw; go_simp; try with_reducible rfl)
 try simp only [sw1, sw2, sw3]
 refine takeH (i := 7) (t := 15) (v := ?v7y42) rfl (by kernel_rfl) (fun _ _ _ h => h) rfl (Or.inl ⟨by rfl, ?h7y42⟩) hS ?r7y42
 case h7y42 => (intro V' hSw; go_simp; try with_reducible rfl)
 try simp only [sw1, sw2, sw3]
 refine manyH (i := 6) (l := []) (by kernel_rfl) ?hm
 case hm =>
  intro j hj
  obtain rfl : j = 6 := by simpa using hj
  refine opCallH (t := 14) (f := 104) (args := #[.int .u32 a]) rfl rfl (by rfl) ?hx ?hc
  case hx => (go_simp; try rfl)
  case hc =>
   refine (HRI.out _).mono ?_
   rintro ee wq ⟨rfl, rfl⟩
   refine ⟨_, rfl, hS, ?_⟩
   try simp only [sw1, sw2, sw3]
   refine manyH (i := 8) (l := []) (by kernel_rfl) ?hm
   case hm =>
    intro j hj
    obtain rfl : j = 8 := by simpa using hj
    refine opCallH (t := 16) (f := 51) (args := #[.pointer (some ⟨s, 0, none⟩), .int .i64 fa, .int .u32 b]) rfl rfl (by rfl) ?hx ?hc
    case hx => (go_simp; try rfl)
    case hc =>
     refine HC.out.mono ?_
     rintro ee w1 hv
     have hP := H.out.of (r' := .tuple #[]) hv
     obtain ⟨rfl, hv2⟩ := hv
     have HP := Go.Lib.hid hP
     have hS : w1.cell? ⟨p, 24, none⟩ = some (.pointer (some ⟨s, 0, none⟩)) := hP.2.1.cells.2.2.2.1
     clear hP hv2
     refine ⟨_, rfl, hS, ?_⟩
     try simp only [sw1, sw2, sw3]
     refine manyH (i := 9) (l := []) (by kernel_rfl) ?hm
     case hm =>
      intro j hj
      obtain rfl : j = 9 := by simpa using hj
      refine opCallH (t := 17) (f := 105) (args := #[.pointer (some ⟨p, 0, none⟩), .int .i64 (an : Nat)]) rfl rfl (by rfl) ?hx ?hc
      case hx => (go_simp; try rfl)
      case hc =>
       refine (mfull_c HP.out.2.1 _).mono ?_
       rintro ee w2 ⟨rfl, hm, hc⟩
       have hS : w2.cell? ⟨p, 24, none⟩ = some (.pointer (some ⟨s, 0, none⟩)) := hm.cells.2.2.2.1
       have HP2 := Go.Lib.hid (HP.out.mem (r2 := .tuple #[.int .u32 0, .bool false]) hm hc)
       clear hm hc
       refine ⟨_, rfl, hS, ?_⟩
       try simp only [sw1, sw2, sw3]
       refine takeH (i := 10) (t := 18) (v := ?v10y43) rfl (by kernel_rfl) (fun _ _ _ h => h) rfl (Or.inl ⟨by rfl, ?h10y43⟩) hS ?r10y43
       case h10y43 => (intro V' hSw; go_simp; try with_reducible rfl)
       try simp only [sw1, sw2, sw3]
       refine takeH (i := 11) (t := 19) (v := ?v11y44) rfl (by kernel_rfl) (fun _ _ _ h => h) rfl (Or.inl ⟨by rfl, ?h11y44⟩) hS ?r11y44
       case h11y44 => (intro V' hSw; go_simp; try with_reducible rfl)
       try simp only [sw1, sw2, sw3]
       refine takeH (i := 12) (t := 6) (v := ?v12y45) rfl (by kernel_rfl) (fun _ _ _ h => h) rfl (Or.inl ⟨by rfl, ?h12y45⟩) hS ?r12y45
       case h12y45 => (intro V' hSw; go_simp; try with_reducible rfl)
       try simp only [sw1, sw2, sw3]
       refine takeH (i := 13) (t := 7) (v := ?v13y46) rfl (by kernel_rfl) (fun _ _ _ h => h) rfl (Or.inl ⟨by rfl, ?h13y46⟩) hS ?r13y46
       case h13y46 => (intro V' hSw; go_simp; try with_reducible rfl)
       try simp only [sw1, sw2, sw3]
       refine wpAnyH_done (by kernel_rfl) ?_ _
       clear hS
       go_wp2_with fail
       go_ret2
       have hz := HP2.out.from_ (Chg.refl NoB W).drew
       rw [HD2.out] at hz
       exact hz
set_option maxHeartbeats 1000000 in
set_option maxRecDepth 100000 in
theorem mregister_c (h : MS W p mb s mm d v base F) (a : Int) (b : Int) : Calls Tryz.prog 71 #[.pointer (some ⟨p, 0, none⟩), .int .u32 a, .int .u32 b] W (SPost p mb s mm base F (.tuple #[.int .u32 0, .bool false]) (if ((v.register (sg a)).1 : Int) = 0 then d else { d with kind := 5, code := 0 }) ((v.register (sg a)).2) W) := by
 have H := Go.Lib.hid (h.quiet (Chg.refl NoB W).drew)
 have HC := Go.Lib.hid (register_v (h.quiet (Chg.refl NoB W).drew).s (sg a))
 obtain ⟨_, _, _, k24, _⟩ := h.m.cells
 have K24 := Go.Lib.hid k24
 clear h k24
 unfold ptr at HC
 have HRI := Go.Lib.hid (fun V => rider_c a V)
 generalize v.register (sg a) = vr at *
 obtain ⟨an, v2⟩ := vr
 simp only at *
 obtain ⟨D2, hD2⟩ : ∃ D2, (if (an : Int) = 0 then d else { d with kind := 5, code := 0 }) = D2 := ⟨_, rfl⟩
 rw [hD2]
 have HD2 := Go.Lib.hid hD2
 clear hD2
 generalize sg a = fa at *
 go_enter Tryz.func71, Tryz.ntmps71
 go_wp2_with fail
 refine regionH (fun V' => V'.cell? ⟨p, 24, none⟩ = some (.pointer (some ⟨s, 0, none⟩))) (by kernel_rfl) K24.out (fun hS => ?_)
 refine takeH (i := 0) (t := 8) (v := ?v0y47) rfl (by kernel_rfl) (fun _ _ _ h => h) rfl (Or.inl ⟨by rfl, ?h0y47⟩) hS ?r0y47
 case h0y47 => (intro V' hSw; go_simp; try with_reducible rfl)
 try simp only [sw1, sw2, sw3]
 refine takeH (i := 1) (t := 9) (v := ?v1y48) rfl (by kernel_rfl) (fun _ _ _ h => h) rfl (Or.inl ⟨by rfl, ?h1y48⟩) hS ?r1y48
 case h1y48 => (intro V' hSw; go_simp; try with_reducible rfl)
 try simp only [sw1, sw2, sw3]
 refine takeH (i := 2) (t := 10) (v := ?v2y49) rfl (by kernel_rfl) (fun _ _ _ h => h) rfl (Or.inl ⟨by rfl, ?h2y49⟩) hS ?r2y49
 case h2y49 => (intro V' hSw; go_simp; try with_reducible rfl)
 try simp only [sw1, sw2, sw3]
 refine takeH (i := 3) (t := 11) (v := ?v3y50) rfl (by kernel_rfl) (fun _ _ _ h => h) rfl (Or.inl ⟨by rfl, ?h3y50⟩) hS ?r3y50
 case h3y50 => (intro V' hSw; go_simp; try with_reducible rfl)
 try simp only [sw1, sw2, sw3]
 refine takeH (i := 4) (t := 12) (v := ?v4y51) rfl (by kernel_rfl) (fun _ _ _ h => h) rfl (Or.inl ⟨by rfl, ?h4y51⟩) hS ?r4y51
 case h4y51 => (intro V' hSw; go_simp; try with_reducible rfl)
 try simp only [sw1, sw2, sw3]
 refine takeH (i := 5) (t := 13) (v := ?v5y52) rfl (by kernel_rfl) (fun _ _ _ h => h) rfl (Or.inl ⟨by rfl, ?h5y52⟩) hS ?r5y52
 case h5y52 => (intro V' hSw; go_simp; try with_reducible rfl)
 try simp only [sw1, sw2, sw3]
 refine manyH (i := 6) (l := []) (by kernel_rfl) ?hm
 case hm =>
  intro j hj
  obtain rfl : j = 6 := by simpa using hj
  refine opCallH (t := 14) (f := 104) (args := #[.int .u32 a]) rfl rfl (by rfl) ?hx ?hc
  case hx => (go_simp; try rfl)
  case hc =>
   refine (HRI.out _).mono ?_
   rintro ee wq ⟨rfl, rfl⟩
   refine ⟨_, rfl, hS, ?_⟩
   try simp only [sw1, sw2, sw3]
   refine manyH (i := 7) (l := []) (by kernel_rfl) ?hm
   case hm =>
    intro j hj
    obtain rfl : j = 7 := by simpa using hj
    refine opCallH (t := 15) (f := 53) (args := #[.pointer (some ⟨s, 0, none⟩), .int .i64 fa]) rfl rfl (by rfl) ?hx ?hc
    case hx => (go_simp; try rfl)
    case hc =>
     refine HC.out.mono ?_
     rintro ee w1 hv
     have hP := H.out.of (r' := .tuple #[]) hv
     obtain ⟨rfl, hv2⟩ := hv
     have HP := Go.Lib.hid hP
     have hS : w1.cell? ⟨p, 24, none⟩ = some (.pointer (some ⟨s, 0, none⟩)) := hP.2.1.cells.2.2.2.1
     clear hP hv2
     refine ⟨_, rfl, hS, ?_⟩
     try simp only [sw1, sw2, sw3]
     refine manyH (i := 8) (l := []) (by kernel_rfl) ?hm
     case hm =>
      intro j hj
      obtain rfl : j = 8 := by simpa using hj
      refine opCallH (t := 16) (f := 105) (args := #[.pointer (some ⟨p, 0, none⟩), .int .i64 (an : Nat)]) rfl rfl (by rfl) ?hx ?hc
      case hx => (go_simp; try rfl)
      case hc =>
       refine (mfull_c HP.out.2.1 _).mono ?_
       rintro ee w2 ⟨rfl, hm, hc⟩
       have hS : w2.cell? ⟨p, 24, none⟩ = some (.pointer (some ⟨s, 0, none⟩)) := hm.cells.2.2.2.1
       have HP2 := Go.Lib.hid (HP.out.mem (r2 := .tuple #[.int .u32 0, .bool false]) hm hc)
       clear hm hc
       refine ⟨_, rfl, hS, ?_⟩
       try simp only [sw1, sw2, sw3]
       refine takeH (i := 9) (t := 17) (v := ?v9y53) rfl (by kernel_rfl) (fun _ _ _ h => h) rfl (Or.inl ⟨by rfl, ?h9y53⟩) hS ?r9y53
       case h9y53 => (intro V' hSw; go_simp; try with_reducible rfl)
       try simp only [sw1, sw2, sw3]
       refine takeH (i := 10) (t := 18) (v := ?v10y54) rfl (by kernel_rfl) (fun _ _ _ h => h) rfl (Or.inl ⟨by rfl, ?h10y54⟩) hS ?r10y54
       case h10y54 => (intro V' hSw; go_simp; try with_reducible rfl)
       try simp only [sw1, sw2, sw3]
       refine takeH (i := 11) (t := 6) (v := ?v11y55) rfl (by kernel_rfl) (fun _ _ _ h => h) rfl (Or.inl ⟨by rfl, ?h11y55⟩) hS ?r11y55
       case h11y55 => (intro V' hSw; go_simp; try with_reducible rfl)
       try simp only [sw1, sw2, sw3]
       refine takeH (i := 12) (t := 7) (v := ?v12y56) rfl (by kernel_rfl) (fun _ _ _ h => h) rfl (Or.inl ⟨by rfl, ?h12y56⟩) hS ?r12y56
       case h12y56 => (intro V' hSw; go_simp; try with_reducible rfl)
       try simp only [sw1, sw2, sw3]
       refine wpAnyH_done (by kernel_rfl) ?_ _
       clear hS
       go_wp2_with fail
       go_ret2
       have hz := HP2.out.from_ (Chg.refl NoB W).drew
       rw [HD2.out] at hz
       exact hz
set_option maxHeartbeats 1000000 in
set_option maxRecDepth 100000 in
theorem mseek_c (h : MS W p mb s mm d v base F) (a : Int) (b : Nat) (hb : b < 4294967296) : Calls Tryz.prog 70 #[.pointer (some ⟨p, 0, none⟩), .int .u32 a, .int .u32 b] W (SPost p mb s mm base F (.tuple #[.int .u32 0, .bool false]) d (v.seek (sg a) b) W) := by
 have H := Go.Lib.hid (h.quiet (Chg.refl NoB W).drew)
 have HC := Go.Lib.hid (seek_v (h.quiet (Chg.refl NoB W).drew).s (sg a) b hb)
 obtain ⟨_, _, _, k24, _⟩ := h.m.cells
 have K24 := Go.Lib.hid k24
 clear h k24
 unfold ptr at HC
 have HRI := Go.Lib.hid (fun V => rider_c a V)
 clear hb
 generalize v.seek (sg a) b = v2 at *
 generalize sg a = fa at *
 go_enter Tryz.func70, Tryz.ntmps70
 go_wp2_with fail
 refine regionH (fun V' => V'.cell? ⟨p, 24, none⟩ = some (.pointer (some ⟨s, 0, none⟩))) (by kernel_rfl) K24.out (fun hS => ?_)
 refine takeH (i := 0) (t := 8) (v := ?v0y57) rfl (by kernel_rfl) (fun _ _ _ h => h) rfl (Or.inl ⟨by rfl, ?h0y57⟩) hS ?r0y57
 case h0y57 => (intro V' hSw; go_simp; try with_reducible rfl)
 try simp only [sw1, sw2, sw3]
 refine takeH (i := 1) (t := 9) (v := ?v1y58) rfl (by kernel_rfl) (fun _ _ _ h => h) rfl (Or.inl ⟨by rfl, ?h1y58⟩) hS ?r1y58
 case h1y58 => (intro V' hSw; go_simp; try with_reducible rfl)
 try simp only [sw1, sw2, sw3]
 refine takeH (i := 2) (t := 10) (v := ?v2y59) rfl (by kernel_rfl) (fun _ _ _ h => h) rfl (Or.inl ⟨by rfl, ?h2y59⟩) hS ?r2y59
 case h2y59 => (intro V' hSw; go_simp; try with_reducible rfl)
 try simp only [sw1, sw2, sw3]
 refine takeH (i := 3) (t := 11) (v := ?v3y60) rfl (by kernel_rfl) (fun _ _ _ h => h) rfl (Or.inl ⟨by rfl, ?h3y60⟩) hS ?r3y60
 case h3y60 => (intro V' hSw; go_simp; try with_reducible rfl)
 try simp only [sw1, sw2, sw3]
 refine takeH (i := 4) (t := 12) (v := ?v4y61) rfl (by kernel_rfl) (fun _ _ _ h => h) rfl (Or.inl ⟨by rfl, ?h4y61⟩) hS ?r4y61
 case h4y61 => (intro V' hSw; go_simp; try with_reducible rfl)
 try simp only [sw1, sw2, sw3]
 refine takeH (i := 6) (t := 14) (v := ?v6y62) rfl (by kernel_rfl) (fun _ _ _ h => h) rfl (Or.inl ⟨by rfl, ?h6y62⟩) hS ?r6y62
 case h6y62 => (intro V' hSw; go_simp; try with_reducible rfl)
 try simp only [sw1, sw2, sw3]
 refine manyH (i := 5) (l := []) (by kernel_rfl) ?hm
 case hm =>
  intro j hj
  obtain rfl : j = 5 := by simpa using hj
  refine opCallH (t := 13) (f := 104) (args := #[.int .u32 a]) rfl rfl (by rfl) ?hx ?hc
  case hx => (go_simp; try rfl)
  case hc =>
   refine (HRI.out _).mono ?_
   rintro ee wq ⟨rfl, rfl⟩
   refine ⟨_, rfl, hS, ?_⟩
   try simp only [sw1, sw2, sw3]
   refine manyH (i := 7) (l := []) (by kernel_rfl) ?hm
   case hm =>
    intro j hj
    obtain rfl : j = 7 := by simpa using hj
    refine opCallH (t := 15) (f := 52) (args := #[.pointer (some ⟨s, 0, none⟩), .int .i64 fa, .int .u32 b]) rfl rfl (by rfl) ?hx ?hc
    case hx => (go_simp; try rfl)
    case hc =>
     refine HC.out.mono ?_
     rintro ee w1 hv
     have hP := H.out.of (r' := .tuple #[.int .u32 0, .bool false]) hv
     obtain ⟨rfl, hv2⟩ := hv
     have HP := Go.Lib.hid hP
     have hS : w1.cell? ⟨p, 24, none⟩ = some (.pointer (some ⟨s, 0, none⟩)) := hP.2.1.cells.2.2.2.1
     clear hP hv2
     refine ⟨_, rfl, hS, ?_⟩
     try simp only [sw1, sw2, sw3]
     refine wpAnyH_done (by kernel_rfl) ?_ _
     clear hS
     go_wp2_with fail
     go_ret2
     exact HP.out.from_ (Chg.refl NoB W).drew
set_option maxHeartbeats 1000000 in
set_option maxRecDepth 100000 in
theorem meof_c (h : MS W p mb s mm d v base F) (a : Int) (b : Int) : Calls Tryz.prog 64 #[.pointer (some ⟨p, 0, none⟩), .int .u32 a, .int .u32 b] W (SPost p mb s mm base F (.tuple #[.int .u32 (if v.eof (sg a) = true then 1 else 0), .bool true]) d (v) W) := by
 have H := Go.Lib.hid (h.quiet (Chg.refl NoB W).drew)
 have HC := Go.Lib.hid (eof_v (h.quiet (Chg.refl NoB W).drew).s (sg a))
 obtain ⟨_, _, _, k24, _⟩ := h.m.cells
 have K24 := Go.Lib.hid k24
 clear h k24
 unfold ptr at HC
 have HRI := Go.Lib.hid (fun V => rider_c a V)
 generalize v.eof (sg a) = ve at *
 generalize sg a = fa at *
 cases ve
 ·
  go_enter Tryz.func64, Tryz.ntmps64
  go_wp2_with fail
  refine regionH (fun V' => V'.cell? ⟨p, 24, none⟩ = some (.pointer (some ⟨s, 0, none⟩))) (by kernel_rfl) K24.out (fun hS => ?_)
  refine takeH (i := 0) (t := 8) (v := ?v0y63) rfl (by kernel_rfl) (fun _ _ _ h => h) rfl (Or.inl ⟨by rfl, ?h0y63⟩) hS ?r0y63
  case h0y63 => (intro V' hSw; go_simp; try with_reducible rfl)
  try simp only [sw1, sw2, sw3]
  refine takeH (i := 1) (t := 9) (v := ?v1y64) rfl (by kernel_rfl) (fun _ _ _ h => h) rfl (Or.inl ⟨by rfl, ?h1y64⟩) hS ?r1y64
  case h1y64 => (intro V' hSw; go_simp; try with_reducible rfl)
  try simp only [sw1, sw2, sw3]
  refine takeH (i := 2) (t := 10) (v := ?v2y65) rfl (by kernel_rfl) (fun _ _ _ h => h) rfl (Or.inl ⟨by rfl, ?h2y65⟩) hS ?r2y65
  case h2y65 => (intro V' hSw; go_simp; try with_reducible rfl)
  try simp only [sw1, sw2, sw3]
  refine takeH (i := 3) (t := 11) (v := ?v3y66) rfl (by kernel_rfl) (fun _ _ _ h => h) rfl (Or.inl ⟨by rfl, ?h3y66⟩) hS ?r3y66
  case h3y66 => (intro V' hSw; go_simp; try with_reducible rfl)
  try simp only [sw1, sw2, sw3]
  refine takeH (i := 4) (t := 12) (v := ?v4y67) rfl (by kernel_rfl) (fun _ _ _ h => h) rfl (Or.inl ⟨by rfl, ?h4y67⟩) hS ?r4y67
  case h4y67 => (intro V' hSw; go_simp; try with_reducible rfl)
  try simp only [sw1, sw2, sw3]
  refine manyH (i := 5) (l := []) (by kernel_rfl) ?hm
  case hm =>
   intro j hj
   obtain rfl : j = 5 := by simpa using hj
   refine opCallH (t := 13) (f := 104) (args := #[.int .u32 a]) rfl rfl (by rfl) ?hx ?hc
   case hx => (go_simp; try rfl)
   case hc =>
    refine (HRI.out _).mono ?_
    rintro ee wq ⟨rfl, rfl⟩
    refine ⟨_, rfl, hS, ?_⟩
    try simp only [sw1, sw2, sw3]
    refine manyH (i := 6) (l := []) (by kernel_rfl) ?hm
    case hm =>
     intro j hj
     obtain rfl : j = 6 := by simpa using hj
     refine opCallH (t := 14) (f := 46) (args := #[.pointer (some ⟨s, 0, none⟩), .int .i64 fa]) rfl rfl (by rfl) ?hx ?hc
     case hx => (go_simp; try rfl)
     case hc =>
      refine HC.out.mono ?_
      rintro ee w1 hv
      have hP := H.out.of (r' := .tuple #[.int .u32 0, .bool true]) hv
      obtain ⟨rfl, hv2⟩ := hv
      have HP := Go.Lib.hid hP
      have hS : w1.cell? ⟨p, 24, none⟩ = some (.pointer (some ⟨s, 0, none⟩)) := hP.2.1.cells.2.2.2.1
      clear hP hv2
      refine ⟨_, rfl, hS, ?_⟩
      try simp only [sw1, sw2, sw3]
      refine wpAnyH_done (by kernel_rfl) ?_ _
      clear hS
      go_wp2_with fail
      go_ret2
      exact HP.out.from_ (Chg.refl NoB W).drew
 ·
  go_enter Tryz.func64, Tryz.ntmps64
  go_wp2_with fail
  refine regionH (fun V' => V'.cell? ⟨p, 24, none⟩ = some (.pointer (some ⟨s, 0, none⟩))) (by kernel_rfl) K24.out (fun hS => ?_)
  refine takeH (i := 0) (t := 8) (v := ?v0y68) rfl (by kernel_rfl) (fun _ _ _ h => h) rfl (Or.inl ⟨by rfl, ?h0y68⟩) hS ?r0y68
  case h0y68 => (intro V' hSw; go_simp; try with_reducible rfl)
  try simp only [sw1, sw2, sw3]
  refine takeH (i := 1) (t := 9) (v := ?v1y69) rfl (by kernel_rfl) (fun _ _ _ h => h) rfl (Or.inl ⟨by rfl, ?h1y69⟩) hS ?r1y69
  case h1y69 => (intro V' hSw; go_simp; try with_reducible rfl)
  try simp only [sw1, sw2, sw3]
  refine takeH (i := 2) (t := 10) (v := ?v2y70) rfl (by kernel_rfl) (fun _ _ _ h => h) rfl (Or.inl ⟨by rfl, ?h2y70⟩) hS ?r2y70
  case h2y70 => (intro V' hSw; go_simp; try with_reducible rfl)
  try simp only [sw1, sw2, sw3]
  refine takeH (i := 3) (t := 11) (v := ?v3y71) rfl (by kernel_rfl) (fun _ _ _ h => h) rfl (Or.inl ⟨by rfl, ?h3y71⟩) hS ?r3y71
  case h3y71 => (intro V' hSw; go_simp; try with_reducible rfl)
  try simp only [sw1, sw2, sw3]
  refine takeH (i := 4) (t := 12) (v := ?v4y72) rfl (by kernel_rfl) (fun _ _ _ h => h) rfl (Or.inl ⟨by rfl, ?h4y72⟩) hS ?r4y72
  case h4y72 => (intro V' hSw; go_simp; try with_reducible rfl)
  try simp only [sw1, sw2, sw3]
  refine manyH (i := 5) (l := []) (by kernel_rfl) ?hm
  case hm =>
   intro j hj
   obtain rfl : j = 5 := by simpa using hj
   refine opCallH (t := 13) (f := 104) (args := #[.int .u32 a]) rfl rfl (by rfl) ?hx ?hc
   case hx => (go_simp; try rfl)
   case hc =>
    refine (HRI.out _).mono ?_
    rintro ee wq ⟨rfl, rfl⟩
    refine ⟨_, rfl, hS, ?_⟩
    try simp only [sw1, sw2, sw3]
    refine manyH (i := 6) (l := []) (by kernel_rfl) ?hm
    case hm =>
     intro j hj
     obtain rfl : j = 6 := by simpa using hj
     refine opCallH (t := 14) (f := 46) (args := #[.pointer (some ⟨s, 0, none⟩), .int .i64 fa]) rfl rfl (by rfl) ?hx ?hc
     case hx => (go_simp; try rfl)
     case hc =>
      refine HC.out.mono ?_
      rintro ee w1 hv
      have hP := H.out.of (r' := .tuple #[.int .u32 1, .bool true]) hv
      obtain ⟨rfl, hv2⟩ := hv
      have HP := Go.Lib.hid hP
      have hS : w1.cell? ⟨p, 24, none⟩ = some (.pointer (some ⟨s, 0, none⟩)) := hP.2.1.cells.2.2.2.1
      clear hP hv2
      refine ⟨_, rfl, hS, ?_⟩
      try simp only [sw1, sw2, sw3]
      refine wpAnyH_done (by kernel_rfl) ?_ _
      clear hS
      go_wp2_with fail
      go_ret2
      exact HP.out.from_ (Chg.refl NoB W).drew
def bytesAt (M : Nat → Int) (a k : Nat) : List UInt8 := (List.range k).map fun i => UInt8.ofNat (M (a + i)).toNat
theorem bytesAt_len (M : Nat → Int) (a k : Nat) : (bytesAt M a k).length = k := by simp [bytesAt]
theorem bytesAt_get (M : Nat → Int) (a k : Nat) {i : Nat} (h : i < k) : (bytesAt M a k)[i]'(by rw [bytesAt_len]; exact h) = UInt8.ofNat (M (a + i)).toNat := by simp [bytesAt]
theorem bytesAt_take (M : Nat → Int) (a : Nat) {k b : Nat} (h : k ≤ b) : (bytesAt M a b).take k = bytesAt M a k := by
 unfold bytesAt
 rw [← List.map_take, List.take_range, Nat.min_eq_left h]
theorem ofNat_zero {x : Int} (h0 : 0 ≤ x) (h1 : x < 256) : UInt8.ofNat x.toNat = 0 ↔ x = 0 := by
 constructor
 ·intro h
  have := congrArg UInt8.toNat h
  simp [UInt8.toNat_ofNat'] at this
  omega
 ·rintro rfl; rfl
def nameAt (M : Nat → Int) (a b : Nat) : ByteArray := ⟨((bytesAt M a b).takeWhile (· ≠ 0)).toArray⟩
theorem nameAt_cut {M : Nat → Int} (hM : ∀ i, 0 ≤ M i ∧ M i < 256) {a b k : Nat} (hk : k < b) (h : ∀ j, j < k → M (a + j) ≠ 0) (h0 : M (a + k) = 0) : nameAt M a b = ⟨(bytesAt M a k).toArray⟩ := by
 unfold nameAt
 rw [tw_cut (bytesAt M a b) k (by rw [bytesAt_len]; exact hk) (fun j hj => by
  rw [bytesAt_get _ _ _ (by omega)]
  have := h j hj
  simpa [ofNat_zero (hM _).1 (hM _).2] using this) (by
  rw [bytesAt_get _ _ _ hk, h0]
  simp), bytesAt_take _ _ (by omega)]
theorem nameAt_all {M : Nat → Int} (hM : ∀ i, 0 ≤ M i ∧ M i < 256) {a b : Nat} (h : ∀ j, j < b → M (a + j) ≠ 0) : nameAt M a b = ⟨(bytesAt M a b).toArray⟩ := by
 unfold nameAt
 rw [tw_all (bytesAt M a b) (fun j hj => by
  rw [bytesAt_len] at hj
  rw [bytesAt_get _ _ _ hj]
  have := h j hj
  simpa [ofNat_zero (hM _).1 (hM _).2] using this)]
theorem nameAt_size (M : Nat → Int) (a b : Nat) : (nameAt M a b).size ≤ b := by
 have : (nameAt M a b).size = ((bytesAt M a b).takeWhile (· ≠ 0)).length := rfl
 rw [this]
 refine Nat.le_trans (List.takeWhile_sublist _).length_le ?_
 rw [bytesAt_len]
 exact Nat.le_refl _
theorem MAt.bytes (h : MAt W p mb s mm d) (hM : ∀ i, 0 ≤ d.M i ∧ d.M i < 256) {a k : Nat} (hk : a + k ≤ d.n) : CellsAt W (some ⟨mb, a, none⟩) (bv (bytesAt d.M a k)) := by
 intro _
 refine ⟨_, rfl, fun j v hj => ?_⟩
 have hjk : j < k := by
  have := (List.getElem?_eq_some_iff.1 hj).1
  rw [bv_length, bytesAt_len] at this
  exact this
 have hb := h.byte (i := a + j) (by omega)
 have e : (bv (bytesAt d.M a k))[j]? = some (.int .u8 (d.M (a + j))) := by
  unfold bv
  rw [List.getElem?_map, List.getElem?_eq_getElem (by rw [bytesAt_len]; exact hjk), bytesAt_get _ _ _ hjk]
  have := hM (a + j)
  simp [UInt8.toNat_ofNat']
  omega
 rw [e] at hj
 rw [← Option.some.inj hj]
 rw [add_none]
 exact hb
set_option maxRecDepth 100000 in
set_option maxHeartbeats 2000000 in
theorem mname_c (h : MAt W p mb s mm d) (hd : d.Ok) (a b : Nat) (hab : a + b ≤ d.n) : Calls Tryz.prog 103 #[.pointer (some ⟨p, 0, none⟩), .int .u32 a, .int .u32 b] W (Quiet (.tuple #[.string (nameAt d.M a b), .bool true]) W) := by
 have hM := hd.m
 have hn := hd.n.2.1
 obtain ⟨_, k22, _⟩ := h.cells
 have HB := Go.Lib.hid (fun (k : Nat) (hk : a + k ≤ d.n) => h.bytes hM hk)
 have HY := Go.Lib.hid (fun (k : Nat) (hk : a + k < d.n) => h.byte (i := a + k) hk)
 have HM := Go.Lib.hid hM
 have d1 : decide ((d.n : Int) < (a : Int) + (b : Int)) = false := by simp; omega
 have w1 : ((a : Int) + (b : Int)) % 4294967296 = ((a + b : Nat) : Int) := by omega
 have w2 : ((a : Int) + (b : Int)) % 18446744073709551616 = (a : Int) + (b : Int) := by omega
 have HT0 := fun (A : Option Addr) (c : Nat) (w : World) => run_text (A := A) (l := []) (c := c) (w := w) (n := 0) rfl (fun h => absurd h (by simp [bv]))
 clear h hd hM
 by_cases hb0 : b = 0
 ·subst hb0
  have hnm : nameAt d.M a 0 = ⟨#[]⟩ := rfl
  rw [hnm]
  clear hnm HB HY HM
  go_enter Tryz.func103, Tryz.ntmps103
  go_wp2_with fail
  go_loopw [38] (fun i wr => i = .int .i64 0 ∧ wr = W) (fun _ _ => 0)
  case atStart => exact ⟨rfl, rfl⟩
  case round =>
   obtain ⟨rfl, rfl⟩ := hrel
   go_wp2_with fail
   go_ret2
   exact ⟨rfl, Chg.refl _ _⟩
 ·have hab2 : ¬ a + b = a := by omega
  clear HT0
  go_enter Tryz.func103, Tryz.ntmps103
  go_wp2_with fail
  go_loopw [38] (fun i wr => ∃ k : Nat, k ≤ b ∧ i = .int .i64 k ∧ (∀ j, j < k → d.M (a + j) ≠ 0) ∧ wr = W) (fun i _ => b - (intOf i).toNat)
  case atStart => exact ⟨0, Nat.zero_le _, rfl, fun _ h => absurd h (by omega), rfl⟩
  case round =>
   obtain ⟨k, hk, rfl, hall, rfl⟩ := hrel
   have Hall := Go.Lib.hid hall
   clear hall
   by_cases hlt : k < b
   ·have hy := HY.out k (by omega)
    by_cases hz : d.M (a + k) = 0
    ·have Hz := Go.Lib.hid hz
     have HTx := run_text (n := k) (c := b) (bytesAt_len d.M a k) (HB.out k (by omega))
     rw [hz] at hy
     clear hz
     go_wp2_with fail
     go_ret2
     exact ⟨by rw [nameAt_cut HM.out hlt Hall.out Hz.out]; rfl, Chg.refl _ _⟩
    ·have Hz := Go.Lib.hid hz
     have hzz : (d.M (a + k) == 0) = false := by simpa using hz
     clear hz
     go_wp2_with fail
     go_roundw
     case rel => exact ⟨k + 1, by omega, by go_num, fun j hj => by
      by_cases e : j = k
      ·subst e; exact Hz.out
      ·exact Hall.out j (by omega), trivial⟩
     case measure => simp [intOf]; omega
   ·obtain rfl : k = b := by omega
    have HTx := run_text (n := k) (c := k) (bytesAt_len d.M a k) (HB.out k (by omega))
    go_wp2_with fail
    go_ret2
    exact ⟨by rw [nameAt_all HM.out Hall.out]; rfl, Chg.refl _ _⟩
set_option maxHeartbeats 1000000 in
set_option maxRecDepth 100000 in
theorem mold_c (h : MS W p mb s mm d v base F) (hd : d.Ok) (a b : Nat) (hab : a + b ≤ d.n) (nm : ByteArray) (hnm : nm = nameAt d.M a b) : Calls Tryz.prog 62 #[.pointer (some ⟨p, 0, none⟩), .int .u32 a, .int .u32 b] W (SPost p mb s mm base F (.tuple #[.int .u32 ((v.old nm).1 : Int), .bool true]) d ((v.old nm).2) W) := by
 have HN := Go.Lib.hid (mname_c h.m hd a b hab)
 have hsz : nm.size ≤ maxLen := by rw [hnm]; have := nameAt_size d.M a b; have := hd.n.2.1; unfold maxLen; omega
 rw [← hnm] at HN
 clear hnm
 have H := Go.Lib.hid (fun (W' : World) (hc : Chg NoB W W') => h.quiet hc)
 have HC := Go.Lib.hid (fun (W' : World) (hc : Chg NoB W W') => old_v (h.quiet hc).s nm hsz)
 clear h hd hab
 unfold ptr at HC
 have hle := v.old_le nm
 generalize v.old nm = vr at *
 obtain ⟨an, v2⟩ := vr
 simp only at *
 have hw : (an : Int) % 4294967296 = an := by omega
 go_enter Tryz.func62, Tryz.ntmps62
 go_wp2_with fail
 refine HN.out.mono ?_
 rintro e w1 ⟨rfl, hq⟩
 have HQ := Go.Lib.hid hq
 obtain ⟨_, _, _, k24, _⟩ := (H.out _ hq).m.cells
 clear hq
 go_wp2_with fail
 refine (HC.out _ HQ.out).mono ?_
 rintro ee w2 hv
 have HP := Go.Lib.hid ((H.out _ HQ.out).of (r' := .tuple #[.int .u32 (an : Int), .bool true]) hv)
 obtain ⟨rfl, hv2⟩ := hv
 clear hv2 k24
 go_wp2_with fail
 go_ret2
 exact (HP.out.from_ HQ.out)
set_option maxHeartbeats 1000000 in
set_option maxRecDepth 100000 in
theorem mfresh_c (h : MS W p mb s mm d v base F) (hd : d.Ok) (a b : Nat) (hab : a + b ≤ d.n) (nm : ByteArray) (hnm : nm = nameAt d.M a b) : Calls Tryz.prog 63 #[.pointer (some ⟨p, 0, none⟩), .int .u32 a, .int .u32 b] W (SPost p mb s mm base F (.tuple #[.int .u32 ((v.fresh nm).1 : Int), .bool true]) d ((v.fresh nm).2) W) := by
 have HN := Go.Lib.hid (mname_c h.m hd a b hab)
 have hsz : nm.size ≤ maxLen := by rw [hnm]; have := nameAt_size d.M a b; have := hd.n.2.1; unfold maxLen; omega
 rw [← hnm] at HN
 clear hnm
 have H := Go.Lib.hid (fun (W' : World) (hc : Chg NoB W W') => h.quiet hc)
 have HC := Go.Lib.hid (fun (W' : World) (hc : Chg NoB W W') => fresh_v (h.quiet hc).s nm hsz)
 clear h hd hab
 unfold ptr at HC
 have hle := v.fresh_le nm
 generalize v.fresh nm = vr at *
 obtain ⟨an, v2⟩ := vr
 simp only at *
 have hw : (an : Int) % 4294967296 = an := by omega
 go_enter Tryz.func63, Tryz.ntmps63
 go_wp2_with fail
 refine HN.out.mono ?_
 rintro e w1 ⟨rfl, hq⟩
 have HQ := Go.Lib.hid hq
 obtain ⟨_, _, _, k24, _⟩ := (H.out _ hq).m.cells
 clear hq
 go_wp2_with fail
 refine (HC.out _ HQ.out).mono ?_
 rintro ee w2 hv
 have HP := Go.Lib.hid ((H.out _ HQ.out).of (r' := .tuple #[.int .u32 (an : Int), .bool true]) hv)
 obtain ⟨rfl, hv2⟩ := hv
 clear hv2 k24
 go_wp2_with fail
 go_ret2
 exact (HP.out.from_ HQ.out)
set_option maxHeartbeats 1000000 in
set_option maxRecDepth 100000 in
theorem mremove_c (h : MS W p mb s mm d v base F) (hd : d.Ok) (a b : Nat) (hab : a + b ≤ d.n) (nm : ByteArray) (hnm : nm = nameAt d.M a b) : Calls Tryz.prog 72 #[.pointer (some ⟨p, 0, none⟩), .int .u32 a, .int .u32 b] W (SPost p mb s mm base F (.tuple #[.int .u32 0, .bool false]) d (v.del nm) W) := by
 have HN := Go.Lib.hid (mname_c h.m hd a b hab)
 have hsz : nm.size ≤ maxLen := by rw [hnm]; have := nameAt_size d.M a b; have := hd.n.2.1; unfold maxLen; omega
 rw [← hnm] at HN
 clear hnm
 have H := Go.Lib.hid (fun (W' : World) (hc : Chg NoB W W') => h.quiet hc)
 have HC := Go.Lib.hid (fun (W' : World) (hc : Chg NoB W W') => delete_v (h.quiet hc).s nm)
 clear h hd hab
 unfold ptr at HC
 go_enter Tryz.func72, Tryz.ntmps72
 go_wp2_with fail
 refine HN.out.mono ?_
 rintro e w1 ⟨rfl, hq⟩
 have HQ := Go.Lib.hid hq
 obtain ⟨_, _, _, k24, _⟩ := (H.out _ hq).m.cells
 clear hq
 go_wp2_with fail
 refine (HC.out _ HQ.out).mono ?_
 rintro ee w2 hv
 have HP := Go.Lib.hid ((H.out _ HQ.out).of (r' := .tuple #[.int .u32 0, .bool false]) hv)
 obtain ⟨rfl, hv2⟩ := hv
 clear hv2 k24
 go_wp2_with fail
 go_ret2
 exact (HP.out.from_ HQ.out)
end
end Go.Proofs.YtggknljlibhkjaaGreat
set_option linter.unusedSimpArgs false
set_option linter.unusedVariables false
namespace Go.Proofs.YtggknljlibhkjaaGreat
open Go Go.RowKit
def sysW (n : Nat) : Int := (225443840 + (n : Int)) * 16 + 12
def in_sys (n : Nat) : In := ⟨6, false, false, 0, 0, 0, 0, 0, 0, 7, n⟩
set_option maxRecDepth 100000 in
set_option maxHeartbeats 4000000 in
theorem word_sys (n : Nat) (hn : n < 256) (w : World) : Calls Tryz.prog 32 #[(in_sys n).val] w (Quiet (.int .u32 (sysW n)) w) := by
 have e5 : (880640 : Int) * 256 + (n : Int) % 256 = 225443840 + n := by omega
 have e6 : (225443840 + (n : Int)) * 16 + 12 % 16 = sysW n := by unfold sysW; omega
 have hs0 : 0 ≤ sysW n ∧ sysW n < 4294967296 := by unfold sysW; omega
 have hs1 : sysW n % 4294967296 = sysW n := by omega
 have F0 : Hid (∀ W, Calls Tryz.prog 91 #[.int .u64 0, .int .i64 3, .int .i64 2] W fun e w' => e = .returned (.int .u64 3) ∧ w' = W) := Go.Lib.hid fun W => field2_c 0 3 (by decide) (by decide) (by decide) W
 have F1 : Hid (∀ W, Calls Tryz.prog 91 #[.int .u64 3, .int .i64 0, .int .i64 1] W fun e w' => e = .returned (.int .u64 6) ∧ w' = W) := Go.Lib.hid fun W => field1_c 3 0 (by decide) (by decide) (by decide) W
 have F2 : Hid (∀ W, Calls Tryz.prog 91 #[.int .u64 6, .int .i64 1, .int .i64 1] W fun e w' => e = .returned (.int .u64 13) ∧ w' = W) := Go.Lib.hid fun W => field1_c 6 1 (by decide) (by decide) (by decide) W
 have F3 : Hid (∀ W, Calls Tryz.prog 91 #[.int .u64 13, .int .i64 7, .int .i64 4] W fun e w' => e = .returned (.int .u64 215) ∧ w' = W) := Go.Lib.hid fun W => field4_c 13 7 (by decide) (by decide) (by decide) W
 have F4 : Hid (∀ W, Calls Tryz.prog 91 #[.int .u64 215, .int .i64 0, .int .i64 12] W fun e w' => e = .returned (.int .u64 880640) ∧ w' = W) := Go.Lib.hid fun W => field12_c 215 0 (by decide) (by decide) (by decide) W
 have F5 : Hid (∀ W, Calls Tryz.prog 91 #[.int .u64 880640, .int .i64 n, .int .i64 8] W fun e w' => e = .returned (.int .u64 (225443840 + (n : Int))) ∧ w' = W) := Go.Lib.hid fun W => by have := field8_c 880640 n (by decide) (by decide) (by omega) W; rw [e5] at this; exact this
 have F6 : Hid (∀ W, Calls Tryz.prog 91 #[.int .u64 (225443840 + (n : Int)), .int .i64 12, .int .i64 4] W fun e w' => e = .returned (.int .u64 (sysW n)) ∧ w' = W) := Go.Lib.hid fun W => by have := field4_c (225443840 + n) 12 (by omega) (by omega) (by decide) W; rw [e6] at this; exact this
 have O0 : Hid (∀ W, Calls Tryz.prog 92 #[.bool false] W fun e w' => e = .returned (.int .i64 0) ∧ w' = W) := Go.Lib.hid fun W => one_c false W
 have O1 : Hid (∀ W, Calls Tryz.prog 92 #[.bool true] W fun e w' => e = .returned (.int .i64 1) ∧ w' = W) := Go.Lib.hid fun W => one_c true W
 clear e5 e6
 unfold in_sys In.val In.arr
 go_enter Tryz.func32, Tryz.ntmps32
 go_wp2_with fail
 go_quiet ((first | (with_reducible exact Calls.quiet_of_same (F0.out _)) | (with_reducible exact Calls.quiet_of_same (F1.out _)) | (with_reducible exact Calls.quiet_of_same (F2.out _)) | (with_reducible exact Calls.quiet_of_same (F3.out _)) | (with_reducible exact Calls.quiet_of_same (F4.out _)) | (with_reducible exact Calls.quiet_of_same (F5.out _)) | (with_reducible exact Calls.quiet_of_same (F6.out _)) | (with_reducible exact Calls.quiet_of_same (O0.out _)) | (with_reducible exact Calls.quiet_of_same (O1.out _))))
 go_wp2_with fail
 go_ret
 exact ⟨rfl, ((Chg.refl NoB w).alloc _).drewN _⟩
theorem ofW_18 : ofW (sysW 18) = some (in_sys 18) := by kernel_rfl
theorem ofW_19 : ofW (sysW 19) = some (in_sys 19) := by kernel_rfl
theorem ofW_20 : ofW (sysW 20) = some (in_sys 20) := by kernel_rfl
theorem ofW_21 : ofW (sysW 21) = some (in_sys 21) := by kernel_rfl
theorem ofW_22 : ofW (sysW 22) = some (in_sys 22) := by kernel_rfl
theorem ofW_23 : ofW (sysW 23) = some (in_sys 23) := by kernel_rfl
theorem ofW_24 : ofW (sysW 24) = some (in_sys 24) := by kernel_rfl
theorem ofW_25 : ofW (sysW 25) = some (in_sys 25) := by kernel_rfl
theorem ofW_26 : ofW (sysW 26) = some (in_sys 26) := by kernel_rfl
theorem ofW_27 : ofW (sysW 27) = some (in_sys 27) := by kernel_rfl
theorem ofW_28 : ofW (sysW 28) = some (in_sys 28) := by kernel_rfl
theorem stepSys (c : Cp) (h : c.pc = 0) (n : Nat) (hn : 18 ≤ n ∧ n ≤ 28) : stepF c (sysW n) = ({ c with pc := 1 }, ⟨4, 0, false, 0, 0, n⟩) := by
 have e : ofW (sysW n) = some (in_sys n) := by
  have hc : n = 18 ∨ n = 19 ∨ n = 20 ∨ n = 21 ∨ n = 22 ∨ n = 23 ∨ n = 24 ∨ n = 25 ∨ n = 26 ∨ n = 27 ∨ n = 28 := by omega
  rcases hc with rfl | rfl | rfl | rfl | rfl | rfl | rfl | rfl | rfl | rfl | rfl
  ·exact ofW_18
  ·exact ofW_19
  ·exact ofW_20
  ·exact ofW_21
  ·exact ofW_22
  ·exact ofW_23
  ·exact ofW_24
  ·exact ofW_25
  ·exact ofW_26
  ·exact ofW_27
  ·exact ofW_28
 have h16 : ¬ ((n : Int) < 16) := by omega
 unfold stepF
 rw [e]
 show insF c.next (in_sys n) = _
 unfold insF
 have hfo : (in_sys n).fo = 6 := rfl
 have hnn : (in_sys n).n = n := rfl
 rw [if_neg (by rw [hfo]; decide), if_neg (by rw [hfo]; decide), if_neg (by rw [hfo]; decide), if_pos (by rw [hfo])]
 have hh : ∀ c' : Cp, holds c' (in_sys n).co = true := fun c' => by simp [holds, in_sys]
 rw [if_pos (hh _)]
 rw [hnn, if_pos (by omega)]
 unfold Cp.next
 rw [h]
 rfl
theorem cf_old : ∀ (xs : Array Value) W, (callFunc 62 xs).run Tryz.prog W = .ok (.enter 62 xs) W := fun _ _ => by kernel_rfl
theorem cf_fresh : ∀ (xs : Array Value) W, (callFunc 63 xs).run Tryz.prog W = .ok (.enter 63 xs) W := fun _ _ => by kernel_rfl
theorem cf_eof : ∀ (xs : Array Value) W, (callFunc 64 xs).run Tryz.prog W = .ok (.enter 64 xs) W := fun _ _ => by kernel_rfl
theorem cf_length : ∀ (xs : Array Value) W, (callFunc 65 xs).run Tryz.prog W = .ok (.enter 65 xs) W := fun _ _ => by kernel_rfl
theorem cf_read : ∀ (xs : Array Value) W, (callFunc 66 xs).run Tryz.prog W = .ok (.enter 66 xs) W := fun _ _ => by kernel_rfl
theorem cf_readWord : ∀ (xs : Array Value) W, (callFunc 67 xs).run Tryz.prog W = .ok (.enter 67 xs) W := fun _ _ => by kernel_rfl
theorem cf_write : ∀ (xs : Array Value) W, (callFunc 68 xs).run Tryz.prog W = .ok (.enter 68 xs) W := fun _ _ => by kernel_rfl
theorem cf_writeWord : ∀ (xs : Array Value) W, (callFunc 69 xs).run Tryz.prog W = .ok (.enter 69 xs) W := fun _ _ => by kernel_rfl
theorem cf_seek : ∀ (xs : Array Value) W, (callFunc 70 xs).run Tryz.prog W = .ok (.enter 70 xs) W := fun _ _ => by kernel_rfl
theorem cf_register : ∀ (xs : Array Value) W, (callFunc 71 xs).run Tryz.prog W = .ok (.enter 71 xs) W := fun _ _ => by kernel_rfl
theorem cf_remove : ∀ (xs : Array Value) W, (callFunc 72 xs).run Tryz.prog W = .ok (.enter 72 xs) W := fun _ _ => by kernel_rfl
theorem stop_eq (d : Mc) (x : Nat) : (if (x : Int) = 0 then d else { d with kind := 5, code := 0 }) = (if decide (x ≠ 0) = true then { d with kind := 5, code := 0 } else d) := by
 by_cases h0 : x = 0
 ·simp [h0]
 ·have : ¬ (x : Int) = 0 := by omega
  simp [h0, this]
def afterF (d : Mc) (n : Nat) (r : Int × Bool × V) : Mc := if n < 24 then { d with c := { d.c with R := upd d.c.R 0 r.1 } } else if r.2.1 = true then { d with kind := 5, code := 0 } else d
def SE (p mb mm s base : Nat) (F : Nat → Prop) (v' : V) (W0 : World) (w1 : World) : Prop :=
 ∃ F', StoreV base w1 s v' F' ∧ (∀ k, F' k → k ≠ p ∧ k ≠ mb ∧ k ≠ mm) ∧ Chg (fun k => F k ∨ memF p mb k) W0 w1 ∧ ∀ k, F' k → k < W0.heap.size → F k
section
variable {W W' w1 w2 : World} {p mb s mm base : Nat} {d d2 : Mc} {v v' : V} {F : Nat → Prop}
theorem SE.keep (h : SE p mb mm s base F v' W w1) (hc : Chg (fun k => k = p) w1 w2) : SE p mb mm s base F v' W w2 := by
 obtain ⟨F', h1, h2, h3, h4⟩ := h
 exact ⟨F', h1.chg hc (fun k hk e => (h2 k hk).1 e), h2, h3.trans (hc.mono fun k _ e => .inr (.inl e)), h4⟩
theorem SPost.se {r : Value} {e : Ending} (h : SPost p mb s mm base F r d2 v' W.drew e w1) : e = .returned r ∧ MAt w1 p mb s mm d2 ∧ SE p mb mm s base F v' W w1 := by
 obtain ⟨h1, h2, F', h3, h4, h5⟩ := h
 exact ⟨h1, h2, F', h3.s, h3.ne, ((Chg.refl _ W).drew).trans h4, h5⟩
theorem find_18 : Instr.findNow (.int .i64) (.int .i64 18) codeEs.toList 0 = some (some (2, .func (.func 62) #[] #[])) := by kernel_rfl
theorem callF_18 (v : V) (f : Int) (b : Nat) (nm : ByteArray) : callF v 18 f b nm = (((v.old nm).1 : Int), false, (v.old nm).2) := by
 unfold callF
 rw [if_pos rfl]
theorem after_18 (d : Mc) (v : V) (a : Int) (b : Nat) (nm : ByteArray) : afterF d 18 (callF v 18 (sg a) b nm) = { d with c := { d.c with R := upd d.c.R 0 (((v.old nm).1 : Int)) } } := by
 unfold afterF
 rw [callF_18, if_pos (by decide)]
theorem st_18 (v : V) (a : Int) (b : Nat) (nm : ByteArray) : (callF v 18 (sg a) b nm).2.2 = (v.old nm).2 := by rw [callF_18]
theorem sys_18 (h : MS W p mb s mm d v base F) (hd : d.Ok) (a b : Nat) (ha : d.c.R 0 = a) (hb : d.c.R 1 = b) (ha2 : a < 4294967296) (hb2 : b < 4294967296) (nm : ByteArray) (hnm : a + b ≤ d.n ∧ nm = nameAt d.M a b) :
  Calls Tryz.prog 43 #[.pointer (some ⟨p, 0, none⟩), .int .i64 18] W (fun e w1 => e = .returned (.tuple #[]) ∧ MAt w1 p mb s mm { d with c := { d.c with R := upd d.c.R 0 (((v.old nm).1 : Int)) } } ∧ SE p mb mm s base F ((v.old nm).2) W w1) := by
 have hq := h.quiet (Chg.refl NoB W).drew
 have hcon := mold_c hq hd a b hnm.1 nm hnm.2
 refine (sys_st h.m 18 2 62 find_18 cf_old (((v.old nm).1 : Int)) true d ⟨rfl, rfl⟩ (SE p mb mm s base F ((v.old nm).2) W) (fun _ _ h hc => h.keep hc) ?_).mono fun e w1 he => ⟨he.1, by have h2 := he.2.1; rw [if_pos rfl] at h2; exact h2, he.2.2⟩
 rw [ha, hb]
 exact hcon.mono fun e w1 he => he.se
theorem find_19 : Instr.findNow (.int .i64) (.int .i64 19) codeEs.toList 0 = some (some (3, .func (.func 63) #[] #[])) := by kernel_rfl
theorem callF_19 (v : V) (f : Int) (b : Nat) (nm : ByteArray) : callF v 19 f b nm = (((v.fresh nm).1 : Int), false, (v.fresh nm).2) := by
 unfold callF
 rw [if_neg (by decide)]
 rw [if_pos rfl]
theorem after_19 (d : Mc) (v : V) (a : Int) (b : Nat) (nm : ByteArray) : afterF d 19 (callF v 19 (sg a) b nm) = { d with c := { d.c with R := upd d.c.R 0 (((v.fresh nm).1 : Int)) } } := by
 unfold afterF
 rw [callF_19, if_pos (by decide)]
theorem st_19 (v : V) (a : Int) (b : Nat) (nm : ByteArray) : (callF v 19 (sg a) b nm).2.2 = (v.fresh nm).2 := by rw [callF_19]
theorem sys_19 (h : MS W p mb s mm d v base F) (hd : d.Ok) (a b : Nat) (ha : d.c.R 0 = a) (hb : d.c.R 1 = b) (ha2 : a < 4294967296) (hb2 : b < 4294967296) (nm : ByteArray) (hnm : a + b ≤ d.n ∧ nm = nameAt d.M a b) :
  Calls Tryz.prog 43 #[.pointer (some ⟨p, 0, none⟩), .int .i64 19] W (fun e w1 => e = .returned (.tuple #[]) ∧ MAt w1 p mb s mm { d with c := { d.c with R := upd d.c.R 0 (((v.fresh nm).1 : Int)) } } ∧ SE p mb mm s base F ((v.fresh nm).2) W w1) := by
 have hq := h.quiet (Chg.refl NoB W).drew
 have hcon := mfresh_c hq hd a b hnm.1 nm hnm.2
 refine (sys_st h.m 19 3 63 find_19 cf_fresh (((v.fresh nm).1 : Int)) true d ⟨rfl, rfl⟩ (SE p mb mm s base F ((v.fresh nm).2) W) (fun _ _ h hc => h.keep hc) ?_).mono fun e w1 he => ⟨he.1, by have h2 := he.2.1; rw [if_pos rfl] at h2; exact h2, he.2.2⟩
 rw [ha, hb]
 exact hcon.mono fun e w1 he => he.se
theorem find_20 : Instr.findNow (.int .i64) (.int .i64 20) codeEs.toList 0 = some (some (4, .func (.func 64) #[] #[])) := by kernel_rfl
theorem callF_20 (v : V) (f : Int) (b : Nat) (nm : ByteArray) : callF v 20 f b nm = ((if v.eof f = true then 1 else 0 : Int), false, v) := by
 unfold callF
 rw [if_neg (by decide)]
 rw [if_neg (by decide)]
 rw [if_pos rfl]
theorem after_20 (d : Mc) (v : V) (a : Int) (b : Nat) (nm : ByteArray) : afterF d 20 (callF v 20 (sg a) b nm) = { d with c := { d.c with R := upd d.c.R 0 ((if v.eof (sg a) = true then 1 else 0 : Int)) } } := by
 unfold afterF
 rw [callF_20, if_pos (by decide)]
theorem st_20 (v : V) (a : Int) (b : Nat) (nm : ByteArray) : (callF v 20 (sg a) b nm).2.2 = v := by rw [callF_20]
theorem sys_20 (h : MS W p mb s mm d v base F) (hd : d.Ok) (a b : Nat) (ha : d.c.R 0 = a) (hb : d.c.R 1 = b) (ha2 : a < 4294967296) (hb2 : b < 4294967296) :
  Calls Tryz.prog 43 #[.pointer (some ⟨p, 0, none⟩), .int .i64 20] W (fun e w1 => e = .returned (.tuple #[]) ∧ MAt w1 p mb s mm { d with c := { d.c with R := upd d.c.R 0 ((if v.eof (sg a) = true then 1 else 0 : Int)) } } ∧ SE p mb mm s base F (v) W w1) := by
 have hq := h.quiet (Chg.refl NoB W).drew
 have hcon := meof_c hq a b
 refine (sys_st h.m 20 4 64 find_20 cf_eof ((if v.eof (sg a) = true then 1 else 0 : Int)) true d ⟨rfl, rfl⟩ (SE p mb mm s base F (v) W) (fun _ _ h hc => h.keep hc) ?_).mono fun e w1 he => ⟨he.1, by have h2 := he.2.1; rw [if_pos rfl] at h2; exact h2, he.2.2⟩
 rw [ha, hb]
 exact hcon.mono fun e w1 he => he.se
theorem find_21 : Instr.findNow (.int .i64) (.int .i64 21) codeEs.toList 0 = some (some (5, .func (.func 65) #[] #[])) := by kernel_rfl
theorem callF_21 (v : V) (f : Int) (b : Nat) (nm : ByteArray) : callF v 21 f b nm = (((v.length f : Int) % 4294967296), false, v) := by
 unfold callF
 rw [if_neg (by decide)]
 rw [if_neg (by decide)]
 rw [if_neg (by decide)]
 rw [if_pos rfl]
theorem after_21 (d : Mc) (v : V) (a : Int) (b : Nat) (nm : ByteArray) : afterF d 21 (callF v 21 (sg a) b nm) = { d with c := { d.c with R := upd d.c.R 0 (((v.length (sg a) : Int) % 4294967296)) } } := by
 unfold afterF
 rw [callF_21, if_pos (by decide)]
theorem st_21 (v : V) (a : Int) (b : Nat) (nm : ByteArray) : (callF v 21 (sg a) b nm).2.2 = v := by rw [callF_21]
theorem sys_21 (h : MS W p mb s mm d v base F) (hd : d.Ok) (a b : Nat) (ha : d.c.R 0 = a) (hb : d.c.R 1 = b) (ha2 : a < 4294967296) (hb2 : b < 4294967296) :
  Calls Tryz.prog 43 #[.pointer (some ⟨p, 0, none⟩), .int .i64 21] W (fun e w1 => e = .returned (.tuple #[]) ∧ MAt w1 p mb s mm { d with c := { d.c with R := upd d.c.R 0 (((v.length (sg a) : Int) % 4294967296)) } } ∧ SE p mb mm s base F (v) W w1) := by
 have hq := h.quiet (Chg.refl NoB W).drew
 have hcon := mlength_c hq a b
 refine (sys_st h.m 21 5 65 find_21 cf_length (((v.length (sg a) : Int) % 4294967296)) true d ⟨rfl, rfl⟩ (SE p mb mm s base F (v) W) (fun _ _ h hc => h.keep hc) ?_).mono fun e w1 he => ⟨he.1, by have h2 := he.2.1; rw [if_pos rfl] at h2; exact h2, he.2.2⟩
 rw [ha, hb]
 exact hcon.mono fun e w1 he => he.se
theorem find_22 : Instr.findNow (.int .i64) (.int .i64 22) codeEs.toList 0 = some (some (6, .func (.func 66) #[] #[])) := by kernel_rfl
theorem callF_22 (v : V) (f : Int) (b : Nat) (nm : ByteArray) : callF v 22 f b nm = (((v.read f).1.toNat : Int), false, (v.read f).2) := by
 unfold callF
 rw [if_neg (by decide)]
 rw [if_neg (by decide)]
 rw [if_neg (by decide)]
 rw [if_neg (by decide)]
 rw [if_pos rfl]
theorem after_22 (d : Mc) (v : V) (a : Int) (b : Nat) (nm : ByteArray) : afterF d 22 (callF v 22 (sg a) b nm) = { d with c := { d.c with R := upd d.c.R 0 (((v.read (sg a)).1.toNat : Int)) } } := by
 unfold afterF
 rw [callF_22, if_pos (by decide)]
theorem st_22 (v : V) (a : Int) (b : Nat) (nm : ByteArray) : (callF v 22 (sg a) b nm).2.2 = (v.read (sg a)).2 := by rw [callF_22]
theorem sys_22 (h : MS W p mb s mm d v base F) (hd : d.Ok) (a b : Nat) (ha : d.c.R 0 = a) (hb : d.c.R 1 = b) (ha2 : a < 4294967296) (hb2 : b < 4294967296) :
  Calls Tryz.prog 43 #[.pointer (some ⟨p, 0, none⟩), .int .i64 22] W (fun e w1 => e = .returned (.tuple #[]) ∧ MAt w1 p mb s mm { d with c := { d.c with R := upd d.c.R 0 (((v.read (sg a)).1.toNat : Int)) } } ∧ SE p mb mm s base F ((v.read (sg a)).2) W w1) := by
 have hq := h.quiet (Chg.refl NoB W).drew
 have hcon := mread_c hq a b
 refine (sys_st h.m 22 6 66 find_22 cf_read (((v.read (sg a)).1.toNat : Int)) true d ⟨rfl, rfl⟩ (SE p mb mm s base F ((v.read (sg a)).2) W) (fun _ _ h hc => h.keep hc) ?_).mono fun e w1 he => ⟨he.1, by have h2 := he.2.1; rw [if_pos rfl] at h2; exact h2, he.2.2⟩
 rw [ha, hb]
 exact hcon.mono fun e w1 he => he.se
theorem find_23 : Instr.findNow (.int .i64) (.int .i64 23) codeEs.toList 0 = some (some (7, .func (.func 67) #[] #[])) := by kernel_rfl
theorem callF_23 (v : V) (f : Int) (b : Nat) (nm : ByteArray) : callF v 23 f b nm = (((v.readWord f).1 : Int), false, (v.readWord f).2) := by
 unfold callF
 rw [if_neg (by decide)]
 rw [if_neg (by decide)]
 rw [if_neg (by decide)]
 rw [if_neg (by decide)]
 rw [if_neg (by decide)]
 rw [if_pos rfl]
theorem after_23 (d : Mc) (v : V) (a : Int) (b : Nat) (nm : ByteArray) : afterF d 23 (callF v 23 (sg a) b nm) = { d with c := { d.c with R := upd d.c.R 0 (((v.readWord (sg a)).1 : Int)) } } := by
 unfold afterF
 rw [callF_23, if_pos (by decide)]
theorem st_23 (v : V) (a : Int) (b : Nat) (nm : ByteArray) : (callF v 23 (sg a) b nm).2.2 = (v.readWord (sg a)).2 := by rw [callF_23]
theorem sys_23 (h : MS W p mb s mm d v base F) (hd : d.Ok) (a b : Nat) (ha : d.c.R 0 = a) (hb : d.c.R 1 = b) (ha2 : a < 4294967296) (hb2 : b < 4294967296) :
  Calls Tryz.prog 43 #[.pointer (some ⟨p, 0, none⟩), .int .i64 23] W (fun e w1 => e = .returned (.tuple #[]) ∧ MAt w1 p mb s mm { d with c := { d.c with R := upd d.c.R 0 (((v.readWord (sg a)).1 : Int)) } } ∧ SE p mb mm s base F ((v.readWord (sg a)).2) W w1) := by
 have hq := h.quiet (Chg.refl NoB W).drew
 have hcon := mreadWord_c hq a b
 refine (sys_st h.m 23 7 67 find_23 cf_readWord (((v.readWord (sg a)).1 : Int)) true d ⟨rfl, rfl⟩ (SE p mb mm s base F ((v.readWord (sg a)).2) W) (fun _ _ h hc => h.keep hc) ?_).mono fun e w1 he => ⟨he.1, by have h2 := he.2.1; rw [if_pos rfl] at h2; exact h2, he.2.2⟩
 rw [ha, hb]
 exact hcon.mono fun e w1 he => he.se
theorem find_24 : Instr.findNow (.int .i64) (.int .i64 24) codeEs.toList 0 = some (some (8, .func (.func 68) #[] #[])) := by kernel_rfl
theorem callF_24 (v : V) (f : Int) (b : Nat) (nm : ByteArray) : callF v 24 f b nm = ((0 : Int), decide ((v.write f [UInt8.ofNat b]).1 ≠ 0), (v.write f [UInt8.ofNat b]).2) := by
 unfold callF
 rw [if_neg (by decide)]
 rw [if_neg (by decide)]
 rw [if_neg (by decide)]
 rw [if_neg (by decide)]
 rw [if_neg (by decide)]
 rw [if_neg (by decide)]
 rw [if_pos rfl]
theorem after_24 (d : Mc) (v : V) (a : Int) (b : Nat) (nm : ByteArray) : afterF d 24 (callF v 24 (sg a) b nm) = (if (decide ((v.write (sg a) [UInt8.ofNat b]).1 ≠ 0)) = true then { d with kind := 5, code := 0 } else d) := by
 unfold afterF
 rw [callF_24, if_neg (by decide)]
theorem st_24 (v : V) (a : Int) (b : Nat) (nm : ByteArray) : (callF v 24 (sg a) b nm).2.2 = (v.write (sg a) [UInt8.ofNat b]).2 := by rw [callF_24]
theorem sys_24 (h : MS W p mb s mm d v base F) (hd : d.Ok) (a b : Nat) (ha : d.c.R 0 = a) (hb : d.c.R 1 = b) (ha2 : a < 4294967296) (hb2 : b < 4294967296) :
  Calls Tryz.prog 43 #[.pointer (some ⟨p, 0, none⟩), .int .i64 24] W (fun e w1 => e = .returned (.tuple #[]) ∧ MAt w1 p mb s mm (if (decide ((v.write (sg a) [UInt8.ofNat b]).1 ≠ 0)) = true then { d with kind := 5, code := 0 } else d) ∧ SE p mb mm s base F ((v.write (sg a) [UInt8.ofNat b]).2) W w1) := by
 have hq := h.quiet (Chg.refl NoB W).drew
 have hcon := mwrite_c hq a b
 rw [stop_eq] at hcon
 generalize hD : (if (decide ((v.write (sg a) [UInt8.ofNat b]).1 ≠ 0)) = true then { d with kind := 5, code := 0 } else d) = D at *
 have hk : D.c.R 0 = d.c.R 0 ∧ D.c.R 1 = d.c.R 1 := by rw [← hD]; split <;> exact ⟨rfl, rfl⟩
 refine (sys_st h.m 24 8 68 find_24 cf_write 0 false D hk (SE p mb mm s base F ((v.write (sg a) [UInt8.ofNat b]).2) W) (fun _ _ h hc => h.keep hc) ?_).mono fun e w1 he => ⟨he.1, by have h2 := he.2.1; rw [if_neg Bool.false_ne_true] at h2; exact h2, he.2.2⟩
 rw [ha, hb]
 exact hcon.mono fun e w1 he => he.se
theorem find_25 : Instr.findNow (.int .i64) (.int .i64 25) codeEs.toList 0 = some (some (9, .func (.func 69) #[] #[])) := by kernel_rfl
theorem callF_25 (v : V) (f : Int) (b : Nat) (nm : ByteArray) : callF v 25 f b nm = ((0 : Int), decide ((v.write f (bytesOfWord b)).1 ≠ 0), (v.write f (bytesOfWord b)).2) := by
 unfold callF
 rw [if_neg (by decide)]
 rw [if_neg (by decide)]
 rw [if_neg (by decide)]
 rw [if_neg (by decide)]
 rw [if_neg (by decide)]
 rw [if_neg (by decide)]
 rw [if_neg (by decide)]
 rw [if_pos rfl]
theorem after_25 (d : Mc) (v : V) (a : Int) (b : Nat) (nm : ByteArray) : afterF d 25 (callF v 25 (sg a) b nm) = (if (decide ((v.write (sg a) (bytesOfWord b)).1 ≠ 0)) = true then { d with kind := 5, code := 0 } else d) := by
 unfold afterF
 rw [callF_25, if_neg (by decide)]
theorem st_25 (v : V) (a : Int) (b : Nat) (nm : ByteArray) : (callF v 25 (sg a) b nm).2.2 = (v.write (sg a) (bytesOfWord b)).2 := by rw [callF_25]
theorem sys_25 (h : MS W p mb s mm d v base F) (hd : d.Ok) (a b : Nat) (ha : d.c.R 0 = a) (hb : d.c.R 1 = b) (ha2 : a < 4294967296) (hb2 : b < 4294967296) :
  Calls Tryz.prog 43 #[.pointer (some ⟨p, 0, none⟩), .int .i64 25] W (fun e w1 => e = .returned (.tuple #[]) ∧ MAt w1 p mb s mm (if (decide ((v.write (sg a) (bytesOfWord b)).1 ≠ 0)) = true then { d with kind := 5, code := 0 } else d) ∧ SE p mb mm s base F ((v.write (sg a) (bytesOfWord b)).2) W w1) := by
 have hq := h.quiet (Chg.refl NoB W).drew
 have hcon := mwriteWord_c hq a b hb2
 rw [stop_eq] at hcon
 generalize hD : (if (decide ((v.write (sg a) (bytesOfWord b)).1 ≠ 0)) = true then { d with kind := 5, code := 0 } else d) = D at *
 have hk : D.c.R 0 = d.c.R 0 ∧ D.c.R 1 = d.c.R 1 := by rw [← hD]; split <;> exact ⟨rfl, rfl⟩
 refine (sys_st h.m 25 9 69 find_25 cf_writeWord 0 false D hk (SE p mb mm s base F ((v.write (sg a) (bytesOfWord b)).2) W) (fun _ _ h hc => h.keep hc) ?_).mono fun e w1 he => ⟨he.1, by have h2 := he.2.1; rw [if_neg Bool.false_ne_true] at h2; exact h2, he.2.2⟩
 rw [ha, hb]
 exact hcon.mono fun e w1 he => he.se
theorem find_26 : Instr.findNow (.int .i64) (.int .i64 26) codeEs.toList 0 = some (some (10, .func (.func 70) #[] #[])) := by kernel_rfl
theorem callF_26 (v : V) (f : Int) (b : Nat) (nm : ByteArray) : callF v 26 f b nm = ((0 : Int), false, v.seek f b) := by
 unfold callF
 rw [if_neg (by decide)]
 rw [if_neg (by decide)]
 rw [if_neg (by decide)]
 rw [if_neg (by decide)]
 rw [if_neg (by decide)]
 rw [if_neg (by decide)]
 rw [if_neg (by decide)]
 rw [if_neg (by decide)]
 rw [if_pos rfl]
theorem after_26 (d : Mc) (v : V) (a : Int) (b : Nat) (nm : ByteArray) : afterF d 26 (callF v 26 (sg a) b nm) = d := by
 unfold afterF
 rw [callF_26, if_neg (by decide)]
 exact if_neg Bool.false_ne_true
theorem st_26 (v : V) (a : Int) (b : Nat) (nm : ByteArray) : (callF v 26 (sg a) b nm).2.2 = v.seek (sg a) b := by rw [callF_26]
theorem sys_26 (h : MS W p mb s mm d v base F) (hd : d.Ok) (a b : Nat) (ha : d.c.R 0 = a) (hb : d.c.R 1 = b) (ha2 : a < 4294967296) (hb2 : b < 4294967296) :
  Calls Tryz.prog 43 #[.pointer (some ⟨p, 0, none⟩), .int .i64 26] W (fun e w1 => e = .returned (.tuple #[]) ∧ MAt w1 p mb s mm d ∧ SE p mb mm s base F (v.seek (sg a) b) W w1) := by
 have hq := h.quiet (Chg.refl NoB W).drew
 have hcon := mseek_c hq a b hb2
 refine (sys_st h.m 26 10 70 find_26 cf_seek 0 false d ⟨rfl, rfl⟩ (SE p mb mm s base F (v.seek (sg a) b) W) (fun _ _ h hc => h.keep hc) ?_).mono fun e w1 he => ⟨he.1, by have h2 := he.2.1; rw [if_neg Bool.false_ne_true] at h2; exact h2, he.2.2⟩
 rw [ha, hb]
 exact hcon.mono fun e w1 he => he.se
theorem find_27 : Instr.findNow (.int .i64) (.int .i64 27) codeEs.toList 0 = some (some (11, .func (.func 71) #[] #[])) := by kernel_rfl
theorem callF_27 (v : V) (f : Int) (b : Nat) (nm : ByteArray) : callF v 27 f b nm = ((0 : Int), decide ((v.register f).1 ≠ 0), (v.register f).2) := by
 unfold callF
 rw [if_neg (by decide)]
 rw [if_neg (by decide)]
 rw [if_neg (by decide)]
 rw [if_neg (by decide)]
 rw [if_neg (by decide)]
 rw [if_neg (by decide)]
 rw [if_neg (by decide)]
 rw [if_neg (by decide)]
 rw [if_neg (by decide)]
 rw [if_pos rfl]
theorem after_27 (d : Mc) (v : V) (a : Int) (b : Nat) (nm : ByteArray) : afterF d 27 (callF v 27 (sg a) b nm) = (if (decide ((v.register (sg a)).1 ≠ 0)) = true then { d with kind := 5, code := 0 } else d) := by
 unfold afterF
 rw [callF_27, if_neg (by decide)]
theorem st_27 (v : V) (a : Int) (b : Nat) (nm : ByteArray) : (callF v 27 (sg a) b nm).2.2 = (v.register (sg a)).2 := by rw [callF_27]
theorem sys_27 (h : MS W p mb s mm d v base F) (hd : d.Ok) (a b : Nat) (ha : d.c.R 0 = a) (hb : d.c.R 1 = b) (ha2 : a < 4294967296) (hb2 : b < 4294967296) :
  Calls Tryz.prog 43 #[.pointer (some ⟨p, 0, none⟩), .int .i64 27] W (fun e w1 => e = .returned (.tuple #[]) ∧ MAt w1 p mb s mm (if (decide ((v.register (sg a)).1 ≠ 0)) = true then { d with kind := 5, code := 0 } else d) ∧ SE p mb mm s base F ((v.register (sg a)).2) W w1) := by
 have hq := h.quiet (Chg.refl NoB W).drew
 have hcon := mregister_c hq a b
 rw [stop_eq] at hcon
 generalize hD : (if (decide ((v.register (sg a)).1 ≠ 0)) = true then { d with kind := 5, code := 0 } else d) = D at *
 have hk : D.c.R 0 = d.c.R 0 ∧ D.c.R 1 = d.c.R 1 := by rw [← hD]; split <;> exact ⟨rfl, rfl⟩
 refine (sys_st h.m 27 11 71 find_27 cf_register 0 false D hk (SE p mb mm s base F ((v.register (sg a)).2) W) (fun _ _ h hc => h.keep hc) ?_).mono fun e w1 he => ⟨he.1, by have h2 := he.2.1; rw [if_neg Bool.false_ne_true] at h2; exact h2, he.2.2⟩
 rw [ha, hb]
 exact hcon.mono fun e w1 he => he.se
theorem find_28 : Instr.findNow (.int .i64) (.int .i64 28) codeEs.toList 0 = some (some (12, .func (.func 72) #[] #[])) := by kernel_rfl
theorem callF_28 (v : V) (f : Int) (b : Nat) (nm : ByteArray) : callF v 28 f b nm = ((0 : Int), false, v.del nm) := by
 unfold callF
 rw [if_neg (by decide)]
 rw [if_neg (by decide)]
 rw [if_neg (by decide)]
 rw [if_neg (by decide)]
 rw [if_neg (by decide)]
 rw [if_neg (by decide)]
 rw [if_neg (by decide)]
 rw [if_neg (by decide)]
 rw [if_neg (by decide)]
 rw [if_neg (by decide)]
theorem after_28 (d : Mc) (v : V) (a : Int) (b : Nat) (nm : ByteArray) : afterF d 28 (callF v 28 (sg a) b nm) = d := by
 unfold afterF
 rw [callF_28, if_neg (by decide)]
 exact if_neg Bool.false_ne_true
theorem st_28 (v : V) (a : Int) (b : Nat) (nm : ByteArray) : (callF v 28 (sg a) b nm).2.2 = v.del nm := by rw [callF_28]
theorem sys_28 (h : MS W p mb s mm d v base F) (hd : d.Ok) (a b : Nat) (ha : d.c.R 0 = a) (hb : d.c.R 1 = b) (ha2 : a < 4294967296) (hb2 : b < 4294967296) (nm : ByteArray) (hnm : a + b ≤ d.n ∧ nm = nameAt d.M a b) :
  Calls Tryz.prog 43 #[.pointer (some ⟨p, 0, none⟩), .int .i64 28] W (fun e w1 => e = .returned (.tuple #[]) ∧ MAt w1 p mb s mm d ∧ SE p mb mm s base F (v.del nm) W w1) := by
 have hq := h.quiet (Chg.refl NoB W).drew
 have hcon := mremove_c hq hd a b hnm.1 nm hnm.2
 refine (sys_st h.m 28 12 72 find_28 cf_remove 0 false d ⟨rfl, rfl⟩ (SE p mb mm s base F (v.del nm) W) (fun _ _ h hc => h.keep hc) ?_).mono fun e w1 he => ⟨he.1, by have h2 := he.2.1; rw [if_neg Bool.false_ne_true] at h2; exact h2, he.2.2⟩
 rw [ha, hb]
 exact hcon.mono fun e w1 he => he.se
theorem sysn_c (h : MS W p mb s mm d v base F) (hd : d.Ok) (n : Nat) (hn : 18 ≤ n ∧ n ≤ 28) (a b : Nat) (ha : d.c.R 0 = a) (hb : d.c.R 1 = b) (ha2 : a < 4294967296) (hb2 : b < 4294967296) (nm : ByteArray) (hnm : (n = 18 ∨ n = 19 ∨ n = 28) → a + b ≤ d.n ∧ nm = nameAt d.M a b) :
  Calls Tryz.prog 43 #[.pointer (some ⟨p, 0, none⟩), .int .i64 n] W (fun e w1 => e = .returned (.tuple #[]) ∧ MAt w1 p mb s mm (afterF d n (callF v n (sg a) b nm)) ∧ SE p mb mm s base F (callF v n (sg a) b nm).2.2 W w1) := by
 have hc : n = 18 ∨ n = 19 ∨ n = 20 ∨ n = 21 ∨ n = 22 ∨ n = 23 ∨ n = 24 ∨ n = 25 ∨ n = 26 ∨ n = 27 ∨ n = 28 := by omega
 rcases hc with rfl | rfl | rfl | rfl | rfl | rfl | rfl | rfl | rfl | rfl | rfl
 ·refine (sys_18 h hd a b ha hb ha2 hb2 nm (hnm (by decide))).mono fun e w1 he => ⟨he.1, ?_, ?_⟩
  ·rw [after_18]; exact he.2.1
  ·rw [st_18]; exact he.2.2
 ·refine (sys_19 h hd a b ha hb ha2 hb2 nm (hnm (by decide))).mono fun e w1 he => ⟨he.1, ?_, ?_⟩
  ·rw [after_19]; exact he.2.1
  ·rw [st_19]; exact he.2.2
 ·refine (sys_20 h hd a b ha hb ha2 hb2).mono fun e w1 he => ⟨he.1, ?_, ?_⟩
  ·rw [after_20]; exact he.2.1
  ·rw [st_20]; exact he.2.2
 ·refine (sys_21 h hd a b ha hb ha2 hb2).mono fun e w1 he => ⟨he.1, ?_, ?_⟩
  ·rw [after_21]; exact he.2.1
  ·rw [st_21]; exact he.2.2
 ·refine (sys_22 h hd a b ha hb ha2 hb2).mono fun e w1 he => ⟨he.1, ?_, ?_⟩
  ·rw [after_22]; exact he.2.1
  ·rw [st_22]; exact he.2.2
 ·refine (sys_23 h hd a b ha hb ha2 hb2).mono fun e w1 he => ⟨he.1, ?_, ?_⟩
  ·rw [after_23]; exact he.2.1
  ·rw [st_23]; exact he.2.2
 ·refine (sys_24 h hd a b ha hb ha2 hb2).mono fun e w1 he => ⟨he.1, ?_, ?_⟩
  ·rw [after_24]; exact he.2.1
  ·rw [st_24]; exact he.2.2
 ·refine (sys_25 h hd a b ha hb ha2 hb2).mono fun e w1 he => ⟨he.1, ?_, ?_⟩
  ·rw [after_25]; exact he.2.1
  ·rw [st_25]; exact he.2.2
 ·refine (sys_26 h hd a b ha hb ha2 hb2).mono fun e w1 he => ⟨he.1, ?_, ?_⟩
  ·rw [after_26]; exact he.2.1
  ·rw [st_26]; exact he.2.2
 ·refine (sys_27 h hd a b ha hb ha2 hb2).mono fun e w1 he => ⟨he.1, ?_, ?_⟩
  ·rw [after_27]; exact he.2.1
  ·rw [st_27]; exact he.2.2
 ·refine (sys_28 h hd a b ha hb ha2 hb2 nm (hnm (by decide))).mono fun e w1 he => ⟨he.1, ?_, ?_⟩
  ·rw [after_28]; exact he.2.1
  ·rw [st_28]; exact he.2.2
theorem stepn_c (h : MS W p mb s mm d v base F) (hd : d.Ok) (hk : d.kind = 0) (hh : d.heap ≤ d.n) (hpc : d.c.pc = 0) (n : Nat) (hn : 18 ≤ n ∧ n ≤ 28) (hw : wordAt d.M 0 = sysW n) (a b : Nat) (ha : d.c.R 0 = a) (hb : d.c.R 1 = b) (ha2 : a < 4294967296) (hb2 : b < 4294967296) (nm : ByteArray) (hnm : (n = 18 ∨ n = 19 ∨ n = 28) → a + b ≤ d.n ∧ nm = nameAt d.M a b) :
  Calls Tryz.prog 15 #[.pointer (some ⟨p, 0, none⟩)] W (fun e w1 => e = .returned (.bool (decide ((afterF { d with c := { d.c with pc := 1 } } n (callF v n (sg a) b nm)).kind = 0))) ∧ MAt w1 p mb s mm (afterF { d with c := { d.c with pc := 1 } } n (callF v n (sg a) b nm)) ∧ SE p mb mm s base F (callF v n (sg a) b nm).2.2 W w1) := by
 have hev : d.ev = ({ d.c with pc := 1 }, ⟨4, 0, false, 0, 0, n⟩) := by
  unfold Mc.ev
  rw [hpc]
  show stepF d.c (wordAt d.M 0) = _
  rw [hw]
  exact stepSys d.c hpc n hn
 refine mstep_sys h.m hd hk hh (by rw [hev]) 0 hpc (by have := hd.n.1; omega) _ (fun w1 => MAt w1 p mb s mm (afterF { d with c := { d.c with pc := 1 } } n (callF v n (sg a) b nm)) ∧ SE p mb mm s base F (callF v n (sg a) b nm).2.2 W w1) (fun w' h => h.1.cells.2.2.2.2.1) (fun V hV hc => ?_)
 rw [hev] at hV ⊢
 have hMS : MS V p mb s mm { d with c := { d.c with pc := 1 } } v base F := ⟨hV, h.s.chg hc (fun k hk e => (h.ne k hk).1 e), h.ne⟩
 refine (sysn_c hMS ⟨⟨hd.c.r, hd.c.h, by show (0 : Int) ≤ 1 ∧ (1 : Int) < 4294967296; omega⟩, hd.m, hd.n, hd.heap⟩ n hn a b ha hb ha2 hb2 nm hnm).mono fun e w1 ⟨he, hm, F', h1, h2, h3, h4⟩ => ?_
 have := hc.size
 exact ⟨he, hm, F', h1, h2, (hc.mono fun k _ e => .inr (.inl e)).trans h3, fun k hk hl => h4 k hk (by omega)⟩
end
end Go.Proofs.YtggknljlibhkjaaGreat
