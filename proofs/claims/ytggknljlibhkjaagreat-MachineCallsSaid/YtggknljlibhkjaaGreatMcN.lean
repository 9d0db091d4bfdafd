import Derived.Test.YtggknljlibhkjaaGreatGMcB
import Derived.StillTailTactics
import Derived.MapKept
set_option linter.unusedSimpArgs false
set_option linter.unusedVariables false
namespace Go.Proofs.YtggknljlibhkjaaGreat
open Go Go.RowKit
abbrev MapT : TypeId := 89
theorem isKey_i64 (n : Int) : MapKept.IsKey (.int .i64) (.int .i64 n) := by simp [MapKept.IsKey]
def lkRes (a : Option (Nat × Value)) : Value := match a with | some x => .tuple #[x.2, .bool true] | none => .tuple #[.nilFunc, .bool false]
theorem lookup_code {W : World} {mm : Nat} (h : W.heap[mm]? = some (.map codeEs 13)) (n : Int) (a : Option (Nat × Value)) (hf : Instr.findNow (.int .i64) (.int .i64 n) codeEs.toList 0 = some a) :
  (Instr.lookup MapT (.map (some mm)) (.int .i64 n) true).run Tryz.prog W = .ok (lkRes a) W := by
 have hc : (Instr.checkKey codeEs.isEmpty 10000 3 (.int .i64 n)).run Tryz.prog W = .ok () W := MapKept.run_checkKey Tryz.underlying3 (isKey_i64 n) _ 9999
 have hz : (zeroValue 148).run Tryz.prog W = .ok .nilFunc W := by kernel_rfl
 cases a with
 | none => simp [lkRes, Instr.lookup, run_underlying Tryz.underlying89, MapKept.run_getObj_map h, hc, MapKept.run_findKey Tryz.underlying3 hf, hz, Result.andThen]
 | some x => simp [lkRes, Instr.lookup, run_underlying Tryz.underlying89, MapKept.run_getObj_map h, hc, MapKept.run_findKey Tryz.underlying3 hf, Result.andThen]
theorem findNow_none : ∀ (l : List MapEntry) (i : Nat) (n : Int), (∀ e ∈ l, ∃ k : Int, e.key = .int .i64 k ∧ k ≠ n) → Instr.findNow (.int .i64) (.int .i64 n) l i = some none
 | [], _, _, _ => rfl
 | e :: r, i, n, h => by
  obtain ⟨k, hk, hne⟩ := h e (by simp)
  have := findNow_none r (i + 1) n fun e he => h e (by simp [he])
  have hb : (n == k) = false := by simpa using Ne.symm hne
  simp [Instr.findNow, hk, Instr.sameNow, hb, this]
theorem find_out (n : Int) (h : n < 16 ∨ 28 < n) : Instr.findNow (.int .i64) (.int .i64 n) codeEs.toList 0 = some none := by
 refine findNow_none _ 0 n fun e he => ?_
 simp only [codeEs, codeL, List.zipIdx, List.map_cons, List.map_nil, List.mem_cons, List.not_mem_nil, or_false] at he
 rcases he with rfl | rfl | rfl | rfl | rfl | rfl | rfl | rfl | rfl | rfl | rfl | rfl | rfl
 all_goals exact ⟨_, rfl, by omega⟩
section
variable {W W' : World} {p mb s mm : Nat} {d : Mc}
theorem MPost.from_ {v : Value} {d' : Mc} {e : Ending} {w1 : World} (hc : Chg NoB W W') (h : MPost p mb s mm v d' W' e w1) : MPost p mb s mm v d' W e w1 := ⟨h.1, h.2.1, (hc.mono (fun _ _ h => h.elim)).trans h.2.2⟩
theorem sys_out (h : MAt W p mb s mm d) (n : Int) (hn : n < 16 ∨ 28 < n) : Calls Tryz.prog 43 #[.pointer (some ⟨p, 0, none⟩), .int .i64 n] W (MPost p mb s mm (.tuple #[]) { d with kind := 7, code := 0 } W) := by
 have hlk : (Instr.lookup MapT (.map (some mm)) (.int .i64 n) true).run Tryz.prog W = .ok (.tuple #[.nilFunc, .bool false]) W := lookup_code h.code n _ (find_out n hn)
 obtain ⟨_, _, _, _, _, _, k27⟩ := h.cells
 have HE := Go.Lib.hid (mend_c h 7 0)
 clear h hn
 go_enter Tryz.func43, Tryz.ntmps43
 go_wp2_with fail
 refine HE.out.mono ?_
 rintro e w1 ⟨rfl, h1, h2⟩
 have H := Go.Lib.hid (And.intro h1 h2)
 clear h1 h2
 go_wp2_with fail
 exact bodyPost_ret (v := .tuple #[]) (results_none rfl _ _ _) rfl ⟨rfl, H.out.1, H.out.2⟩
set_option maxRecDepth 100000 in
theorem sys_in (h : MAt W p mb s mm d) (n : Int) (j : Nat) (f : FuncId) (hf : Instr.findNow (.int .i64) (.int .i64 n) codeEs.toList 0 = some (some (j, .func (.func f) #[] #[]))) (hcf : ∀ (xs : Array Value) W, (callFunc f xs).run Tryz.prog W = .ok (.enter f xs) W) (x : Int) (ok : Bool) (d' : Mc) (hk : d'.c.R 0 = d.c.R 0 ∧ d'.c.R 1 = d.c.R 1)
  (hc : Calls Tryz.prog f #[.pointer (some ⟨p, 0, none⟩), .int .u32 (d.c.R 0), .int .u32 (d.c.R 1)] W.drew (MPost p mb s mm (.tuple #[.int .u32 x, .bool ok]) d' W.drew)) :
  Calls Tryz.prog 43 #[.pointer (some ⟨p, 0, none⟩), .int .i64 n] W (MPost p mb s mm (.tuple #[]) (if ok = true then { d' with c := { d'.c with R := upd d'.c.R 0 x } } else d') W) := by
 have hlk : (Instr.lookup MapT (.map (some mm)) (.int .i64 n) true).run Tryz.prog W = .ok (.tuple #[.func (.func f) #[] #[], .bool true]) W := lookup_code h.code n _ hf
 obtain ⟨_, _, _, _, _, _, k27⟩ := h.cells
 have k0 := h.reg (i := 0) (by decide)
 have k1 := h.reg (i := 1) (by decide)
 have HC := Go.Lib.hid hc
 have HK := Go.Lib.hid hk
 have hcf' := hcf #[.pointer (some ⟨p, 0, none⟩), .int .u32 (d.c.R 0), .int .u32 (d.c.R 1)] W.drew
 clear h hf hc hcf hk
 obtain ⟨D, hD⟩ : ∃ D, (if ok = true then { d' with c := { d'.c with R := upd d'.c.R 0 x } } else d') = D := ⟨_, rfl⟩
 have HD := Go.Lib.hid hD
 rw [hD]
 clear hD
 generalize d.c.R 0 = r0 at *
 generalize d.c.R 1 = r1 at *
 go_enter Tryz.func43, Tryz.ntmps43
 go_wp2_with fail
 -- BEGIN
 refine regionT 19 (fun V => V.cell? ⟨p, 0, none⟩ = some (.int .u32 r0) ∧ V.cell? ⟨p, 1, none⟩ = some (.int .u32 r1)) (by kernel_rfl) (by decide) (⟨k0, k1⟩) (fun inv0 hHeld => ?_)
 refine takeT (i := 0) (t := 22) (v := ?v0) rfl (by kernel_rfl) (fun _ _ _ h => h) rfl (Or.inl ⟨by rfl, ?h0⟩) inv0 hHeld ?r0
 case h0 => (intro w hSw; (try dsimp only at hSw); go_simp; try with_reducible rfl)
 intro inv01
 clear inv0
 try simp only [sw1, sw2, sw3]
 refine takeT (i := 1) (t := 23) (v := ?v1) rfl (by kernel_rfl) (fun _ _ _ h => h) rfl (Or.inl ⟨by rfl, ?h1⟩) inv01 hHeld ?r1
 case h1 => (intro w hSw; (try dsimp only at hSw); go_simp; try with_reducible rfl)
 intro inv11
 clear inv01
 try simp only [sw1, sw2, sw3]
 refine takeT (i := 2) (t := 24) (v := ?v2) rfl (by kernel_rfl) (fun _ _ _ h => h) rfl (Or.inl ⟨by rfl, ?h2⟩) inv11 hHeld ?r2
 case h2 => (intro w hSw; (try dsimp only at hSw); go_simp; try with_reducible rfl)
 intro inv21
 clear inv11
 try simp only [sw1, sw2, sw3]
 refine takeT (i := 3) (t := 25) (v := ?v3) rfl (by kernel_rfl) (fun _ _ _ h => h) rfl (Or.inl ⟨by rfl, ?h3⟩) inv21 hHeld ?r3
 case h3 => (intro w hSw; (try dsimp only at hSw); go_simp; try with_reducible rfl)
 intro inv31
 clear inv21
 try simp only [sw1, sw2, sw3]
 refine takeT (i := 4) (t := 26) (v := ?v4) rfl (by kernel_rfl) (fun _ _ _ h => h) rfl (Or.inl ⟨by rfl, ?h4⟩) inv31 hHeld ?r4
 case h4 => (intro w hSw; (try dsimp only at hSw); go_simp; try with_reducible rfl)
 intro inv41
 clear inv31
 try simp only [sw1, sw2, sw3]
 refine takeT (i := 5) (t := 27) (v := ?v5) rfl (by kernel_rfl) (fun _ _ _ h => h) rfl (Or.inl ⟨by rfl, ?h5⟩) inv41 hHeld ?r5
 case h5 => (intro w hSw; (try dsimp only at hSw); go_simp; try with_reducible rfl)
 intro inv51
 clear inv41
 try simp only [sw1, sw2, sw3]
 refine takeT (i := 6) (t := 28) (v := ?v6) rfl (by kernel_rfl) (fun _ _ _ h => h) rfl (Or.inl ⟨by rfl, ?h6⟩) inv51 hHeld ?r6
 case h6 => (intro w hSw; (try dsimp only at hSw); go_simp; try with_reducible rfl)
 intro inv61
 clear inv51
 try simp only [sw1, sw2, sw3]
 refine takeT (i := 7) (t := 29) (v := ?v7) rfl (by kernel_rfl) (fun _ _ _ h => h) rfl (Or.inl ⟨by rfl, ?h7⟩) inv61 hHeld ?r7
 case h7 => (intro w hSw; (try dsimp only at hSw); go_simp; try with_reducible rfl)
 intro inv71
 clear inv61
 try simp only [sw1, sw2, sw3]
 refine takeT (i := 8) (t := 30) (v := ?v8) rfl (by kernel_rfl) (fun _ _ _ h => h) rfl (Or.inl ⟨by rfl, ?h8⟩) inv71 hHeld ?r8
 case h8 => (intro w hSw; (try dsimp only at hSw); go_simp; try with_reducible rfl)
 intro inv81
 clear inv71
 try simp only [sw1, sw2, sw3]
 refine takeT (i := 9) (t := 31) (v := ?v9) rfl (by kernel_rfl) (fun _ _ _ h => h) rfl (Or.inl ⟨by rfl, ?h9⟩) inv81 hHeld ?r9
 case h9 => (intro w hSw; (try dsimp only at hSw); go_simp; try with_reducible rfl)
 intro inv91
 clear inv81
 try simp only [sw1, sw2, sw3]
 refine takeT (i := 10) (t := 32) (v := ?v10) rfl (by kernel_rfl) (fun _ _ _ h => h) rfl (Or.inl ⟨by rfl, ?h10⟩) inv91 hHeld ?r10
 case h10 => (intro w hSw; (try dsimp only at hSw); go_simp; try with_reducible rfl)
 intro inv101
 clear inv91
 try simp only [sw1, sw2, sw3]
 refine takeT (i := 11) (t := 33) (v := ?v11) rfl (by kernel_rfl) (fun _ _ _ h => h) rfl (Or.inl ⟨by rfl, ?h11⟩) inv101 hHeld ?r11
 case h11 => (intro w hSw; (try dsimp only at hSw); go_simp; try with_reducible rfl)
 intro inv111
 clear inv101
 try simp only [sw1, sw2, sw3]
 refine takeT (i := 12) (t := 34) (v := ?v12) rfl (by kernel_rfl) (fun _ _ _ h => h) rfl (Or.inl ⟨by rfl, ?h12⟩) inv111 hHeld ?r12
 case h12 => (intro w hSw; (try dsimp only at hSw); go_simp; try with_reducible rfl)
 intro inv121
 clear inv111
 try simp only [sw1, sw2, sw3]
 refine takeT (i := 13) (t := 35) (v := ?v13) rfl (by kernel_rfl) (fun _ _ _ h => h) rfl (Or.inl ⟨by rfl, ?h13⟩) inv121 hHeld ?r13
 case h13 => (intro w hSw; (try dsimp only at hSw); go_simp; try with_reducible rfl)
 intro inv131
 clear inv121
 try simp only [sw1, sw2, sw3]
 refine callT (i := 14) (t := 36) (f := f) (args := #[.pointer (some ⟨p, 0, none⟩), .int .u32 r0, .int .u32 r1]) rfl (by kernel_rfl) rfl (by rfl) ?hx14 inv131 (by decide) ?hc14
 case hx14 => (go_simp; try rfl)
 case hc14 =>
  refine HC.out.mono ?_
  rintro e w1 ⟨rfl, h1, h2⟩
  refine ⟨_, rfl, ⟨by rw [← HK.out.1]; exact h1.reg (by decide), by rw [← HK.out.2]; exact h1.reg (by decide)⟩, fun inv141 hHeld14 => ?_⟩
  clear hHeld inv131
  have H1 := Go.Lib.hid h1
  have H2 := Go.Lib.hid ((show Chg (memF p mb) W W.drew from (Chg.refl _ _).drew).trans h2)
  clear h1 h2 hlk k27 k0 k1
  refine takeT (i := 15) (t := 21) (v := ?v15) rfl (by kernel_rfl) (fun _ _ _ h => h) rfl (Or.inl ⟨by rfl, ?h15⟩) inv141 hHeld14 ?r15
  case h15 => (intro w hSw; (try dsimp only at hSw); go_simp; try with_reducible rfl)
  intro inv151
  clear inv141
  try simp only [sw1, sw2, sw3]
  refine takeT (i := 16) (t := 37) (v := ?v16) rfl (by kernel_rfl) (fun _ _ _ h => h) rfl (Or.inl ⟨by rfl, ?h16⟩) inv151 hHeld14 ?r16
  case h16 => (intro w hSw; (try dsimp only at hSw); go_simp; try with_reducible rfl)
  intro inv161
  clear inv151
  try simp only [sw1, sw2, sw3]
  refine takeT (i := 17) (t := 38) (v := ?v17) rfl (by kernel_rfl) (fun _ _ _ h => h) rfl (Or.inl ⟨by rfl, ?h17⟩) inv161 hHeld14 ?r17
  case h17 => (intro w hSw; (try dsimp only at hSw); go_simp; try with_reducible rfl)
  intro inv171
  clear inv161
  try simp only [sw1, sw2, sw3]
  refine takeT (i := 18) (t := 6) (v := ?v18) rfl (by kernel_rfl) (fun _ _ _ h => h) rfl (Or.inl ⟨by rfl, ?h18⟩) inv171 hHeld14 ?r18
  case h18 => (intro w hSw; (try dsimp only at hSw); go_simp; try with_reducible rfl)
  intro inv181
  clear inv171
  try simp only [sw1, sw2, sw3]
  refine lastV (i := 19) (t := 7) (v := .bool ok) (w' := w1) rfl (by kernel_rfl) rfl (by rfl) ?hx19 (by decide) (by kernel_rfl) ?_
  case hx19 => (go_simp; try with_reducible rfl)
  try simp only [sw1, sw2, sw3]
  clear inv181 hHeld14
 -- END
  cases ok
  ·obtain rfl : d' = D := HD.out
   go_wp2_with fail
   go_end0
   exact ⟨rfl, H1.out, H2.out⟩
  ·obtain rfl : { d' with c := { d'.c with R := upd d'.c.R 0 x } } = D := HD.out
   have HA := Go.Lib.hid (answered_c d'.c x w1)
   unfold Cp.val at HA
   have HR := Go.Lib.hid H1.out.cpRange
   have HT : Hid (∀ W, Chg NoB w1 W → World.there W p 0 ({ d'.c with R := upd d'.c.R 0 x } : Cp).arr.size) := Go.Lib.hid fun W hW j hj => by
    have hM := (H1.out.quiet hW).m
    have hj : j < 22 := hj
    refine ⟨?_, hM.frozen _⟩
    rw [Nat.zero_add, hM.cell j, arr_front d' _ _ _ hj]
    have : j < d'.c.arr.size := hj
    simp [Array.getElem?_eq_getElem this]
   go_wp2_with (refine wpList_load_mid rfl 42 (.tmp 43) rfl p 0 rfl d'.c.arr.toList _ HR.out Tryz.underlying42 rfl (by kernel_rfl) ?_)
   refine HA.out.mono ?_
   rintro e w2 ⟨rfl, h2⟩
   have H3 := Go.Lib.hid h2
   clear h2
   go_wp2_with (refine wpList_store_mid rfl 42 (.tmp 48) (.tmp 46) rfl p 0 ({ d'.c with R := upd d'.c.R 0 x } : Cp).arr rfl rfl (HT.out _ H3.out) (by kernel_rfl) (by kernel_rfl) ?_)
   go_end0
   exact ⟨rfl, (H1.out.quiet H3.out).setCpu _, H2.out.trans (setCells_chg (F := memF p mb) (g := p) (.inl rfl) _ 0 w2 (H3.out.mono (fun _ _ h => h.elim)))⟩
theorem cf_halt : ∀ (xs : Array Value) W, (callFunc 60 xs).run Tryz.prog W = .ok (.enter 60 xs) W := fun _ _ => by kernel_rfl
theorem cf_make : ∀ (xs : Array Value) W, (callFunc 61 xs).run Tryz.prog W = .ok (.enter 61 xs) W := fun _ _ => by kernel_rfl
theorem sys_16 (h : MAt W p mb s mm d) : Calls Tryz.prog 43 #[.pointer (some ⟨p, 0, none⟩), .int .i64 16] W (MPost p mb s mm (.tuple #[]) { d with kind := 1, code := d.c.R 0 } W) :=
 sys_in h 16 0 60 rfl cf_halt 0 false { d with kind := 1, code := d.c.R 0 } ⟨rfl, rfl⟩ (halt_c (h.quiet (Chg.refl NoB W).drew) _ _)
def newF (d : Mc) (a : Nat) : Mc := if d.c.R 14 < (topOf d a : Nat) ∨ d.n < topOf d a then { d with kind := 4, code := 0 } else { d with heap := topOf d a, M := clr d.M d.heap (topOf d a), c := { d.c with R := upd d.c.R 0 d.heap } }
theorem sys_17 (h : MAt W p mb s mm d) (hd : d.Ok) (hh : d.heap ≤ d.n) : Calls Tryz.prog 43 #[.pointer (some ⟨p, 0, none⟩), .int .i64 17] W (MPost p mb s mm (.tuple #[]) (newF d (d.c.R 0).toNat) W) := by
 have hr := hd.c.r 0
 have hk := make_c (h.quiet (Chg.refl NoB W).drew) hd hh (d.c.R 0).toNat (by omega) (d.c.R 1)
 rw [show (((d.c.R 0).toNat : Nat) : Int) = d.c.R 0 by omega] at hk
 unfold makeRes makeF at hk
 unfold newF
 by_cases hc : d.c.R 14 < (topOf d (d.c.R 0).toNat : Nat) ∨ d.n < topOf d (d.c.R 0).toNat
 ·rw [if_pos hc, if_pos hc] at hk
  rw [if_pos hc]
  exact sys_in h 17 1 61 rfl cf_make 0 false { d with kind := 4, code := 0 } ⟨rfl, rfl⟩ hk
 ·rw [if_neg hc, if_neg hc] at hk
  rw [if_neg hc]
  exact sys_in h 17 1 61 rfl cf_make d.heap true { d with heap := topOf d (d.c.R 0).toNat, M := clr d.M d.heap (topOf d (d.c.R 0).toNat) } ⟨rfl, rfl⟩ hk
end
end Go.Proofs.YtggknljlibhkjaaGreat
