import Derived.Test.YtggknljlibhkjaaGreatGR2D
set_option linter.unusedSimpArgs false
set_option linter.unusedVariables false
namespace Go.Proofs.YtggknljlibhkjaaGreat
open Go Go.RowKit
section
variable {W W' : World} {r : Nat} {U : V} {X F : Nat → Prop} {a : RA}
set_option maxRecDepth 100000 in
set_option maxHeartbeats 4000000 in
theorem rput_is_full_c {A0 : Option Addr} (h : RefAt W r U X a) (hX : ∀ k, X k → k < W.heap.size) (hs : RSmall U) (nm : ByteArray) (hnm : nm.size ≤ maxLen) (hm : mayName nm = true) (hi : isD nm U.dir = true) (hcap : a.D = .slice A0 U.dir.length (posD nm U.dir + 1)) (l : List UInt8) (hll : l.length < 1000000) (B : Option Addr) (c : Nat) (hB : CellsAt W B (bv l)) (hroom : (l.length : Int) > roomI (delR U nm)) : Calls Tryz.prog 89 #[.pointer (some ⟨r, 0, none⟩), .string nm, .slice B l.length c] W (RPost r X (.int .i64 5) U W) := by
 obtain ⟨e0, he, hen⟩ := isD_some hi
 have hres : delR U nm = { U with dir := U.dir.take (posD nm U.dir) ++ U.dir.drop (posD nm U.dir + 1) } := by unfold delR; rw [he]; simp only; rw [if_pos hen]
 rw [hres] at hroom
 have hs2 : RSmall { U with dir := U.dir.take (posD nm U.dir) ++ U.dir.drop (posD nm U.dir + 1) } := ⟨hs.r, by have := hs.d; simp; omega, hs.f, hs.b, hs.c⟩
 have hkl := (List.getElem?_eq_some_iff.1 he).1
 obtain ⟨gD, cD, hD, hnc, hcm, hhv⟩ := h.halves (by omega)
 have HN := Go.Lib.hid (refName_c nm hnm W)
 rw [hm] at HN
 have HA := Go.Lib.hid (rpos_c h hs.d nm)
 rw [hi] at HA
 have H := Go.Lib.hid h
 obtain ⟨i0, hi0, hz0, hz1, hz2⟩ := info_parts u8info
 have Hi := Go.Lib.hid (And.intro hi0 (And.intro hz0 (And.intro hz1 hz2)))
 obtain ⟨i1, hi0', hz0', hz1', hz2'⟩ := info_parts btinfo
 have Hi1 := Go.Lib.hid (And.intro hi0' (And.intro hz0' (And.intro hz1' hz2')))
 clear hi0 hz0 hz1 hz2 hi0' hz0' hz1' hz2' hm
 obtain ⟨i2, hi0, hz0, hz1, hz2⟩ := info_parts etinfo
 have Hi2 := Go.Lib.hid (And.intro hi0 (And.intro hz0 (And.intro hz1 hz2)))
 clear hi0 hz0 hz1 hz2
 have HC := Go.Lib.hid (fun (W' : World) (hc : Chg NoB W W') => rroom_s (h.quiet hc) hs)
 have HCp := Go.Lib.hid (fun (W' : World) (hc : Chg NoB W W') => rcopy_c (h.quiet hc))
 obtain ⟨_, c1, _, _⟩ := h.cells
 have hC1 := (hhv (posD nm U.dir) (by omega)).1
 have hC2 := (hhv (posD nm U.dir + 1) (by omega)).2
 rw [hD] at hcap c1
 obtain rfl : cD = posD nm U.dir + 1 := by injection hcap
 clear hcap
 have hcm2 : posD nm U.dir + 1 ≤ 9223372036854775807 := by unfold maxLen at hcm; omega
 have hrl := h.lt
 have HCs := Go.Lib.hid (And.intro hC1 hC2)
 have hl1 : (U.dir.take (posD nm U.dir)).length = posD nm U.dir := by simp; omega
 have hl2 : (U.dir.drop (posD nm U.dir + 1)).length = U.dir.length - (posD nm U.dir + 1) := by simp
 have gr : decide ((l.length : Int) > roomI { U with dir := U.dir.take (posD nm U.dir) ++ U.dir.drop (posD nm U.dir + 1) }) = true := by simp only [decide_eq_true_eq, decide_eq_false_iff_not]; exact hroom
 clear h hi hroom hen hres he hhv hC1 hC2
 generalize posD nm U.dir = k at *
 have hj2 : k + 1 ≤ U.dir.length := by omega
 have hwj : IntKind.i64.wrap ((k : Int) + 1) = ((k + 1 : Nat) : Int) := by rw [IntKind.wrap_i64]; have := hs.d; omega
 have hkj : k < k + 1 := by omega
 have hds := hs.d
 generalize hj1 : k + 1 = j1 at *
 clear hj1
 generalize roomI U = ri at *
 go_enter Tryz.func89, Tryz.ntmps89
 go_wp2_with fail
 refine HN.out.mono ?_
 rintro e w1 ⟨rfl, rfl⟩
 go_wp2_with fail
 refine HA.out.mono ?_
 rintro e w1 ⟨rfl, hq⟩
 have HQ := Go.Lib.hid hq
 clear hq HN HA
 go_wp2_with fail
 refine (HC.out _ HQ.out).mono ?_
 rintro e wy ⟨rfl, rfl⟩
 clear HC
 go_wp2_with fail
 refine (HCp.out _ HQ.out).mono ?_
 rintro e w2 ⟨r2, rfl, hbk, hcp, hr2x⟩
 clear HCp
 have hcq := HQ.out.trans hcp
 have hr2 : W.heap.size ≤ r2 := Nat.le_trans HQ.out.size hr2x
 have h2 := (H.out.quiet HQ.out).copy (X := X) hcp hbk hr2x (fun hx => by have := hX r2 hx; omega)
 have hX2 : ∀ j, X j → j < w2.heap.size := fun j hj => Nat.lt_of_lt_of_le (hX j hj) hcq.size
 have c1 := cell_q hcq c1
 have HCs1 := Go.Lib.hid (And.intro (HCs.out.1.chg hcq (fun _ _ => id)) (HCs.out.2.chg hcq (fun _ _ => id)))
 have K1 := Go.Lib.hid c1
 have hr2l := h2.lt
 have k2 := h2.cells.2.1
 rw [hD] at k2
 have K2 := Go.Lib.hid k2
 have HC2 := Go.Lib.hid hcq
 have HP := Go.Lib.hid h2
 clear hcq hcp hbk hr2x HQ HCs h2 k2 hD hrl
 go_wp2_with fail
 refine regionT 18 (fun V' => Chg NoB w2 V') (by kernel_rfl) (by decide) ((Chg.refl NoB w2).drew) (fun inv hS => ?_)
 refine takeT (i := 0) (t := 35) (v := ?v0y1) rfl (by kernel_rfl) (fun _ _ _ h => h) rfl (Or.inl ⟨by rfl, ?h0y1⟩) inv hS ?r0y1
 case h0y1 => (intro V' hSw; clear hSw; go_simp; try with_reducible rfl)
 clear inv
 intro inv
 try simp only [sw1, sw2, sw3]
 refine takeT (i := 1) (t := 36) (v := ?v1y2) rfl (by kernel_rfl) (fun _ _ _ h => h) rfl (Or.inl ⟨by rfl, ?h1y2⟩) inv hS ?r1y2
 case h1y2 => (intro V' hSw; clear hSw; go_simp; try with_reducible rfl)
 clear inv
 intro inv
 try simp only [sw1, sw2, sw3]
 refine takeT (i := 2) (t := 37) (v := ?v2y3) rfl (by kernel_rfl) (fun _ _ _ h => h) rfl (Or.inl ⟨by rfl, ?h2y3⟩) inv hS ?r2y3
 case h2y3 => (intro V' hSw; clear hSw; go_simp; try with_reducible rfl)
 clear inv
 intro inv
 try simp only [sw1, sw2, sw3]
 refine takeT (i := 3) (t := 38) (v := ?v3y4) rfl (by kernel_rfl) (fun _ _ _ h => h) rfl (Or.inl ⟨by rfl, ?h3y4⟩) inv hS ?r3y4
 case h3y4 => (intro V' hSw; clear hSw; go_simp; try with_reducible rfl)
 clear inv
 intro inv
 try simp only [sw1, sw2, sw3]
 refine takeT (i := 4) (t := 39) (v := ?v4y5) rfl (by kernel_rfl) (fun _ _ _ h => h) rfl (Or.inl ⟨by rfl, ?h4y5⟩) inv hS ?r4y5
 case h4y5 => (intro V' hSw; have q := cell_q hSw K1.out; clear hSw; go_simp; try with_reducible rfl)
 clear inv
 intro inv
 try simp only [sw1, sw2, sw3]
 refine takeT (i := 5) (t := 40) (v := ?v5y6) rfl (by kernel_rfl) (fun _ _ _ h => h) rfl (Or.inl ⟨by rfl, ?h5y6⟩) inv hS ?r5y6
 case h5y6 => (intro V' hSw; clear hSw; go_simp; try with_reducible rfl)
 clear inv
 intro inv
 try simp only [sw1, sw2, sw3]
 refine takeT (i := 6) (t := 41) (v := ?v6y7) rfl (by kernel_rfl) (fun _ _ _ h => h) rfl (Or.inl ⟨by rfl, ?h6y7⟩) inv hS ?r6y7
 case h6y7 => (intro V' hSw; clear hSw; go_simp; (try (rw [if_pos (by omega)])); try with_reducible rfl)
 clear inv
 intro inv
 try simp only [sw1, sw2, sw3]
 refine takeT (i := 8) (t := 43) (v := ?v8y8) rfl (by kernel_rfl) (fun _ _ _ h => h) rfl (Or.inl ⟨by rfl, ?h8y8⟩) inv hS ?r8y8
 case h8y8 => (intro V' hSw; clear hSw; go_simp; try with_reducible rfl)
 clear inv
 intro inv
 try simp only [sw1, sw2, sw3]
 refine takeT (i := 9) (t := 44) (v := ?v9y9) rfl (by kernel_rfl) (fun _ _ _ h => h) rfl (Or.inl ⟨by rfl, ?h9y9⟩) inv hS ?r9y9
 case h9y9 => (intro V' hSw; clear hSw; go_simp; try with_reducible rfl)
 clear inv
 intro inv
 try simp only [sw1, sw2, sw3]
 refine takeT (i := 10) (t := 45) (v := ?v10y10) rfl (by kernel_rfl) (fun _ _ _ h => h) rfl (Or.inl ⟨by rfl, ?h10y10⟩) inv hS ?r10y10
 case h10y10 => (intro V' hSw; clear hSw; go_simp; try with_reducible rfl)
 clear inv
 intro inv
 try simp only [sw1, sw2, sw3]
 refine takeT (i := 11) (t := 46) (v := ?v11y11) rfl (by kernel_rfl) (fun _ _ _ h => h) rfl (Or.inl ⟨by rfl, ?h11y11⟩) inv hS ?r11y11
 case h11y11 => (intro V' hSw; have q := cell_q hSw K1.out; clear hSw; go_simp; try with_reducible rfl)
 clear inv
 intro inv
 try simp only [sw1, sw2, sw3]
 refine takeT (i := 12) (t := 47) (v := ?v12y12) rfl (by kernel_rfl) (fun _ _ _ h => h) rfl (Or.inl ⟨by rfl, ?h12y12⟩) inv hS ?r12y12
 case h12y12 => (intro V' hSw; clear hSw; go_simp; try with_reducible rfl)
 clear inv
 intro inv
 try simp only [sw1, sw2, sw3]
 refine takeT (i := 13) (t := 48) (v := .int .i64 (j1 : Int)) rfl (by kernel_rfl) (fun _ _ _ h => h) rfl (Or.inl ⟨by rfl, ?h13y13⟩) inv hS ?r13y13
 case h13y13 => (intro V' hSw; clear hSw; go_simp; try simp only [hwj])
 clear inv
 intro inv
 try simp only [sw1, sw2, sw3]
 refine takeT (i := 14) (t := 49) (v := .slice (some ⟨gD, 0, none⟩) (U.dir.length - j1) 0) rfl (by kernel_rfl) (fun _ _ _ h => h) rfl (Or.inl ⟨by rfl, ?h14y14⟩) inv hS ?r14y14
 case h14y14 => (intro V' hSw; clear hSw; have hz : U.dir.length - j1 = 0 := (by omega); go_simp; (try (rw [if_pos (by omega)])); (try with_reducible rfl))
 clear inv
 intro inv
 try simp only [sw1, sw2, sw3]
 refine manyT (i := 7) (l := []) (by kernel_rfl) (by decide) inv ?ho15
 case ho15 =>
  intro j hj
  simp only [List.mem_cons, List.not_mem_nil, or_false] at hj
  rcases hj with rfl
  ·
   intro inv2
   clear inv
   have inv := inv2
   clear inv2
   refine opWpT rfl (by rfl) (wp_appK _ (.const (.slice none 0 0)) (.tmp 41) _ rfl w2.heap.size ET i2 _ 2 24 Tryz.underlying64 Hi2.out.1 Hi2.out.2.1 Hi2.out.2.2.1 Hi2.out.2.2.2 rfl (by decide) (.slice none 0 0) (0) [] rfl (World.ownsRow_nil _ _ _ _) (some ⟨gD, 0, none⟩) (k) j1 (dcells (U.dir.take k)) rfl (by rw [dcells_len, hl1]) (HCs1.out.1.chg hS (fun _ _ => id)) (dcells_one _) (by unfold maxLen; omega) (by omega) (by have := hS.size; (try simp only [World.drew] at this ⊢); omega) ?_)
   intro v7 w7 own7 gr7 at7
   have hq7 : Chg NoB w2.drew w7 := (Chg.refl NoB _).grown gr7 (by simp [Value.ownBlock])
   have hS := hS.trans hq7
   clear hq7 gr7 at7
   refine ⟨fun _ => hS, ?_⟩
   try simp only [sw1, sw2, sw3]
   refine manyT (i := 15) (l := []) (by kernel_rfl) (by decide) inv ?ho16
   case ho16 =>
    intro j hj
    simp only [List.mem_cons, List.not_mem_nil, or_false] at hj
    rcases hj with rfl
    ·
     intro inv2
     clear inv
     have inv := inv2
     clear inv2
     refine opWpT rfl (by rfl) (wp_appK _ (.tmp 42) (.tmp 49) _ rfl w2.heap.size ET i2 _ 2 24 Tryz.underlying64 Hi2.out.1 Hi2.out.2.1 Hi2.out.2.2.1 Hi2.out.2.2.2 rfl (by decide) v7 (0 + k) ([] ++ dcells (U.dir.take k)) rfl own7 (some ⟨gD, 0, none⟩) (U.dir.length - j1) 0 (dcells (U.dir.drop j1)) rfl (by rw [dcells_len, hl2]) (fun hh => absurd hh (by rw [dcells_len, hl2]; omega)) (dcells_one _) (by unfold maxLen; omega) (by omega) (by have := hS.size; (try simp only [World.drew] at this ⊢); omega) ?_)
     intro v15 w15 own15 gr15 at15
     have hS := hS.grown gr15 (fun j hj hlt => by have := (own7.lt j hj).1; omega)
     clear gr15 at15 own7
     rw [Nat.zero_add, List.nil_append] at own15
     obtain ⟨A17, c17, rfl⟩ := own_slice own15
     have c2' := cell_q hS K2.out
     have z2' := (HP.out.quiet hS).blk.frozen 1
     refine ⟨fun _ => hS, ?_⟩
     try simp only [sw1, sw2, sw3]
     refine takeT (i := 16) (t := 51) (v := ?v16y17) rfl (by kernel_rfl) (fun _ _ _ h => h) rfl (Or.inl ⟨by rfl, ?h16y17⟩) inv hS ?r16y17
     case h16y17 => (intro V' hSw; clear hSw; go_simp; try with_reducible rfl)
     clear inv
     intro inv
     try simp only [sw1, sw2, sw3]
     refine takeT (i := 17) (t := 52) (v := ?v17y18) rfl (by kernel_rfl) (fun _ _ _ h => h) rfl (Or.inl ⟨by rfl, ?h17y18⟩) inv hS ?r17y18
     case h17y18 => (intro V' hSw; clear hSw; go_simp; try with_reducible rfl)
     clear inv
     intro inv
     try simp only [sw1, sw2, sw3]
     refine lastT (i := 18) (w' := w15.setCell ⟨r2, 1, none⟩ (.slice A17 (k + (U.dir.length - j1)) c17)) rfl (by kernel_rfl) rfl (by rfl) ?hx19 (by decide) (by kernel_rfl) ?_
     case hx19 => (go_simp; try with_reducible rfl)
     have hc3 : Chg (fun k => k = r2) w2 (w15.setCell ⟨r2, 1, none⟩ (.slice A17 (k + (U.dir.length - j1)) c17)) := (hS.mono (G := fun k => k = r2) (fun _ _ h => h.elim)).setCell (p := ⟨r2, 1, none⟩) (fun _ => rfl) _
     have hcw : Chg NoB W (w15.setCell ⟨r2, 1, none⟩ (.slice A17 (k + (U.dir.length - j1)) c17)) := (HC2.out.trans hS).setCell (p := ⟨r2, 1, none⟩) (fun hlt => by have := hr2; simp only at hlt; omega) _
     have hb3 := (HP.out.quiet hS).blk.set_ 1 (.slice A17 (k + (U.dir.length - j1)) c17)
     have ho3 := own_chg own15 ((Chg.refl (fun k => k = r2) w15).setCell (p := ⟨r2, 1, none⟩) (fun _ => rfl) (.slice A17 (k + (U.dir.length - j1)) c17)) (fun k hk hx => by
      have := (own15.lt k hk).1
      omega)
     have hfin : ∃ a', RefAt (w15.setCell ⟨r2, 1, none⟩ (.slice A17 (k + (U.dir.length - j1)) c17)) r2 { U with dir := U.dir.take k ++ U.dir.drop j1 } X a' := by
      have hl3 : (U.dir.take k ++ U.dir.drop j1).length = k + (U.dir.length - j1) := by rw [List.length_append, hl1, hl2]
      refine ⟨_, HP.out.putD hX2 hc3 hb3 (d' := U.dir.take k ++ U.dir.drop j1) ?_ (fun q hq => ?_)⟩
      ·rw [hl3, dcells_app]
       exact ho3
      ·rcases List.mem_append.1 hq with hq | hq
       ·exact HP.out.db q (List.mem_of_mem_take hq)
       ·exact HP.out.db q (List.mem_of_mem_drop hq)
     obtain ⟨a3, h3⟩ := hfin
     have HC3 := Go.Lib.hid (rroom_s h3 hs2)
     have HCW := Go.Lib.hid hcw
     have HR := Go.Lib.hid (H.out.quiet hcw)
     clear hc3 hb3 ho3 own15 hS inv hcw h3
     generalize w15.setCell ⟨r2, 1, none⟩ (.slice A17 (k + (U.dir.length - j1)) c17) = wR at *
     generalize roomI { U with dir := U.dir.take k ++ U.dir.drop j1 } = rj at *
     clear K1 K2 HP HCs1 hl1 hl2 hr2l hr2 HC2 hkj hj2 hwj hX2
     go_wp2_with fail
     refine HC3.out.mono ?_
     rintro e wR2 ⟨rfl, rfl⟩
     clear HC3
     go_wp2_with fail
     go_ret
     exact ⟨rfl, ⟨a, HR.out⟩, HCW.out.mono (fun _ _ h => h.elim)⟩
set_option maxRecDepth 100000 in
set_option maxHeartbeats 4000000 in
theorem rput_is_full_n {A0 : Option Addr} (h : RefAt W r U X a) (hX : ∀ k, X k → k < W.heap.size) (hs : RSmall U) (nm : ByteArray) (hnm : nm.size ≤ maxLen) (hm : mayName nm = true) (hi : isD nm U.dir = true) (hcap : ∀ A0, a.D ≠ .slice A0 U.dir.length (posD nm U.dir + 1)) (l : List UInt8) (hll : l.length < 1000000) (B : Option Addr) (c : Nat) (hB : CellsAt W B (bv l)) (hroom : (l.length : Int) > roomI (delR U nm)) : Calls Tryz.prog 89 #[.pointer (some ⟨r, 0, none⟩), .string nm, .slice B l.length c] W (RPost r X (.int .i64 5) U W) := by
 obtain ⟨e0, he, hen⟩ := isD_some hi
 have hres : delR U nm = { U with dir := U.dir.take (posD nm U.dir) ++ U.dir.drop (posD nm U.dir + 1) } := by unfold delR; rw [he]; simp only; rw [if_pos hen]
 rw [hres] at hroom
 have hs2 : RSmall { U with dir := U.dir.take (posD nm U.dir) ++ U.dir.drop (posD nm U.dir + 1) } := ⟨hs.r, by have := hs.d; simp; omega, hs.f, hs.b, hs.c⟩
 have hkl := (List.getElem?_eq_some_iff.1 he).1
 obtain ⟨gD, cD, hD, hnc, hcm, hhv⟩ := h.halves (by omega)
 have HN := Go.Lib.hid (refName_c nm hnm W)
 rw [hm] at HN
 have HA := Go.Lib.hid (rpos_c h hs.d nm)
 rw [hi] at HA
 have H := Go.Lib.hid h
 obtain ⟨i0, hi0, hz0, hz1, hz2⟩ := info_parts u8info
 have Hi := Go.Lib.hid (And.intro hi0 (And.intro hz0 (And.intro hz1 hz2)))
 obtain ⟨i1, hi0', hz0', hz1', hz2'⟩ := info_parts btinfo
 have Hi1 := Go.Lib.hid (And.intro hi0' (And.intro hz0' (And.intro hz1' hz2')))
 clear hi0 hz0 hz1 hz2 hi0' hz0' hz1' hz2' hm
 obtain ⟨i2, hi0, hz0, hz1, hz2⟩ := info_parts etinfo
 have Hi2 := Go.Lib.hid (And.intro hi0 (And.intro hz0 (And.intro hz1 hz2)))
 clear hi0 hz0 hz1 hz2
 have HC := Go.Lib.hid (fun (W' : World) (hc : Chg NoB W W') => rroom_s (h.quiet hc) hs)
 have HCp := Go.Lib.hid (fun (W' : World) (hc : Chg NoB W W') => rcopy_c (h.quiet hc))
 obtain ⟨_, c1, _, _⟩ := h.cells
 have hC1 := (hhv (posD nm U.dir) (by omega)).1
 have hC2 := (hhv (posD nm U.dir + 1) (by omega)).2
 rw [hD] at hcap c1
 have hcap2 : ¬ cD = posD nm U.dir + 1 := fun e => hcap _ (by rw [e])
 clear hcap
 have hcm2 : cD ≤ 9223372036854775807 := by unfold maxLen at hcm; omega
 have hrl := h.lt
 have HCs := Go.Lib.hid (And.intro hC1 hC2)
 have hl1 : (U.dir.take (posD nm U.dir)).length = posD nm U.dir := by simp; omega
 have hl2 : (U.dir.drop (posD nm U.dir + 1)).length = U.dir.length - (posD nm U.dir + 1) := by simp
 have gr : decide ((l.length : Int) > roomI { U with dir := U.dir.take (posD nm U.dir) ++ U.dir.drop (posD nm U.dir + 1) }) = true := by simp only [decide_eq_true_eq, decide_eq_false_iff_not]; exact hroom
 clear h hi hroom hen hres he hhv hC1 hC2
 generalize posD nm U.dir = k at *
 have hj2 : k + 1 ≤ U.dir.length := by omega
 have hwj : IntKind.i64.wrap ((k : Int) + 1) = ((k + 1 : Nat) : Int) := by rw [IntKind.wrap_i64]; have := hs.d; omega
 have hkj : k < k + 1 := by omega
 have hds := hs.d
 generalize hj1 : k + 1 = j1 at *
 clear hj1
 generalize roomI U = ri at *
 go_enter Tryz.func89, Tryz.ntmps89
 go_wp2_with fail
 refine HN.out.mono ?_
 rintro e w1 ⟨rfl, rfl⟩
 go_wp2_with fail
 refine HA.out.mono ?_
 rintro e w1 ⟨rfl, hq⟩
 have HQ := Go.Lib.hid hq
 clear hq HN HA
 go_wp2_with fail
 refine (HC.out _ HQ.out).mono ?_
 rintro e wy ⟨rfl, rfl⟩
 clear HC
 go_wp2_with fail
 refine (HCp.out _ HQ.out).mono ?_
 rintro e w2 ⟨r2, rfl, hbk, hcp, hr2x⟩
 clear HCp
 have hcq := HQ.out.trans hcp
 have hr2 : W.heap.size ≤ r2 := Nat.le_trans HQ.out.size hr2x
 have h2 := (H.out.quiet HQ.out).copy (X := X) hcp hbk hr2x (fun hx => by have := hX r2 hx; omega)
 have hX2 : ∀ j, X j → j < w2.heap.size := fun j hj => Nat.lt_of_lt_of_le (hX j hj) hcq.size
 have c1 := cell_q hcq c1
 have HCs1 := Go.Lib.hid (And.intro (HCs.out.1.chg hcq (fun _ _ => id)) (HCs.out.2.chg hcq (fun _ _ => id)))
 have K1 := Go.Lib.hid c1
 have hr2l := h2.lt
 have k2 := h2.cells.2.1
 rw [hD] at k2
 have K2 := Go.Lib.hid k2
 have HC2 := Go.Lib.hid hcq
 have HP := Go.Lib.hid h2
 clear hcq hcp hbk hr2x HQ HCs h2 k2 hD hrl
 go_wp2_with fail
 refine regionT 18 (fun V' => Chg NoB w2 V') (by kernel_rfl) (by decide) ((Chg.refl NoB w2).drew) (fun inv hS => ?_)
 refine takeT (i := 0) (t := 35) (v := ?v0y20) rfl (by kernel_rfl) (fun _ _ _ h => h) rfl (Or.inl ⟨by rfl, ?h0y20⟩) inv hS ?r0y20
 case h0y20 => (intro V' hSw; clear hSw; go_simp; try with_reducible rfl)
 clear inv
 intro inv
 try simp only [sw1, sw2, sw3]
 refine takeT (i := 1) (t := 36) (v := ?v1y21) rfl (by kernel_rfl) (fun _ _ _ h => h) rfl (Or.inl ⟨by rfl, ?h1y21⟩) inv hS ?r1y21
 case h1y21 => (intro V' hSw; clear hSw; go_simp; try with_reducible rfl)
 clear inv
 intro inv
 try simp only [sw1, sw2, sw3]
 refine takeT (i := 2) (t := 37) (v := ?v2y22) rfl (by kernel_rfl) (fun _ _ _ h => h) rfl (Or.inl ⟨by rfl, ?h2y22⟩) inv hS ?r2y22
 case h2y22 => (intro V' hSw; clear hSw; go_simp; try with_reducible rfl)
 clear inv
 intro inv
 try simp only [sw1, sw2, sw3]
 refine takeT (i := 3) (t := 38) (v := ?v3y23) rfl (by kernel_rfl) (fun _ _ _ h => h) rfl (Or.inl ⟨by rfl, ?h3y23⟩) inv hS ?r3y23
 case h3y23 => (intro V' hSw; clear hSw; go_simp; try with_reducible rfl)
 clear inv
 intro inv
 try simp only [sw1, sw2, sw3]
 refine takeT (i := 4) (t := 39) (v := ?v4y24) rfl (by kernel_rfl) (fun _ _ _ h => h) rfl (Or.inl ⟨by rfl, ?h4y24⟩) inv hS ?r4y24
 case h4y24 => (intro V' hSw; have q := cell_q hSw K1.out; clear hSw; go_simp; try with_reducible rfl)
 clear inv
 intro inv
 try simp only [sw1, sw2, sw3]
 refine takeT (i := 5) (t := 40) (v := ?v5y25) rfl (by kernel_rfl) (fun _ _ _ h => h) rfl (Or.inl ⟨by rfl, ?h5y25⟩) inv hS ?r5y25
 case h5y25 => (intro V' hSw; clear hSw; go_simp; try with_reducible rfl)
 clear inv
 intro inv
 try simp only [sw1, sw2, sw3]
 refine takeT (i := 6) (t := 41) (v := ?v6y26) rfl (by kernel_rfl) (fun _ _ _ h => h) rfl (Or.inl ⟨by rfl, ?h6y26⟩) inv hS ?r6y26
 case h6y26 => (intro V' hSw; clear hSw; go_simp; (try (rw [if_pos (by omega)])); try with_reducible rfl)
 clear inv
 intro inv
 try simp only [sw1, sw2, sw3]
 refine takeT (i := 8) (t := 43) (v := ?v8y27) rfl (by kernel_rfl) (fun _ _ _ h => h) rfl (Or.inl ⟨by rfl, ?h8y27⟩) inv hS ?r8y27
 case h8y27 => (intro V' hSw; clear hSw; go_simp; try with_reducible rfl)
 clear inv
 intro inv
 try simp only [sw1, sw2, sw3]
 refine takeT (i := 9) (t := 44) (v := ?v9y28) rfl (by kernel_rfl) (fun _ _ _ h => h) rfl (Or.inl ⟨by rfl, ?h9y28⟩) inv hS ?r9y28
 case h9y28 => (intro V' hSw; clear hSw; go_simp; try with_reducible rfl)
 clear inv
 intro inv
 try simp only [sw1, sw2, sw3]
 refine takeT (i := 10) (t := 45) (v := ?v10y29) rfl (by kernel_rfl) (fun _ _ _ h => h) rfl (Or.inl ⟨by rfl, ?h10y29⟩) inv hS ?r10y29
 case h10y29 => (intro V' hSw; clear hSw; go_simp; try with_reducible rfl)
 clear inv
 intro inv
 try simp only [sw1, sw2, sw3]
 refine takeT (i := 11) (t := 46) (v := ?v11y30) rfl (by kernel_rfl) (fun _ _ _ h => h) rfl (Or.inl ⟨by rfl, ?h11y30⟩) inv hS ?r11y30
 case h11y30 => (intro V' hSw; have q := cell_q hSw K1.out; clear hSw; go_simp; try with_reducible rfl)
 clear inv
 intro inv
 try simp only [sw1, sw2, sw3]
 refine takeT (i := 12) (t := 47) (v := ?v12y31) rfl (by kernel_rfl) (fun _ _ _ h => h) rfl (Or.inl ⟨by rfl, ?h12y31⟩) inv hS ?r12y31
 case h12y31 => (intro V' hSw; clear hSw; go_simp; try with_reducible rfl)
 clear inv
 intro inv
 try simp only [sw1, sw2, sw3]
 refine takeT (i := 13) (t := 48) (v := .int .i64 (j1 : Int)) rfl (by kernel_rfl) (fun _ _ _ h => h) rfl (Or.inl ⟨by rfl, ?h13y32⟩) inv hS ?r13y32
 case h13y32 => (intro V' hSw; clear hSw; go_simp; try simp only [hwj])
 clear inv
 intro inv
 try simp only [sw1, sw2, sw3]
 refine takeT (i := 14) (t := 49) (v := ?v14y33) rfl (by kernel_rfl) (fun _ _ _ h => h) rfl (Or.inl ⟨by rfl, ?h14y33⟩) inv hS ?r14y33
 case h14y33 => (intro V' hSw; clear hSw; go_simp; (try (rw [if_pos (by omega)])); try with_reducible rfl)
 clear inv
 intro inv
 try simp only [sw1, sw2, sw3]
 refine manyT (i := 7) (l := []) (by kernel_rfl) (by decide) inv ?ho34
 case ho34 =>
  intro j hj
  simp only [List.mem_cons, List.not_mem_nil, or_false] at hj
  rcases hj with rfl
  ·
   intro inv2
   clear inv
   have inv := inv2
   clear inv2
   refine opWpT rfl (by rfl) (wp_appK _ (.const (.slice none 0 0)) (.tmp 41) _ rfl w2.heap.size ET i2 _ 2 24 Tryz.underlying64 Hi2.out.1 Hi2.out.2.1 Hi2.out.2.2.1 Hi2.out.2.2.2 rfl (by decide) (.slice none 0 0) (0) [] rfl (World.ownsRow_nil _ _ _ _) (some ⟨gD, 0, none⟩) (k) cD (dcells (U.dir.take k)) rfl (by rw [dcells_len, hl1]) (HCs1.out.1.chg hS (fun _ _ => id)) (dcells_one _) (by unfold maxLen; omega) (by omega) (by have := hS.size; (try simp only [World.drew] at this ⊢); omega) ?_)
   intro v7 w7 own7 gr7 at7
   have hq7 : Chg NoB w2.drew w7 := (Chg.refl NoB _).grown gr7 (by simp [Value.ownBlock])
   have hS := hS.trans hq7
   clear hq7 gr7 at7
   refine ⟨fun _ => hS, ?_⟩
   try simp only [sw1, sw2, sw3]
   refine manyT (i := 15) (l := []) (by kernel_rfl) (by decide) inv ?ho35
   case ho35 =>
    intro j hj
    simp only [List.mem_cons, List.not_mem_nil, or_false] at hj
    rcases hj with rfl
    ·
     intro inv2
     clear inv
     have inv := inv2
     clear inv2
     refine opWpT rfl (by rfl) (wp_appK _ (.tmp 42) (.tmp 49) _ rfl w2.heap.size ET i2 _ 2 24 Tryz.underlying64 Hi2.out.1 Hi2.out.2.1 Hi2.out.2.2.1 Hi2.out.2.2.2 rfl (by decide) v7 (0 + k) ([] ++ dcells (U.dir.take k)) rfl own7 (some ⟨gD, j1 * 2, none⟩) (U.dir.length - j1) (cD - j1) (dcells (U.dir.drop j1)) rfl (by rw [dcells_len, hl2]) (HCs1.out.2.chg hS (fun _ _ => id)) (dcells_one _) (by unfold maxLen; omega) (by omega) (by have := hS.size; (try simp only [World.drew] at this ⊢); omega) ?_)
     intro v15 w15 own15 gr15 at15
     have hS := hS.grown gr15 (fun j hj hlt => by have := (own7.lt j hj).1; omega)
     clear gr15 at15 own7
     rw [Nat.zero_add, List.nil_append] at own15
     obtain ⟨A17, c17, rfl⟩ := own_slice own15
     have c2' := cell_q hS K2.out
     have z2' := (HP.out.quiet hS).blk.frozen 1
     refine ⟨fun _ => hS, ?_⟩
     try simp only [sw1, sw2, sw3]
     refine takeT (i := 16) (t := 51) (v := ?v16y36) rfl (by kernel_rfl) (fun _ _ _ h => h) rfl (Or.inl ⟨by rfl, ?h16y36⟩) inv hS ?r16y36
     case h16y36 => (intro V' hSw; clear hSw; go_simp; try with_reducible rfl)
     clear inv
     intro inv
     try simp only [sw1, sw2, sw3]
     refine takeT (i := 17) (t := 52) (v := ?v17y37) rfl (by kernel_rfl) (fun _ _ _ h => h) rfl (Or.inl ⟨by rfl, ?h17y37⟩) inv hS ?r17y37
     case h17y37 => (intro V' hSw; clear hSw; go_simp; try with_reducible rfl)
     clear inv
     intro inv
     try simp only [sw1, sw2, sw3]
     refine lastT (i := 18) (w' := w15.setCell ⟨r2, 1, none⟩ (.slice A17 (k + (U.dir.length - j1)) c17)) rfl (by kernel_rfl) rfl (by rfl) ?hx38 (by decide) (by kernel_rfl) ?_
     case hx38 => (go_simp; try with_reducible rfl)
     have hc3 : Chg (fun k => k = r2) w2 (w15.setCell ⟨r2, 1, none⟩ (.slice A17 (k + (U.dir.length - j1)) c17)) := (hS.mono (G := fun k => k = r2) (fun _ _ h => h.elim)).setCell (p := ⟨r2, 1, none⟩) (fun _ => rfl) _
     have hcw : Chg NoB W (w15.setCell ⟨r2, 1, none⟩ (.slice A17 (k + (U.dir.length - j1)) c17)) := (HC2.out.trans hS).setCell (p := ⟨r2, 1, none⟩) (fun hlt => by have := hr2; simp only at hlt; omega) _
     have hb3 := (HP.out.quiet hS).blk.set_ 1 (.slice A17 (k + (U.dir.length - j1)) c17)
     have ho3 := own_chg own15 ((Chg.refl (fun k => k = r2) w15).setCell (p := ⟨r2, 1, none⟩) (fun _ => rfl) (.slice A17 (k + (U.dir.length - j1)) c17)) (fun k hk hx => by
      have := (own15.lt k hk).1
      omega)
     have hfin : ∃ a', RefAt (w15.setCell ⟨r2, 1, none⟩ (.slice A17 (k + (U.dir.length - j1)) c17)) r2 { U with dir := U.dir.take k ++ U.dir.drop j1 } X a' := by
      have hl3 : (U.dir.take k ++ U.dir.drop j1).length = k + (U.dir.length - j1) := by rw [List.length_append, hl1, hl2]
      refine ⟨_, HP.out.putD hX2 hc3 hb3 (d' := U.dir.take k ++ U.dir.drop j1) ?_ (fun q hq => ?_)⟩
      ·rw [hl3, dcells_app]
       exact ho3
      ·rcases List.mem_append.1 hq with hq | hq
       ·exact HP.out.db q (List.mem_of_mem_take hq)
       ·exact HP.out.db q (List.mem_of_mem_drop hq)
     obtain ⟨a3, h3⟩ := hfin
     have HC3 := Go.Lib.hid (rroom_s h3 hs2)
     have HCW := Go.Lib.hid hcw
     have HR := Go.Lib.hid (H.out.quiet hcw)
     clear hc3 hb3 ho3 own15 hS inv hcw h3
     generalize w15.setCell ⟨r2, 1, none⟩ (.slice A17 (k + (U.dir.length - j1)) c17) = wR at *
     generalize roomI { U with dir := U.dir.take k ++ U.dir.drop j1 } = rj at *
     clear K1 K2 HP HCs1 hl1 hl2 hr2l hr2 HC2 hkj hj2 hwj hX2
     go_wp2_with fail
     refine HC3.out.mono ?_
     rintro e wR2 ⟨rfl, rfl⟩
     clear HC3
     go_wp2_with fail
     go_ret
     exact ⟨rfl, ⟨a, HR.out⟩, HCW.out.mono (fun _ _ h => h.elim)⟩
set_option maxRecDepth 100000 in
set_option maxHeartbeats 4000000 in
theorem rput_is_go_c {A0 : Option Addr} (h : RefAt W r U X a) (hX : ∀ k, X k → k < W.heap.size) (hs : RSmall U) (nm : ByteArray) (hnm : nm.size ≤ maxLen) (hm : mayName nm = true) (hi : isD nm U.dir = true) (hcap : a.D = .slice A0 U.dir.length (posD nm U.dir + 1)) (l : List UInt8) (hll : l.length < 1000000) (B : Option Addr) (c : Nat) (hB : CellsAt W B (bv l)) (hroom : ¬ (l.length : Int) > roomI (delR U nm)) : Calls Tryz.prog 89 #[.pointer (some ⟨r, 0, none⟩), .string nm, .slice B l.length c] W (RPost r X (.int .i64 (enterR (U.addFile l) nm U.F.length).1) (enterR (U.addFile l) nm U.F.length).2 W) := by
 obtain ⟨e0, he, hen⟩ := isD_some hi
 have hres : delR U nm = { U with dir := U.dir.take (posD nm U.dir) ++ U.dir.drop (posD nm U.dir + 1) } := by unfold delR; rw [he]; simp only; rw [if_pos hen]
 rw [hres] at hroom
 have hs2 : RSmall { U with dir := U.dir.take (posD nm U.dir) ++ U.dir.drop (posD nm U.dir + 1) } := ⟨hs.r, by have := hs.d; simp; omega, hs.f, hs.b, hs.c⟩
 have hkl := (List.getElem?_eq_some_iff.1 he).1
 obtain ⟨gD, cD, hD, hnc, hcm, hhv⟩ := h.halves (by omega)
 have HN := Go.Lib.hid (refName_c nm hnm W)
 rw [hm] at HN
 have HA := Go.Lib.hid (rpos_c h hs.d nm)
 rw [hi] at HA
 have H := Go.Lib.hid h
 obtain ⟨i0, hi0, hz0, hz1, hz2⟩ := info_parts u8info
 have Hi := Go.Lib.hid (And.intro hi0 (And.intro hz0 (And.intro hz1 hz2)))
 obtain ⟨i1, hi0', hz0', hz1', hz2'⟩ := info_parts btinfo
 have Hi1 := Go.Lib.hid (And.intro hi0' (And.intro hz0' (And.intro hz1' hz2')))
 clear hi0 hz0 hz1 hz2 hi0' hz0' hz1' hz2' hm
 obtain ⟨i2, hi0, hz0, hz1, hz2⟩ := info_parts etinfo
 have Hi2 := Go.Lib.hid (And.intro hi0 (And.intro hz0 (And.intro hz1 hz2)))
 clear hi0 hz0 hz1 hz2
 have HC := Go.Lib.hid (fun (W' : World) (hc : Chg NoB W W') => rroom_s (h.quiet hc) hs)
 have HCp := Go.Lib.hid (fun (W' : World) (hc : Chg NoB W W') => rcopy_c (h.quiet hc))
 obtain ⟨_, c1, _, _⟩ := h.cells
 have hC1 := (hhv (posD nm U.dir) (by omega)).1
 have hC2 := (hhv (posD nm U.dir + 1) (by omega)).2
 rw [hD] at hcap c1
 obtain rfl : cD = posD nm U.dir + 1 := by injection hcap
 clear hcap
 have hcm2 : posD nm U.dir + 1 ≤ 9223372036854775807 := by unfold maxLen at hcm; omega
 have hrl := h.lt
 have HCs := Go.Lib.hid (And.intro hC1 hC2)
 have hl1 : (U.dir.take (posD nm U.dir)).length = posD nm U.dir := by simp; omega
 have hl2 : (U.dir.drop (posD nm U.dir + 1)).length = U.dir.length - (posD nm U.dir + 1) := by simp
 have gr : decide ((l.length : Int) > roomI { U with dir := U.dir.take (posD nm U.dir) ++ U.dir.drop (posD nm U.dir + 1) }) = false := by simp only [decide_eq_true_eq, decide_eq_false_iff_not]; exact hroom
 clear h hi hroom hen hres he hhv hC1 hC2
 generalize posD nm U.dir = k at *
 have hj2 : k + 1 ≤ U.dir.length := by omega
 have hwj : IntKind.i64.wrap ((k : Int) + 1) = ((k + 1 : Nat) : Int) := by rw [IntKind.wrap_i64]; have := hs.d; omega
 have hkj : k < k + 1 := by omega
 have hds := hs.d
 generalize hj1 : k + 1 = j1 at *
 clear hj1
 generalize roomI U = ri at *
 go_enter Tryz.func89, Tryz.ntmps89
 go_wp2_with fail
 refine HN.out.mono ?_
 rintro e w1 ⟨rfl, rfl⟩
 go_wp2_with fail
 refine HA.out.mono ?_
 rintro e w1 ⟨rfl, hq⟩
 have HQ := Go.Lib.hid hq
 clear hq HN HA
 go_wp2_with fail
 refine (HC.out _ HQ.out).mono ?_
 rintro e wy ⟨rfl, rfl⟩
 clear HC
 go_wp2_with fail
 refine (HCp.out _ HQ.out).mono ?_
 rintro e w2 ⟨r2, rfl, hbk, hcp, hr2x⟩
 clear HCp
 have hcq := HQ.out.trans hcp
 have hr2 : W.heap.size ≤ r2 := Nat.le_trans HQ.out.size hr2x
 have h2 := (H.out.quiet HQ.out).copy (X := X) hcp hbk hr2x (fun hx => by have := hX r2 hx; omega)
 have hX2 : ∀ j, X j → j < w2.heap.size := fun j hj => Nat.lt_of_lt_of_le (hX j hj) hcq.size
 have c1 := cell_q hcq c1
 have HCs1 := Go.Lib.hid (And.intro (HCs.out.1.chg hcq (fun _ _ => id)) (HCs.out.2.chg hcq (fun _ _ => id)))
 have K1 := Go.Lib.hid c1
 have hr2l := h2.lt
 have k2 := h2.cells.2.1
 rw [hD] at k2
 have K2 := Go.Lib.hid k2
 have HC2 := Go.Lib.hid hcq
 have HP := Go.Lib.hid h2
 clear hcq hcp hbk hr2x HQ HCs h2 k2 hD hrl
 go_wp2_with fail
 refine regionT 18 (fun V' => Chg NoB w2 V') (by kernel_rfl) (by decide) ((Chg.refl NoB w2).drew) (fun inv hS => ?_)
 refine takeT (i := 0) (t := 35) (v := ?v0y39) rfl (by kernel_rfl) (fun _ _ _ h => h) rfl (Or.inl ⟨by rfl, ?h0y39⟩) inv hS ?r0y39
 case h0y39 => (intro V' hSw; clear hSw; go_simp; try with_reducible rfl)
 clear inv
 intro inv
 try simp only [sw1, sw2, sw3]
 refine takeT (i := 1) (t := 36) (v := ?v1y40) rfl (by kernel_rfl) (fun _ _ _ h => h) rfl (Or.inl ⟨by rfl, ?h1y40⟩) inv hS ?r1y40
 case h1y40 => (intro V' hSw; clear hSw; go_simp; try with_reducible rfl)
 clear inv
 intro inv
 try simp only [sw1, sw2, sw3]
 refine takeT (i := 2) (t := 37) (v := ?v2y41) rfl (by kernel_rfl) (fun _ _ _ h => h) rfl (Or.inl ⟨by rfl, ?h2y41⟩) inv hS ?r2y41
 case h2y41 => (intro V' hSw; clear hSw; go_simp; try with_reducible rfl)
 clear inv
 intro inv
 try simp only [sw1, sw2, sw3]
 refine takeT (i := 3) (t := 38) (v := ?v3y42) rfl (by kernel_rfl) (fun _ _ _ h => h) rfl (Or.inl ⟨by rfl, ?h3y42⟩) inv hS ?r3y42
 case h3y42 => (intro V' hSw; clear hSw; go_simp; try with_reducible rfl)
 clear inv
 intro inv
 try simp only [sw1, sw2, sw3]
 refine takeT (i := 4) (t := 39) (v := ?v4y43) rfl (by kernel_rfl) (fun _ _ _ h => h) rfl (Or.inl ⟨by rfl, ?h4y43⟩) inv hS ?r4y43
 case h4y43 => (intro V' hSw; have q := cell_q hSw K1.out; clear hSw; go_simp; try with_reducible rfl)
 clear inv
 intro inv
 try simp only [sw1, sw2, sw3]
 refine takeT (i := 5) (t := 40) (v := ?v5y44) rfl (by kernel_rfl) (fun _ _ _ h => h) rfl (Or.inl ⟨by rfl, ?h5y44⟩) inv hS ?r5y44
 case h5y44 => (intro V' hSw; clear hSw; go_simp; try with_reducible rfl)
 clear inv
 intro inv
 try simp only [sw1, sw2, sw3]
 refine takeT (i := 6) (t := 41) (v := ?v6y45) rfl (by kernel_rfl) (fun _ _ _ h => h) rfl (Or.inl ⟨by rfl, ?h6y45⟩) inv hS ?r6y45
 case h6y45 => (intro V' hSw; clear hSw; go_simp; (try (rw [if_pos (by omega)])); try with_reducible rfl)
 clear inv
 intro inv
 try simp only [sw1, sw2, sw3]
 refine takeT (i := 8) (t := 43) (v := ?v8y46) rfl (by kernel_rfl) (fun _ _ _ h => h) rfl (Or.inl ⟨by rfl, ?h8y46⟩) inv hS ?r8y46
 case h8y46 => (intro V' hSw; clear hSw; go_simp; try with_reducible rfl)
 clear inv
 intro inv
 try simp only [sw1, sw2, sw3]
 refine takeT (i := 9) (t := 44) (v := ?v9y47) rfl (by kernel_rfl) (fun _ _ _ h => h) rfl (Or.inl ⟨by rfl, ?h9y47⟩) inv hS ?r9y47
 case h9y47 => (intro V' hSw; clear hSw; go_simp; try with_reducible rfl)
 clear inv
 intro inv
 try simp only [sw1, sw2, sw3]
 refine takeT (i := 10) (t := 45) (v := ?v10y48) rfl (by kernel_rfl) (fun _ _ _ h => h) rfl (Or.inl ⟨by rfl, ?h10y48⟩) inv hS ?r10y48
 case h10y48 => (intro V' hSw; clear hSw; go_simp; try with_reducible rfl)
 clear inv
 intro inv
 try simp only [sw1, sw2, sw3]
 refine takeT (i := 11) (t := 46) (v := ?v11y49) rfl (by kernel_rfl) (fun _ _ _ h => h) rfl (Or.inl ⟨by rfl, ?h11y49⟩) inv hS ?r11y49
 case h11y49 => (intro V' hSw; have q := cell_q hSw K1.out; clear hSw; go_simp; try with_reducible rfl)
 clear inv
 intro inv
 try simp only [sw1, sw2, sw3]
 refine takeT (i := 12) (t := 47) (v := ?v12y50) rfl (by kernel_rfl) (fun _ _ _ h => h) rfl (Or.inl ⟨by rfl, ?h12y50⟩) inv hS ?r12y50
 case h12y50 => (intro V' hSw; clear hSw; go_simp; try with_reducible rfl)
 clear inv
 intro inv
 try simp only [sw1, sw2, sw3]
 refine takeT (i := 13) (t := 48) (v := .int .i64 (j1 : Int)) rfl (by kernel_rfl) (fun _ _ _ h => h) rfl (Or.inl ⟨by rfl, ?h13y51⟩) inv hS ?r13y51
 case h13y51 => (intro V' hSw; clear hSw; go_simp; try simp only [hwj])
 clear inv
 intro inv
 try simp only [sw1, sw2, sw3]
 refine takeT (i := 14) (t := 49) (v := .slice (some ⟨gD, 0, none⟩) (U.dir.length - j1) 0) rfl (by kernel_rfl) (fun _ _ _ h => h) rfl (Or.inl ⟨by rfl, ?h14y52⟩) inv hS ?r14y52
 case h14y52 => (intro V' hSw; clear hSw; have hz : U.dir.length - j1 = 0 := (by omega); go_simp; (try (rw [if_pos (by omega)])); (try with_reducible rfl))
 clear inv
 intro inv
 try simp only [sw1, sw2, sw3]
 refine manyT (i := 7) (l := []) (by kernel_rfl) (by decide) inv ?ho53
 case ho53 =>
  intro j hj
  simp only [List.mem_cons, List.not_mem_nil, or_false] at hj
  rcases hj with rfl
  ·
   intro inv2
   clear inv
   have inv := inv2
   clear inv2
   refine opWpT rfl (by rfl) (wp_appK _ (.const (.slice none 0 0)) (.tmp 41) _ rfl w2.heap.size ET i2 _ 2 24 Tryz.underlying64 Hi2.out.1 Hi2.out.2.1 Hi2.out.2.2.1 Hi2.out.2.2.2 rfl (by decide) (.slice none 0 0) (0) [] rfl (World.ownsRow_nil _ _ _ _) (some ⟨gD, 0, none⟩) (k) j1 (dcells (U.dir.take k)) rfl (by rw [dcells_len, hl1]) (HCs1.out.1.chg hS (fun _ _ => id)) (dcells_one _) (by unfold maxLen; omega) (by omega) (by have := hS.size; (try simp only [World.drew] at this ⊢); omega) ?_)
   intro v7 w7 own7 gr7 at7
   have hq7 : Chg NoB w2.drew w7 := (Chg.refl NoB _).grown gr7 (by simp [Value.ownBlock])
   have hS := hS.trans hq7
   clear hq7 gr7 at7
   refine ⟨fun _ => hS, ?_⟩
   try simp only [sw1, sw2, sw3]
   refine manyT (i := 15) (l := []) (by kernel_rfl) (by decide) inv ?ho54
   case ho54 =>
    intro j hj
    simp only [List.mem_cons, List.not_mem_nil, or_false] at hj
    rcases hj with rfl
    ·
     intro inv2
     clear inv
     have inv := inv2
     clear inv2
     refine opWpT rfl (by rfl) (wp_appK _ (.tmp 42) (.tmp 49) _ rfl w2.heap.size ET i2 _ 2 24 Tryz.underlying64 Hi2.out.1 Hi2.out.2.1 Hi2.out.2.2.1 Hi2.out.2.2.2 rfl (by decide) v7 (0 + k) ([] ++ dcells (U.dir.take k)) rfl own7 (some ⟨gD, 0, none⟩) (U.dir.length - j1) 0 (dcells (U.dir.drop j1)) rfl (by rw [dcells_len, hl2]) (fun hh => absurd hh (by rw [dcells_len, hl2]; omega)) (dcells_one _) (by unfold maxLen; omega) (by omega) (by have := hS.size; (try simp only [World.drew] at this ⊢); omega) ?_)
     intro v15 w15 own15 gr15 at15
     have hS := hS.grown gr15 (fun j hj hlt => by have := (own7.lt j hj).1; omega)
     clear gr15 at15 own7
     rw [Nat.zero_add, List.nil_append] at own15
     obtain ⟨A17, c17, rfl⟩ := own_slice own15
     have c2' := cell_q hS K2.out
     have z2' := (HP.out.quiet hS).blk.frozen 1
     refine ⟨fun _ => hS, ?_⟩
     try simp only [sw1, sw2, sw3]
     refine takeT (i := 16) (t := 51) (v := ?v16y55) rfl (by kernel_rfl) (fun _ _ _ h => h) rfl (Or.inl ⟨by rfl, ?h16y55⟩) inv hS ?r16y55
     case h16y55 => (intro V' hSw; clear hSw; go_simp; try with_reducible rfl)
     clear inv
     intro inv
     try simp only [sw1, sw2, sw3]
     refine takeT (i := 17) (t := 52) (v := ?v17y56) rfl (by kernel_rfl) (fun _ _ _ h => h) rfl (Or.inl ⟨by rfl, ?h17y56⟩) inv hS ?r17y56
     case h17y56 => (intro V' hSw; clear hSw; go_simp; try with_reducible rfl)
     clear inv
     intro inv
     try simp only [sw1, sw2, sw3]
     refine lastT (i := 18) (w' := w15.setCell ⟨r2, 1, none⟩ (.slice A17 (k + (U.dir.length - j1)) c17)) rfl (by kernel_rfl) rfl (by rfl) ?hx57 (by decide) (by kernel_rfl) ?_
     case hx57 => (go_simp; try with_reducible rfl)
     have hc3 : Chg (fun k => k = r2) w2 (w15.setCell ⟨r2, 1, none⟩ (.slice A17 (k + (U.dir.length - j1)) c17)) := (hS.mono (G := fun k => k = r2) (fun _ _ h => h.elim)).setCell (p := ⟨r2, 1, none⟩) (fun _ => rfl) _
     have hcw : Chg NoB W (w15.setCell ⟨r2, 1, none⟩ (.slice A17 (k + (U.dir.length - j1)) c17)) := (HC2.out.trans hS).setCell (p := ⟨r2, 1, none⟩) (fun hlt => by have := hr2; simp only at hlt; omega) _
     have hb3 := (HP.out.quiet hS).blk.set_ 1 (.slice A17 (k + (U.dir.length - j1)) c17)
     have ho3 := own_chg own15 ((Chg.refl (fun k => k = r2) w15).setCell (p := ⟨r2, 1, none⟩) (fun _ => rfl) (.slice A17 (k + (U.dir.length - j1)) c17)) (fun k hk hx => by
      have := (own15.lt k hk).1
      omega)
     have hfin : ∃ a', RefAt (w15.setCell ⟨r2, 1, none⟩ (.slice A17 (k + (U.dir.length - j1)) c17)) r2 { U with dir := U.dir.take k ++ U.dir.drop j1 } X a' := by
      have hl3 : (U.dir.take k ++ U.dir.drop j1).length = k + (U.dir.length - j1) := by rw [List.length_append, hl1, hl2]
      refine ⟨_, HP.out.putD hX2 hc3 hb3 (d' := U.dir.take k ++ U.dir.drop j1) ?_ (fun q hq => ?_)⟩
      ·rw [hl3, dcells_app]
       exact ho3
      ·rcases List.mem_append.1 hq with hq | hq
       ·exact HP.out.db q (List.mem_of_mem_take hq)
       ·exact HP.out.db q (List.mem_of_mem_drop hq)
     obtain ⟨a3, h3⟩ := hfin
     have HC3 := Go.Lib.hid (rroom_s h3 hs2)
     have HCW := Go.Lib.hid hcw
     have HR := Go.Lib.hid (H.out.quiet hcw)
     clear hc3 hb3 ho3 own15 hS inv hcw h3
     generalize w15.setCell ⟨r2, 1, none⟩ (.slice A17 (k + (U.dir.length - j1)) c17) = wR at *
     generalize roomI { U with dir := U.dir.take k ++ U.dir.drop j1 } = rj at *
     clear K1 K2 HP HCs1 hl1 hl2 hr2l hr2 HC2 hkj hj2 hwj hX2
     go_wp2_with fail
     refine HC3.out.mono ?_
     rintro e wR2 ⟨rfl, rfl⟩
     clear HC3
     obtain ⟨AF, cF, hF⟩ := own_slice HR.out.F
     have c0 := HR.out.cells.1
     have z0 := HR.out.blk.frozen 0
     rw [hF] at c0
     have hownF := HR.out.F
     rw [hF] at hownF
     have HCl := Go.Lib.hid (And.intro (cells_ownK hownF) (hB.chg HCW.out (fun _ _ => id)))
     have hone := Go.Lib.hid HR.out.fone
     have hflen := HR.out.flen
     have hrl := HR.out.lt
     have hblen : (bv l).length = l.length := by simp [bv]
     have hfl := hs.f
     have hXR : ∀ j, X j → j < wR.heap.size := fun j hj => Nat.lt_of_lt_of_le (hX j hj) HCW.out.size
     clear hF hownF
     go_wp2_with (first
      | (at_builtin; refine wpList_appK _ rfl (.const (.slice none 0 0)) (.tmp 63) _ rfl wR.heap.size BT i1 _ 1 24 Tryz.underlying63 Hi1.out.1 Hi1.out.2.1 Hi1.out.2.2.1 Hi1.out.2.2.2 rfl (by decide) (.slice none 0 0) 0 [] rfl (World.ownsRow_nil _ _ _ _) AF U.F.length cF a.f rfl hflen HCl.out.1 hone.out (by unfold maxLen; omega) (by omega) (Nat.le_refl _) ?_; intro v1 w1 own1 gr1 at1; rw [List.nil_append, Nat.zero_add] at own1; have hg1 : Chg NoB wR w1 := ((Chg.refl NoB wR).grown gr1 (by simp [Value.ownBlock])); clear gr1 at1)
      | (at_builtin; refine wpList_appK _ rfl (.const (.slice none 0 0)) (.tmp 65) _ rfl wR.heap.size 5 i0 _ 1 1 Tryz.underlying44 Hi.out.1 Hi.out.2.1 Hi.out.2.2.1 Hi.out.2.2.2 rfl (by decide) (.slice none 0 0) 0 [] rfl (World.ownsRow_nil _ _ _ _) B l.length c (bv l) rfl (by rw [hblen, Nat.mul_one]) (HCl.out.2.chg hg1 (fun _ _ => id)) (fun u hu => by simp only [bv, List.mem_map] at hu; obtain ⟨x, _, rfl⟩ := hu; rfl) (by unfold maxLen; omega) (by omega) hg1.size ?_; intro v2 w2 own2 gr2 at2; rw [List.nil_append, Nat.zero_add] at own2; obtain ⟨A2, c2x, rfl⟩ := own_slice own2; have hg2 : Chg NoB w1 w2 := ((Chg.refl NoB w1).grown gr2 (by simp [Value.ownBlock])); have own1 := own_chg own1 hg2 (fun _ _ => id); have hg12 := hg1.trans hg2; clear gr2 at2 hg2)
      | (at_builtin; go_must (refine wpList_appK _ rfl (.tmp 64) (.tmp 67) _ rfl wR.heap.size BT i1 _ 1 24 Tryz.underlying63 Hi1.out.1 Hi1.out.2.1 Hi1.out.2.2.1 Hi1.out.2.2.2 rfl (by decide) v1 U.F.length a.f rfl (own_chg own1 ((Chg.refl NoB w2).alloc (.cells #[.slice A2 l.length c2x] BT)) (fun _ _ => id)) (some ⟨w2.heap.size, 0, none⟩) 1 1 [.slice A2 l.length c2x] rfl rfl (cells_of_blk (Blk.new w2 _ _)) (by simp [Value.oneCell']) (by unfold maxLen; omega) (by omega) (by have := hg12.size; simp; omega) ?_); go_must (intro v3 w3 own3 gr3 at3; have hg3 : Chg NoB wR w3 := ((hg12.alloc _).grown gr3 (fun j hj hlt => (by have := (own1.lt j hj).1; omega))); obtain ⟨A3, c3x, rfl⟩ := own_slice own3; have own2b : w3.ownsRow wR.heap.size 5 1 (.slice A2 l.length c2x) l.length (bv l) := own_chg own2 (show Chg (fun k => v1.ownBlock = some k) w2 w3 from ((Chg.refl (fun k => v1.ownBlock = some k) w2).alloc _).grown gr3 (fun j hj _ => hj)) (fun k hk e => own_own_ne own2 own1 (by decide) hk e); have c0 := cell_q hg3 c0; have z0 := (HR.out.quiet hg3).blk.frozen 0; clear gr3 at3 own1 own2 hg12 hg1)))
     have hc3 : Chg (fun k => k = r) wR (w3.setCell ⟨r, 0, none⟩ (.slice A3 (U.F.length + 1) c3x)) := (hg3.mono (G := fun k => k = r) (fun _ _ h => h.elim)).setCell (p := ⟨r, 0, none⟩) (fun _ => rfl) _
     have hb3 := (HR.out.quiet hg3).blk.set_ 0 (.slice A3 (U.F.length + 1) c3x)
     have hset : Chg (fun k => k = r) w3 (w3.setCell ⟨r, 0, none⟩ (.slice A3 (U.F.length + 1) c3x)) := (Chg.refl (fun k => k = r) w3).setCell (p := ⟨r, 0, none⟩) (fun _ => rfl) _
     have ho3 := own_chg own3 hset (fun k hk hx => by
      have := (own3.lt k hk).1
      omega)
     have ho2 := own_chg own2b hset (fun k hk hx => by
      have := (own2b.lt k hk).1
      omega)
     have hU1 : RefAt (w3.setCell ⟨r, 0, none⟩ (.slice A3 (U.F.length + 1) c3x)) r (U.addFile l) X { a with F := .slice A3 (U.F.length + 1) c3x, f := a.f ++ [.slice A2 l.length c2x] } := by
      have hl2 : (U.F ++ [l]).length = U.F.length + 1 := by simp
      refine HR.out.putF hXR hc3 hb3 (F' := U.F ++ [l]) (by rw [hl2]; exact ho3) (by simp) (fun i b hb => ?_)
      by_cases hi : i < U.F.length
      ·left
       rw [List.getElem?_append_left hi] at hb
       exact ⟨hb, List.getElem?_append_left (by omega)⟩
      ·right
       have hil := (List.getElem?_eq_some_iff.1 hb).1
       obtain rfl : i = U.F.length := by simp at hil; omega
       obtain rfl : b = l := by simpa using hb.symm
       exact ⟨.slice A2 b.length c2x, by rw [List.getElem?_append_right (by omega)]; simp [hflen], ho2⟩
     have hX1 : ∀ j, X j → j < (w3.setCell ⟨r, 0, none⟩ (.slice A3 (U.F.length + 1) c3x)).heap.size := fun j hj => Nat.lt_of_lt_of_le (hXR j hj) hc3.size
     have hEn := renter_c hU1 hX1 (show (U.addFile l).dir.length < 1000000 from hs.d) nm U.F.length (show U.F.length < (U.F ++ [l]).length by simp)
     have HCC := Go.Lib.hid ((HCW.out.mono (G := fun k => k = r) (fun _ _ h => h.elim)).trans hc3)
     have hwn : IntKind.i64.wrap (U.F.length : Int) = U.F.length := by rw [IntKind.wrap_i64]; omega
     clear hc3 hb3 ho3 ho2 hset hU1 hX1 own3 own2b z0 c0 hone hXR hg3
     generalize w3.setCell ⟨r, 0, none⟩ (.slice A3 (U.F.length + 1) c3x) = w4 at *
     refine hEn.mono ?_
     rintro e w5 ⟨rfl, h5, hc5⟩
     have HF := Go.Lib.hid (And.intro h5 (HCC.out.trans hc5))
     clear h5 hc5
     go_wp2_with fail
     go_ret
     exact ⟨rfl, HF.out.1, HF.out.2⟩
set_option maxRecDepth 100000 in
set_option maxHeartbeats 4000000 in
theorem rput_is_go_n {A0 : Option Addr} (h : RefAt W r U X a) (hX : ∀ k, X k → k < W.heap.size) (hs : RSmall U) (nm : ByteArray) (hnm : nm.size ≤ maxLen) (hm : mayName nm = true) (hi : isD nm U.dir = true) (hcap : ∀ A0, a.D ≠ .slice A0 U.dir.length (posD nm U.dir + 1)) (l : List UInt8) (hll : l.length < 1000000) (B : Option Addr) (c : Nat) (hB : CellsAt W B (bv l)) (hroom : ¬ (l.length : Int) > roomI (delR U nm)) : Calls Tryz.prog 89 #[.pointer (some ⟨r, 0, none⟩), .string nm, .slice B l.length c] W (RPost r X (.int .i64 (enterR (U.addFile l) nm U.F.length).1) (enterR (U.addFile l) nm U.F.length).2 W) := by
 obtain ⟨e0, he, hen⟩ := isD_some hi
 have hres : delR U nm = { U with dir := U.dir.take (posD nm U.dir) ++ U.dir.drop (posD nm U.dir + 1) } := by unfold delR; rw [he]; simp only; rw [if_pos hen]
 rw [hres] at hroom
 have hs2 : RSmall { U with dir := U.dir.take (posD nm U.dir) ++ U.dir.drop (posD nm U.dir + 1) } := ⟨hs.r, by have := hs.d; simp; omega, hs.f, hs.b, hs.c⟩
 have hkl := (List.getElem?_eq_some_iff.1 he).1
 obtain ⟨gD, cD, hD, hnc, hcm, hhv⟩ := h.halves (by omega)
 have HN := Go.Lib.hid (refName_c nm hnm W)
 rw [hm] at HN
 have HA := Go.Lib.hid (rpos_c h hs.d nm)
 rw [hi] at HA
 have H := Go.Lib.hid h
 obtain ⟨i0, hi0, hz0, hz1, hz2⟩ := info_parts u8info
 have Hi := Go.Lib.hid (And.intro hi0 (And.intro hz0 (And.intro hz1 hz2)))
 obtain ⟨i1, hi0', hz0', hz1', hz2'⟩ := info_parts btinfo
 have Hi1 := Go.Lib.hid (And.intro hi0' (And.intro hz0' (And.intro hz1' hz2')))
 clear hi0 hz0 hz1 hz2 hi0' hz0' hz1' hz2' hm
 obtain ⟨i2, hi0, hz0, hz1, hz2⟩ := info_parts etinfo
 have Hi2 := Go.Lib.hid (And.intro hi0 (And.intro hz0 (And.intro hz1 hz2)))
 clear hi0 hz0 hz1 hz2
 have HC := Go.Lib.hid (fun (W' : World) (hc : Chg NoB W W') => rroom_s (h.quiet hc) hs)
 have HCp := Go.Lib.hid (fun (W' : World) (hc : Chg NoB W W') => rcopy_c (h.quiet hc))
 obtain ⟨_, c1, _, _⟩ := h.cells
 have hC1 := (hhv (posD nm U.dir) (by omega)).1
 have hC2 := (hhv (posD nm U.dir + 1) (by omega)).2
 rw [hD] at hcap c1
 have hcap2 : ¬ cD = posD nm U.dir + 1 := fun e => hcap _ (by rw [e])
 clear hcap
 have hcm2 : cD ≤ 9223372036854775807 := by unfold maxLen at hcm; omega
 have hrl := h.lt
 have HCs := Go.Lib.hid (And.intro hC1 hC2)
 have hl1 : (U.dir.take (posD nm U.dir)).length = posD nm U.dir := by simp; omega
 have hl2 : (U.dir.drop (posD nm U.dir + 1)).length = U.dir.length - (posD nm U.dir + 1) := by simp
 have gr : decide ((l.length : Int) > roomI { U with dir := U.dir.take (posD nm U.dir) ++ U.dir.drop (posD nm U.dir + 1) }) = false := by simp only [decide_eq_true_eq, decide_eq_false_iff_not]; exact hroom
 clear h hi hroom hen hres he hhv hC1 hC2
 generalize posD nm U.dir = k at *
 have hj2 : k + 1 ≤ U.dir.length := by omega
 have hwj : IntKind.i64.wrap ((k : Int) + 1) = ((k + 1 : Nat) : Int) := by rw [IntKind.wrap_i64]; have := hs.d; omega
 have hkj : k < k + 1 := by omega
 have hds := hs.d
 generalize hj1 : k + 1 = j1 at *
 clear hj1
 generalize roomI U = ri at *
 go_enter Tryz.func89, Tryz.ntmps89
 go_wp2_with fail
 refine HN.out.mono ?_
 rintro e w1 ⟨rfl, rfl⟩
 go_wp2_with fail
 refine HA.out.mono ?_
 rintro e w1 ⟨rfl, hq⟩
 have HQ := Go.Lib.hid hq
 clear hq HN HA
 go_wp2_with fail
 refine (HC.out _ HQ.out).mono ?_
 rintro e wy ⟨rfl, rfl⟩
 clear HC
 go_wp2_with fail
 refine (HCp.out _ HQ.out).mono ?_
 rintro e w2 ⟨r2, rfl, hbk, hcp, hr2x⟩
 clear HCp
 have hcq := HQ.out.trans hcp
 have hr2 : W.heap.size ≤ r2 := Nat.le_trans HQ.out.size hr2x
 have h2 := (H.out.quiet HQ.out).copy (X := X) hcp hbk hr2x (fun hx => by have := hX r2 hx; omega)
 have hX2 : ∀ j, X j → j < w2.heap.size := fun j hj => Nat.lt_of_lt_of_le (hX j hj) hcq.size
 have c1 := cell_q hcq c1
 have HCs1 := Go.Lib.hid (And.intro (HCs.out.1.chg hcq (fun _ _ => id)) (HCs.out.2.chg hcq (fun _ _ => id)))
 have K1 := Go.Lib.hid c1
 have hr2l := h2.lt
 have k2 := h2.cells.2.1
 rw [hD] at k2
 have K2 := Go.Lib.hid k2
 have HC2 := Go.Lib.hid hcq
 have HP := Go.Lib.hid h2
 clear hcq hcp hbk hr2x HQ HCs h2 k2 hD hrl
 go_wp2_with fail
 refine regionT 18 (fun V' => Chg NoB w2 V') (by kernel_rfl) (by decide) ((Chg.refl NoB w2).drew) (fun inv hS => ?_)
 refine takeT (i := 0) (t := 35) (v := ?v0y58) rfl (by kernel_rfl) (fun _ _ _ h => h) rfl (Or.inl ⟨by rfl, ?h0y58⟩) inv hS ?r0y58
 case h0y58 => (intro V' hSw; clear hSw; go_simp; try with_reducible rfl)
 clear inv
 intro inv
 try simp only [sw1, sw2, sw3]
 refine takeT (i := 1) (t := 36) (v := ?v1y59) rfl (by kernel_rfl) (fun _ _ _ h => h) rfl (Or.inl ⟨by rfl, ?h1y59⟩) inv hS ?r1y59
 case h1y59 => (intro V' hSw; clear hSw; go_simp; try with_reducible rfl)
 clear inv
 intro inv
 try simp only [sw1, sw2, sw3]
 refine takeT (i := 2) (t := 37) (v := ?v2y60) rfl (by kernel_rfl) (fun _ _ _ h => h) rfl (Or.inl ⟨by rfl, ?h2y60⟩) inv hS ?r2y60
 case h2y60 => (intro V' hSw; clear hSw; go_simp; try with_reducible rfl)
 clear inv
 intro inv
 try simp only [sw1, sw2, sw3]
 refine takeT (i := 3) (t := 38) (v := ?v3y61) rfl (by kernel_rfl) (fun _ _ _ h => h) rfl (Or.inl ⟨by rfl, ?h3y61⟩) inv hS ?r3y61
 case h3y61 => (intro V' hSw; clear hSw; go_simp; try with_reducible rfl)
 clear inv
 intro inv
 try simp only [sw1, sw2, sw3]
 refine takeT (i := 4) (t := 39) (v := ?v4y62) rfl (by kernel_rfl) (fun _ _ _ h => h) rfl (Or.inl ⟨by rfl, ?h4y62⟩) inv hS ?r4y62
 case h4y62 => (intro V' hSw; have q := cell_q hSw K1.out; clear hSw; go_simp; try with_reducible rfl)
 clear inv
 intro inv
 try simp only [sw1, sw2, sw3]
 refine takeT (i := 5) (t := 40) (v := ?v5y63) rfl (by kernel_rfl) (fun _ _ _ h => h) rfl (Or.inl ⟨by rfl, ?h5y63⟩) inv hS ?r5y63
 case h5y63 => (intro V' hSw; clear hSw; go_simp; try with_reducible rfl)
 clear inv
 intro inv
 try simp only [sw1, sw2, sw3]
 refine takeT (i := 6) (t := 41) (v := ?v6y64) rfl (by kernel_rfl) (fun _ _ _ h => h) rfl (Or.inl ⟨by rfl, ?h6y64⟩) inv hS ?r6y64
 case h6y64 => (intro V' hSw; clear hSw; go_simp; (try (rw [if_pos (by omega)])); try with_reducible rfl)
 clear inv
 intro inv
 try simp only [sw1, sw2, sw3]
 refine takeT (i := 8) (t := 43) (v := ?v8y65) rfl (by kernel_rfl) (fun _ _ _ h => h) rfl (Or.inl ⟨by rfl, ?h8y65⟩) inv hS ?r8y65
 case h8y65 => (intro V' hSw; clear hSw; go_simp; try with_reducible rfl)
 clear inv
 intro inv
 try simp only [sw1, sw2, sw3]
 refine takeT (i := 9) (t := 44) (v := ?v9y66) rfl (by kernel_rfl) (fun _ _ _ h => h) rfl (Or.inl ⟨by rfl, ?h9y66⟩) inv hS ?r9y66
 case h9y66 => (intro V' hSw; clear hSw; go_simp; try with_reducible rfl)
 clear inv
 intro inv
 try simp only [sw1, sw2, sw3]
 refine takeT (i := 10) (t := 45) (v := ?v10y67) rfl (by kernel_rfl) (fun _ _ _ h => h) rfl (Or.inl ⟨by rfl, ?h10y67⟩) inv hS ?r10y67
 case h10y67 => (intro V' hSw; clear hSw; go_simp; try with_reducible rfl)
 clear inv
 intro inv
 try simp only [sw1, sw2, sw3]
 refine takeT (i := 11) (t := 46) (v := ?v11y68) rfl (by kernel_rfl) (fun _ _ _ h => h) rfl (Or.inl ⟨by rfl, ?h11y68⟩) inv hS ?r11y68
 case h11y68 => (intro V' hSw; have q := cell_q hSw K1.out; clear hSw; go_simp; try with_reducible rfl)
 clear inv
 intro inv
 try simp only [sw1, sw2, sw3]
 refine takeT (i := 12) (t := 47) (v := ?v12y69) rfl (by kernel_rfl) (fun _ _ _ h => h) rfl (Or.inl ⟨by rfl, ?h12y69⟩) inv hS ?r12y69
 case h12y69 => (intro V' hSw; clear hSw; go_simp; try with_reducible rfl)
 clear inv
 intro inv
 try simp only [sw1, sw2, sw3]
 refine takeT (i := 13) (t := 48) (v := .int .i64 (j1 : Int)) rfl (by kernel_rfl) (fun _ _ _ h => h) rfl (Or.inl ⟨by rfl, ?h13y70⟩) inv hS ?r13y70
 case h13y70 => (intro V' hSw; clear hSw; go_simp; try simp only [hwj])
 clear inv
 intro inv
 try simp only [sw1, sw2, sw3]
 refine takeT (i := 14) (t := 49) (v := ?v14y71) rfl (by kernel_rfl) (fun _ _ _ h => h) rfl (Or.inl ⟨by rfl, ?h14y71⟩) inv hS ?r14y71
 case h14y71 => (intro V' hSw; clear hSw; go_simp; (try (rw [if_pos (by omega)])); try with_reducible rfl)
 clear inv
 intro inv
 try simp only [sw1, sw2, sw3]
 refine manyT (i := 7) (l := []) (by kernel_rfl) (by decide) inv ?ho72
 case ho72 =>
  intro j hj
  simp only [List.mem_cons, List.not_mem_nil, or_false] at hj
  rcases hj with rfl
  ·
   intro inv2
   clear inv
   have inv := inv2
   clear inv2
   refine opWpT rfl (by rfl) (wp_appK _ (.const (.slice none 0 0)) (.tmp 41) _ rfl w2.heap.size ET i2 _ 2 24 Tryz.underlying64 Hi2.out.1 Hi2.out.2.1 Hi2.out.2.2.1 Hi2.out.2.2.2 rfl (by decide) (.slice none 0 0) (0) [] rfl (World.ownsRow_nil _ _ _ _) (some ⟨gD, 0, none⟩) (k) cD (dcells (U.dir.take k)) rfl (by rw [dcells_len, hl1]) (HCs1.out.1.chg hS (fun _ _ => id)) (dcells_one _) (by unfold maxLen; omega) (by omega) (by have := hS.size; (try simp only [World.drew] at this ⊢); omega) ?_)
   intro v7 w7 own7 gr7 at7
   have hq7 : Chg NoB w2.drew w7 := (Chg.refl NoB _).grown gr7 (by simp [Value.ownBlock])
   have hS := hS.trans hq7
   clear hq7 gr7 at7
   refine ⟨fun _ => hS, ?_⟩
   try simp only [sw1, sw2, sw3]
   refine manyT (i := 15) (l := []) (by kernel_rfl) (by decide) inv ?ho73
   case ho73 =>
    intro j hj
    simp only [List.mem_cons, List.not_mem_nil, or_false] at hj
    rcases hj with rfl
    ·
     intro inv2
     clear inv
     have inv := inv2
     clear inv2
     refine opWpT rfl (by rfl) (wp_appK _ (.tmp 42) (.tmp 49) _ rfl w2.heap.size ET i2 _ 2 24 Tryz.underlying64 Hi2.out.1 Hi2.out.2.1 Hi2.out.2.2.1 Hi2.out.2.2.2 rfl (by decide) v7 (0 + k) ([] ++ dcells (U.dir.take k)) rfl own7 (some ⟨gD, j1 * 2, none⟩) (U.dir.length - j1) (cD - j1) (dcells (U.dir.drop j1)) rfl (by rw [dcells_len, hl2]) (HCs1.out.2.chg hS (fun _ _ => id)) (dcells_one _) (by unfold maxLen; omega) (by omega) (by have := hS.size; (try simp only [World.drew] at this ⊢); omega) ?_)
     intro v15 w15 own15 gr15 at15
     have hS := hS.grown gr15 (fun j hj hlt => by have := (own7.lt j hj).1; omega)
     clear gr15 at15 own7
     rw [Nat.zero_add, List.nil_append] at own15
     obtain ⟨A17, c17, rfl⟩ := own_slice own15
     have c2' := cell_q hS K2.out
     have z2' := (HP.out.quiet hS).blk.frozen 1
     refine ⟨fun _ => hS, ?_⟩
     try simp only [sw1, sw2, sw3]
     refine takeT (i := 16) (t := 51) (v := ?v16y74) rfl (by kernel_rfl) (fun _ _ _ h => h) rfl (Or.inl ⟨by rfl, ?h16y74⟩) inv hS ?r16y74
     case h16y74 => (intro V' hSw; clear hSw; go_simp; try with_reducible rfl)
     clear inv
     intro inv
     try simp only [sw1, sw2, sw3]
     refine takeT (i := 17) (t := 52) (v := ?v17y75) rfl (by kernel_rfl) (fun _ _ _ h => h) rfl (Or.inl ⟨by rfl, ?h17y75⟩) inv hS ?r17y75
     case h17y75 => (intro V' hSw; clear hSw; go_simp; try with_reducible rfl)
     clear inv
     intro inv
     try simp only [sw1, sw2, sw3]
     refine lastT (i := 18) (w' := w15.setCell ⟨r2, 1, none⟩ (.slice A17 (k + (U.dir.length - j1)) c17)) rfl (by kernel_rfl) rfl (by rfl) ?hx76 (by decide) (by kernel_rfl) ?_
     case hx76 => (go_simp; try with_reducible rfl)
     have hc3 : Chg (fun k => k = r2) w2 (w15.setCell ⟨r2, 1, none⟩ (.slice A17 (k + (U.dir.length - j1)) c17)) := (hS.mono (G := fun k => k = r2) (fun _ _ h => h.elim)).setCell (p := ⟨r2, 1, none⟩) (fun _ => rfl) _
     have hcw : Chg NoB W (w15.setCell ⟨r2, 1, none⟩ (.slice A17 (k + (U.dir.length - j1)) c17)) := (HC2.out.trans hS).setCell (p := ⟨r2, 1, none⟩) (fun hlt => by have := hr2; simp only at hlt; omega) _
     have hb3 := (HP.out.quiet hS).blk.set_ 1 (.slice A17 (k + (U.dir.length - j1)) c17)
     have ho3 := own_chg own15 ((Chg.refl (fun k => k = r2) w15).setCell (p := ⟨r2, 1, none⟩) (fun _ => rfl) (.slice A17 (k + (U.dir.length - j1)) c17)) (fun k hk hx => by
      have := (own15.lt k hk).1
      omega)
     have hfin : ∃ a', RefAt (w15.setCell ⟨r2, 1, none⟩ (.slice A17 (k + (U.dir.length - j1)) c17)) r2 { U with dir := U.dir.take k ++ U.dir.drop j1 } X a' := by
      have hl3 : (U.dir.take k ++ U.dir.drop j1).length = k + (U.dir.length - j1) := by rw [List.length_append, hl1, hl2]
      refine ⟨_, HP.out.putD hX2 hc3 hb3 (d' := U.dir.take k ++ U.dir.drop j1) ?_ (fun q hq => ?_)⟩
      ·rw [hl3, dcells_app]
       exact ho3
      ·rcases List.mem_append.1 hq with hq | hq
       ·exact HP.out.db q (List.mem_of_mem_take hq)
       ·exact HP.out.db q (List.mem_of_mem_drop hq)
     obtain ⟨a3, h3⟩ := hfin
     have HC3 := Go.Lib.hid (rroom_s h3 hs2)
     have HCW := Go.Lib.hid hcw
     have HR := Go.Lib.hid (H.out.quiet hcw)
     clear hc3 hb3 ho3 own15 hS inv hcw h3
     generalize w15.setCell ⟨r2, 1, none⟩ (.slice A17 (k + (U.dir.length - j1)) c17) = wR at *
     generalize roomI { U with dir := U.dir.take k ++ U.dir.drop j1 } = rj at *
     clear K1 K2 HP HCs1 hl1 hl2 hr2l hr2 HC2 hkj hj2 hwj hX2
     go_wp2_with fail
     refine HC3.out.mono ?_
     rintro e wR2 ⟨rfl, rfl⟩
     clear HC3
     obtain ⟨AF, cF, hF⟩ := own_slice HR.out.F
     have c0 := HR.out.cells.1
     have z0 := HR.out.blk.frozen 0
     rw [hF] at c0
     have hownF := HR.out.F
     rw [hF] at hownF
     have HCl := Go.Lib.hid (And.intro (cells_ownK hownF) (hB.chg HCW.out (fun _ _ => id)))
     have hone := Go.Lib.hid HR.out.fone
     have hflen := HR.out.flen
     have hrl := HR.out.lt
     have hblen : (bv l).length = l.length := by simp [bv]
     have hfl := hs.f
     have hXR : ∀ j, X j → j < wR.heap.size := fun j hj => Nat.lt_of_lt_of_le (hX j hj) HCW.out.size
     clear hF hownF
     go_wp2_with (first
      | (at_builtin; refine wpList_appK _ rfl (.const (.slice none 0 0)) (.tmp 63) _ rfl wR.heap.size BT i1 _ 1 24 Tryz.underlying63 Hi1.out.1 Hi1.out.2.1 Hi1.out.2.2.1 Hi1.out.2.2.2 rfl (by decide) (.slice none 0 0) 0 [] rfl (World.ownsRow_nil _ _ _ _) AF U.F.length cF a.f rfl hflen HCl.out.1 hone.out (by unfold maxLen; omega) (by omega) (Nat.le_refl _) ?_; intro v1 w1 own1 gr1 at1; rw [List.nil_append, Nat.zero_add] at own1; have hg1 : Chg NoB wR w1 := ((Chg.refl NoB wR).grown gr1 (by simp [Value.ownBlock])); clear gr1 at1)
      | (at_builtin; refine wpList_appK _ rfl (.const (.slice none 0 0)) (.tmp 65) _ rfl wR.heap.size 5 i0 _ 1 1 Tryz.underlying44 Hi.out.1 Hi.out.2.1 Hi.out.2.2.1 Hi.out.2.2.2 rfl (by decide) (.slice none 0 0) 0 [] rfl (World.ownsRow_nil _ _ _ _) B l.length c (bv l) rfl (by rw [hblen, Nat.mul_one]) (HCl.out.2.chg hg1 (fun _ _ => id)) (fun u hu => by simp only [bv, List.mem_map] at hu; obtain ⟨x, _, rfl⟩ := hu; rfl) (by unfold maxLen; omega) (by omega) hg1.size ?_; intro v2 w2 own2 gr2 at2; rw [List.nil_append, Nat.zero_add] at own2; obtain ⟨A2, c2x, rfl⟩ := own_slice own2; have hg2 : Chg NoB w1 w2 := ((Chg.refl NoB w1).grown gr2 (by simp [Value.ownBlock])); have own1 := own_chg own1 hg2 (fun _ _ => id); have hg12 := hg1.trans hg2; clear gr2 at2 hg2)
      | (at_builtin; go_must (refine wpList_appK _ rfl (.tmp 64) (.tmp 67) _ rfl wR.heap.size BT i1 _ 1 24 Tryz.underlying63 Hi1.out.1 Hi1.out.2.1 Hi1.out.2.2.1 Hi1.out.2.2.2 rfl (by decide) v1 U.F.length a.f rfl (own_chg own1 ((Chg.refl NoB w2).alloc (.cells #[.slice A2 l.length c2x] BT)) (fun _ _ => id)) (some ⟨w2.heap.size, 0, none⟩) 1 1 [.slice A2 l.length c2x] rfl rfl (cells_of_blk (Blk.new w2 _ _)) (by simp [Value.oneCell']) (by unfold maxLen; omega) (by omega) (by have := hg12.size; simp; omega) ?_); go_must (intro v3 w3 own3 gr3 at3; have hg3 : Chg NoB wR w3 := ((hg12.alloc _).grown gr3 (fun j hj hlt => (by have := (own1.lt j hj).1; omega))); obtain ⟨A3, c3x, rfl⟩ := own_slice own3; have own2b : w3.ownsRow wR.heap.size 5 1 (.slice A2 l.length c2x) l.length (bv l) := own_chg own2 (show Chg (fun k => v1.ownBlock = some k) w2 w3 from ((Chg.refl (fun k => v1.ownBlock = some k) w2).alloc _).grown gr3 (fun j hj _ => hj)) (fun k hk e => own_own_ne own2 own1 (by decide) hk e); have c0 := cell_q hg3 c0; have z0 := (HR.out.quiet hg3).blk.frozen 0; clear gr3 at3 own1 own2 hg12 hg1)))
     have hc3 : Chg (fun k => k = r) wR (w3.setCell ⟨r, 0, none⟩ (.slice A3 (U.F.length + 1) c3x)) := (hg3.mono (G := fun k => k = r) (fun _ _ h => h.elim)).setCell (p := ⟨r, 0, none⟩) (fun _ => rfl) _
     have hb3 := (HR.out.quiet hg3).blk.set_ 0 (.slice A3 (U.F.length + 1) c3x)
     have hset : Chg (fun k => k = r) w3 (w3.setCell ⟨r, 0, none⟩ (.slice A3 (U.F.length + 1) c3x)) := (Chg.refl (fun k => k = r) w3).setCell (p := ⟨r, 0, none⟩) (fun _ => rfl) _
     have ho3 := own_chg own3 hset (fun k hk hx => by
      have := (own3.lt k hk).1
      omega)
     have ho2 := own_chg own2b hset (fun k hk hx => by
      have := (own2b.lt k hk).1
      omega)
     have hU1 : RefAt (w3.setCell ⟨r, 0, none⟩ (.slice A3 (U.F.length + 1) c3x)) r (U.addFile l) X { a with F := .slice A3 (U.F.length + 1) c3x, f := a.f ++ [.slice A2 l.length c2x] } := by
      have hl2 : (U.F ++ [l]).length = U.F.length + 1 := by simp
      refine HR.out.putF hXR hc3 hb3 (F' := U.F ++ [l]) (by rw [hl2]; exact ho3) (by simp) (fun i b hb => ?_)
      by_cases hi : i < U.F.length
      ·left
       rw [List.getElem?_append_left hi] at hb
       exact ⟨hb, List.getElem?_append_left (by omega)⟩
      ·right
       have hil := (List.getElem?_eq_some_iff.1 hb).1
       obtain rfl : i = U.F.length := by simp at hil; omega
       obtain rfl : b = l := by simpa using hb.symm
       exact ⟨.slice A2 b.length c2x, by rw [List.getElem?_append_right (by omega)]; simp [hflen], ho2⟩
     have hX1 : ∀ j, X j → j < (w3.setCell ⟨r, 0, none⟩ (.slice A3 (U.F.length + 1) c3x)).heap.size := fun j hj => Nat.lt_of_lt_of_le (hXR j hj) hc3.size
     have hEn := renter_c hU1 hX1 (show (U.addFile l).dir.length < 1000000 from hs.d) nm U.F.length (show U.F.length < (U.F ++ [l]).length by simp)
     have HCC := Go.Lib.hid ((HCW.out.mono (G := fun k => k = r) (fun _ _ h => h.elim)).trans hc3)
     have hwn : IntKind.i64.wrap (U.F.length : Int) = U.F.length := by rw [IntKind.wrap_i64]; omega
     clear hc3 hb3 ho3 ho2 hset hU1 hX1 own3 own2b z0 c0 hone hXR hg3
     generalize w3.setCell ⟨r, 0, none⟩ (.slice A3 (U.F.length + 1) c3x) = w4 at *
     refine hEn.mono ?_
     rintro e w5 ⟨rfl, h5, hc5⟩
     have HF := Go.Lib.hid (And.intro h5 (HCC.out.trans hc5))
     clear h5 hc5
     go_wp2_with fail
     go_ret
     exact ⟨rfl, HF.out.1, HF.out.2⟩
theorem rput_c (h : RefAt W r U X a) (hX : ∀ k, X k → k < W.heap.size) (hs : RSmall U) (nm : ByteArray) (hnm : nm.size ≤ maxLen) (l : List UInt8) (hll : l.length < 1000000) (B : Option Addr) (c : Nat) (hB : CellsAt W B (bv l)) : Calls Tryz.prog 89 #[.pointer (some ⟨r, 0, none⟩), .string nm, .slice B l.length c] W (RPost r X (.int .i64 (putR U nm l).1) (putR U nm l).2 W) := by
 by_cases hm : mayName nm = true
 ·by_cases hi : isD nm U.dir = true
  ·by_cases hroom : (l.length : Int) > roomI (delR U nm)
   ·have hres : putR U nm l = (5, U) := by unfold putR; rw [if_pos hm, if_pos (Or.inl hi), if_pos hroom]
    rw [hres]
    by_cases hcap : ∃ A0, a.D = .slice A0 U.dir.length (posD nm U.dir + 1)
    ·obtain ⟨A0, hcap⟩ := hcap
     exact rput_is_full_c h hX hs nm hnm hm hi hcap l hll B c hB hroom
    ·exact rput_is_full_n (A0 := none) h hX hs nm hnm hm hi (fun A0 e => hcap ⟨A0, e⟩) l hll B c hB hroom
   ·have hres : putR U nm l = enterR (U.addFile l) nm U.F.length := by unfold putR; rw [if_pos hm, if_pos (Or.inl hi), if_neg hroom]
    rw [hres]
    by_cases hcap : ∃ A0, a.D = .slice A0 U.dir.length (posD nm U.dir + 1)
    ·obtain ⟨A0, hcap⟩ := hcap
     exact rput_is_go_c h hX hs nm hnm hm hi hcap l hll B c hB hroom
    ·exact rput_is_go_n (A0 := none) h hX hs nm hnm hm hi (fun A0 e => hcap ⟨A0, e⟩) l hll B c hB hroom
  ·have hi' : isD nm U.dir = false := by simpa using hi
   have hdel : delR U nm = U := by
    unfold delR
    rcases hq : U.dir[posD nm U.dir]? with _ | e
    ·rfl
    ·simp only
     rw [if_neg (by rw [isD_none hi' e hq]; simp)]
   by_cases hl : U.dir.length < 200
   ·by_cases hroom : (l.length : Int) > roomI U
    ·have hres : putR U nm l = (5, U) := by unfold putR; rw [hdel, if_pos hm, if_pos (Or.inr hl), if_pos hroom]
     rw [hres]
     exact rput_no_full h hX hs nm hnm hm hi' hl l hll B c hB hroom
    ·have hres : putR U nm l = enterR (U.addFile l) nm U.F.length := by unfold putR; rw [hdel, if_pos hm, if_pos (Or.inr hl), if_neg hroom]
     rw [hres]
     exact rput_no_go h hX hs nm hnm hm hi' hl l hll B c hB hroom
   ·have hres : putR U nm l = (5, U) := by unfold putR; rw [if_pos hm, if_neg (by rintro (e | e); exact hi e; exact hl e)]
    rw [hres]
    exact rput_dir h hs nm hnm hm hi' hl l B c
 ·have hm' : mayName nm = false := by simpa using hm
  have hres : putR U nm l = (2, U) := by unfold putR; rw [if_neg hm]
  rw [hres]
  exact rput_may nm hnm hm' l B c h
end
end Go.Proofs.YtggknljlibhkjaaGreat
