/- What is proved: the reference's Put where the name is there. Conditions: the memory holds the reference's store, and the bytes. -/
import Derived.Test.YteleglkoagnmcaaGR2D
set_option linter.unusedSimpArgs false
set_option linter.unusedVariables false
namespace Go.Proofs.Yteleglkoagnmcaa
open Go Go.RowKit
section
variable {W W' : World} {r : Nat} {U : V} {X F : Nat → Prop} {a : RA}
set_option maxRecDepth 100000 in
set_option maxHeartbeats 4000000 in
theorem rput_is_full_c {A0 : Option Addr} (h : RefAt W r U X a) (hX : ∀ k, X k → k < W.heap.size) (hs : RSmall U) (nm : ByteArray) (hnm : nm.size ≤ maxLen) (hm : mayName nm = true) (hi : isD nm U.dir = true) (hcap : a.D = .slice A0 U.dir.length (posD nm U.dir + 1)) (l : List UInt8) (hll : l.length < 1000000) (B : Option Addr) (c : Nat) (hB : CellsAt W B (bv l)) (hroom : (l.length : Int) > roomI (delR U nm)) : Calls Try.prog 30 #[.pointer (some ⟨r, 0, none⟩), .string nm, .slice B l.length c] W (RPost r X (.int .i64 5) U W) := by
  obtain ⟨e0, he, hen⟩ := isD_some hi
  have hres : delR U nm = { U with dir := U.dir.take (posD nm U.dir) ++ U.dir.drop (posD nm U.dir + 1) } := by unfold delR; rw [he]; simp only; rw [if_pos hen]
  rw [hres] at hroom
  have hs2 : RSmall { U with dir := U.dir.take (posD nm U.dir) ++ U.dir.drop (posD nm U.dir + 1) } := ⟨hs.r, by have := hs.d; simp; omega, hs.f, hs.b, hs.c⟩
  have hkl := (List.getElem?_eq_some_iff.1 he).1
  obtain ⟨gD, cD, hD, hnc, hcm, hhv⟩ := h.halves (by omega)
  have HN := Go.Lib.hid (refName_c nm hnm W)
  rw [hm] at HN
  have HA := Go.Lib.hid (rpos_c h hs.d nm)
  rw [hi] at HA
  have H := Go.Lib.hid h
  obtain ⟨i0, hi0, hz0, hz1, hz2⟩ := info_parts u8info
  have Hi := Go.Lib.hid (And.intro hi0 (And.intro hz0 (And.intro hz1 hz2)))
  obtain ⟨i1, hi0', hz0', hz1', hz2'⟩ := info_parts btinfo
  have Hi1 := Go.Lib.hid (And.intro hi0' (And.intro hz0' (And.intro hz1' hz2')))
  clear hi0 hz0 hz1 hz2 hi0' hz0' hz1' hz2' hm
  obtain ⟨i2, hi0, hz0, hz1, hz2⟩ := info_parts etinfo
  have Hi2 := Go.Lib.hid (And.intro hi0 (And.intro hz0 (And.intro hz1 hz2)))
  clear hi0 hz0 hz1 hz2
  have HC := Go.Lib.hid (fun (W' : World) (hc : Chg NoB W W') => rroom_s (h.quiet hc) hs)
  have HCp := Go.Lib.hid (fun (W' : World) (hc : Chg NoB W W') => rcopy_c (h.quiet hc))
  obtain ⟨_, c1, _, _⟩ := h.cells
  have hC1 := (hhv (posD nm U.dir) (by omega)).1
  have hC2 := (hhv (posD nm U.dir + 1) (by omega)).2
  rw [hD] at hcap c1
  obtain rfl : cD = posD nm U.dir + 1 := by injection hcap
  clear hcap
  have hcm2 : posD nm U.dir + 1 ≤ 9223372036854775807 := by unfold maxLen at hcm; omega
  have hrl := h.lt
  have HCs := Go.Lib.hid (And.intro hC1 hC2)
  have hl1 : (U.dir.take (posD nm U.dir)).length = posD nm U.dir := by simp; omega
  have hl2 : (U.dir.drop (posD nm U.dir + 1)).length = U.dir.length - (posD nm U.dir + 1) := by simp
  have gr : decide ((l.length : Int) > roomI { U with dir := U.dir.take (posD nm U.dir) ++ U.dir.drop (posD nm U.dir + 1) }) = true := by simp only [decide_eq_true_eq, decide_eq_false_iff_not]; exact hroom
  clear h hi hroom hen hres he hhv hC1 hC2
  generalize posD nm U.dir = k at *
  have hj2 : k + 1 ≤ U.dir.length := by omega
  have hwj : IntKind.i64.wrap ((k : Int) + 1) = ((k + 1 : Nat) : Int) := by rw [IntKind.wrap_i64]; have := hs.d; omega
  have hkj : k < k + 1 := by omega
  have hds := hs.d
  generalize hj1 : k + 1 = j1 at *
  clear hj1
  generalize roomI U = ri at *
  go_enter Try.func30, Try.ntmps30
  go_wp2_with fail
  refine HN.out.mono ?_
  rintro e w1 ⟨rfl, rfl⟩
  go_wp2_with fail
  refine HA.out.mono ?_
  rintro e w1 ⟨rfl, hq⟩
  have HQ := Go.Lib.hid hq
  clear hq HN HA
  go_wp2_with fail
  refine (HC.out _ HQ.out).mono ?_
  rintro e wy ⟨rfl, rfl⟩
  clear HC
  go_wp2_with fail
  refine (HCp.out _ HQ.out).mono ?_
  rintro e w2 ⟨r2, rfl, hbk, hcp, hr2x⟩
  clear HCp
  have hcq := HQ.out.trans hcp
  have hr2 : W.heap.size ≤ r2 := Nat.le_trans HQ.out.size hr2x
  have h2 := (H.out.quiet HQ.out).copy (X := X) hcp hbk hr2x (fun hx => by have := hX r2 hx; omega)
  have hX2 : ∀ j, X j → j < w2.heap.size := fun j hj => Nat.lt_of_lt_of_le (hX j hj) hcq.size
  have c1 := cell_q hcq c1
  have HCs1 := Go.Lib.hid (And.intro (HCs.out.1.chg hcq (fun _ _ => id)) (HCs.out.2.chg hcq (fun _ _ => id)))
  have K1 := Go.Lib.hid c1
  have hr2l := h2.lt
  have k2 := h2.cells.2.1
  rw [hD] at k2
  have K2 := Go.Lib.hid k2
  have HC2 := Go.Lib.hid hcq
  have HP := Go.Lib.hid h2
  clear hcq hcp hbk hr2x HQ HCs h2 k2 hD hrl
  go_wp2_with fail
  refine regionT 18 (fun V' => Chg NoB w2 V') (by kernel_rfl) (by decide) ((Chg.refl NoB w2).drew) (fun inv hS => ?_)
  refine tkV 0 35 ?v1598 inv hS ?_
  clear inv; intro inv; try simp only [sw1, sw2, sw3]
  refine tkV 1 36 ?v1599 inv hS ?_
  clear inv; intro inv; try simp only [sw1, sw2, sw3]
  refine tkV 2 37 ?v1600 inv hS ?_
  clear inv; intro inv; try simp only [sw1, sw2, sw3]
  refine tkV 3 38 ?v1601 inv hS ?_
  clear inv; intro inv; try simp only [sw1, sw2, sw3]
  refine tkT 4 39 ?v1602 inv hS ?h1602 ?_
  case h1602 => (intro V' hSw; have q := cell_q hSw K1.out; clear hSw; go_simp; try with_reducible rfl)
  clear inv; intro inv; try simp only [sw1, sw2, sw3]
  refine tkV 5 40 ?v1603 inv hS ?_
  clear inv; intro inv; try simp only [sw1, sw2, sw3]
  refine tkT 6 41 ?v1604 inv hS ?h1604 ?_
  case h1604 => (intro V' hSw; clear hSw; go_simp; (try (rw [if_pos (by omega)])); try with_reducible rfl)
  clear inv; intro inv; try simp only [sw1, sw2, sw3]
  refine tkV 8 43 ?v1605 inv hS ?_
  clear inv; intro inv; try simp only [sw1, sw2, sw3]
  refine tkV 9 44 ?v1606 inv hS ?_
  clear inv; intro inv; try simp only [sw1, sw2, sw3]
  refine tkV 10 45 ?v1607 inv hS ?_
  clear inv; intro inv; try simp only [sw1, sw2, sw3]
  refine tkT 11 46 ?v1608 inv hS ?h1608 ?_
  case h1608 => (intro V' hSw; have q := cell_q hSw K1.out; clear hSw; go_simp; try with_reducible rfl)
  clear inv; intro inv; try simp only [sw1, sw2, sw3]
  refine tkV 12 47 ?v1609 inv hS ?_
  clear inv; intro inv; try simp only [sw1, sw2, sw3]
  refine tkT 13 48 (.int .i64 (j1 : Int)) inv hS ?h1610 ?_
  case h1610 => (intro V' hSw; clear hSw; go_simp; try simp only [hwj])
  clear inv; intro inv; try simp only [sw1, sw2, sw3]
  refine tkT 14 49 (.slice (some ⟨gD, 0, none⟩) (U.dir.length - j1) 0) inv hS ?h1611 ?_
  case h1611 => (intro V' hSw; clear hSw; have hz : U.dir.length - j1 = 0 := (by omega); go_simp; (try (rw [if_pos (by omega)])); (try with_reducible rfl))
  clear inv; intro inv; try simp only [sw1, sw2, sw3]
  refine manyT (i := 7) (l := []) (by kernel_rfl) (by decide) inv ?ho15
  case ho15 =>
    intro j hj
    simp only [List.mem_cons, List.not_mem_nil, or_false] at hj
    rcases hj with rfl
    ·
      intro inv2
      clear inv
      have inv := inv2
      clear inv2
      refine opWpT rfl (by rfl) (wp_appK _ (.const (.slice none 0 0)) (.tmp 41) _ rfl w2.heap.size ET i2 _ 2 24 Try.underlying78 Hi2.out.1 Hi2.out.2.1 Hi2.out.2.2.1 Hi2.out.2.2.2 rfl (by decide) (.slice none 0 0) (0) [] rfl (World.ownsRow_nil _ _ _ _) (some ⟨gD, 0, none⟩) (k) j1 (dcells (U.dir.take k)) rfl (by rw [dcells_len, hl1]) (HCs1.out.1.chg hS (fun _ _ => id)) (dcells_one _) (by unfold maxLen; omega) (by omega) (by have := hS.size; (try simp only [World.drew] at this ⊢); omega) ?_)
      intro v7 w7 own7 gr7 at7
      have hq7 : Chg NoB w2.drew w7 := (Chg.refl NoB _).grown gr7 (by simp [Value.ownBlock])
      have hS := hS.trans hq7
      clear hq7 gr7 at7
      refine ⟨fun _ => hS, ?_⟩
      try simp only [sw1, sw2, sw3]
      refine manyT (i := 15) (l := []) (by kernel_rfl) (by decide) inv ?ho16
      case ho16 =>
        intro j hj
        simp only [List.mem_cons, List.not_mem_nil, or_false] at hj
        rcases hj with rfl
        ·
          intro inv2
          clear inv
          have inv := inv2
          clear inv2
          refine opWpT rfl (by rfl) (wp_appK _ (.tmp 42) (.tmp 49) _ rfl w2.heap.size ET i2 _ 2 24 Try.underlying78 Hi2.out.1 Hi2.out.2.1 Hi2.out.2.2.1 Hi2.out.2.2.2 rfl (by decide) v7 (0 + k) ([] ++ dcells (U.dir.take k)) rfl own7 (some ⟨gD, 0, none⟩) (U.dir.length - j1) 0 (dcells (U.dir.drop j1)) rfl (by rw [dcells_len, hl2]) (fun hh => absurd hh (by rw [dcells_len, hl2]; omega)) (dcells_one _) (by unfold maxLen; omega) (by omega) (by have := hS.size; (try simp only [World.drew] at this ⊢); omega) ?_)
          intro v15 w15 own15 gr15 at15
          have hS := hS.grown gr15 (fun j hj hlt => by have := (own7.lt j hj).1; omega)
          clear gr15 at15 own7
          rw [Nat.zero_add, List.nil_append] at own15
          obtain ⟨A17, c17, rfl⟩ := own_slice own15
          have c2' := cell_q hS K2.out
          have z2' := (HP.out.quiet hS).blk.frozen 1
          refine ⟨fun _ => hS, ?_⟩
          try simp only [sw1, sw2, sw3]
          refine tkV 16 51 ?v1612 inv hS ?_
          clear inv; intro inv; try simp only [sw1, sw2, sw3]
          refine tkV 17 52 ?v1613 inv hS ?_
          clear inv; intro inv; try simp only [sw1, sw2, sw3]
          refine lastT (i := 18) (w' := w15.setCell ⟨r2, 1, none⟩ (.slice A17 (k + (U.dir.length - j1)) c17)) rfl (by kernel_rfl) rfl (by rfl) ?hx19 (by decide) (by kernel_rfl) ?_
          case hx19 => (go_simp; try with_reducible rfl)
          have hc3 : Chg (fun k => k = r2) w2 (w15.setCell ⟨r2, 1, none⟩ (.slice A17 (k + (U.dir.length - j1)) c17)) := (hS.mono (G := fun k => k = r2) (fun _ _ h => h.elim)).setCell (p := ⟨r2, 1, none⟩) (fun _ => rfl) _
          have hcw : Chg NoB W (w15.setCell ⟨r2, 1, none⟩ (.slice A17 (k + (U.dir.length - j1)) c17)) := (HC2.out.trans hS).setCell (p := ⟨r2, 1, none⟩) (fun hlt => by have := hr2; simp only at hlt; omega) _
          have hb3 := (HP.out.quiet hS).blk.set_ 1 (.slice A17 (k + (U.dir.length - j1)) c17)
          have ho3 := own_chg own15 ((Chg.refl (fun k => k = r2) w15).setCell (p := ⟨r2, 1, none⟩) (fun _ => rfl) (.slice A17 (k + (U.dir.length - j1)) c17)) (fun k hk hx => by
            have := (own15.lt k hk).1
            omega)
          have hfin : ∃ a', RefAt (w15.setCell ⟨r2, 1, none⟩ (.slice A17 (k + (U.dir.length - j1)) c17)) r2 { U with dir := U.dir.take k ++ U.dir.drop j1 } X a' := by
            have hl3 : (U.dir.take k ++ U.dir.drop j1).length = k + (U.dir.length - j1) := by rw [List.length_append, hl1, hl2]
            refine ⟨_, HP.out.putD hX2 hc3 hb3 (d' := U.dir.take k ++ U.dir.drop j1) ?_ (fun q hq => ?_)⟩
            · rw [hl3, dcells_app]
              exact ho3
            · rcases List.mem_append.1 hq with hq | hq
              · exact HP.out.db q (List.mem_of_mem_take hq)
              · exact HP.out.db q (List.mem_of_mem_drop hq)
          obtain ⟨a3, h3⟩ := hfin
          have HC3 := Go.Lib.hid (rroom_s h3 hs2)
          have HCW := Go.Lib.hid hcw
          have HR := Go.Lib.hid (H.out.quiet hcw)
          clear hc3 hb3 ho3 own15 hS inv hcw h3
          generalize w15.setCell ⟨r2, 1, none⟩ (.slice A17 (k + (U.dir.length - j1)) c17) = wR at *
          generalize roomI { U with dir := U.dir.take k ++ U.dir.drop j1 } = rj at *
          clear K1 K2 HP HCs1 hl1 hl2 hr2l hr2 HC2 hkj hj2 hwj hX2
          go_wp2_with fail
          refine HC3.out.mono ?_
          rintro e wR2 ⟨rfl, rfl⟩
          clear HC3
          go_wp2_with fail
          go_ret
          exact ⟨rfl, ⟨a, HR.out⟩, HCW.out.mono (fun _ _ h => h.elim)⟩
set_option maxRecDepth 100000 in
set_option maxHeartbeats 4000000 in
theorem rput_is_full_n {A0 : Option Addr} (h : RefAt W r U X a) (hX : ∀ k, X k → k < W.heap.size) (hs : RSmall U) (nm : ByteArray) (hnm : nm.size ≤ maxLen) (hm : mayName nm = true) (hi : isD nm U.dir = true) (hcap : ∀ A0, a.D ≠ .slice A0 U.dir.length (posD nm U.dir + 1)) (l : List UInt8) (hll : l.length < 1000000) (B : Option Addr) (c : Nat) (hB : CellsAt W B (bv l)) (hroom : (l.length : Int) > roomI (delR U nm)) : Calls Try.prog 30 #[.pointer (some ⟨r, 0, none⟩), .string nm, .slice B l.length c] W (RPost r X (.int .i64 5) U W) := by
  obtain ⟨e0, he, hen⟩ := isD_some hi
  have hres : delR U nm = { U with dir := U.dir.take (posD nm U.dir) ++ U.dir.drop (posD nm U.dir + 1) } := by unfold delR; rw [he]; simp only; rw [if_pos hen]
  rw [hres] at hroom
  have hs2 : RSmall { U with dir := U.dir.take (posD nm U.dir) ++ U.dir.drop (posD nm U.dir + 1) } := ⟨hs.r, by have := hs.d; simp; omega, hs.f, hs.b, hs.c⟩
  have hkl := (List.getElem?_eq_some_iff.1 he).1
  obtain ⟨gD, cD, hD, hnc, hcm, hhv⟩ := h.halves (by omega)
  have HN := Go.Lib.hid (refName_c nm hnm W)
  rw [hm] at HN
  have HA := Go.Lib.hid (rpos_c h hs.d nm)
  rw [hi] at HA
  have H := Go.Lib.hid h
  obtain ⟨i0, hi0, hz0, hz1, hz2⟩ := info_parts u8info
  have Hi := Go.Lib.hid (And.intro hi0 (And.intro hz0 (And.intro hz1 hz2)))
  obtain ⟨i1, hi0', hz0', hz1', hz2'⟩ := info_parts btinfo
  have Hi1 := Go.Lib.hid (And.intro hi0' (And.intro hz0' (And.intro hz1' hz2')))
  clear hi0 hz0 hz1 hz2 hi0' hz0' hz1' hz2' hm
  obtain ⟨i2, hi0, hz0, hz1, hz2⟩ := info_parts etinfo
  have Hi2 := Go.Lib.hid (And.intro hi0 (And.intro hz0 (And.intro hz1 hz2)))
  clear hi0 hz0 hz1 hz2
  have HC := Go.Lib.hid (fun (W' : World) (hc : Chg NoB W W') => rroom_s (h.quiet hc) hs)
  have HCp := Go.Lib.hid (fun (W' : World) (hc : Chg NoB W W') => rcopy_c (h.quiet hc))
  obtain ⟨_, c1, _, _⟩ := h.cells
  have hC1 := (hhv (posD nm U.dir) (by omega)).1
  have hC2 := (hhv (posD nm U.dir + 1) (by omega)).2
  rw [hD] at hcap c1
  have hcap2 : ¬ cD = posD nm U.dir + 1 := fun e => hcap _ (by rw [e])
  clear hcap
  have hcm2 : cD ≤ 9223372036854775807 := by unfold maxLen at hcm; omega
  have hrl := h.lt
  have HCs := Go.Lib.hid (And.intro hC1 hC2)
  have hl1 : (U.dir.take (posD nm U.dir)).length = posD nm U.dir := by simp; omega
  have hl2 : (U.dir.drop (posD nm U.dir + 1)).length = U.dir.length - (posD nm U.dir + 1) := by simp
  have gr : decide ((l.length : Int) > roomI { U with dir := U.dir.take (posD nm U.dir) ++ U.dir.drop (posD nm U.dir + 1) }) = true := by simp only [decide_eq_true_eq, decide_eq_false_iff_not]; exact hroom
  clear h hi hroom hen hres he hhv hC1 hC2
  generalize posD nm U.dir = k at *
  have hj2 : k + 1 ≤ U.dir.length := by omega
  have hwj : IntKind.i64.wrap ((k : Int) + 1) = ((k + 1 : Nat) : Int) := by rw [IntKind.wrap_i64]; have := hs.d; omega
  have hkj : k < k + 1 := by omega
  have hds := hs.d
  generalize hj1 : k + 1 = j1 at *
  clear hj1
  generalize roomI U = ri at *
  go_enter Try.func30, Try.ntmps30
  go_wp2_with fail
  refine HN.out.mono ?_
  rintro e w1 ⟨rfl, rfl⟩
  go_wp2_with fail
  refine HA.out.mono ?_
  rintro e w1 ⟨rfl, hq⟩
  have HQ := Go.Lib.hid hq
  clear hq HN HA
  go_wp2_with fail
  refine (HC.out _ HQ.out).mono ?_
  rintro e wy ⟨rfl, rfl⟩
  clear HC
  go_wp2_with fail
  refine (HCp.out _ HQ.out).mono ?_
  rintro e w2 ⟨r2, rfl, hbk, hcp, hr2x⟩
  clear HCp
  have hcq := HQ.out.trans hcp
  have hr2 : W.heap.size ≤ r2 := Nat.le_trans HQ.out.size hr2x
  have h2 := (H.out.quiet HQ.out).copy (X := X) hcp hbk hr2x (fun hx => by have := hX r2 hx; omega)
  have hX2 : ∀ j, X j → j < w2.heap.size := fun j hj => Nat.lt_of_lt_of_le (hX j hj) hcq.size
  have c1 := cell_q hcq c1
  have HCs1 := Go.Lib.hid (And.intro (HCs.out.1.chg hcq (fun _ _ => id)) (HCs.out.2.chg hcq (fun _ _ => id)))
  have K1 := Go.Lib.hid c1
  have hr2l := h2.lt
  have k2 := h2.cells.2.1
  rw [hD] at k2
  have K2 := Go.Lib.hid k2
  have HC2 := Go.Lib.hid hcq
  have HP := Go.Lib.hid h2
  clear hcq hcp hbk hr2x HQ HCs h2 k2 hD hrl
  go_wp2_with fail
  refine regionT 18 (fun V' => Chg NoB w2 V') (by kernel_rfl) (by decide) ((Chg.refl NoB w2).drew) (fun inv hS => ?_)
  refine tkV 0 35 ?v1614 inv hS ?_
  clear inv; intro inv; try simp only [sw1, sw2, sw3]
  refine tkV 1 36 ?v1615 inv hS ?_
  clear inv; intro inv; try simp only [sw1, sw2, sw3]
  refine tkV 2 37 ?v1616 inv hS ?_
  clear inv; intro inv; try simp only [sw1, sw2, sw3]
  refine tkV 3 38 ?v1617 inv hS ?_
  clear inv; intro inv; try simp only [sw1, sw2, sw3]
  refine tkT 4 39 ?v1618 inv hS ?h1618 ?_
  case h1618 => (intro V' hSw; have q := cell_q hSw K1.out; clear hSw; go_simp; try with_reducible rfl)
  clear inv; intro inv; try simp only [sw1, sw2, sw3]
  refine tkV 5 40 ?v1619 inv hS ?_
  clear inv; intro inv; try simp only [sw1, sw2, sw3]
  refine tkT 6 41 ?v1620 inv hS ?h1620 ?_
  case h1620 => (intro V' hSw; clear hSw; go_simp; (try (rw [if_pos (by omega)])); try with_reducible rfl)
  clear inv; intro inv; try simp only [sw1, sw2, sw3]
  refine tkV 8 43 ?v1621 inv hS ?_
  clear inv; intro inv; try simp only [sw1, sw2, sw3]
  refine tkV 9 44 ?v1622 inv hS ?_
  clear inv; intro inv; try simp only [sw1, sw2, sw3]
  refine tkV 10 45 ?v1623 inv hS ?_
  clear inv; intro inv; try simp only [sw1, sw2, sw3]
  refine tkT 11 46 ?v1624 inv hS ?h1624 ?_
  case h1624 => (intro V' hSw; have q := cell_q hSw K1.out; clear hSw; go_simp; try with_reducible rfl)
  clear inv; intro inv; try simp only [sw1, sw2, sw3]
  refine tkV 12 47 ?v1625 inv hS ?_
  clear inv; intro inv; try simp only [sw1, sw2, sw3]
  refine tkT 13 48 (.int .i64 (j1 : Int)) inv hS ?h1626 ?_
  case h1626 => (intro V' hSw; clear hSw; go_simp; try simp only [hwj])
  clear inv; intro inv; try simp only [sw1, sw2, sw3]
  refine tkT 14 49 ?v1627 inv hS ?h1627 ?_
  case h1627 => (intro V' hSw; clear hSw; go_simp; (try (rw [if_pos (by omega)])); try with_reducible rfl)
  clear inv; intro inv; try simp only [sw1, sw2, sw3]
  refine manyT (i := 7) (l := []) (by kernel_rfl) (by decide) inv ?ho34
  case ho34 =>
    intro j hj
    simp only [List.mem_cons, List.not_mem_nil, or_false] at hj
    rcases hj with rfl
    ·
      intro inv2
      clear inv
      have inv := inv2
      clear inv2
      refine opWpT rfl (by rfl) (wp_appK _ (.const (.slice none 0 0)) (.tmp 41) _ rfl w2.heap.size ET i2 _ 2 24 Try.underlying78 Hi2.out.1 Hi2.out.2.1 Hi2.out.2.2.1 Hi2.out.2.2.2 rfl (by decide) (.slice none 0 0) (0) [] rfl (World.ownsRow_nil _ _ _ _) (some ⟨gD, 0, none⟩) (k) cD (dcells (U.dir.take k)) rfl (by rw [dcells_len, hl1]) (HCs1.out.1.chg hS (fun _ _ => id)) (dcells_one _) (by unfold maxLen; omega) (by omega) (by have := hS.size; (try simp only [World.drew] at this ⊢); omega) ?_)
      intro v7 w7 own7 gr7 at7
      have hq7 : Chg NoB w2.drew w7 := (Chg.refl NoB _).grown gr7 (by simp [Value.ownBlock])
      have hS := hS.trans hq7
      clear hq7 gr7 at7
      refine ⟨fun _ => hS, ?_⟩
      try simp only [sw1, sw2, sw3]
      refine manyT (i := 15) (l := []) (by kernel_rfl) (by decide) inv ?ho35
      case ho35 =>
        intro j hj
        simp only [List.mem_cons, List.not_mem_nil, or_false] at hj
        rcases hj with rfl
        ·
          intro inv2
          clear inv
          have inv := inv2
          clear inv2
          refine opWpT rfl (by rfl) (wp_appK _ (.tmp 42) (.tmp 49) _ rfl w2.heap.size ET i2 _ 2 24 Try.underlying78 Hi2.out.1 Hi2.out.2.1 Hi2.out.2.2.1 Hi2.out.2.2.2 rfl (by decide) v7 (0 + k) ([] ++ dcells (U.dir.take k)) rfl own7 (some ⟨gD, j1 * 2, none⟩) (U.dir.length - j1) (cD - j1) (dcells (U.dir.drop j1)) rfl (by rw [dcells_len, hl2]) (HCs1.out.2.chg hS (fun _ _ => id)) (dcells_one _) (by unfold maxLen; omega) (by omega) (by have := hS.size; (try simp only [World.drew] at this ⊢); omega) ?_)
          intro v15 w15 own15 gr15 at15
          have hS := hS.grown gr15 (fun j hj hlt => by have := (own7.lt j hj).1; omega)
          clear gr15 at15 own7
          rw [Nat.zero_add, List.nil_append] at own15
          obtain ⟨A17, c17, rfl⟩ := own_slice own15
          have c2' := cell_q hS K2.out
          have z2' := (HP.out.quiet hS).blk.frozen 1
          refine ⟨fun _ => hS, ?_⟩
          try simp only [sw1, sw2, sw3]
          refine tkV 16 51 ?v1628 inv hS ?_
          clear inv; intro inv; try simp only [sw1, sw2, sw3]
          refine tkV 17 52 ?v1629 inv hS ?_
          clear inv; intro inv; try simp only [sw1, sw2, sw3]
          refine lastT (i := 18) (w' := w15.setCell ⟨r2, 1, none⟩ (.slice A17 (k + (U.dir.length - j1)) c17)) rfl (by kernel_rfl) rfl (by rfl) ?hx38 (by decide) (by kernel_rfl) ?_
          case hx38 => (go_simp; try with_reducible rfl)
          have hc3 : Chg (fun k => k = r2) w2 (w15.setCell ⟨r2, 1, none⟩ (.slice A17 (k + (U.dir.length - j1)) c17)) := (hS.mono (G := fun k => k = r2) (fun _ _ h => h.elim)).setCell (p := ⟨r2, 1, none⟩) (fun _ => rfl) _
          have hcw : Chg NoB W (w15.setCell ⟨r2, 1, none⟩ (.slice A17 (k + (U.dir.length - j1)) c17)) := (HC2.out.trans hS).setCell (p := ⟨r2, 1, none⟩) (fun hlt => by have := hr2; simp only at hlt; omega) _
          have hb3 := (HP.out.quiet hS).blk.set_ 1 (.slice A17 (k + (U.dir.length - j1)) c17)
          have ho3 := own_chg own15 ((Chg.refl (fun k => k = r2) w15).setCell (p := ⟨r2, 1, none⟩) (fun _ => rfl) (.slice A17 (k + (U.dir.length - j1)) c17)) (fun k hk hx => by
            have := (own15.lt k hk).1
            omega)
          have hfin : ∃ a', RefAt (w15.setCell ⟨r2, 1, none⟩ (.slice A17 (k + (U.dir.length - j1)) c17)) r2 { U with dir := U.dir.take k ++ U.dir.drop j1 } X a' := by
            have hl3 : (U.dir.take k ++ U.dir.drop j1).length = k + (U.dir.length - j1) := by rw [List.length_append, hl1, hl2]
            refine ⟨_, HP.out.putD hX2 hc3 hb3 (d' := U.dir.take k ++ U.dir.drop j1) ?_ (fun q hq => ?_)⟩
            · rw [hl3, dcells_app]
              exact ho3
            · rcases List.mem_append.1 hq with hq | hq
              · exact HP.out.db q (List.mem_of_mem_take hq)
              · exact HP.out.db q (List.mem_of_mem_drop hq)
          obtain ⟨a3, h3⟩ := hfin
          have HC3 := Go.Lib.hid (rroom_s h3 hs2)
          have HCW := Go.Lib.hid hcw
          have HR := Go.Lib.hid (H.out.quiet hcw)
          clear hc3 hb3 ho3 own15 hS inv hcw h3
          generalize w15.setCell ⟨r2, 1, none⟩ (.slice A17 (k + (U.dir.length - j1)) c17) = wR at *
          generalize roomI { U with dir := U.dir.take k ++ U.dir.drop j1 } = rj at *
          clear K1 K2 HP HCs1 hl1 hl2 hr2l hr2 HC2 hkj hj2 hwj hX2
          go_wp2_with fail
          refine HC3.out.mono ?_
          rintro e wR2 ⟨rfl, rfl⟩
          clear HC3
          go_wp2_with fail
          go_ret
          exact ⟨rfl, ⟨a, HR.out⟩, HCW.out.mono (fun _ _ h => h.elim)⟩
set_option maxRecDepth 100000 in
set_option maxHeartbeats 4000000 in
theorem rput_is_go_c {A0 : Option Addr} (h : RefAt W r U X a) (hX : ∀ k, X k → k < W.heap.size) (hs : RSmall U) (nm : ByteArray) (hnm : nm.size ≤ maxLen) (hm : mayName nm = true) (hi : isD nm U.dir = true) (hcap : a.D = .slice A0 U.dir.length (posD nm U.dir + 1)) (l : List UInt8) (hll : l.length < 1000000) (B : Option Addr) (c : Nat) (hB : CellsAt W B (bv l)) (hroom : ¬ (l.length : Int) > roomI (delR U nm)) : Calls Try.prog 30 #[.pointer (some ⟨r, 0, none⟩), .string nm, .slice B l.length c] W (RPost r X (.int .i64 (enterR (U.addFile l) nm U.F.length).1) (enterR (U.addFile l) nm U.F.length).2 W) := by
  obtain ⟨e0, he, hen⟩ := isD_some hi
  have hres : delR U nm = { U with dir := U.dir.take (posD nm U.dir) ++ U.dir.drop (posD nm U.dir + 1) } := by unfold delR; rw [he]; simp only; rw [if_pos hen]
  rw [hres] at hroom
  have hs2 : RSmall { U with dir := U.dir.take (posD nm U.dir) ++ U.dir.drop (posD nm U.dir + 1) } := ⟨hs.r, by have := hs.d; simp; omega, hs.f, hs.b, hs.c⟩
  have hkl := (List.getElem?_eq_some_iff.1 he).1
  obtain ⟨gD, cD, hD, hnc, hcm, hhv⟩ := h.halves (by omega)
  have HN := Go.Lib.hid (refName_c nm hnm W)
  rw [hm] at HN
  have HA := Go.Lib.hid (rpos_c h hs.d nm)
  rw [hi] at HA
  have H := Go.Lib.hid h
  obtain ⟨i0, hi0, hz0, hz1, hz2⟩ := info_parts u8info
  have Hi := Go.Lib.hid (And.intro hi0 (And.intro hz0 (And.intro hz1 hz2)))
  obtain ⟨i1, hi0', hz0', hz1', hz2'⟩ := info_parts btinfo
  have Hi1 := Go.Lib.hid (And.intro hi0' (And.intro hz0' (And.intro hz1' hz2')))
  clear hi0 hz0 hz1 hz2 hi0' hz0' hz1' hz2' hm
  obtain ⟨i2, hi0, hz0, hz1, hz2⟩ := info_parts etinfo
  have Hi2 := Go.Lib.hid (And.intro hi0 (And.intro hz0 (And.intro hz1 hz2)))
  clear hi0 hz0 hz1 hz2
  have HC := Go.Lib.hid (fun (W' : World) (hc : Chg NoB W W') => rroom_s (h.quiet hc) hs)
  have HCp := Go.Lib.hid (fun (W' : World) (hc : Chg NoB W W') => rcopy_c (h.quiet hc))
  obtain ⟨_, c1, _, _⟩ := h.cells
  have hC1 := (hhv (posD nm U.dir) (by omega)).1
  have hC2 := (hhv (posD nm U.dir + 1) (by omega)).2
  rw [hD] at hcap c1
  obtain rfl : cD = posD nm U.dir + 1 := by injection hcap
  clear hcap
  have hcm2 : posD nm U.dir + 1 ≤ 9223372036854775807 := by unfold maxLen at hcm; omega
  have hrl := h.lt
  have HCs := Go.Lib.hid (And.intro hC1 hC2)
  have hl1 : (U.dir.take (posD nm U.dir)).length = posD nm U.dir := by simp; omega
  have hl2 : (U.dir.drop (posD nm U.dir + 1)).length = U.dir.length - (posD nm U.dir + 1) := by simp
  have gr : decide ((l.length : Int) > roomI { U with dir := U.dir.take (posD nm U.dir) ++ U.dir.drop (posD nm U.dir + 1) }) = false := by simp only [decide_eq_true_eq, decide_eq_false_iff_not]; exact hroom
  clear h hi hroom hen hres he hhv hC1 hC2
  generalize posD nm U.dir = k at *
  have hj2 : k + 1 ≤ U.dir.length := by omega
  have hwj : IntKind.i64.wrap ((k : Int) + 1) = ((k + 1 : Nat) : Int) := by rw [IntKind.wrap_i64]; have := hs.d; omega
  have hkj : k < k + 1 := by omega
  have hds := hs.d
  generalize hj1 : k + 1 = j1 at *
  clear hj1
  generalize roomI U = ri at *
  go_enter Try.func30, Try.ntmps30
  go_wp2_with fail
  refine HN.out.mono ?_
  rintro e w1 ⟨rfl, rfl⟩
  go_wp2_with fail
  refine HA.out.mono ?_
  rintro e w1 ⟨rfl, hq⟩
  have HQ := Go.Lib.hid hq
  clear hq HN HA
  go_wp2_with fail
  refine (HC.out _ HQ.out).mono ?_
  rintro e wy ⟨rfl, rfl⟩
  clear HC
  go_wp2_with fail
  refine (HCp.out _ HQ.out).mono ?_
  rintro e w2 ⟨r2, rfl, hbk, hcp, hr2x⟩
  clear HCp
  have hcq := HQ.out.trans hcp
  have hr2 : W.heap.size ≤ r2 := Nat.le_trans HQ.out.size hr2x
  have h2 := (H.out.quiet HQ.out).copy (X := X) hcp hbk hr2x (fun hx => by have := hX r2 hx; omega)
  have hX2 : ∀ j, X j → j < w2.heap.size := fun j hj => Nat.lt_of_lt_of_le (hX j hj) hcq.size
  have c1 := cell_q hcq c1
  have HCs1 := Go.Lib.hid (And.intro (HCs.out.1.chg hcq (fun _ _ => id)) (HCs.out.2.chg hcq (fun _ _ => id)))
  have K1 := Go.Lib.hid c1
  have hr2l := h2.lt
  have k2 := h2.cells.2.1
  rw [hD] at k2
  have K2 := Go.Lib.hid k2
  have HC2 := Go.Lib.hid hcq
  have HP := Go.Lib.hid h2
  clear hcq hcp hbk hr2x HQ HCs h2 k2 hD hrl
  go_wp2_with fail
  refine regionT 18 (fun V' => Chg NoB w2 V') (by kernel_rfl) (by decide) ((Chg.refl NoB w2).drew) (fun inv hS => ?_)
  refine tkV 0 35 ?v1630 inv hS ?_
  clear inv; intro inv; try simp only [sw1, sw2, sw3]
  refine tkV 1 36 ?v1631 inv hS ?_
  clear inv; intro inv; try simp only [sw1, sw2, sw3]
  refine tkV 2 37 ?v1632 inv hS ?_
  clear inv; intro inv; try simp only [sw1, sw2, sw3]
  refine tkV 3 38 ?v1633 inv hS ?_
  clear inv; intro inv; try simp only [sw1, sw2, sw3]
  refine tkT 4 39 ?v1634 inv hS ?h1634 ?_
  case h1634 => (intro V' hSw; have q := cell_q hSw K1.out; clear hSw; go_simp; try with_reducible rfl)
  clear inv; intro inv; try simp only [sw1, sw2, sw3]
  refine tkV 5 40 ?v1635 inv hS ?_
  clear inv; intro inv; try simp only [sw1, sw2, sw3]
  refine tkT 6 41 ?v1636 inv hS ?h1636 ?_
  case h1636 => (intro V' hSw; clear hSw; go_simp; (try (rw [if_pos (by omega)])); try with_reducible rfl)
  clear inv; intro inv; try simp only [sw1, sw2, sw3]
  refine tkV 8 43 ?v1637 inv hS ?_
  clear inv; intro inv; try simp only [sw1, sw2, sw3]
  refine tkV 9 44 ?v1638 inv hS ?_
  clear inv; intro inv; try simp only [sw1, sw2, sw3]
  refine tkV 10 45 ?v1639 inv hS ?_
  clear inv; intro inv; try simp only [sw1, sw2, sw3]
  refine tkT 11 46 ?v1640 inv hS ?h1640 ?_
  case h1640 => (intro V' hSw; have q := cell_q hSw K1.out; clear hSw; go_simp; try with_reducible rfl)
  clear inv; intro inv; try simp only [sw1, sw2, sw3]
  refine tkV 12 47 ?v1641 inv hS ?_
  clear inv; intro inv; try simp only [sw1, sw2, sw3]
  refine tkT 13 48 (.int .i64 (j1 : Int)) inv hS ?h1642 ?_
  case h1642 => (intro V' hSw; clear hSw; go_simp; try simp only [hwj])
  clear inv; intro inv; try simp only [sw1, sw2, sw3]
  refine tkT 14 49 (.slice (some ⟨gD, 0, none⟩) (U.dir.length - j1) 0) inv hS ?h1643 ?_
  case h1643 => (intro V' hSw; clear hSw; have hz : U.dir.length - j1 = 0 := (by omega); go_simp; (try (rw [if_pos (by omega)])); (try with_reducible rfl))
  clear inv; intro inv; try simp only [sw1, sw2, sw3]
  refine manyT (i := 7) (l := []) (by kernel_rfl) (by decide) inv ?ho53
  case ho53 =>
    intro j hj
    simp only [List.mem_cons, List.not_mem_nil, or_false] at hj
    rcases hj with rfl
    ·
      intro inv2
      clear inv
      have inv := inv2
      clear inv2
      refine opWpT rfl (by rfl) (wp_appK _ (.const (.slice none 0 0)) (.tmp 41) _ rfl w2.heap.size ET i2 _ 2 24 Try.underlying78 Hi2.out.1 Hi2.out.2.1 Hi2.out.2.2.1 Hi2.out.2.2.2 rfl (by decide) (.slice none 0 0) (0) [] rfl (World.ownsRow_nil _ _ _ _) (some ⟨gD, 0, none⟩) (k) j1 (dcells (U.dir.take k)) rfl (by rw [dcells_len, hl1]) (HCs1.out.1.chg hS (fun _ _ => id)) (dcells_one _) (by unfold maxLen; omega) (by omega) (by have := hS.size; (try simp only [World.drew] at this ⊢); omega) ?_)
      intro v7 w7 own7 gr7 at7
      have hq7 : Chg NoB w2.drew w7 := (Chg.refl NoB _).grown gr7 (by simp [Value.ownBlock])
      have hS := hS.trans hq7
      clear hq7 gr7 at7
      refine ⟨fun _ => hS, ?_⟩
      try simp only [sw1, sw2, sw3]
      refine manyT (i := 15) (l := []) (by kernel_rfl) (by decide) inv ?ho54
      case ho54 =>
        intro j hj
        simp only [List.mem_cons, List.not_mem_nil, or_false] at hj
        rcases hj with rfl
        ·
          intro inv2
          clear inv
          have inv := inv2
          clear inv2
          refine opWpT rfl (by rfl) (wp_appK _ (.tmp 42) (.tmp 49) _ rfl w2.heap.size ET i2 _ 2 24 Try.underlying78 Hi2.out.1 Hi2.out.2.1 Hi2.out.2.2.1 Hi2.out.2.2.2 rfl (by decide) v7 (0 + k) ([] ++ dcells (U.dir.take k)) rfl own7 (some ⟨gD, 0, none⟩) (U.dir.length - j1) 0 (dcells (U.dir.drop j1)) rfl (by rw [dcells_len, hl2]) (fun hh => absurd hh (by rw [dcells_len, hl2]; omega)) (dcells_one _) (by unfold maxLen; omega) (by omega) (by have := hS.size; (try simp only [World.drew] at this ⊢); omega) ?_)
          intro v15 w15 own15 gr15 at15
          have hS := hS.grown gr15 (fun j hj hlt => by have := (own7.lt j hj).1; omega)
          clear gr15 at15 own7
          rw [Nat.zero_add, List.nil_append] at own15
          obtain ⟨A17, c17, rfl⟩ := own_slice own15
          have c2' := cell_q hS K2.out
          have z2' := (HP.out.quiet hS).blk.frozen 1
          refine ⟨fun _ => hS, ?_⟩
          try simp only [sw1, sw2, sw3]
          refine tkV 16 51 ?v1644 inv hS ?_
          clear inv; intro inv; try simp only [sw1, sw2, sw3]
          refine tkV 17 52 ?v1645 inv hS ?_
          clear inv; intro inv; try simp only [sw1, sw2, sw3]
          refine lastT (i := 18) (w' := w15.setCell ⟨r2, 1, none⟩ (.slice A17 (k + (U.dir.length - j1)) c17)) rfl (by kernel_rfl) rfl (by rfl) ?hx57 (by decide) (by kernel_rfl) ?_
          case hx57 => (go_simp; try with_reducible rfl)
          have hc3 : Chg (fun k => k = r2) w2 (w15.setCell ⟨r2, 1, none⟩ (.slice A17 (k + (U.dir.length - j1)) c17)) := (hS.mono (G := fun k => k = r2) (fun _ _ h => h.elim)).setCell (p := ⟨r2, 1, none⟩) (fun _ => rfl) _
          have hcw : Chg NoB W (w15.setCell ⟨r2, 1, none⟩ (.slice A17 (k + (U.dir.length - j1)) c17)) := (HC2.out.trans hS).setCell (p := ⟨r2, 1, none⟩) (fun hlt => by have := hr2; simp only at hlt; omega) _
          have hb3 := (HP.out.quiet hS).blk.set_ 1 (.slice A17 (k + (U.dir.length - j1)) c17)
          have ho3 := own_chg own15 ((Chg.refl (fun k => k = r2) w15).setCell (p := ⟨r2, 1, none⟩) (fun _ => rfl) (.slice A17 (k + (U.dir.length - j1)) c17)) (fun k hk hx => by
            have := (own15.lt k hk).1
            omega)
          have hfin : ∃ a', RefAt (w15.setCell ⟨r2, 1, none⟩ (.slice A17 (k + (U.dir.length - j1)) c17)) r2 { U with dir := U.dir.take k ++ U.dir.drop j1 } X a' := by
            have hl3 : (U.dir.take k ++ U.dir.drop j1).length = k + (U.dir.length - j1) := by rw [List.length_append, hl1, hl2]
            refine ⟨_, HP.out.putD hX2 hc3 hb3 (d' := U.dir.take k ++ U.dir.drop j1) ?_ (fun q hq => ?_)⟩
            · rw [hl3, dcells_app]
              exact ho3
            · rcases List.mem_append.1 hq with hq | hq
              · exact HP.out.db q (List.mem_of_mem_take hq)
              · exact HP.out.db q (List.mem_of_mem_drop hq)
          obtain ⟨a3, h3⟩ := hfin
          have HC3 := Go.Lib.hid (rroom_s h3 hs2)
          have HCW := Go.Lib.hid hcw
          have HR := Go.Lib.hid (H.out.quiet hcw)
          clear hc3 hb3 ho3 own15 hS inv hcw h3
          generalize w15.setCell ⟨r2, 1, none⟩ (.slice A17 (k + (U.dir.length - j1)) c17) = wR at *
          generalize roomI { U with dir := U.dir.take k ++ U.dir.drop j1 } = rj at *
          clear K1 K2 HP HCs1 hl1 hl2 hr2l hr2 HC2 hkj hj2 hwj hX2
          go_wp2_with fail
          refine HC3.out.mono ?_
          rintro e wR2 ⟨rfl, rfl⟩
          clear HC3
          obtain ⟨AF, cF, hF⟩ := own_slice HR.out.F
          have c0 := HR.out.cells.1
          have z0 := HR.out.blk.frozen 0
          rw [hF] at c0
          have hownF := HR.out.F
          rw [hF] at hownF
          have HCl := Go.Lib.hid (And.intro (cells_ownK hownF) (hB.chg HCW.out (fun _ _ => id)))
          have hone := Go.Lib.hid HR.out.fone
          have hflen := HR.out.flen
          have hrl := HR.out.lt
          have hblen : (bv l).length = l.length := by simp [bv]
          have hfl := hs.f
          have hXR : ∀ j, X j → j < wR.heap.size := fun j hj => Nat.lt_of_lt_of_le (hX j hj) HCW.out.size
          clear hF hownF
          go_wp2_with (first
            | (at_builtin; refine wpList_appK _ rfl (.const (.slice none 0 0)) (.tmp 63) _ rfl wR.heap.size BT i1 _ 1 24 Try.underlying77 Hi1.out.1 Hi1.out.2.1 Hi1.out.2.2.1 Hi1.out.2.2.2 rfl (by decide) (.slice none 0 0) 0 [] rfl (World.ownsRow_nil _ _ _ _) AF U.F.length cF a.f rfl hflen HCl.out.1 hone.out (by unfold maxLen; omega) (by omega) (Nat.le_refl _) ?_; intro v1 w1 own1 gr1 at1; rw [List.nil_append, Nat.zero_add] at own1; have hg1 : Chg NoB wR w1 := ((Chg.refl NoB wR).grown gr1 (by simp [Value.ownBlock])); clear gr1 at1)
            | (at_builtin; refine wpList_appK _ rfl (.const (.slice none 0 0)) (.tmp 65) _ rfl wR.heap.size 5 i0 _ 1 1 Try.underlying22 Hi.out.1 Hi.out.2.1 Hi.out.2.2.1 Hi.out.2.2.2 rfl (by decide) (.slice none 0 0) 0 [] rfl (World.ownsRow_nil _ _ _ _) B l.length c (bv l) rfl (by rw [hblen, Nat.mul_one]) (HCl.out.2.chg hg1 (fun _ _ => id)) (fun u hu => by simp only [bv, List.mem_map] at hu; obtain ⟨x, _, rfl⟩ := hu; rfl) (by unfold maxLen; omega) (by omega) hg1.size ?_; intro v2 w2 own2 gr2 at2; rw [List.nil_append, Nat.zero_add] at own2; obtain ⟨A2, c2x, rfl⟩ := own_slice own2; have hg2 : Chg NoB w1 w2 := ((Chg.refl NoB w1).grown gr2 (by simp [Value.ownBlock])); have own1 := own_chg own1 hg2 (fun _ _ => id); have hg12 := hg1.trans hg2; clear gr2 at2 hg2)
            | (at_builtin; go_must (refine wpList_appK _ rfl (.tmp 64) (.tmp 67) _ rfl wR.heap.size BT i1 _ 1 24 Try.underlying77 Hi1.out.1 Hi1.out.2.1 Hi1.out.2.2.1 Hi1.out.2.2.2 rfl (by decide) v1 U.F.length a.f rfl (own_chg own1 ((Chg.refl NoB w2).alloc (.cells #[.slice A2 l.length c2x] BT)) (fun _ _ => id)) (some ⟨w2.heap.size, 0, none⟩) 1 1 [.slice A2 l.length c2x] rfl rfl (cells_of_blk (Blk.new w2 _ _)) (by simp [Value.oneCell']) (by unfold maxLen; omega) (by omega) (by have := hg12.size; simp; omega) ?_); go_must (intro v3 w3 own3 gr3 at3; have hg3 : Chg NoB wR w3 := ((hg12.alloc _).grown gr3 (fun j hj hlt => (by have := (own1.lt j hj).1; omega))); obtain ⟨A3, c3x, rfl⟩ := own_slice own3; have own2b : w3.ownsRow wR.heap.size 5 1 (.slice A2 l.length c2x) l.length (bv l) := own_chg own2 (show Chg (fun k => v1.ownBlock = some k) w2 w3 from ((Chg.refl (fun k => v1.ownBlock = some k) w2).alloc _).grown gr3 (fun j hj _ => hj)) (fun k hk e => own_own_ne own2 own1 (by decide) hk e); have c0 := cell_q hg3 c0; have z0 := (HR.out.quiet hg3).blk.frozen 0; clear gr3 at3 own1 own2 hg12 hg1)))
          have hc3 : Chg (fun k => k = r) wR (w3.setCell ⟨r, 0, none⟩ (.slice A3 (U.F.length + 1) c3x)) := (hg3.mono (G := fun k => k = r) (fun _ _ h => h.elim)).setCell (p := ⟨r, 0, none⟩) (fun _ => rfl) _
          have hb3 := (HR.out.quiet hg3).blk.set_ 0 (.slice A3 (U.F.length + 1) c3x)
          have hset : Chg (fun k => k = r) w3 (w3.setCell ⟨r, 0, none⟩ (.slice A3 (U.F.length + 1) c3x)) := (Chg.refl (fun k => k = r) w3).setCell (p := ⟨r, 0, none⟩) (fun _ => rfl) _
          have ho3 := own_chg own3 hset (fun k hk hx => by
            have := (own3.lt k hk).1
            omega)
          have ho2 := own_chg own2b hset (fun k hk hx => by
            have := (own2b.lt k hk).1
            omega)
          have hU1 : RefAt (w3.setCell ⟨r, 0, none⟩ (.slice A3 (U.F.length + 1) c3x)) r (U.addFile l) X { a with F := .slice A3 (U.F.length + 1) c3x, f := a.f ++ [.slice A2 l.length c2x] } := by
            have hl2 : (U.F ++ [l]).length = U.F.length + 1 := by simp
            refine HR.out.putF hXR hc3 hb3 (F' := U.F ++ [l]) (by rw [hl2]; exact ho3) (by simp) (fun i b hb => ?_)
            by_cases hi : i < U.F.length
            · left
              rw [List.getElem?_append_left hi] at hb
              exact ⟨hb, List.getElem?_append_left (by omega)⟩
            · right
              have hil := (List.getElem?_eq_some_iff.1 hb).1
              obtain rfl : i = U.F.length := by simp at hil; omega
              obtain rfl : b = l := by simpa using hb.symm
              exact ⟨.slice A2 b.length c2x, by rw [List.getElem?_append_right (by omega)]; simp [hflen], ho2⟩
          have hX1 : ∀ j, X j → j < (w3.setCell ⟨r, 0, none⟩ (.slice A3 (U.F.length + 1) c3x)).heap.size := fun j hj => Nat.lt_of_lt_of_le (hXR j hj) hc3.size
          have hEn := renter_c hU1 hX1 (show (U.addFile l).dir.length < 1000000 from hs.d) nm U.F.length (show U.F.length < (U.F ++ [l]).length by simp)
          have HCC := Go.Lib.hid ((HCW.out.mono (G := fun k => k = r) (fun _ _ h => h.elim)).trans hc3)
          have hwn : IntKind.i64.wrap (U.F.length : Int) = U.F.length := by rw [IntKind.wrap_i64]; omega
          clear hc3 hb3 ho3 ho2 hset hU1 hX1 own3 own2b z0 c0 hone hXR hg3
          generalize w3.setCell ⟨r, 0, none⟩ (.slice A3 (U.F.length + 1) c3x) = w4 at *
          refine hEn.mono ?_
          rintro e w5 ⟨rfl, h5, hc5⟩
          have HF := Go.Lib.hid (And.intro h5 (HCC.out.trans hc5))
          clear h5 hc5
          go_wp2_with fail
          go_ret
          exact ⟨rfl, HF.out.1, HF.out.2⟩
set_option maxRecDepth 100000 in
set_option maxHeartbeats 4000000 in
theorem rput_is_go_n {A0 : Option Addr} (h : RefAt W r U X a) (hX : ∀ k, X k → k < W.heap.size) (hs : RSmall U) (nm : ByteArray) (hnm : nm.size ≤ maxLen) (hm : mayName nm = true) (hi : isD nm U.dir = true) (hcap : ∀ A0, a.D ≠ .slice A0 U.dir.length (posD nm U.dir + 1)) (l : List UInt8) (hll : l.length < 1000000) (B : Option Addr) (c : Nat) (hB : CellsAt W B (bv l)) (hroom : ¬ (l.length : Int) > roomI (delR U nm)) : Calls Try.prog 30 #[.pointer (some ⟨r, 0, none⟩), .string nm, .slice B l.length c] W (RPost r X (.int .i64 (enterR (U.addFile l) nm U.F.length).1) (enterR (U.addFile l) nm U.F.length).2 W) := by
  obtain ⟨e0, he, hen⟩ := isD_some hi
  have hres : delR U nm = { U with dir := U.dir.take (posD nm U.dir) ++ U.dir.drop (posD nm U.dir + 1) } := by unfold delR; rw [he]; simp only; rw [if_pos hen]
  rw [hres] at hroom
  have hs2 : RSmall { U with dir := U.dir.take (posD nm U.dir) ++ U.dir.drop (posD nm U.dir + 1) } := ⟨hs.r, by have := hs.d; simp; omega, hs.f, hs.b, hs.c⟩
  have hkl := (List.getElem?_eq_some_iff.1 he).1
  obtain ⟨gD, cD, hD, hnc, hcm, hhv⟩ := h.halves (by omega)
  have HN := Go.Lib.hid (refName_c nm hnm W)
  rw [hm] at HN
  have HA := Go.Lib.hid (rpos_c h hs.d nm)
  rw [hi] at HA
  have H := Go.Lib.hid h
  obtain ⟨i0, hi0, hz0, hz1, hz2⟩ := info_parts u8info
  have Hi := Go.Lib.hid (And.intro hi0 (And.intro hz0 (And.intro hz1 hz2)))
  obtain ⟨i1, hi0', hz0', hz1', hz2'⟩ := info_parts btinfo
  have Hi1 := Go.Lib.hid (And.intro hi0' (And.intro hz0' (And.intro hz1' hz2')))
  clear hi0 hz0 hz1 hz2 hi0' hz0' hz1' hz2' hm
  obtain ⟨i2, hi0, hz0, hz1, hz2⟩ := info_parts etinfo
  have Hi2 := Go.Lib.hid (And.intro hi0 (And.intro hz0 (And.intro hz1 hz2)))
  clear hi0 hz0 hz1 hz2
  have HC := Go.Lib.hid (fun (W' : World) (hc : Chg NoB W W') => rroom_s (h.quiet hc) hs)
  have HCp := Go.Lib.hid (fun (W' : World) (hc : Chg NoB W W') => rcopy_c (h.quiet hc))
  obtain ⟨_, c1, _, _⟩ := h.cells
  have hC1 := (hhv (posD nm U.dir) (by omega)).1
  have hC2 := (hhv (posD nm U.dir + 1) (by omega)).2
  rw [hD] at hcap c1
  have hcap2 : ¬ cD = posD nm U.dir + 1 := fun e => hcap _ (by rw [e])
  clear hcap
  have hcm2 : cD ≤ 9223372036854775807 := by unfold maxLen at hcm; omega
  have hrl := h.lt
  have HCs := Go.Lib.hid (And.intro hC1 hC2)
  have hl1 : (U.dir.take (posD nm U.dir)).length = posD nm U.dir := by simp; omega
  have hl2 : (U.dir.drop (posD nm U.dir + 1)).length = U.dir.length - (posD nm U.dir + 1) := by simp
  have gr : decide ((l.length : Int) > roomI { U with dir := U.dir.take (posD nm U.dir) ++ U.dir.drop (posD nm U.dir + 1) }) = false := by simp only [decide_eq_true_eq, decide_eq_false_iff_not]; exact hroom
  clear h hi hroom hen hres he hhv hC1 hC2
  generalize posD nm U.dir = k at *
  have hj2 : k + 1 ≤ U.dir.length := by omega
  have hwj : IntKind.i64.wrap ((k : Int) + 1) = ((k + 1 : Nat) : Int) := by rw [IntKind.wrap_i64]; have := hs.d; omega
  have hkj : k < k + 1 := by omega
  have hds := hs.d
  generalize hj1 : k + 1 = j1 at *
  clear hj1
  generalize roomI U = ri at *
  go_enter Try.func30, Try.ntmps30
  go_wp2_with fail
  refine HN.out.mono ?_
  rintro e w1 ⟨rfl, rfl⟩
  go_wp2_with fail
  refine HA.out.mono ?_
  rintro e w1 ⟨rfl, hq⟩
  have HQ := Go.Lib.hid hq
  clear hq HN HA
  go_wp2_with fail
  refine (HC.out _ HQ.out).mono ?_
  rintro e wy ⟨rfl, rfl⟩
  clear HC
  go_wp2_with fail
  refine (HCp.out _ HQ.out).mono ?_
  rintro e w2 ⟨r2, rfl, hbk, hcp, hr2x⟩
  clear HCp
  have hcq := HQ.out.trans hcp
  have hr2 : W.heap.size ≤ r2 := Nat.le_trans HQ.out.size hr2x
  have h2 := (H.out.quiet HQ.out).copy (X := X) hcp hbk hr2x (fun hx => by have := hX r2 hx; omega)
  have hX2 : ∀ j, X j → j < w2.heap.size := fun j hj => Nat.lt_of_lt_of_le (hX j hj) hcq.size
  have c1 := cell_q hcq c1
  have HCs1 := Go.Lib.hid (And.intro (HCs.out.1.chg hcq (fun _ _ => id)) (HCs.out.2.chg hcq (fun _ _ => id)))
  have K1 := Go.Lib.hid c1
  have hr2l := h2.lt
  have k2 := h2.cells.2.1
  rw [hD] at k2
  have K2 := Go.Lib.hid k2
  have HC2 := Go.Lib.hid hcq
  have HP := Go.Lib.hid h2
  clear hcq hcp hbk hr2x HQ HCs h2 k2 hD hrl
  go_wp2_with fail
  refine regionT 18 (fun V' => Chg NoB w2 V') (by kernel_rfl) (by decide) ((Chg.refl NoB w2).drew) (fun inv hS => ?_)
  refine tkV 0 35 ?v1646 inv hS ?_
  clear inv; intro inv; try simp only [sw1, sw2, sw3]
  refine tkV 1 36 ?v1647 inv hS ?_
  clear inv; intro inv; try simp only [sw1, sw2, sw3]
  refine tkV 2 37 ?v1648 inv hS ?_
  clear inv; intro inv; try simp only [sw1, sw2, sw3]
  refine tkV 3 38 ?v1649 inv hS ?_
  clear inv; intro inv; try simp only [sw1, sw2, sw3]
  refine tkT 4 39 ?v1650 inv hS ?h1650 ?_
  case h1650 => (intro V' hSw; have q := cell_q hSw K1.out; clear hSw; go_simp; try with_reducible rfl)
  clear inv; intro inv; try simp only [sw1, sw2, sw3]
  refine tkV 5 40 ?v1651 inv hS ?_
  clear inv; intro inv; try simp only [sw1, sw2, sw3]
  refine tkT 6 41 ?v1652 inv hS ?h1652 ?_
  case h1652 => (intro V' hSw; clear hSw; go_simp; (try (rw [if_pos (by omega)])); try with_reducible rfl)
  clear inv; intro inv; try simp only [sw1, sw2, sw3]
  refine tkV 8 43 ?v1653 inv hS ?_
  clear inv; intro inv; try simp only [sw1, sw2, sw3]
  refine tkV 9 44 ?v1654 inv hS ?_
  clear inv; intro inv; try simp only [sw1, sw2, sw3]
  refine tkV 10 45 ?v1655 inv hS ?_
  clear inv; intro inv; try simp only [sw1, sw2, sw3]
  refine tkT 11 46 ?v1656 inv hS ?h1656 ?_
  case h1656 => (intro V' hSw; have q := cell_q hSw K1.out; clear hSw; go_simp; try with_reducible rfl)
  clear inv; intro inv; try simp only [sw1, sw2, sw3]
  refine tkV 12 47 ?v1657 inv hS ?_
  clear inv; intro inv; try simp only [sw1, sw2, sw3]
  refine tkT 13 48 (.int .i64 (j1 : Int)) inv hS ?h1658 ?_
  case h1658 => (intro V' hSw; clear hSw; go_simp; try simp only [hwj])
  clear inv; intro inv; try simp only [sw1, sw2, sw3]
  refine tkT 14 49 ?v1659 inv hS ?h1659 ?_
  case h1659 => (intro V' hSw; clear hSw; go_simp; (try (rw [if_pos (by omega)])); try with_reducible rfl)
  clear inv; intro inv; try simp only [sw1, sw2, sw3]
  refine manyT (i := 7) (l := []) (by kernel_rfl) (by decide) inv ?ho72
  case ho72 =>
    intro j hj
    simp only [List.mem_cons, List.not_mem_nil, or_false] at hj
    rcases hj with rfl
    ·
      intro inv2
      clear inv
      have inv := inv2
      clear inv2
      refine opWpT rfl (by rfl) (wp_appK _ (.const (.slice none 0 0)) (.tmp 41) _ rfl w2.heap.size ET i2 _ 2 24 Try.underlying78 Hi2.out.1 Hi2.out.2.1 Hi2.out.2.2.1 Hi2.out.2.2.2 rfl (by decide) (.slice none 0 0) (0) [] rfl (World.ownsRow_nil _ _ _ _) (some ⟨gD, 0, none⟩) (k) cD (dcells (U.dir.take k)) rfl (by rw [dcells_len, hl1]) (HCs1.out.1.chg hS (fun _ _ => id)) (dcells_one _) (by unfold maxLen; omega) (by omega) (by have := hS.size; (try simp only [World.drew] at this ⊢); omega) ?_)
      intro v7 w7 own7 gr7 at7
      have hq7 : Chg NoB w2.drew w7 := (Chg.refl NoB _).grown gr7 (by simp [Value.ownBlock])
      have hS := hS.trans hq7
      clear hq7 gr7 at7
      refine ⟨fun _ => hS, ?_⟩
      try simp only [sw1, sw2, sw3]
      refine manyT (i := 15) (l := []) (by kernel_rfl) (by decide) inv ?ho73
      case ho73 =>
        intro j hj
        simp only [List.mem_cons, List.not_mem_nil, or_false] at hj
        rcases hj with rfl
        ·
          intro inv2
          clear inv
          have inv := inv2
          clear inv2
          refine opWpT rfl (by rfl) (wp_appK _ (.tmp 42) (.tmp 49) _ rfl w2.heap.size ET i2 _ 2 24 Try.underlying78 Hi2.out.1 Hi2.out.2.1 Hi2.out.2.2.1 Hi2.out.2.2.2 rfl (by decide) v7 (0 + k) ([] ++ dcells (U.dir.take k)) rfl own7 (some ⟨gD, j1 * 2, none⟩) (U.dir.length - j1) (cD - j1) (dcells (U.dir.drop j1)) rfl (by rw [dcells_len, hl2]) (HCs1.out.2.chg hS (fun _ _ => id)) (dcells_one _) (by unfold maxLen; omega) (by omega) (by have := hS.size; (try simp only [World.drew] at this ⊢); omega) ?_)
          intro v15 w15 own15 gr15 at15
          have hS := hS.grown gr15 (fun j hj hlt => by have := (own7.lt j hj).1; omega)
          clear gr15 at15 own7
          rw [Nat.zero_add, List.nil_append] at own15
          obtain ⟨A17, c17, rfl⟩ := own_slice own15
          have c2' := cell_q hS K2.out
          have z2' := (HP.out.quiet hS).blk.frozen 1
          refine ⟨fun _ => hS, ?_⟩
          try simp only [sw1, sw2, sw3]
          refine tkV 16 51 ?v1660 inv hS ?_
          clear inv; intro inv; try simp only [sw1, sw2, sw3]
          refine tkV 17 52 ?v1661 inv hS ?_
          clear inv; intro inv; try simp only [sw1, sw2, sw3]
          refine lastT (i := 18) (w' := w15.setCell ⟨r2, 1, none⟩ (.slice A17 (k + (U.dir.length - j1)) c17)) rfl (by kernel_rfl) rfl (by rfl) ?hx76 (by decide) (by kernel_rfl) ?_
          case hx76 => (go_simp; try with_reducible rfl)
          have hc3 : Chg (fun k => k = r2) w2 (w15.setCell ⟨r2, 1, none⟩ (.slice A17 (k + (U.dir.length - j1)) c17)) := (hS.mono (G := fun k => k = r2) (fun _ _ h => h.elim)).setCell (p := ⟨r2, 1, none⟩) (fun _ => rfl) _
          have hcw : Chg NoB W (w15.setCell ⟨r2, 1, none⟩ (.slice A17 (k + (U.dir.length - j1)) c17)) := (HC2.out.trans hS).setCell (p := ⟨r2, 1, none⟩) (fun hlt => by have := hr2; simp only at hlt; omega) _
          have hb3 := (HP.out.quiet hS).blk.set_ 1 (.slice A17 (k + (U.dir.length - j1)) c17)
          have ho3 := own_chg own15 ((Chg.refl (fun k => k = r2) w15).setCell (p := ⟨r2, 1, none⟩) (fun _ => rfl) (.slice A17 (k + (U.dir.length - j1)) c17)) (fun k hk hx => by
            have := (own15.lt k hk).1
            omega)
          have hfin : ∃ a', RefAt (w15.setCell ⟨r2, 1, none⟩ (.slice A17 (k + (U.dir.length - j1)) c17)) r2 { U with dir := U.dir.take k ++ U.dir.drop j1 } X a' := by
            have hl3 : (U.dir.take k ++ U.dir.drop j1).length = k + (U.dir.length - j1) := by rw [List.length_append, hl1, hl2]
            refine ⟨_, HP.out.putD hX2 hc3 hb3 (d' := U.dir.take k ++ U.dir.drop j1) ?_ (fun q hq => ?_)⟩
            · rw [hl3, dcells_app]
              exact ho3
            · rcases List.mem_append.1 hq with hq | hq
              · exact HP.out.db q (List.mem_of_mem_take hq)
              · exact HP.out.db q (List.mem_of_mem_drop hq)
          obtain ⟨a3, h3⟩ := hfin
          have HC3 := Go.Lib.hid (rroom_s h3 hs2)
          have HCW := Go.Lib.hid hcw
          have HR := Go.Lib.hid (H.out.quiet hcw)
          clear hc3 hb3 ho3 own15 hS inv hcw h3
          generalize w15.setCell ⟨r2, 1, none⟩ (.slice A17 (k + (U.dir.length - j1)) c17) = wR at *
          generalize roomI { U with dir := U.dir.take k ++ U.dir.drop j1 } = rj at *
          clear K1 K2 HP HCs1 hl1 hl2 hr2l hr2 HC2 hkj hj2 hwj hX2
          go_wp2_with fail
          refine HC3.out.mono ?_
          rintro e wR2 ⟨rfl, rfl⟩
          clear HC3
          obtain ⟨AF, cF, hF⟩ := own_slice HR.out.F
          have c0 := HR.out.cells.1
          have z0 := HR.out.blk.frozen 0
          rw [hF] at c0
          have hownF := HR.out.F
          rw [hF] at hownF
          have HCl := Go.Lib.hid (And.intro (cells_ownK hownF) (hB.chg HCW.out (fun _ _ => id)))
          have hone := Go.Lib.hid HR.out.fone
          have hflen := HR.out.flen
          have hrl := HR.out.lt
          have hblen : (bv l).length = l.length := by simp [bv]
          have hfl := hs.f
          have hXR : ∀ j, X j → j < wR.heap.size := fun j hj => Nat.lt_of_lt_of_le (hX j hj) HCW.out.size
          clear hF hownF
          go_wp2_with (first
            | (at_builtin; refine wpList_appK _ rfl (.const (.slice none 0 0)) (.tmp 63) _ rfl wR.heap.size BT i1 _ 1 24 Try.underlying77 Hi1.out.1 Hi1.out.2.1 Hi1.out.2.2.1 Hi1.out.2.2.2 rfl (by decide) (.slice none 0 0) 0 [] rfl (World.ownsRow_nil _ _ _ _) AF U.F.length cF a.f rfl hflen HCl.out.1 hone.out (by unfold maxLen; omega) (by omega) (Nat.le_refl _) ?_; intro v1 w1 own1 gr1 at1; rw [List.nil_append, Nat.zero_add] at own1; have hg1 : Chg NoB wR w1 := ((Chg.refl NoB wR).grown gr1 (by simp [Value.ownBlock])); clear gr1 at1)
            | (at_builtin; refine wpList_appK _ rfl (.const (.slice none 0 0)) (.tmp 65) _ rfl wR.heap.size 5 i0 _ 1 1 Try.underlying22 Hi.out.1 Hi.out.2.1 Hi.out.2.2.1 Hi.out.2.2.2 rfl (by decide) (.slice none 0 0) 0 [] rfl (World.ownsRow_nil _ _ _ _) B l.length c (bv l) rfl (by rw [hblen, Nat.mul_one]) (HCl.out.2.chg hg1 (fun _ _ => id)) (fun u hu => by simp only [bv, List.mem_map] at hu; obtain ⟨x, _, rfl⟩ := hu; rfl) (by unfold maxLen; omega) (by omega) hg1.size ?_; intro v2 w2 own2 gr2 at2; rw [List.nil_append, Nat.zero_add] at own2; obtain ⟨A2, c2x, rfl⟩ := own_slice own2; have hg2 : Chg NoB w1 w2 := ((Chg.refl NoB w1).grown gr2 (by simp [Value.ownBlock])); have own1 := own_chg own1 hg2 (fun _ _ => id); have hg12 := hg1.trans hg2; clear gr2 at2 hg2)
            | (at_builtin; go_must (refine wpList_appK _ rfl (.tmp 64) (.tmp 67) _ rfl wR.heap.size BT i1 _ 1 24 Try.underlying77 Hi1.out.1 Hi1.out.2.1 Hi1.out.2.2.1 Hi1.out.2.2.2 rfl (by decide) v1 U.F.length a.f rfl (own_chg own1 ((Chg.refl NoB w2).alloc (.cells #[.slice A2 l.length c2x] BT)) (fun _ _ => id)) (some ⟨w2.heap.size, 0, none⟩) 1 1 [.slice A2 l.length c2x] rfl rfl (cells_of_blk (Blk.new w2 _ _)) (by simp [Value.oneCell']) (by unfold maxLen; omega) (by omega) (by have := hg12.size; simp; omega) ?_); go_must (intro v3 w3 own3 gr3 at3; have hg3 : Chg NoB wR w3 := ((hg12.alloc _).grown gr3 (fun j hj hlt => (by have := (own1.lt j hj).1; omega))); obtain ⟨A3, c3x, rfl⟩ := own_slice own3; have own2b : w3.ownsRow wR.heap.size 5 1 (.slice A2 l.length c2x) l.length (bv l) := own_chg own2 (show Chg (fun k => v1.ownBlock = some k) w2 w3 from ((Chg.refl (fun k => v1.ownBlock = some k) w2).alloc _).grown gr3 (fun j hj _ => hj)) (fun k hk e => own_own_ne own2 own1 (by decide) hk e); have c0 := cell_q hg3 c0; have z0 := (HR.out.quiet hg3).blk.frozen 0; clear gr3 at3 own1 own2 hg12 hg1)))
          have hc3 : Chg (fun k => k = r) wR (w3.setCell ⟨r, 0, none⟩ (.slice A3 (U.F.length + 1) c3x)) := (hg3.mono (G := fun k => k = r) (fun _ _ h => h.elim)).setCell (p := ⟨r, 0, none⟩) (fun _ => rfl) _
          have hb3 := (HR.out.quiet hg3).blk.set_ 0 (.slice A3 (U.F.length + 1) c3x)
          have hset : Chg (fun k => k = r) w3 (w3.setCell ⟨r, 0, none⟩ (.slice A3 (U.F.length + 1) c3x)) := (Chg.refl (fun k => k = r) w3).setCell (p := ⟨r, 0, none⟩) (fun _ => rfl) _
          have ho3 := own_chg own3 hset (fun k hk hx => by
            have := (own3.lt k hk).1
            omega)
          have ho2 := own_chg own2b hset (fun k hk hx => by
            have := (own2b.lt k hk).1
            omega)
          have hU1 : RefAt (w3.setCell ⟨r, 0, none⟩ (.slice A3 (U.F.length + 1) c3x)) r (U.addFile l) X { a with F := .slice A3 (U.F.length + 1) c3x, f := a.f ++ [.slice A2 l.length c2x] } := by
            have hl2 : (U.F ++ [l]).length = U.F.length + 1 := by simp
            refine HR.out.putF hXR hc3 hb3 (F' := U.F ++ [l]) (by rw [hl2]; exact ho3) (by simp) (fun i b hb => ?_)
            by_cases hi : i < U.F.length
            · left
              rw [List.getElem?_append_left hi] at hb
              exact ⟨hb, List.getElem?_append_left (by omega)⟩
            · right
              have hil := (List.getElem?_eq_some_iff.1 hb).1
              obtain rfl : i = U.F.length := by simp at hil; omega
              obtain rfl : b = l := by simpa using hb.symm
              exact ⟨.slice A2 b.length c2x, by rw [List.getElem?_append_right (by omega)]; simp [hflen], ho2⟩
          have hX1 : ∀ j, X j → j < (w3.setCell ⟨r, 0, none⟩ (.slice A3 (U.F.length + 1) c3x)).heap.size := fun j hj => Nat.lt_of_lt_of_le (hXR j hj) hc3.size
          have hEn := renter_c hU1 hX1 (show (U.addFile l).dir.length < 1000000 from hs.d) nm U.F.length (show U.F.length < (U.F ++ [l]).length by simp)
          have HCC := Go.Lib.hid ((HCW.out.mono (G := fun k => k = r) (fun _ _ h => h.elim)).trans hc3)
          have hwn : IntKind.i64.wrap (U.F.length : Int) = U.F.length := by rw [IntKind.wrap_i64]; omega
          clear hc3 hb3 ho3 ho2 hset hU1 hX1 own3 own2b z0 c0 hone hXR hg3
          generalize w3.setCell ⟨r, 0, none⟩ (.slice A3 (U.F.length + 1) c3x) = w4 at *
          refine hEn.mono ?_
          rintro e w5 ⟨rfl, h5, hc5⟩
          have HF := Go.Lib.hid (And.intro h5 (HCC.out.trans hc5))
          clear h5 hc5
          go_wp2_with fail
          go_ret
          exact ⟨rfl, HF.out.1, HF.out.2⟩
theorem rput_c (h : RefAt W r U X a) (hX : ∀ k, X k → k < W.heap.size) (hs : RSmall U) (nm : ByteArray) (hnm : nm.size ≤ maxLen) (l : List UInt8) (hll : l.length < 1000000) (B : Option Addr) (c : Nat) (hB : CellsAt W B (bv l)) : Calls Try.prog 30 #[.pointer (some ⟨r, 0, none⟩), .string nm, .slice B l.length c] W (RPost r X (.int .i64 (putR U nm l).1) (putR U nm l).2 W) := by
  by_cases hm : mayName nm = true
  · by_cases hi : isD nm U.dir = true
    · by_cases hroom : (l.length : Int) > roomI (delR U nm)
      · have hres : putR U nm l = (5, U) := by unfold putR; rw [if_pos hm, if_pos (Or.inl hi), if_pos hroom]
        rw [hres]
        by_cases hcap : ∃ A0, a.D = .slice A0 U.dir.length (posD nm U.dir + 1)
        · obtain ⟨A0, hcap⟩ := hcap
          exact rput_is_full_c h hX hs nm hnm hm hi hcap l hll B c hB hroom
        · exact rput_is_full_n (A0 := none) h hX hs nm hnm hm hi (fun A0 e => hcap ⟨A0, e⟩) l hll B c hB hroom
      · have hres : putR U nm l = enterR (U.addFile l) nm U.F.length := by unfold putR; rw [if_pos hm, if_pos (Or.inl hi), if_neg hroom]
        rw [hres]
        by_cases hcap : ∃ A0, a.D = .slice A0 U.dir.length (posD nm U.dir + 1)
        · obtain ⟨A0, hcap⟩ := hcap
          exact rput_is_go_c h hX hs nm hnm hm hi hcap l hll B c hB hroom
        · exact rput_is_go_n (A0 := none) h hX hs nm hnm hm hi (fun A0 e => hcap ⟨A0, e⟩) l hll B c hB hroom
    · have hi' : isD nm U.dir = false := by simpa using hi
      have hdel : delR U nm = U := by
        unfold delR
        rcases hq : U.dir[posD nm U.dir]? with _ | e
        · rfl
        · simp only
          rw [if_neg (by rw [isD_none hi' e hq]; simp)]
      by_cases hl : U.dir.length < 200
      · by_cases hroom : (l.length : Int) > roomI U
        · have hres : putR U nm l = (5, U) := by unfold putR; rw [hdel, if_pos hm, if_pos (Or.inr hl), if_pos hroom]
          rw [hres]
          exact rput_no_full h hX hs nm hnm hm hi' hl l hll B c hB hroom
        · have hres : putR U nm l = enterR (U.addFile l) nm U.F.length := by unfold putR; rw [hdel, if_pos hm, if_pos (Or.inr hl), if_neg hroom]
          rw [hres]
          exact rput_no_go h hX hs nm hnm hm hi' hl l hll B c hB hroom
      · have hres : putR U nm l = (5, U) := by unfold putR; rw [if_pos hm, if_neg (by rintro (e | e); exact hi e; exact hl e)]
        rw [hres]
        exact rput_dir h hs nm hnm hm hi' hl l B c
  · have hm' : mayName nm = false := by simpa using hm
    have hres : putR U nm l = (2, U) := by unfold putR; rw [if_neg hm]
    rw [hres]
    exact rput_may nm hnm hm' l B c h
end
end Go.Proofs.Yteleglkoagnmcaa
