import Derived.Test.YtggknljlibhkjaaGreatGR2A
import Derived.Test.YtggknljlibhkjaaGreatRefName
set_option linter.unusedSimpArgs false
set_option linter.unusedVariables false
namespace Go.Proofs.YtggknljlibhkjaaGreat
open Go Go.RowKit
def oldR (U : V) (nm : ByteArray) : Nat × V := match U.dir[posD nm U.dir]? with | none => (0, U) | some e => if (e.1 == nm) = true ∧ U.rd.length < 255 then (U.rd.length + 1, U.ride e.2 nm) else (0, U)
section
variable {W W' : World} {r : Nat} {U : V} {X F : Nat → Prop} {a : RA}
set_option maxRecDepth 100000 in
set_option maxHeartbeats 4000000 in
theorem rold_c (h : RefAt W r U X a) (hX : ∀ k, X k → k < W.heap.size) (hn : U.rd.length < 1000000) (hd : U.dir.length < 1000000) (nm : ByteArray) : Calls Tryz.prog 80 #[.pointer (some ⟨r, 0, none⟩), .string nm] W (RPost r X (.int .i64 (oldR U nm).1) (oldR U nm).2 W) := by
 have HA := Go.Lib.hid (rpos_c h hd nm)
 have H := Go.Lib.hid h
 by_cases hi : isD nm U.dir = true
 ·obtain ⟨e, he, hen⟩ : ∃ e, U.dir[posD nm U.dir]? = some e ∧ (e.1 == nm) = true := by
   unfold isD at hi
   rcases hq : U.dir[posD nm U.dir]? with _ | e
   ·rw [hq] at hi; cases hi
   ·rw [hq] at hi; exact ⟨e, rfl, hi⟩
  rw [hi] at HA
  by_cases hl : U.rd.length < 255
  ·have hres : oldR U nm = (U.rd.length + 1, U.ride e.2 nm) := by unfold oldR; rw [he]; simp only; rw [if_pos ⟨hen, hl⟩]
   rw [hres]
   have gl : decide ((U.rd.length : Int) ≥ 255) = false := by simp; omega
   obtain ⟨gD, cD, hD, _, kD⟩ := h.entry he
   obtain ⟨AR, cR, hR⟩ := own_slice h.R
   obtain ⟨_, c1, c2, _⟩ := h.cells
   have z2 := h.blk.frozen 2
   rw [hD] at c1
   rw [hR] at c2
   have hownR := h.R
   rw [hR] at hownR
   have HCl := Go.Lib.hid (cells_ownK hownR)
   have hkl := (List.getElem?_eq_some_iff.1 he).1
   have hrbe := h.db e (List.mem_of_getElem? he)
   have hrl := h.lt
   obtain ⟨i0, hi0, hz0, hz1, hz2⟩ := info_parts qtinfo
   have Hi := Go.Lib.hid (And.intro hi0 (And.intro hz0 (And.intro hz1 hz2)))
   have HK := Go.Lib.hid (And.intro c1 (And.intro c2 (And.intro kD z2)))
   clear h hi hen hres he hD hR hownR hi0 hz0 hz1 hz2 kD z2
   generalize posD nm U.dir = k at *
   go_enter Tryz.func80, Tryz.ntmps80
   go_wp2_with fail
   refine HA.out.mono ?_
   rintro ee w1 ⟨rfl, hq⟩
   have hX1 : ∀ j, X j → j < w1.heap.size := fun j hj => Nat.lt_of_lt_of_le (hX j hj) hq.size
   have h1 := H.out.quiet hq
   have c1 := cell_q hq HK.out.1
   have c2 := cell_q hq HK.out.2.1
   have kD := cell_q hq HK.out.2.2.1
   have z2 := h1.blk.frozen 2
   have HCl1 := Go.Lib.hid (HCl.out.chg hq (fun _ _ => id))
   have hrl1 := h1.lt
   have H1 := Go.Lib.hid (And.intro h1 hq)
   have K1 := Go.Lib.hid (And.intro c1 (And.intro c2 (And.intro kD z2)))
   clear hq h1 kD HK HCl HA
   go_wp2_with fail
   refine regionT 20 (fun V' => Chg NoB w1 V') (by kernel_rfl) (by decide) ((Chg.refl NoB w1).drew) (fun inv hS => ?_)
   refine takeT (i := 0) (t := 23) (v := ?v0y1) rfl (by kernel_rfl) (fun _ _ _ h => h) rfl (Or.inl ⟨by rfl, ?h0y1⟩) inv hS ?r0y1
   case h0y1 => (intro V' hSw; clear hSw; go_simp; try with_reducible rfl)
   clear inv
   intro inv
   try simp only [sw1, sw2, sw3]
   refine takeT (i := 1) (t := 24) (v := ?v1y2) rfl (by kernel_rfl) (fun _ _ _ h => h) rfl (Or.inl ⟨by rfl, ?h1y2⟩) inv hS ?r1y2
   case h1y2 => (intro V' hSw; clear hSw; go_simp; try with_reducible rfl)
   clear inv
   intro inv
   try simp only [sw1, sw2, sw3]
   refine takeT (i := 2) (t := 25) (v := ?v2y3) rfl (by kernel_rfl) (fun _ _ _ h => h) rfl (Or.inl ⟨by rfl, ?h2y3⟩) inv hS ?r2y3
   case h2y3 => (intro V' hSw; clear hSw; go_simp; try with_reducible rfl)
   clear inv
   intro inv
   try simp only [sw1, sw2, sw3]
   refine takeT (i := 3) (t := 26) (v := ?v3y4) rfl (by kernel_rfl) (fun _ _ _ h => h) rfl (Or.inl ⟨by rfl, ?h3y4⟩) inv hS ?r3y4
   case h3y4 => (intro V' hSw; clear hSw; go_simp; try with_reducible rfl)
   clear inv
   intro inv
   try simp only [sw1, sw2, sw3]
   refine takeT (i := 4) (t := 27) (v := ?v4y5) rfl (by kernel_rfl) (fun _ _ _ h => h) rfl (Or.inl ⟨by rfl, ?h4y5⟩) inv hS ?r4y5
   case h4y5 => (intro V' hSw; have q := cell_q hSw K1.out.2.1; clear hSw; go_simp; try with_reducible rfl)
   clear inv
   intro inv
   try simp only [sw1, sw2, sw3]
   refine takeT (i := 6) (t := 29) (v := ?v6y6) rfl (by kernel_rfl) (fun _ _ _ h => h) rfl (Or.inl ⟨by rfl, ?h6y6⟩) inv hS ?r6y6
   case h6y6 => (intro V' hSw; clear hSw; go_simp; try with_reducible rfl)
   clear inv
   intro inv
   try simp only [sw1, sw2, sw3]
   refine takeT (i := 7) (t := 30) (v := ?v7y7) rfl (by kernel_rfl) (fun _ _ _ h => h) rfl (Or.inl ⟨by rfl, ?h7y7⟩) inv hS ?r7y7
   case h7y7 => (intro V' hSw; clear hSw; go_simp; try with_reducible rfl)
   clear inv
   intro inv
   try simp only [sw1, sw2, sw3]
   refine takeT (i := 8) (t := 31) (v := ?v8y8) rfl (by kernel_rfl) (fun _ _ _ h => h) rfl (Or.inl ⟨by rfl, ?h8y8⟩) inv hS ?r8y8
   case h8y8 => (intro V' hSw; clear hSw; go_simp; try with_reducible rfl)
   clear inv
   intro inv
   try simp only [sw1, sw2, sw3]
   refine takeT (i := 9) (t := 32) (v := ?v9y9) rfl (by kernel_rfl) (fun _ _ _ h => h) rfl (Or.inl ⟨by rfl, ?h9y9⟩) inv hS ?r9y9
   case h9y9 => (intro V' hSw; have q := cell_q hSw K1.out.1; clear hSw; go_simp; try with_reducible rfl)
   clear inv
   intro inv
   try simp only [sw1, sw2, sw3]
   refine takeT (i := 10) (t := 33) (v := ?v10y10) rfl (by kernel_rfl) (fun _ _ _ h => h) rfl (Or.inl ⟨by rfl, ?h10y10⟩) inv hS ?r10y10
   case h10y10 => (intro V' hSw; clear hSw; go_simp; try with_reducible rfl)
   clear inv
   intro inv
   try simp only [sw1, sw2, sw3]
   refine takeT (i := 11) (t := 34) (v := ?v11y11) rfl (by kernel_rfl) (fun _ _ _ h => h) rfl (Or.inl ⟨by rfl, ?h11y11⟩) inv hS ?r11y11
   case h11y11 => (intro V' hSw; clear hSw; go_simp; try with_reducible rfl)
   clear inv
   intro inv
   try simp only [sw1, sw2, sw3]
   refine takeT (i := 12) (t := 35) (v := ?v12y12) rfl (by kernel_rfl) (fun _ _ _ h => h) rfl (Or.inl ⟨by rfl, ?h12y12⟩) inv hS ?r12y12
   case h12y12 => (intro V' hSw; clear hSw; go_simp; try with_reducible rfl)
   clear inv
   intro inv
   try simp only [sw1, sw2, sw3]
   refine takeT (i := 13) (t := 36) (v := ?v13y13) rfl (by kernel_rfl) (fun _ _ _ h => h) rfl (Or.inl ⟨by rfl, ?h13y13⟩) inv hS ?r13y13
   case h13y13 => (intro V' hSw; have q := cell_q hSw K1.out.2.2.1; clear hSw; go_simp; try with_reducible rfl)
   clear inv
   intro inv
   try simp only [sw1, sw2, sw3]
   refine takeT (i := 14) (t := 37) (v := ?v14y14) rfl (by kernel_rfl) (fun _ _ _ h => h) rfl (Or.inl ⟨by rfl, ?h14y14⟩) inv hS ?r14y14
   case h14y14 => (intro V' hSw; clear hSw; go_simp; try with_reducible rfl)
   clear inv
   intro inv
   try simp only [sw1, sw2, sw3]
   refine takeT (i := 15) (t := 38) (v := ?v15y15) rfl (by kernel_rfl) (fun _ _ _ h => h) rfl (Or.inl ⟨by rfl, ?h15y15⟩) inv hS ?r15y15
   case h15y15 => (intro V' hSw; clear hSw; go_simp; try with_reducible rfl)
   clear inv
   intro inv
   try simp only [sw1, sw2, sw3]
   refine manyT (i := 5) (l := [16]) (by kernel_rfl) (by decide) inv ?ho16
   case ho16 =>
    intro j hj
    simp only [List.mem_cons, List.not_mem_nil, or_false] at hj
    rcases hj with rfl | rfl
    ·
     intro inv2
     clear inv
     have inv := inv2
     clear inv2
     refine opWpT rfl (by rfl) (wp_appK _ (.const (.slice none 0 0)) (.tmp 27) _ rfl w1.heap.size QT i0 _ 3 32 Tryz.underlying65 Hi.out.1 Hi.out.2.1 Hi.out.2.2.1 Hi.out.2.2.2 rfl (by decide) (.slice none 0 0) (0) [] rfl (World.ownsRow_nil _ _ _ _) AR (U.rd.length) cR (rcells U.rd) rfl (rcells_len _) (HCl1.out.chg hS (fun _ _ => id)) (rcells_one _) (by unfold maxLen; omega) (by omega) (by have := hS.size; (try simp only [World.drew] at this ⊢); omega) ?_)
     intro v5 w5 own5 gr5 at5
     have hq5 : Chg NoB w1.drew w5 := (Chg.refl NoB _).grown gr5 (by simp [Value.ownBlock])
     have hS := hS.trans hq5
     clear hq5 gr5 at5
     refine ⟨fun _ => hS, ?_⟩
     try simp only [sw1, sw2, sw3]
     refine manyT (i := 16) (l := []) (by kernel_rfl) (by decide) inv ?ho17
     case ho17 =>
      intro j hj
      simp only [List.mem_cons, List.not_mem_nil, or_false] at hj
      rcases hj with rfl
      ·
       intro inv2
       clear inv
       have inv := inv2
       clear inv2
       refine opVal (t := 39) (v := .slice (some ⟨(World.heap (w5)).size, 0, none⟩) 1 1) (w' := World.alloc (w5) (.cells #[.int .i64 (e.2 : Int), .int .i64 0, .string nm] QT)) rfl rfl (by rfl) ?hb16 (hS.alloc _) ?hn16
       case hb16 => (go_simp; try rfl)
       case hn16 =>
        have hq16 := (Chg.refl NoB (w5)).alloc (.cells #[.int .i64 (e.2 : Int), .int .i64 0, .string nm] QT)
        have cl16 := cells_of_blk (Blk.new (w5) QT #[.int .i64 (e.2 : Int), .int .i64 0, .string nm])
        have own5 := own_chg own5 hq16 (fun _ _ => id)
        have hS := hS.trans hq16
        clear hq16
        generalize World.alloc (w5) (.cells #[.int .i64 (e.2 : Int), .int .i64 0, .string nm] QT) = w16 at *
        generalize (World.heap (w5)).size = g16 at *
        try simp only [sw1, sw2, sw3]
        refine manyT (i := 17) (l := []) (by kernel_rfl) (by decide) inv ?ho18
        case ho18 =>
         intro j hj
         simp only [List.mem_cons, List.not_mem_nil, or_false] at hj
         rcases hj with rfl
         ·
          intro inv2
          clear inv
          have inv := inv2
          clear inv2
          refine opWpT rfl (by rfl) (wp_appK _ (.tmp 28) (.tmp 39) _ rfl w1.heap.size QT i0 _ 3 32 Tryz.underlying65 Hi.out.1 Hi.out.2.1 Hi.out.2.2.1 Hi.out.2.2.2 rfl (by decide) v5 (0 + U.rd.length) ([] ++ rcells U.rd) rfl own5 (some ⟨g16, 0, none⟩) (1) 1 [.int .i64 (e.2 : Int), .int .i64 0, .string nm] rfl rfl cl16 (by simp [Value.oneCell']) (by unfold maxLen; omega) (by omega) (by have := hS.size; (try simp only [World.drew] at this ⊢); omega) ?_)
          intro v17 w17 own17 gr17 at17
          have hS := hS.grown gr17 (fun j hj hlt => by have := (own5.lt j hj).1; omega)
          clear gr17 at17 own5
          clear cl16
          rw [Nat.zero_add, List.nil_append] at own17
          obtain ⟨A17, c17, rfl⟩ := own_slice own17
          have c2' := cell_q hS K1.out.2.1
          have z2' := (H1.out.1.quiet hS).blk.frozen 2
          refine ⟨fun _ => hS, ?_⟩
          try simp only [sw1, sw2, sw3]
          refine takeT (i := 18) (t := 41) (v := ?v18y19) rfl (by kernel_rfl) (fun _ _ _ h => h) rfl (Or.inl ⟨by rfl, ?h18y19⟩) inv hS ?r18y19
          case h18y19 => (intro V' hSw; clear hSw; go_simp; try with_reducible rfl)
          clear inv
          intro inv
          try simp only [sw1, sw2, sw3]
          refine takeT (i := 19) (t := 42) (v := ?v19y20) rfl (by kernel_rfl) (fun _ _ _ h => h) rfl (Or.inl ⟨by rfl, ?h19y20⟩) inv hS ?r19y20
          case h19y20 => (intro V' hSw; clear hSw; go_simp; try with_reducible rfl)
          clear inv
          intro inv
          try simp only [sw1, sw2, sw3]
          refine lastT (i := 20) (w' := w17.setCell ⟨r, 2, none⟩ (.slice A17 (U.rd.length + 1) c17)) rfl (by kernel_rfl) rfl (by rfl) ?hx21 (by decide) (by kernel_rfl) ?_
          case hx21 => (go_simp; try with_reducible rfl)
          have hc3 : Chg (fun k => k = r) w1 (w17.setCell ⟨r, 2, none⟩ (.slice A17 (U.rd.length + 1) c17)) := (hS.mono (G := fun k => k = r) (fun _ _ h => h.elim)).setCell (p := ⟨r, 2, none⟩) (fun _ => rfl) _
          have hb3 := (H1.out.1.quiet hS).blk.set_ 2 (.slice A17 (U.rd.length + 1) c17)
          have ho3 := own_chg own17 ((Chg.refl (fun k => k = r) w17).setCell (p := ⟨r, 2, none⟩) (fun _ => rfl) (.slice A17 (U.rd.length + 1) c17)) (fun k hk hx => by
           have := (own17.lt k hk).1
           omega)
          have hfin : ∃ a', RefAt (w17.setCell ⟨r, 2, none⟩ (.slice A17 (U.rd.length + 1) c17)) r (U.ride e.2 nm) X a' := by
           have hl2 : (U.rd ++ ([⟨e.2, nm, 0⟩] : List VR)).length = U.rd.length + 1 := by simp
           refine ⟨_, H1.out.1.putR hX1 hc3 hb3 (rd' := U.rd ++ ([⟨e.2, nm, 0⟩] : List VR)) ?_ (fun q hq => ?_)⟩
           ·rw [hl2, rcells_app]
            exact ho3
           ·rcases List.mem_append.1 hq with hq | hq
            ·exact H1.out.1.rb q hq
            ·obtain rfl : q = (⟨e.2, nm, 0⟩ : VR) := by simpa using hq
             exact hrbe
          have HF := Go.Lib.hid (And.intro hfin ((H1.out.2.mono (fun _ _ h => h.elim)).trans hc3))
          clear hfin hc3 hb3 ho3 own17 hS inv
          go_wp2_with fail
          go_ret
          refine ⟨?_, HF.out.1, HF.out.2⟩
          simp
    ·
     intro inv2
     clear inv
     have inv := inv2
     clear inv2
     refine opVal (t := 39) (v := .slice (some ⟨(World.heap (w1.drew)).size, 0, none⟩) 1 1) (w' := World.alloc (w1.drew) (.cells #[.int .i64 (e.2 : Int), .int .i64 0, .string nm] QT)) rfl rfl (by rfl) ?hb16 (hS.alloc _) ?hn16
     case hb16 => (go_simp; try rfl)
     case hn16 =>
      have hq16 := (Chg.refl NoB (w1.drew)).alloc (.cells #[.int .i64 (e.2 : Int), .int .i64 0, .string nm] QT)
      have cl16 := cells_of_blk (Blk.new (w1.drew) QT #[.int .i64 (e.2 : Int), .int .i64 0, .string nm])
      have hS := hS.trans hq16
      clear hq16
      generalize World.alloc (w1.drew) (.cells #[.int .i64 (e.2 : Int), .int .i64 0, .string nm] QT) = w16 at *
      generalize (World.heap (w1.drew)).size = g16 at *
      try simp only [sw1, sw2, sw3]
      refine manyT (i := 5) (l := []) (by kernel_rfl) (by decide) inv ?ho22
      case ho22 =>
       intro j hj
       simp only [List.mem_cons, List.not_mem_nil, or_false] at hj
       rcases hj with rfl
       ·
        intro inv2
        clear inv
        have inv := inv2
        clear inv2
        refine opWpT rfl (by rfl) (wp_appK _ (.const (.slice none 0 0)) (.tmp 27) _ rfl w1.heap.size QT i0 _ 3 32 Tryz.underlying65 Hi.out.1 Hi.out.2.1 Hi.out.2.2.1 Hi.out.2.2.2 rfl (by decide) (.slice none 0 0) (0) [] rfl (World.ownsRow_nil _ _ _ _) AR (U.rd.length) cR (rcells U.rd) rfl (rcells_len _) (HCl1.out.chg hS (fun _ _ => id)) (rcells_one _) (by unfold maxLen; omega) (by omega) (by have := hS.size; (try simp only [World.drew] at this ⊢); omega) ?_)
        intro v5 w5 own5 gr5 at5
        have hq5 : Chg NoB w16 w5 := (Chg.refl NoB _).grown gr5 (by simp [Value.ownBlock])
        have cl16 := cl16.chg hq5 (fun _ _ => id)
        have hS := hS.trans hq5
        clear hq5 gr5 at5
        refine ⟨fun _ => hS, ?_⟩
        try simp only [sw1, sw2, sw3]
        refine manyT (i := 17) (l := []) (by kernel_rfl) (by decide) inv ?ho23
        case ho23 =>
         intro j hj
         simp only [List.mem_cons, List.not_mem_nil, or_false] at hj
         rcases hj with rfl
         ·
          intro inv2
          clear inv
          have inv := inv2
          clear inv2
          refine opWpT rfl (by rfl) (wp_appK _ (.tmp 28) (.tmp 39) _ rfl w1.heap.size QT i0 _ 3 32 Tryz.underlying65 Hi.out.1 Hi.out.2.1 Hi.out.2.2.1 Hi.out.2.2.2 rfl (by decide) v5 (0 + U.rd.length) ([] ++ rcells U.rd) rfl own5 (some ⟨g16, 0, none⟩) (1) 1 [.int .i64 (e.2 : Int), .int .i64 0, .string nm] rfl rfl cl16 (by simp [Value.oneCell']) (by unfold maxLen; omega) (by omega) (by have := hS.size; (try simp only [World.drew] at this ⊢); omega) ?_)
          intro v17 w17 own17 gr17 at17
          have hS := hS.grown gr17 (fun j hj hlt => by have := (own5.lt j hj).1; omega)
          clear gr17 at17 own5
          clear cl16
          rw [Nat.zero_add, List.nil_append] at own17
          obtain ⟨A17, c17, rfl⟩ := own_slice own17
          have c2' := cell_q hS K1.out.2.1
          have z2' := (H1.out.1.quiet hS).blk.frozen 2
          refine ⟨fun _ => hS, ?_⟩
          try simp only [sw1, sw2, sw3]
          refine takeT (i := 18) (t := 41) (v := ?v18y24) rfl (by kernel_rfl) (fun _ _ _ h => h) rfl (Or.inl ⟨by rfl, ?h18y24⟩) inv hS ?r18y24
          case h18y24 => (intro V' hSw; clear hSw; go_simp; try with_reducible rfl)
          clear inv
          intro inv
          try simp only [sw1, sw2, sw3]
          refine takeT (i := 19) (t := 42) (v := ?v19y25) rfl (by kernel_rfl) (fun _ _ _ h => h) rfl (Or.inl ⟨by rfl, ?h19y25⟩) inv hS ?r19y25
          case h19y25 => (intro V' hSw; clear hSw; go_simp; try with_reducible rfl)
          clear inv
          intro inv
          try simp only [sw1, sw2, sw3]
          refine lastT (i := 20) (w' := w17.setCell ⟨r, 2, none⟩ (.slice A17 (U.rd.length + 1) c17)) rfl (by kernel_rfl) rfl (by rfl) ?hx26 (by decide) (by kernel_rfl) ?_
          case hx26 => (go_simp; try with_reducible rfl)
          have hc3 : Chg (fun k => k = r) w1 (w17.setCell ⟨r, 2, none⟩ (.slice A17 (U.rd.length + 1) c17)) := (hS.mono (G := fun k => k = r) (fun _ _ h => h.elim)).setCell (p := ⟨r, 2, none⟩) (fun _ => rfl) _
          have hb3 := (H1.out.1.quiet hS).blk.set_ 2 (.slice A17 (U.rd.length + 1) c17)
          have ho3 := own_chg own17 ((Chg.refl (fun k => k = r) w17).setCell (p := ⟨r, 2, none⟩) (fun _ => rfl) (.slice A17 (U.rd.length + 1) c17)) (fun k hk hx => by
           have := (own17.lt k hk).1
           omega)
          have hfin : ∃ a', RefAt (w17.setCell ⟨r, 2, none⟩ (.slice A17 (U.rd.length + 1) c17)) r (U.ride e.2 nm) X a' := by
           have hl2 : (U.rd ++ ([⟨e.2, nm, 0⟩] : List VR)).length = U.rd.length + 1 := by simp
           refine ⟨_, H1.out.1.putR hX1 hc3 hb3 (rd' := U.rd ++ ([⟨e.2, nm, 0⟩] : List VR)) ?_ (fun q hq => ?_)⟩
           ·rw [hl2, rcells_app]
            exact ho3
           ·rcases List.mem_append.1 hq with hq | hq
            ·exact H1.out.1.rb q hq
            ·obtain rfl : q = (⟨e.2, nm, 0⟩ : VR) := by simpa using hq
             exact hrbe
          have HF := Go.Lib.hid (And.intro hfin ((H1.out.2.mono (fun _ _ h => h.elim)).trans hc3))
          clear hfin hc3 hb3 ho3 own17 hS inv
          go_wp2_with fail
          go_ret
          refine ⟨?_, HF.out.1, HF.out.2⟩
          simp
  ·have hres : oldR U nm = (0, U) := by unfold oldR; rw [he]; simp only; rw [if_neg (fun h => hl h.2)]
   rw [hres]
   have gl : decide ((U.rd.length : Int) ≥ 255) = true := by simp; omega
   obtain ⟨AR, cR, hR⟩ := own_slice h.R
   obtain ⟨_, _, c2, _⟩ := h.cells
   rw [hR] at c2
   clear h hi hen hres he hR
   generalize posD nm U.dir = k at *
   go_enter Tryz.func80, Tryz.ntmps80
   go_wp2_with fail
   refine HA.out.mono ?_
   rintro ee w1 ⟨rfl, hq⟩
   have c2 := cell_q hq c2
   have H1 := Go.Lib.hid (And.intro (H.out.quiet hq) hq)
   clear hq
   go_wp2_with fail
   go_ret
   exact ⟨rfl, ⟨a, H1.out.1⟩, H1.out.2.mono (fun _ _ h => h.elim)⟩
 ·have hi : isD nm U.dir = false := by simpa using hi
  have hres : oldR U nm = (0, U) := by
   unfold oldR
   unfold isD at hi
   rcases hq : U.dir[posD nm U.dir]? with _ | e
   ·rfl
   ·rw [hq] at hi
    simp only at hi ⊢
    rw [if_neg (fun h => by rw [hi] at h; cases h.1)]
  rw [hres]
  rw [hi] at HA
  clear h hi hres
  generalize posD nm U.dir = k at *
  go_enter Tryz.func80, Tryz.ntmps80
  go_wp2_with fail
  refine HA.out.mono ?_
  rintro ee w1 ⟨rfl, hq⟩
  have H1 := Go.Lib.hid (And.intro (H.out.quiet hq) hq)
  clear hq
  go_wp2_with fail
  go_ret
  exact ⟨rfl, ⟨a, H1.out.1⟩, H1.out.2.mono (fun _ _ h => h.elim)⟩
end
end Go.Proofs.YtggknljlibhkjaaGreat
set_option linter.unusedSimpArgs false
set_option linter.unusedVariables false
namespace Go.Proofs.YtggknljlibhkjaaGreat
open Go Go.RowKit
section
variable {W W' : World} {r : Nat} {U : V} {X F : Nat → Prop} {a : RA}
theorem RefAt.flen (h : RefAt W r U X a) : a.f.length = U.F.length * 1 := h.F.1
theorem RefAt.fone (h : RefAt W r U X a) : ∀ u ∈ a.f, u.oneCell' = true := by
 intro u hu
 obtain ⟨i, hi, rfl⟩ := List.mem_iff_getElem.1 hu
 have hl := h.flen
 have hi2 : i < U.F.length := by omega
 obtain ⟨v, h1, h2, _⟩ := h.f i U.F[i] (List.getElem?_eq_getElem hi2)
 rw [List.getElem?_eq_getElem hi] at h1
 obtain rfl := Option.some.inj h1
 obtain ⟨A, c, hv⟩ := own_slice h2
 rw [hv]
 rfl
set_option maxRecDepth 100000 in
set_option maxHeartbeats 4000000 in
theorem rfresh_c (h : RefAt W r U X a) (hX : ∀ k, X k → k < W.heap.size) (hn : U.rd.length < 1000000) (hfn : U.F.length < 1000000) (nm : ByteArray) (hnm : nm.size ≤ maxLen) : Calls Tryz.prog 81 #[.pointer (some ⟨r, 0, none⟩), .string nm] W (RPost r X (.int .i64 (U.fresh nm).1) (U.fresh nm).2 W) := by
 have HA := Go.Lib.hid (refName_c nm hnm W)
 have H := Go.Lib.hid h
 unfold V.fresh
 by_cases hm : mayName nm = true
 ·rw [hm] at HA
  by_cases hl : U.rd.length < 255
  ·rw [if_pos ⟨hm, hl⟩]
   have gl : decide ((U.rd.length : Int) ≥ 255) = false := by simp; omega
   obtain ⟨AR, cR, hR⟩ := own_slice h.R
   obtain ⟨AF, cF, hF⟩ := own_slice h.F
   obtain ⟨c0, _, c2, _⟩ := h.cells
   have z0 := h.blk.frozen 0
   rw [hF] at c0
   rw [hR] at c2
   have hownR := h.R
   rw [hR] at hownR
   have hownF := h.F
   rw [hF] at hownF
   have HCl := Go.Lib.hid (And.intro (cells_ownK hownR) (cells_ownK hownF))
   have hone := Go.Lib.hid h.fone
   have hflen := h.flen
   have hrl := h.lt
   obtain ⟨i0, hi0, hz0, hz1, hz2⟩ := info_parts qtinfo
   have Hi := Go.Lib.hid (And.intro hi0 (And.intro hz0 (And.intro hz1 hz2)))
   obtain ⟨i1, hi0', hz0', hz1', hz2'⟩ := info_parts btinfo
   have Hi1 := Go.Lib.hid (And.intro hi0' (And.intro hz0' (And.intro hz1' hz2')))
   have HRr := Go.Lib.hid hR
   clear h hm hR hF hownR hownF hi0 hz0 hz1 hz2 hi0' hz0' hz1' hz2'
   go_enter Tryz.func81, Tryz.ntmps81
   go_wp2_with fail
   refine HA.out.mono ?_
   rintro ee w1 ⟨rfl, rfl⟩
   go_upto_region 3 with fail
   go_wp2_with (first
    | (at_builtin; refine wpList_appK _ rfl (.const (.slice none 0 0)) (.tmp 20) _ rfl W.heap.size BT i1 _ 1 24 Tryz.underlying63 Hi1.out.1 Hi1.out.2.1 Hi1.out.2.2.1 Hi1.out.2.2.2 rfl (by decide) (.slice none 0 0) 0 [] rfl (World.ownsRow_nil _ _ _ _) AF U.F.length cF a.f rfl hflen HCl.out.2 hone.out (by unfold maxLen; omega) (by omega) (Nat.le_refl _) ?_; intro v1 w1 own1 gr1 at1; rw [List.nil_append, Nat.zero_add] at own1; have hg1 : Chg NoB W w1 := ((Chg.refl NoB W).grown gr1 (by simp [Value.ownBlock])); clear gr1 at1)
    | (at_builtin; go_must (refine wpList_appK _ rfl (.tmp 21) (.tmp 22) _ rfl W.heap.size BT i1 _ 1 24 Tryz.underlying63 Hi1.out.1 Hi1.out.2.1 Hi1.out.2.2.1 Hi1.out.2.2.2 rfl (by decide) v1 U.F.length a.f rfl (own_chg own1 ((Chg.refl NoB w1).alloc (.cells #[.slice none 0 0] BT)) (fun _ _ => id)) (some ⟨w1.heap.size, 0, none⟩) 1 1 [.slice none 0 0] rfl rfl (cells_of_blk (Blk.new w1 _ _)) (by simp [Value.oneCell']) (by unfold maxLen; omega) (by omega) (by have := hg1.size; simp; omega) ?_); go_must (intro v2 w2 own2 gr2 at2; have hg2 : Chg NoB W w2 := ((hg1.alloc _).grown gr2 (fun j hj hlt => (by have := (own1.lt j hj).1; omega))); obtain ⟨A2, c2x, rfl⟩ := own_slice own2; have c0 := cell_q hg2 c0; have z0 := (H.out.quiet hg2).blk.frozen 0; clear gr2 at2 own1 hg1)))
   have hc3 : Chg (fun k => k = r) W (w2.setCell ⟨r, 0, none⟩ (.slice A2 (U.F.length + 1) c2x)) := (hg2.mono (G := fun k => k = r) (fun _ _ h => h.elim)).setCell (p := ⟨r, 0, none⟩) (fun _ => rfl) _
   have hb3 := (H.out.quiet hg2).blk.set_ 0 (.slice A2 (U.F.length + 1) c2x)
   have ho3 := own_chg own2 ((Chg.refl (fun k => k = r) w2).setCell (p := ⟨r, 0, none⟩) (fun _ => rfl) (.slice A2 (U.F.length + 1) c2x)) (fun k hk hx => by
    have := (own2.lt k hk).1
    omega)
   have hU1 : RefAt (w2.setCell ⟨r, 0, none⟩ (.slice A2 (U.F.length + 1) c2x)) r (U.addFile []) X { a with F := .slice A2 (U.F.length + 1) c2x, f := a.f ++ [.slice none 0 0] } := by
    have hl2 : (U.F ++ ([[]] : List (List UInt8))).length = U.F.length + 1 := by simp
    refine H.out.putF hX hc3 hb3 (F' := U.F ++ ([[]] : List (List UInt8))) (by rw [hl2]; exact ho3) (by simp) (fun i b hb => ?_)
    by_cases hi : i < U.F.length
    ·left
     rw [List.getElem?_append_left hi] at hb
     exact ⟨hb, List.getElem?_append_left (by omega)⟩
    ·right
     have hil := (List.getElem?_eq_some_iff.1 hb).1
     obtain rfl : i = U.F.length := by simp at hil; omega
     obtain rfl : b = [] := by simpa using hb.symm
     exact ⟨.slice none 0 0, by rw [List.getElem?_append_right (by omega)]; simp [hflen], World.ownsRow_nil _ _ _ _⟩
   clear ho3 hb3 own2 c0 z0 c2 hone hg2
   have hX1 : ∀ j, X j → j < (w2.setCell ⟨r, 0, none⟩ (.slice A2 (U.F.length + 1) c2x)).heap.size := fun j hj => Nat.lt_of_lt_of_le (hX j hj) hc3.size
   have hcl1 : CellsAt (w2.setCell ⟨r, 0, none⟩ (.slice A2 (U.F.length + 1) c2x)) AR (rcells U.rd) := by
    have := hU1.R
    rw [show ({ a with F := .slice A2 (U.F.length + 1) c2x, f := a.f ++ [.slice none 0 0] } : RA).R = .slice AR U.rd.length cR from HRr.out] at this
    exact cells_ownK this
   generalize w2.setCell ⟨r, 0, none⟩ (.slice A2 (U.F.length + 1) c2x) = w3 at *
   have K1 : Hid (w3.cell? ⟨r, 0, none⟩ = some (.slice A2 (U.F.length + 1) c2x) ∧ w3.cell? ⟨r, 2, none⟩ = some (.slice AR U.rd.length cR)) := Go.Lib.hid ⟨hU1.cells.1, by rw [hU1.cells.2.2.1]; exact congrArg some HRr.out⟩
   have H1 := Go.Lib.hid (And.intro hU1 hc3)
   have HCl1 := Go.Lib.hid hcl1
   have hrl1 := hU1.lt
   have hwn : IntKind.i64.wrap (U.F.length : Int) = U.F.length := by rw [IntKind.wrap_i64]; omega
   clear hU1 hc3 hcl1 HCl
   refine regionT 18 (fun V' => Chg NoB w3 V') (by kernel_rfl) (by decide) ((Chg.refl NoB w3).drew) (fun inv hS => ?_)
   refine takeT (i := 0) (t := 26) (v := ?v0y1) rfl (by kernel_rfl) (fun _ _ _ h => h) rfl (Or.inl ⟨by rfl, ?h0y1⟩) inv hS ?r0y1
   case h0y1 => (intro V' hSw; clear hSw; go_simp; try with_reducible rfl)
   clear inv
   intro inv
   try simp only [sw1, sw2, sw3]
   refine takeT (i := 1) (t := 27) (v := ?v1y2) rfl (by kernel_rfl) (fun _ _ _ h => h) rfl (Or.inl ⟨by rfl, ?h1y2⟩) inv hS ?r1y2
   case h1y2 => (intro V' hSw; clear hSw; go_simp; try with_reducible rfl)
   clear inv
   intro inv
   try simp only [sw1, sw2, sw3]
   refine takeT (i := 2) (t := 28) (v := ?v2y3) rfl (by kernel_rfl) (fun _ _ _ h => h) rfl (Or.inl ⟨by rfl, ?h2y3⟩) inv hS ?r2y3
   case h2y3 => (intro V' hSw; clear hSw; go_simp; try with_reducible rfl)
   clear inv
   intro inv
   try simp only [sw1, sw2, sw3]
   refine takeT (i := 3) (t := 29) (v := ?v3y4) rfl (by kernel_rfl) (fun _ _ _ h => h) rfl (Or.inl ⟨by rfl, ?h3y4⟩) inv hS ?r3y4
   case h3y4 => (intro V' hSw; clear hSw; go_simp; try with_reducible rfl)
   clear inv
   intro inv
   try simp only [sw1, sw2, sw3]
   refine takeT (i := 4) (t := 30) (v := ?v4y5) rfl (by kernel_rfl) (fun _ _ _ h => h) rfl (Or.inl ⟨by rfl, ?h4y5⟩) inv hS ?r4y5
   case h4y5 => (intro V' hSw; have q := cell_q hSw K1.out.2; clear hSw; go_simp; try with_reducible rfl)
   clear inv
   intro inv
   try simp only [sw1, sw2, sw3]
   refine takeT (i := 6) (t := 32) (v := ?v6y6) rfl (by kernel_rfl) (fun _ _ _ h => h) rfl (Or.inl ⟨by rfl, ?h6y6⟩) inv hS ?r6y6
   case h6y6 => (intro V' hSw; clear hSw; go_simp; try with_reducible rfl)
   clear inv
   intro inv
   try simp only [sw1, sw2, sw3]
   refine takeT (i := 7) (t := 33) (v := ?v7y7) rfl (by kernel_rfl) (fun _ _ _ h => h) rfl (Or.inl ⟨by rfl, ?h7y7⟩) inv hS ?r7y7
   case h7y7 => (intro V' hSw; clear hSw; go_simp; try with_reducible rfl)
   clear inv
   intro inv
   try simp only [sw1, sw2, sw3]
   refine takeT (i := 8) (t := 34) (v := ?v8y8) rfl (by kernel_rfl) (fun _ _ _ h => h) rfl (Or.inl ⟨by rfl, ?h8y8⟩) inv hS ?r8y8
   case h8y8 => (intro V' hSw; clear hSw; go_simp; try with_reducible rfl)
   clear inv
   intro inv
   try simp only [sw1, sw2, sw3]
   refine takeT (i := 9) (t := 35) (v := ?v9y9) rfl (by kernel_rfl) (fun _ _ _ h => h) rfl (Or.inl ⟨by rfl, ?h9y9⟩) inv hS ?r9y9
   case h9y9 => (intro V' hSw; have q := cell_q hSw K1.out.1; clear hSw; go_simp; try with_reducible rfl)
   clear inv
   intro inv
   try simp only [sw1, sw2, sw3]
   refine takeT (i := 10) (t := 36) (v := ?v10y10) rfl (by kernel_rfl) (fun _ _ _ h => h) rfl (Or.inl ⟨by rfl, ?h10y10⟩) inv hS ?r10y10
   case h10y10 => (intro V' hSw; clear hSw; go_simp; try with_reducible rfl)
   clear inv
   intro inv
   try simp only [sw1, sw2, sw3]
   refine takeT (i := 11) (t := 37) (v := .int .i64 (U.F.length : Int)) rfl (by kernel_rfl) (fun _ _ _ h => h) rfl (Or.inl ⟨by rfl, ?h11y11⟩) inv hS ?r11y11
   case h11y11 => (intro V' hSw; clear hSw; go_simp; try simp only [hwn])
   clear inv
   intro inv
   try simp only [sw1, sw2, sw3]
   refine takeT (i := 12) (t := 38) (v := ?v12y12) rfl (by kernel_rfl) (fun _ _ _ h => h) rfl (Or.inl ⟨by rfl, ?h12y12⟩) inv hS ?r12y12
   case h12y12 => (intro V' hSw; clear hSw; go_simp; try with_reducible rfl)
   clear inv
   intro inv
   try simp only [sw1, sw2, sw3]
   refine takeT (i := 13) (t := 39) (v := ?v13y13) rfl (by kernel_rfl) (fun _ _ _ h => h) rfl (Or.inl ⟨by rfl, ?h13y13⟩) inv hS ?r13y13
   case h13y13 => (intro V' hSw; clear hSw; go_simp; try with_reducible rfl)
   clear inv
   intro inv
   try simp only [sw1, sw2, sw3]
   refine manyT (i := 5) (l := [14]) (by kernel_rfl) (by decide) inv ?ho14
   case ho14 =>
    intro j hj
    simp only [List.mem_cons, List.not_mem_nil, or_false] at hj
    rcases hj with rfl | rfl
    ·
     intro inv2
     clear inv
     have inv := inv2
     clear inv2
     refine opWpT rfl (by rfl) (wp_appK _ (.const (.slice none 0 0)) (.tmp 30) _ rfl w3.heap.size QT i0 _ 3 32 Tryz.underlying65 Hi.out.1 Hi.out.2.1 Hi.out.2.2.1 Hi.out.2.2.2 rfl (by decide) (.slice none 0 0) (0) [] rfl (World.ownsRow_nil _ _ _ _) AR (U.rd.length) cR (rcells U.rd) rfl (rcells_len _) (HCl1.out.chg hS (fun _ _ => id)) (rcells_one _) (by unfold maxLen; omega) (by omega) (by have := hS.size; (try simp only [World.drew] at this ⊢); omega) ?_)
     intro v5 w5 own5 gr5 at5
     have hq5 : Chg NoB w3.drew w5 := (Chg.refl NoB _).grown gr5 (by simp [Value.ownBlock])
     have hS := hS.trans hq5
     clear hq5 gr5 at5
     refine ⟨fun _ => hS, ?_⟩
     try simp only [sw1, sw2, sw3]
     refine manyT (i := 14) (l := []) (by kernel_rfl) (by decide) inv ?ho15
     case ho15 =>
      intro j hj
      simp only [List.mem_cons, List.not_mem_nil, or_false] at hj
      rcases hj with rfl
      ·
       intro inv2
       clear inv
       have inv := inv2
       clear inv2
       refine opVal (t := 40) (v := .slice (some ⟨(World.heap (w5)).size, 0, none⟩) 1 1) (w' := World.alloc (w5) (.cells #[.int .i64 (U.F.length : Int), .int .i64 0, .string nm] QT)) rfl rfl (by rfl) ?hb14 (hS.alloc _) ?hn14
       case hb14 => (go_simp; try rfl)
       case hn14 =>
        have hq14 := (Chg.refl NoB (w5)).alloc (.cells #[.int .i64 (U.F.length : Int), .int .i64 0, .string nm] QT)
        have cl14 := cells_of_blk (Blk.new (w5) QT #[.int .i64 (U.F.length : Int), .int .i64 0, .string nm])
        have own5 := own_chg own5 hq14 (fun _ _ => id)
        have hS := hS.trans hq14
        clear hq14
        generalize World.alloc (w5) (.cells #[.int .i64 (U.F.length : Int), .int .i64 0, .string nm] QT) = w14 at *
        generalize (World.heap (w5)).size = g14 at *
        try simp only [sw1, sw2, sw3]
        refine manyT (i := 15) (l := []) (by kernel_rfl) (by decide) inv ?ho16
        case ho16 =>
         intro j hj
         simp only [List.mem_cons, List.not_mem_nil, or_false] at hj
         rcases hj with rfl
         ·
          intro inv2
          clear inv
          have inv := inv2
          clear inv2
          refine opWpT rfl (by rfl) (wp_appK _ (.tmp 31) (.tmp 40) _ rfl w3.heap.size QT i0 _ 3 32 Tryz.underlying65 Hi.out.1 Hi.out.2.1 Hi.out.2.2.1 Hi.out.2.2.2 rfl (by decide) v5 (0 + U.rd.length) ([] ++ rcells U.rd) rfl own5 (some ⟨g14, 0, none⟩) (1) 1 [.int .i64 (U.F.length : Int), .int .i64 0, .string nm] rfl rfl cl14 (by simp [Value.oneCell']) (by unfold maxLen; omega) (by omega) (by have := hS.size; (try simp only [World.drew] at this ⊢); omega) ?_)
          intro v15 w15 own15 gr15 at15
          have hS := hS.grown gr15 (fun j hj hlt => by have := (own5.lt j hj).1; omega)
          clear gr15 at15 own5
          clear cl14
          rw [Nat.zero_add, List.nil_append] at own15
          obtain ⟨A17, c17, rfl⟩ := own_slice own15
          have c2' := cell_q hS K1.out.2
          have z2' := (H1.out.1.quiet hS).blk.frozen 2
          refine ⟨fun _ => hS, ?_⟩
          try simp only [sw1, sw2, sw3]
          refine takeT (i := 16) (t := 42) (v := ?v16y17) rfl (by kernel_rfl) (fun _ _ _ h => h) rfl (Or.inl ⟨by rfl, ?h16y17⟩) inv hS ?r16y17
          case h16y17 => (intro V' hSw; clear hSw; go_simp; try with_reducible rfl)
          clear inv
          intro inv
          try simp only [sw1, sw2, sw3]
          refine takeT (i := 17) (t := 43) (v := ?v17y18) rfl (by kernel_rfl) (fun _ _ _ h => h) rfl (Or.inl ⟨by rfl, ?h17y18⟩) inv hS ?r17y18
          case h17y18 => (intro V' hSw; clear hSw; go_simp; try with_reducible rfl)
          clear inv
          intro inv
          try simp only [sw1, sw2, sw3]
          refine lastT (i := 18) (w' := w15.setCell ⟨r, 2, none⟩ (.slice A17 (U.rd.length + 1) c17)) rfl (by kernel_rfl) rfl (by rfl) ?hx19 (by decide) (by kernel_rfl) ?_
          case hx19 => (go_simp; try with_reducible rfl)
          have hc3 : Chg (fun k => k = r) w3 (w15.setCell ⟨r, 2, none⟩ (.slice A17 (U.rd.length + 1) c17)) := (hS.mono (G := fun k => k = r) (fun _ _ h => h.elim)).setCell (p := ⟨r, 2, none⟩) (fun _ => rfl) _
          have hb3 := (H1.out.1.quiet hS).blk.set_ 2 (.slice A17 (U.rd.length + 1) c17)
          have ho3 := own_chg own15 ((Chg.refl (fun k => k = r) w15).setCell (p := ⟨r, 2, none⟩) (fun _ => rfl) (.slice A17 (U.rd.length + 1) c17)) (fun k hk hx => by
           have := (own15.lt k hk).1
           omega)
          have hfin : ∃ a', RefAt (w15.setCell ⟨r, 2, none⟩ (.slice A17 (U.rd.length + 1) c17)) r ((U.addFile []).ride U.F.length nm) X a' := by
           have hl2 : (U.rd ++ ([⟨U.F.length, nm, 0⟩] : List VR)).length = U.rd.length + 1 := by simp
           refine ⟨_, H1.out.1.putR hX1 hc3 hb3 (rd' := U.rd ++ ([⟨U.F.length, nm, 0⟩] : List VR)) ?_ (fun q hq => ?_)⟩
           ·rw [hl2, rcells_app]
            exact ho3
           ·rcases List.mem_append.1 hq with hq | hq
            ·exact H1.out.1.rb q hq
            ·obtain rfl : q = (⟨U.F.length, nm, 0⟩ : VR) := by simpa using hq
             show U.F.length < (U.F ++ ([[]] : List (List UInt8))).length
             simp
          have HF := Go.Lib.hid (And.intro hfin (H1.out.2.trans hc3))
          clear hfin hc3 hb3 ho3 own15 hS inv
          go_wp2_with fail
          go_ret
          refine ⟨?_, HF.out.1, HF.out.2⟩
          simp
    ·
     intro inv2
     clear inv
     have inv := inv2
     clear inv2
     refine opVal (t := 40) (v := .slice (some ⟨(World.heap (w3.drew)).size, 0, none⟩) 1 1) (w' := World.alloc (w3.drew) (.cells #[.int .i64 (U.F.length : Int), .int .i64 0, .string nm] QT)) rfl rfl (by rfl) ?hb14 (hS.alloc _) ?hn14
     case hb14 => (go_simp; try rfl)
     case hn14 =>
      have hq14 := (Chg.refl NoB (w3.drew)).alloc (.cells #[.int .i64 (U.F.length : Int), .int .i64 0, .string nm] QT)
      have cl14 := cells_of_blk (Blk.new (w3.drew) QT #[.int .i64 (U.F.length : Int), .int .i64 0, .string nm])
      have hS := hS.trans hq14
      clear hq14
      generalize World.alloc (w3.drew) (.cells #[.int .i64 (U.F.length : Int), .int .i64 0, .string nm] QT) = w14 at *
      generalize (World.heap (w3.drew)).size = g14 at *
      try simp only [sw1, sw2, sw3]
      refine manyT (i := 5) (l := []) (by kernel_rfl) (by decide) inv ?ho20
      case ho20 =>
       intro j hj
       simp only [List.mem_cons, List.not_mem_nil, or_false] at hj
       rcases hj with rfl
       ·
        intro inv2
        clear inv
        have inv := inv2
        clear inv2
        refine opWpT rfl (by rfl) (wp_appK _ (.const (.slice none 0 0)) (.tmp 30) _ rfl w3.heap.size QT i0 _ 3 32 Tryz.underlying65 Hi.out.1 Hi.out.2.1 Hi.out.2.2.1 Hi.out.2.2.2 rfl (by decide) (.slice none 0 0) (0) [] rfl (World.ownsRow_nil _ _ _ _) AR (U.rd.length) cR (rcells U.rd) rfl (rcells_len _) (HCl1.out.chg hS (fun _ _ => id)) (rcells_one _) (by unfold maxLen; omega) (by omega) (by have := hS.size; (try simp only [World.drew] at this ⊢); omega) ?_)
        intro v5 w5 own5 gr5 at5
        have hq5 : Chg NoB w14 w5 := (Chg.refl NoB _).grown gr5 (by simp [Value.ownBlock])
        have cl14 := cl14.chg hq5 (fun _ _ => id)
        have hS := hS.trans hq5
        clear hq5 gr5 at5
        refine ⟨fun _ => hS, ?_⟩
        try simp only [sw1, sw2, sw3]
        refine manyT (i := 15) (l := []) (by kernel_rfl) (by decide) inv ?ho21
        case ho21 =>
         intro j hj
         simp only [List.mem_cons, List.not_mem_nil, or_false] at hj
         rcases hj with rfl
         ·
          intro inv2
          clear inv
          have inv := inv2
          clear inv2
          refine opWpT rfl (by rfl) (wp_appK _ (.tmp 31) (.tmp 40) _ rfl w3.heap.size QT i0 _ 3 32 Tryz.underlying65 Hi.out.1 Hi.out.2.1 Hi.out.2.2.1 Hi.out.2.2.2 rfl (by decide) v5 (0 + U.rd.length) ([] ++ rcells U.rd) rfl own5 (some ⟨g14, 0, none⟩) (1) 1 [.int .i64 (U.F.length : Int), .int .i64 0, .string nm] rfl rfl cl14 (by simp [Value.oneCell']) (by unfold maxLen; omega) (by omega) (by have := hS.size; (try simp only [World.drew] at this ⊢); omega) ?_)
          intro v15 w15 own15 gr15 at15
          have hS := hS.grown gr15 (fun j hj hlt => by have := (own5.lt j hj).1; omega)
          clear gr15 at15 own5
          clear cl14
          rw [Nat.zero_add, List.nil_append] at own15
          obtain ⟨A17, c17, rfl⟩ := own_slice own15
          have c2' := cell_q hS K1.out.2
          have z2' := (H1.out.1.quiet hS).blk.frozen 2
          refine ⟨fun _ => hS, ?_⟩
          try simp only [sw1, sw2, sw3]
          refine takeT (i := 16) (t := 42) (v := ?v16y22) rfl (by kernel_rfl) (fun _ _ _ h => h) rfl (Or.inl ⟨by rfl, ?h16y22⟩) inv hS ?r16y22
          case h16y22 => (intro V' hSw; clear hSw; go_simp; try with_reducible rfl)
          clear inv
          intro inv
          try simp only [sw1, sw2, sw3]
          refine takeT (i := 17) (t := 43) (v := ?v17y23) rfl (by kernel_rfl) (fun _ _ _ h => h) rfl (Or.inl ⟨by rfl, ?h17y23⟩) inv hS ?r17y23
          case h17y23 => (intro V' hSw; clear hSw; go_simp; try with_reducible rfl)
          clear inv
          intro inv
          try simp only [sw1, sw2, sw3]
          refine lastT (i := 18) (w' := w15.setCell ⟨r, 2, none⟩ (.slice A17 (U.rd.length + 1) c17)) rfl (by kernel_rfl) rfl (by rfl) ?hx24 (by decide) (by kernel_rfl) ?_
          case hx24 => (go_simp; try with_reducible rfl)
          have hc3 : Chg (fun k => k = r) w3 (w15.setCell ⟨r, 2, none⟩ (.slice A17 (U.rd.length + 1) c17)) := (hS.mono (G := fun k => k = r) (fun _ _ h => h.elim)).setCell (p := ⟨r, 2, none⟩) (fun _ => rfl) _
          have hb3 := (H1.out.1.quiet hS).blk.set_ 2 (.slice A17 (U.rd.length + 1) c17)
          have ho3 := own_chg own15 ((Chg.refl (fun k => k = r) w15).setCell (p := ⟨r, 2, none⟩) (fun _ => rfl) (.slice A17 (U.rd.length + 1) c17)) (fun k hk hx => by
           have := (own15.lt k hk).1
           omega)
          have hfin : ∃ a', RefAt (w15.setCell ⟨r, 2, none⟩ (.slice A17 (U.rd.length + 1) c17)) r ((U.addFile []).ride U.F.length nm) X a' := by
           have hl2 : (U.rd ++ ([⟨U.F.length, nm, 0⟩] : List VR)).length = U.rd.length + 1 := by simp
           refine ⟨_, H1.out.1.putR hX1 hc3 hb3 (rd' := U.rd ++ ([⟨U.F.length, nm, 0⟩] : List VR)) ?_ (fun q hq => ?_)⟩
           ·rw [hl2, rcells_app]
            exact ho3
           ·rcases List.mem_append.1 hq with hq | hq
            ·exact H1.out.1.rb q hq
            ·obtain rfl : q = (⟨U.F.length, nm, 0⟩ : VR) := by simpa using hq
             show U.F.length < (U.F ++ ([[]] : List (List UInt8))).length
             simp
          have HF := Go.Lib.hid (And.intro hfin (H1.out.2.trans hc3))
          clear hfin hc3 hb3 ho3 own15 hS inv
          go_wp2_with fail
          go_ret
          refine ⟨?_, HF.out.1, HF.out.2⟩
          simp
  ·rw [if_neg (fun h => hl h.2)]
   have gl : decide ((U.rd.length : Int) ≥ 255) = true := by simp; omega
   obtain ⟨AR, cR, hR⟩ := own_slice h.R
   obtain ⟨_, _, c2, _⟩ := h.cells
   rw [hR] at c2
   clear h hm hR
   go_enter Tryz.func81, Tryz.ntmps81
   go_wp2_with fail
   refine HA.out.mono ?_
   rintro ee w1 ⟨rfl, rfl⟩
   go_wp2_with fail
   go_ret
   exact ⟨rfl, ⟨a, H.out⟩, Chg.refl _ _⟩
 ·rw [if_neg (fun h => hm h.1)]
  have hm : mayName nm = false := by simpa using hm
  rw [hm] at HA
  clear h hm
  go_enter Tryz.func81, Tryz.ntmps81
  go_wp2_with fail
  refine HA.out.mono ?_
  rintro ee w1 ⟨rfl, rfl⟩
  go_wp2_with fail
  go_ret
  exact ⟨rfl, ⟨a, H.out⟩, Chg.refl _ _⟩
end
end Go.Proofs.YtggknljlibhkjaaGreat
set_option linter.unusedSimpArgs false
set_option linter.unusedVariables false
namespace Go.Proofs.YtggknljlibhkjaaGreat
open Go Go.RowKit
def delR (U : V) (nm : ByteArray) : V := match U.dir[posD nm U.dir]? with | none => U | some e => if (e.1 == nm) = true then { U with dir := U.dir.take (posD nm U.dir) ++ U.dir.drop (posD nm U.dir + 1) } else U
theorem isD_some {nm : ByteArray} {l : List (ByteArray × Nat)} (hi : isD nm l = true) : ∃ e, l[posD nm l]? = some e ∧ (e.1 == nm) = true := by
 unfold isD at hi
 rcases hq : l[posD nm l]? with _ | e
 ·rw [hq] at hi; cases hi
 ·rw [hq] at hi; exact ⟨e, rfl, hi⟩
theorem isD_none {nm : ByteArray} {l : List (ByteArray × Nat)} (hi : isD nm l = false) : ∀ e, l[posD nm l]? = some e → (e.1 == nm) = false := by
 intro e he
 unfold isD at hi
 rw [he] at hi
 exact hi
section
variable {W W' : World} {r : Nat} {U : V} {X F : Nat → Prop} {a : RA}
theorem RefAt.halves (h : RefAt W r U X a) (hne : 0 < U.dir.length) : ∃ g c, a.D = .slice (some ⟨g, 0, none⟩) U.dir.length c ∧ U.dir.length ≤ c ∧ c ≤ maxLen ∧ ∀ k, k ≤ U.dir.length → CellsAt W (some ⟨g, 0, none⟩) (dcells (U.dir.take k)) ∧ CellsAt W (some ⟨g, k * 2, none⟩) (dcells (U.dir.drop k)) := by
 have hD := h.D
 rcases hD.2 with ⟨_, h0⟩ | ⟨g, cap, cur, hv, hb, hgg, hn, hm, _⟩
 ·omega
 have hc := h.D.cells (g := g) (by rw [hv]; rfl)
 refine ⟨g, cap, hv, hn, hm, fun k hk => ?_⟩
 have hsp : dcells U.dir = dcells (U.dir.take k) ++ dcells (U.dir.drop k) := by rw [← dcells_app, List.take_append_drop]
 have hlen : (dcells (U.dir.take k)).length = k * 2 := by rw [dcells_len]; simp; omega
 constructor
 ·intro _
  refine ⟨_, rfl, fun j u hj => hc j u ?_⟩
  rw [hsp, List.getElem?_append_left (List.getElem?_eq_some_iff.1 hj).1]
  exact hj
 ·intro _
  refine ⟨_, rfl, fun j u hj => ?_⟩
  have := hc (k * 2 + j) u (by rw [hsp, List.getElem?_append_right (by omega), hlen]; simpa using hj)
  rw [add_lit] at this
  rw [show (⟨g, k * 2, none⟩ : Addr).add j = ⟨g, k * 2 + j, none⟩ by unfold Addr.add; split <;> simp_all]
  exact this
set_option maxRecDepth 100000 in
set_option maxHeartbeats 4000000 in
theorem rdel_c (h : RefAt W r U X a) (hX : ∀ k, X k → k < W.heap.size) (hd : U.dir.length < 1000000) (nm : ByteArray) : Calls Tryz.prog 88 #[.pointer (some ⟨r, 0, none⟩), .string nm] W (RPost r X (.tuple #[]) (delR U nm) W) := by
 have HA := Go.Lib.hid (rpos_c h hd nm)
 have H := Go.Lib.hid h
 by_cases hi : isD nm U.dir = true
 ·obtain ⟨e, he, hen⟩ := isD_some hi
  rw [hi] at HA
  have hres : delR U nm = { U with dir := U.dir.take (posD nm U.dir) ++ U.dir.drop (posD nm U.dir + 1) } := by unfold delR; rw [he]; simp only; rw [if_pos hen]
  rw [hres]
  have hkl := (List.getElem?_eq_some_iff.1 he).1
  obtain ⟨gD, cD, hD, hnc, hcm, hhv⟩ := h.halves (by omega)
  obtain ⟨_, c1, _, _⟩ := h.cells
  rw [hD] at c1
  have hC1 := (hhv (posD nm U.dir) (by omega)).1
  have hC2 := (hhv (posD nm U.dir + 1) (by omega)).2
  have hcm2 : cD ≤ 9223372036854775807 := by unfold maxLen at hcm; omega
  have hrl := h.lt
  obtain ⟨i0, hi0, hz0, hz1, hz2⟩ := info_parts etinfo
  have Hi := Go.Lib.hid (And.intro hi0 (And.intro hz0 (And.intro hz1 hz2)))
  have HCs := Go.Lib.hid (And.intro hC1 hC2)
  have hl1 : (U.dir.take (posD nm U.dir)).length = posD nm U.dir := by simp; omega
  have hl2 : (U.dir.drop (posD nm U.dir + 1)).length = U.dir.length - (posD nm U.dir + 1) := by simp
  clear h hi hen hres he hD hi0 hz0 hz1 hz2 hhv hC1 hC2
  generalize posD nm U.dir = k at *
  have hj2 : k + 1 ≤ U.dir.length := by omega
  have hwj : IntKind.i64.wrap ((k : Int) + 1) = ((k + 1 : Nat) : Int) := by rw [IntKind.wrap_i64]; omega
  have hkj : k < k + 1 := by omega
  generalize hj1 : k + 1 = j1 at *
  clear hj1
  by_cases hcap : j1 = cD
  ·subst hcap
   go_enter Tryz.func88, Tryz.ntmps88
   go_wp2_with fail
   refine HA.out.mono ?_
   rintro ee w1 ⟨rfl, hq⟩
   have hX1 : ∀ j, X j → j < w1.heap.size := fun j hj => Nat.lt_of_lt_of_le (hX j hj) hq.size
   have h1 := H.out.quiet hq
   have c1 := cell_q hq c1
   have HCs1 := Go.Lib.hid (And.intro (HCs.out.1.chg hq (fun _ _ => id)) (HCs.out.2.chg hq (fun _ _ => id)))
   have hrl1 := h1.lt
   have H1 := Go.Lib.hid (And.intro h1 hq)
   have K1 := Go.Lib.hid c1
   clear hq h1 HCs HA
   go_wp2_with fail
   refine regionT 18 (fun V' => Chg NoB w1 V') (by kernel_rfl) (by decide) ((Chg.refl NoB w1).drew) (fun inv hS => ?_)
   refine takeT (i := 0) (t := 13) (v := ?v0y1) rfl (by kernel_rfl) (fun _ _ _ h => h) rfl (Or.inl ⟨by rfl, ?h0y1⟩) inv hS ?r0y1
   case h0y1 => (intro V' hSw; clear hSw; go_simp; try with_reducible rfl)
   clear inv
   intro inv
   try simp only [sw1, sw2, sw3]
   refine takeT (i := 1) (t := 14) (v := ?v1y2) rfl (by kernel_rfl) (fun _ _ _ h => h) rfl (Or.inl ⟨by rfl, ?h1y2⟩) inv hS ?r1y2
   case h1y2 => (intro V' hSw; clear hSw; go_simp; try with_reducible rfl)
   clear inv
   intro inv
   try simp only [sw1, sw2, sw3]
   refine takeT (i := 2) (t := 15) (v := ?v2y3) rfl (by kernel_rfl) (fun _ _ _ h => h) rfl (Or.inl ⟨by rfl, ?h2y3⟩) inv hS ?r2y3
   case h2y3 => (intro V' hSw; clear hSw; go_simp; try with_reducible rfl)
   clear inv
   intro inv
   try simp only [sw1, sw2, sw3]
   refine takeT (i := 3) (t := 16) (v := ?v3y4) rfl (by kernel_rfl) (fun _ _ _ h => h) rfl (Or.inl ⟨by rfl, ?h3y4⟩) inv hS ?r3y4
   case h3y4 => (intro V' hSw; clear hSw; go_simp; try with_reducible rfl)
   clear inv
   intro inv
   try simp only [sw1, sw2, sw3]
   refine takeT (i := 4) (t := 17) (v := ?v4y5) rfl (by kernel_rfl) (fun _ _ _ h => h) rfl (Or.inl ⟨by rfl, ?h4y5⟩) inv hS ?r4y5
   case h4y5 => (intro V' hSw; have q := cell_q hSw K1.out; clear hSw; go_simp; try with_reducible rfl)
   clear inv
   intro inv
   try simp only [sw1, sw2, sw3]
   refine takeT (i := 5) (t := 18) (v := ?v5y6) rfl (by kernel_rfl) (fun _ _ _ h => h) rfl (Or.inl ⟨by rfl, ?h5y6⟩) inv hS ?r5y6
   case h5y6 => (intro V' hSw; clear hSw; go_simp; try with_reducible rfl)
   clear inv
   intro inv
   try simp only [sw1, sw2, sw3]
   refine takeT (i := 6) (t := 19) (v := ?v6y7) rfl (by kernel_rfl) (fun _ _ _ h => h) rfl (Or.inl ⟨by rfl, ?h6y7⟩) inv hS ?r6y7
   case h6y7 => (intro V' hSw; clear hSw; go_simp; (try (rw [if_pos (by omega)])); try with_reducible rfl)
   clear inv
   intro inv
   try simp only [sw1, sw2, sw3]
   refine takeT (i := 8) (t := 21) (v := ?v8y8) rfl (by kernel_rfl) (fun _ _ _ h => h) rfl (Or.inl ⟨by rfl, ?h8y8⟩) inv hS ?r8y8
   case h8y8 => (intro V' hSw; clear hSw; go_simp; try with_reducible rfl)
   clear inv
   intro inv
   try simp only [sw1, sw2, sw3]
   refine takeT (i := 9) (t := 22) (v := ?v9y9) rfl (by kernel_rfl) (fun _ _ _ h => h) rfl (Or.inl ⟨by rfl, ?h9y9⟩) inv hS ?r9y9
   case h9y9 => (intro V' hSw; clear hSw; go_simp; try with_reducible rfl)
   clear inv
   intro inv
   try simp only [sw1, sw2, sw3]
   refine takeT (i := 10) (t := 23) (v := ?v10y10) rfl (by kernel_rfl) (fun _ _ _ h => h) rfl (Or.inl ⟨by rfl, ?h10y10⟩) inv hS ?r10y10
   case h10y10 => (intro V' hSw; clear hSw; go_simp; try with_reducible rfl)
   clear inv
   intro inv
   try simp only [sw1, sw2, sw3]
   refine takeT (i := 11) (t := 24) (v := ?v11y11) rfl (by kernel_rfl) (fun _ _ _ h => h) rfl (Or.inl ⟨by rfl, ?h11y11⟩) inv hS ?r11y11
   case h11y11 => (intro V' hSw; have q := cell_q hSw K1.out; clear hSw; go_simp; try with_reducible rfl)
   clear inv
   intro inv
   try simp only [sw1, sw2, sw3]
   refine takeT (i := 12) (t := 25) (v := ?v12y12) rfl (by kernel_rfl) (fun _ _ _ h => h) rfl (Or.inl ⟨by rfl, ?h12y12⟩) inv hS ?r12y12
   case h12y12 => (intro V' hSw; clear hSw; go_simp; try with_reducible rfl)
   clear inv
   intro inv
   try simp only [sw1, sw2, sw3]
   refine takeT (i := 13) (t := 26) (v := .int .i64 (j1 : Int)) rfl (by kernel_rfl) (fun _ _ _ h => h) rfl (Or.inl ⟨by rfl, ?h13y13⟩) inv hS ?r13y13
   case h13y13 => (intro V' hSw; clear hSw; go_simp; try simp only [hwj])
   clear inv
   intro inv
   try simp only [sw1, sw2, sw3]
   refine takeT (i := 14) (t := 27) (v := .slice (some ⟨gD, 0, none⟩) (U.dir.length - j1) 0) rfl (by kernel_rfl) (fun _ _ _ h => h) rfl (Or.inl ⟨by rfl, ?h14y14⟩) inv hS ?r14y14
   case h14y14 => (intro V' hSw; clear hSw; have hz : U.dir.length - j1 = 0 := (by omega); go_simp; (try (rw [if_pos (by omega)])); (try with_reducible rfl))
   clear inv
   intro inv
   try simp only [sw1, sw2, sw3]
   refine manyT (i := 7) (l := []) (by kernel_rfl) (by decide) inv ?ho15
   case ho15 =>
    intro j hj
    simp only [List.mem_cons, List.not_mem_nil, or_false] at hj
    rcases hj with rfl
    ·
     intro inv2
     clear inv
     have inv := inv2
     clear inv2
     refine opWpT rfl (by rfl) (wp_appK _ (.const (.slice none 0 0)) (.tmp 19) _ rfl w1.heap.size ET i0 _ 2 24 Tryz.underlying64 Hi.out.1 Hi.out.2.1 Hi.out.2.2.1 Hi.out.2.2.2 rfl (by decide) (.slice none 0 0) (0) [] rfl (World.ownsRow_nil _ _ _ _) (some ⟨gD, 0, none⟩) (k) j1 (dcells (U.dir.take k)) rfl (by rw [dcells_len, hl1]) (HCs1.out.1.chg hS (fun _ _ => id)) (dcells_one _) (by unfold maxLen; omega) (by omega) (by have := hS.size; (try simp only [World.drew] at this ⊢); omega) ?_)
     intro v7 w7 own7 gr7 at7
     have hq7 : Chg NoB w1.drew w7 := (Chg.refl NoB _).grown gr7 (by simp [Value.ownBlock])
     have hS := hS.trans hq7
     clear hq7 gr7 at7
     refine ⟨fun _ => hS, ?_⟩
     try simp only [sw1, sw2, sw3]
     refine manyT (i := 15) (l := []) (by kernel_rfl) (by decide) inv ?ho16
     case ho16 =>
      intro j hj
      simp only [List.mem_cons, List.not_mem_nil, or_false] at hj
      rcases hj with rfl
      ·
       intro inv2
       clear inv
       have inv := inv2
       clear inv2
       refine opWpT rfl (by rfl) (wp_appK _ (.tmp 20) (.tmp 27) _ rfl w1.heap.size ET i0 _ 2 24 Tryz.underlying64 Hi.out.1 Hi.out.2.1 Hi.out.2.2.1 Hi.out.2.2.2 rfl (by decide) v7 (0 + k) ([] ++ dcells (U.dir.take k)) rfl own7 (some ⟨gD, 0, none⟩) (U.dir.length - j1) 0 (dcells (U.dir.drop j1)) rfl (by rw [dcells_len, hl2]) (fun hh => absurd hh (by rw [dcells_len, hl2]; omega)) (dcells_one _) (by unfold maxLen; omega) (by omega) (by have := hS.size; (try simp only [World.drew] at this ⊢); omega) ?_)
       intro v15 w15 own15 gr15 at15
       have hS := hS.grown gr15 (fun j hj hlt => by have := (own7.lt j hj).1; omega)
       clear gr15 at15 own7
       rw [Nat.zero_add, List.nil_append] at own15
       obtain ⟨A17, c17, rfl⟩ := own_slice own15
       have c2' := cell_q hS K1.out
       have z2' := (H1.out.1.quiet hS).blk.frozen 1
       refine ⟨fun _ => hS, ?_⟩
       try simp only [sw1, sw2, sw3]
       refine takeT (i := 16) (t := 29) (v := ?v16y17) rfl (by kernel_rfl) (fun _ _ _ h => h) rfl (Or.inl ⟨by rfl, ?h16y17⟩) inv hS ?r16y17
       case h16y17 => (intro V' hSw; clear hSw; go_simp; try with_reducible rfl)
       clear inv
       intro inv
       try simp only [sw1, sw2, sw3]
       refine takeT (i := 17) (t := 30) (v := ?v17y18) rfl (by kernel_rfl) (fun _ _ _ h => h) rfl (Or.inl ⟨by rfl, ?h17y18⟩) inv hS ?r17y18
       case h17y18 => (intro V' hSw; clear hSw; go_simp; try with_reducible rfl)
       clear inv
       intro inv
       try simp only [sw1, sw2, sw3]
       refine lastT (i := 18) (w' := w15.setCell ⟨r, 1, none⟩ (.slice A17 (k + (U.dir.length - j1)) c17)) rfl (by kernel_rfl) rfl (by rfl) ?hx19 (by decide) (by kernel_rfl) ?_
       case hx19 => (go_simp; try with_reducible rfl)
       have hc3 : Chg (fun k => k = r) w1 (w15.setCell ⟨r, 1, none⟩ (.slice A17 (k + (U.dir.length - j1)) c17)) := (hS.mono (G := fun k => k = r) (fun _ _ h => h.elim)).setCell (p := ⟨r, 1, none⟩) (fun _ => rfl) _
       have hb3 := (H1.out.1.quiet hS).blk.set_ 1 (.slice A17 (k + (U.dir.length - j1)) c17)
       have ho3 := own_chg own15 ((Chg.refl (fun k => k = r) w15).setCell (p := ⟨r, 1, none⟩) (fun _ => rfl) (.slice A17 (k + (U.dir.length - j1)) c17)) (fun k hk hx => by
        have := (own15.lt k hk).1
        omega)
       have hfin : ∃ a', RefAt (w15.setCell ⟨r, 1, none⟩ (.slice A17 (k + (U.dir.length - j1)) c17)) r { U with dir := U.dir.take k ++ U.dir.drop j1 } X a' := by
        have hl3 : (U.dir.take k ++ U.dir.drop j1).length = k + (U.dir.length - j1) := by rw [List.length_append, hl1, hl2]
        refine ⟨_, H1.out.1.putD hX1 hc3 hb3 (d' := U.dir.take k ++ U.dir.drop j1) ?_ (fun q hq => ?_)⟩
        ·rw [hl3, dcells_app]
         exact ho3
        ·rcases List.mem_append.1 hq with hq | hq
         ·exact H1.out.1.db q (List.mem_of_mem_take hq)
         ·exact H1.out.1.db q (List.mem_of_mem_drop hq)
       have HF := Go.Lib.hid (And.intro hfin ((H1.out.2.mono (fun _ _ h => h.elim)).trans hc3))
       clear hfin hc3 hb3 ho3 own15 hS inv
       go_wp2_with fail
       go_end0
       exact ⟨rfl, HF.out.1, HF.out.2⟩
  ·have hcap2 : ¬ cD = j1 := fun e => hcap e.symm
   go_enter Tryz.func88, Tryz.ntmps88
   go_wp2_with fail
   refine HA.out.mono ?_
   rintro ee w1 ⟨rfl, hq⟩
   have hX1 : ∀ j, X j → j < w1.heap.size := fun j hj => Nat.lt_of_lt_of_le (hX j hj) hq.size
   have h1 := H.out.quiet hq
   have c1 := cell_q hq c1
   have HCs1 := Go.Lib.hid (And.intro (HCs.out.1.chg hq (fun _ _ => id)) (HCs.out.2.chg hq (fun _ _ => id)))
   have hrl1 := h1.lt
   have H1 := Go.Lib.hid (And.intro h1 hq)
   have K1 := Go.Lib.hid c1
   clear hq h1 HCs HA
   go_wp2_with fail
   refine regionT 18 (fun V' => Chg NoB w1 V') (by kernel_rfl) (by decide) ((Chg.refl NoB w1).drew) (fun inv hS => ?_)
   refine takeT (i := 0) (t := 13) (v := ?v0y20) rfl (by kernel_rfl) (fun _ _ _ h => h) rfl (Or.inl ⟨by rfl, ?h0y20⟩) inv hS ?r0y20
   case h0y20 => (intro V' hSw; clear hSw; go_simp; try with_reducible rfl)
   clear inv
   intro inv
   try simp only [sw1, sw2, sw3]
   refine takeT (i := 1) (t := 14) (v := ?v1y21) rfl (by kernel_rfl) (fun _ _ _ h => h) rfl (Or.inl ⟨by rfl, ?h1y21⟩) inv hS ?r1y21
   case h1y21 => (intro V' hSw; clear hSw; go_simp; try with_reducible rfl)
   clear inv
   intro inv
   try simp only [sw1, sw2, sw3]
   refine takeT (i := 2) (t := 15) (v := ?v2y22) rfl (by kernel_rfl) (fun _ _ _ h => h) rfl (Or.inl ⟨by rfl, ?h2y22⟩) inv hS ?r2y22
   case h2y22 => (intro V' hSw; clear hSw; go_simp; try with_reducible rfl)
   clear inv
   intro inv
   try simp only [sw1, sw2, sw3]
   refine takeT (i := 3) (t := 16) (v := ?v3y23) rfl (by kernel_rfl) (fun _ _ _ h => h) rfl (Or.inl ⟨by rfl, ?h3y23⟩) inv hS ?r3y23
   case h3y23 => (intro V' hSw; clear hSw; go_simp; try with_reducible rfl)
   clear inv
   intro inv
   try simp only [sw1, sw2, sw3]
   refine takeT (i := 4) (t := 17) (v := ?v4y24) rfl (by kernel_rfl) (fun _ _ _ h => h) rfl (Or.inl ⟨by rfl, ?h4y24⟩) inv hS ?r4y24
   case h4y24 => (intro V' hSw; have q := cell_q hSw K1.out; clear hSw; go_simp; try with_reducible rfl)
   clear inv
   intro inv
   try simp only [sw1, sw2, sw3]
   refine takeT (i := 5) (t := 18) (v := ?v5y25) rfl (by kernel_rfl) (fun _ _ _ h => h) rfl (Or.inl ⟨by rfl, ?h5y25⟩) inv hS ?r5y25
   case h5y25 => (intro V' hSw; clear hSw; go_simp; try with_reducible rfl)
   clear inv
   intro inv
   try simp only [sw1, sw2, sw3]
   refine takeT (i := 6) (t := 19) (v := ?v6y26) rfl (by kernel_rfl) (fun _ _ _ h => h) rfl (Or.inl ⟨by rfl, ?h6y26⟩) inv hS ?r6y26
   case h6y26 => (intro V' hSw; clear hSw; go_simp; (try (rw [if_pos (by omega)])); try with_reducible rfl)
   clear inv
   intro inv
   try simp only [sw1, sw2, sw3]
   refine takeT (i := 8) (t := 21) (v := ?v8y27) rfl (by kernel_rfl) (fun _ _ _ h => h) rfl (Or.inl ⟨by rfl, ?h8y27⟩) inv hS ?r8y27
   case h8y27 => (intro V' hSw; clear hSw; go_simp; try with_reducible rfl)
   clear inv
   intro inv
   try simp only [sw1, sw2, sw3]
   refine takeT (i := 9) (t := 22) (v := ?v9y28) rfl (by kernel_rfl) (fun _ _ _ h => h) rfl (Or.inl ⟨by rfl, ?h9y28⟩) inv hS ?r9y28
   case h9y28 => (intro V' hSw; clear hSw; go_simp; try with_reducible rfl)
   clear inv
   intro inv
   try simp only [sw1, sw2, sw3]
   refine takeT (i := 10) (t := 23) (v := ?v10y29) rfl (by kernel_rfl) (fun _ _ _ h => h) rfl (Or.inl ⟨by rfl, ?h10y29⟩) inv hS ?r10y29
   case h10y29 => (intro V' hSw; clear hSw; go_simp; try with_reducible rfl)
   clear inv
   intro inv
   try simp only [sw1, sw2, sw3]
   refine takeT (i := 11) (t := 24) (v := ?v11y30) rfl (by kernel_rfl) (fun _ _ _ h => h) rfl (Or.inl ⟨by rfl, ?h11y30⟩) inv hS ?r11y30
   case h11y30 => (intro V' hSw; have q := cell_q hSw K1.out; clear hSw; go_simp; try with_reducible rfl)
   clear inv
   intro inv
   try simp only [sw1, sw2, sw3]
   refine takeT (i := 12) (t := 25) (v := ?v12y31) rfl (by kernel_rfl) (fun _ _ _ h => h) rfl (Or.inl ⟨by rfl, ?h12y31⟩) inv hS ?r12y31
   case h12y31 => (intro V' hSw; clear hSw; go_simp; try with_reducible rfl)
   clear inv
   intro inv
   try simp only [sw1, sw2, sw3]
   refine takeT (i := 13) (t := 26) (v := .int .i64 (j1 : Int)) rfl (by kernel_rfl) (fun _ _ _ h => h) rfl (Or.inl ⟨by rfl, ?h13y32⟩) inv hS ?r13y32
   case h13y32 => (intro V' hSw; clear hSw; go_simp; try simp only [hwj])
   clear inv
   intro inv
   try simp only [sw1, sw2, sw3]
   refine takeT (i := 14) (t := 27) (v := ?v14y33) rfl (by kernel_rfl) (fun _ _ _ h => h) rfl (Or.inl ⟨by rfl, ?h14y33⟩) inv hS ?r14y33
   case h14y33 => (intro V' hSw; clear hSw; go_simp; (try (rw [if_pos (by omega)])); try with_reducible rfl)
   clear inv
   intro inv
   try simp only [sw1, sw2, sw3]
   refine manyT (i := 7) (l := []) (by kernel_rfl) (by decide) inv ?ho34
   case ho34 =>
    intro j hj
    simp only [List.mem_cons, List.not_mem_nil, or_false] at hj
    rcases hj with rfl
    ·
     intro inv2
     clear inv
     have inv := inv2
     clear inv2
     refine opWpT rfl (by rfl) (wp_appK _ (.const (.slice none 0 0)) (.tmp 19) _ rfl w1.heap.size ET i0 _ 2 24 Tryz.underlying64 Hi.out.1 Hi.out.2.1 Hi.out.2.2.1 Hi.out.2.2.2 rfl (by decide) (.slice none 0 0) (0) [] rfl (World.ownsRow_nil _ _ _ _) (some ⟨gD, 0, none⟩) (k) cD (dcells (U.dir.take k)) rfl (by rw [dcells_len, hl1]) (HCs1.out.1.chg hS (fun _ _ => id)) (dcells_one _) (by unfold maxLen; omega) (by omega) (by have := hS.size; (try simp only [World.drew] at this ⊢); omega) ?_)
     intro v7 w7 own7 gr7 at7
     have hq7 : Chg NoB w1.drew w7 := (Chg.refl NoB _).grown gr7 (by simp [Value.ownBlock])
     have hS := hS.trans hq7
     clear hq7 gr7 at7
     refine ⟨fun _ => hS, ?_⟩
     try simp only [sw1, sw2, sw3]
     refine manyT (i := 15) (l := []) (by kernel_rfl) (by decide) inv ?ho35
     case ho35 =>
      intro j hj
      simp only [List.mem_cons, List.not_mem_nil, or_false] at hj
      rcases hj with rfl
      ·
       intro inv2
       clear inv
       have inv := inv2
       clear inv2
       refine opWpT rfl (by rfl) (wp_appK _ (.tmp 20) (.tmp 27) _ rfl w1.heap.size ET i0 _ 2 24 Tryz.underlying64 Hi.out.1 Hi.out.2.1 Hi.out.2.2.1 Hi.out.2.2.2 rfl (by decide) v7 (0 + k) ([] ++ dcells (U.dir.take k)) rfl own7 (some ⟨gD, j1 * 2, none⟩) (U.dir.length - j1) (cD - j1) (dcells (U.dir.drop j1)) rfl (by rw [dcells_len, hl2]) (HCs1.out.2.chg hS (fun _ _ => id)) (dcells_one _) (by unfold maxLen; omega) (by omega) (by have := hS.size; (try simp only [World.drew] at this ⊢); omega) ?_)
       intro v15 w15 own15 gr15 at15
       have hS := hS.grown gr15 (fun j hj hlt => by have := (own7.lt j hj).1; omega)
       clear gr15 at15 own7
       rw [Nat.zero_add, List.nil_append] at own15
       obtain ⟨A17, c17, rfl⟩ := own_slice own15
       have c2' := cell_q hS K1.out
       have z2' := (H1.out.1.quiet hS).blk.frozen 1
       refine ⟨fun _ => hS, ?_⟩
       try simp only [sw1, sw2, sw3]
       refine takeT (i := 16) (t := 29) (v := ?v16y36) rfl (by kernel_rfl) (fun _ _ _ h => h) rfl (Or.inl ⟨by rfl, ?h16y36⟩) inv hS ?r16y36
       case h16y36 => (intro V' hSw; clear hSw; go_simp; try with_reducible rfl)
       clear inv
       intro inv
       try simp only [sw1, sw2, sw3]
       refine takeT (i := 17) (t := 30) (v := ?v17y37) rfl (by kernel_rfl) (fun _ _ _ h => h) rfl (Or.inl ⟨by rfl, ?h17y37⟩) inv hS ?r17y37
       case h17y37 => (intro V' hSw; clear hSw; go_simp; try with_reducible rfl)
       clear inv
       intro inv
       try simp only [sw1, sw2, sw3]
       refine lastT (i := 18) (w' := w15.setCell ⟨r, 1, none⟩ (.slice A17 (k + (U.dir.length - j1)) c17)) rfl (by kernel_rfl) rfl (by rfl) ?hx38 (by decide) (by kernel_rfl) ?_
       case hx38 => (go_simp; try with_reducible rfl)
       have hc3 : Chg (fun k => k = r) w1 (w15.setCell ⟨r, 1, none⟩ (.slice A17 (k + (U.dir.length - j1)) c17)) := (hS.mono (G := fun k => k = r) (fun _ _ h => h.elim)).setCell (p := ⟨r, 1, none⟩) (fun _ => rfl) _
       have hb3 := (H1.out.1.quiet hS).blk.set_ 1 (.slice A17 (k + (U.dir.length - j1)) c17)
       have ho3 := own_chg own15 ((Chg.refl (fun k => k = r) w15).setCell (p := ⟨r, 1, none⟩) (fun _ => rfl) (.slice A17 (k + (U.dir.length - j1)) c17)) (fun k hk hx => by
        have := (own15.lt k hk).1
        omega)
       have hfin : ∃ a', RefAt (w15.setCell ⟨r, 1, none⟩ (.slice A17 (k + (U.dir.length - j1)) c17)) r { U with dir := U.dir.take k ++ U.dir.drop j1 } X a' := by
        have hl3 : (U.dir.take k ++ U.dir.drop j1).length = k + (U.dir.length - j1) := by rw [List.length_append, hl1, hl2]
        refine ⟨_, H1.out.1.putD hX1 hc3 hb3 (d' := U.dir.take k ++ U.dir.drop j1) ?_ (fun q hq => ?_)⟩
        ·rw [hl3, dcells_app]
         exact ho3
        ·rcases List.mem_append.1 hq with hq | hq
         ·exact H1.out.1.db q (List.mem_of_mem_take hq)
         ·exact H1.out.1.db q (List.mem_of_mem_drop hq)
       have HF := Go.Lib.hid (And.intro hfin ((H1.out.2.mono (fun _ _ h => h.elim)).trans hc3))
       clear hfin hc3 hb3 ho3 own15 hS inv
       go_wp2_with fail
       go_end0
       exact ⟨rfl, HF.out.1, HF.out.2⟩
 ·have hi : isD nm U.dir = false := by simpa using hi
  have hres : delR U nm = U := by
   unfold delR
   rcases hq : U.dir[posD nm U.dir]? with _ | e
   ·rfl
   ·simp only
    rw [if_neg (by rw [isD_none hi e hq]; simp)]
  rw [hres]
  rw [hi] at HA
  clear h hi hres
  generalize posD nm U.dir = k at *
  go_enter Tryz.func88, Tryz.ntmps88
  go_wp2_with fail
  refine HA.out.mono ?_
  rintro ee w1 ⟨rfl, hq⟩
  have H1 := Go.Lib.hid (And.intro (H.out.quiet hq) hq)
  clear hq
  go_wp2_with fail
  go_end0
  exact ⟨rfl, ⟨a, H1.out.1⟩, H1.out.2.mono (fun _ _ h => h.elim)⟩
end
end Go.Proofs.YtggknljlibhkjaaGreat
