import Derived.Test.YtggknljlibhkjaaGreatGClC
import Derived.Test.YtggknljlibhkjaaGreatStoreY
import Derived.Test.YtggknljlibhkjaaGreatMuch
import Derived.Deep.CutRange
import Derived.Deep.CutBlock
set_option linter.unusedSimpArgs false
set_option linter.unusedVariables false
namespace Go.Proofs.YtggknljlibhkjaaGreat
open Go Go.RowKit
structure CI (W0 W : World) (v : V) (oc : Option Nat) (og : Option Nat) : Prop where
 ch : Chg NoB W0 W
 cp : ∀ c, oc = some c → ∃ b' v' F' ρ, StoreV b' W c v' F' ∧ Sim v v' ρ ∧ (∀ k, F' k → W0.heap.size ≤ k) ∧ ∀ g, og = some g → ¬ F' g
 bx : ∀ g, og = some g → Blk W g CpT Cp.zero.arr ∧ W0.heap.size ≤ g
section
variable {W0 W W' : World} {v : V} {oc og : Option Nat}
theorem CI.quiet (h : CI W0 W v oc og) (hc : Chg NoB W W') : CI W0 W' v oc og where
 ch := h.ch.trans hc
 cp := fun c e => by obtain ⟨b', v', F', ρ, h1, h2, h3, h4⟩ := h.cp c e; exact ⟨b', v', F', ρ, h1.quiet hc, h2, h3, h4⟩
 bx := fun g e => ⟨(h.bx g e).1.chg hc id, (h.bx g e).2⟩
theorem CI.box (h : CI W0 W v oc none) : CI W0 (W.alloc (.cells Cp.zero.arr CpT)) v oc (some W.heap.size) where
 ch := h.ch.alloc _
 cp := fun c e => by
  obtain ⟨b', v', F', ρ, h1, h2, h3, h4⟩ := h.cp c e
  exact ⟨b', v', F', ρ, h1.quiet ((Chg.refl _ _).alloc _), h2, h3, fun g hg hF => by cases hg; have := h1.lt hF; omega⟩
 bx := fun g e => by cases e; exact ⟨Blk.new _ _ _, h.ch.size⟩
theorem CI.copy {c : Nat} {v' : V} {F' : Nat → Prop} {ρ : Nat → Nat} (h : CI W0 W v none og) (h1 : StoreV W.heap.size W' c v' F') (h2 : Sim v v' ρ) (hc : Chg NoB W W') : CI W0 W' v (some c) og where
 ch := h.ch.trans hc
 cp := fun c' e => by
  cases e
  exact ⟨_, v', F', ρ, h1, h2, fun k hk => Nat.le_trans h.ch.size (h1.low hk), fun g hg hF => by have := (h.bx g hg).1.lt; have := h1.low hF; omega⟩
 bx := fun g e => ⟨(h.bx g e).1.chg hc id, (h.bx g e).2⟩
end
structure D0 (d : Mc) (n : Nat) : Prop where
 ok : d.Ok
 k : d.kind = 0
 h : d.heap ≤ d.n
 nn : d.n = 256
 pc : d.c.pc = 0
 w : wordAt d.M 0 = sysW n
theorem d0_of (n : Nat) (hn : n ≤ 28) : D0 (Mc.new 256 [sysW n]) n := by
 have hb : ∀ x ∈ [sysW n], 0 ≤ x ∧ x < 4294967296 := by intro x hx; simp at hx; subst hx; unfold sysW; omega
 obtain ⟨h1, h2⟩ := mnew_ok 256 [sysW n] (by decide) (by show 1 ≤ 256 / 4; decide) hb
 refine ⟨h1, rfl, h2, rfl, rfl, ?_⟩
 show wordAt (fun i => (wb [sysW n]).getD i 0) 0 = sysW n
 simp [wordAt, wb]
 unfold sysW
 omega
def cpOf (d : Mc) (x y : Int) : Cp := { d.c with R := upd (upd d.c.R 0 x) 1 y }
theorem cpOf_R (d : Mc) (x y : Int) : (cpOf d x y).R 0 = x ∧ (cpOf d x y).R 1 = y ∧ (cpOf d x y).pc = d.c.pc := ⟨by simp [cpOf, upd], by simp [cpOf, upd], rfl⟩
abbrev Named (n : Nat) : Prop := n = 18 ∨ n = 19 ∨ n = 28
structure NS (V : World) (p mb s mm g : Nat) (d : Mc) (n a b : Nat) (nm : ByteArray) (wx : World) : Prop where
 ex : ∃ (M : Nat → Int) (x y : Nat), MAt wx p mb s mm { d with M := M } ∧ Blk wx g CpT (cpOf d x y).arr ∧ (∀ i, 0 ≤ M i ∧ M i < 256) ∧ wordAt M 0 = wordAt d.M 0 ∧ x < 4294967296 ∧ y < 4294967296 ∧ (Named n → x + y ≤ 256 ∧ cut0 nm = nameAt M x y) ∧ (¬ Named n → x = a ∧ y = b)
 ch : Chg (fun k => k = g ∨ memF p mb k) V wx
theorem mstore_c {W : World} {p mb s mm : Nat} {d : Mc} (h : MAt W p mb s mm d) : Calls Tryz.prog 9 #[.pointer (some ⟨p, 0, none⟩)] W (Quiet (.pointer (some ⟨s, 0, none⟩)) W) := by
 have HT := Go.Lib.hid (mthere_c h)
 obtain ⟨_, _, _, k24, _⟩ := h.cells
 clear h
 go_enter Tryz.func9, Tryz.ntmps9
 go_wp2_with fail
 refine HT.out.mono ?_
 rintro e w' ⟨rfl, rfl⟩
 go_wp2_with fail
 go_ret
 exact ⟨rfl, Chg.refl _ _⟩
def Cut6 (w3 : World) (v : V) (d : Mc) (v13 v14 : Value) (wx : World) : Prop := ∃ cc gg b' v' F' ρ, v13 = .pointer (some ⟨cc, 0, none⟩) ∧ v14 = .pointer (some ⟨gg, 0, none⟩) ∧ Chg NoB w3 wx ∧ StoreV b' wx cc v' F' ∧ Sim v v' ρ ∧ (∀ k, F' k → w3.heap.size ≤ k ∧ k ≠ gg) ∧ Blk wx gg CpT d.c.arr ∧ w3.heap.size ≤ gg
theorem CI.fin {w3 W : World} {v : V} {cc gg : Nat} (h : CI w3 W v (some cc) (some gg)) (d : Mc) : Cut6 w3 v d (.pointer (some ⟨cc, 0, none⟩)) (.pointer (some ⟨gg, 0, none⟩)) (W.setRow gg d.c.arr) := by
 obtain ⟨b', v', F', ρ, h1, h2, h3, h4⟩ := h.cp cc rfl
 obtain ⟨h5, h6⟩ := h.bx gg rfl
 have hc : Chg (fun k => k = gg) W (W.setRow gg d.c.arr) := (Chg.refl (fun k => k = gg) W).setRow (fun _ => rfl) _
 exact ⟨cc, gg, b', v', F', ρ, rfl, rfl, h.ch.step hc (fun k hk e => by omega), h1.chg hc (fun k hk e => h4 gg rfl (e ▸ hk)), h2, fun k hk => ⟨h3 k hk, fun e => h4 gg rfl (e ▸ hk)⟩, h5.setRow _, h6⟩
set_option maxRecDepth 100000 in
set_option maxHeartbeats 8000000 in
theorem machineCalls_go (w : World) (A : Option Addr) (L : List St) (c : Nat) (hS : StepsAt w A L) (hLm : L.length ≤ maxLen) (n : Nat) (hn : 18 ≤ n ∧ n ≤ 28) (a b : Nat) (ha : a < 4294967296) (hb : b < 4294967296) (nm : ByteArray) (hsz : nm.size ≤ 60) :
  Calls Tryz.prog 3 #[.slice A L.length c, .int .i64 n, .int .u32 a, .int .u32 b, .string nm] w (Quiet (.bool true) w) := by
 have HM := Go.Lib.hid (much_c (c := c) hS 20 (by decide) hLm)
 have HW1 : Hid (∀ W g, Blk W g InT (in_sys n).arr → Calls Tryz.prog 8 #[.slice (some ⟨g, 0, none⟩) 1 1] W (wordsPost [sysW n] W)) := Go.Lib.hid fun W g h => words1_c (in_sys n) _ (fun W => word_sys n (by omega) W) W g h
 have HBG : Hid (L.length ≤ 20 → (∀ x ∈ L, x.b.length ≤ 20000 ∧ x.nm.size ≤ 20000) → ∀ W A1 c1, Chg NoB w W → CellsAt W A1 (u32s [sysW n]) → Calls Tryz.prog 7 #[.int .i64 256, .slice A1 1 c1, .int .i64 300, .slice A L.length c] W (BPost (sysW n) W)) := Go.Lib.hid fun hL hx W A1 c1 hc hcl => begin_c W A L c (hS.chg hc) hL hx A1 c1 (sysW n) (by unfold sysW; omega) hcl
 have HK := Go.Lib.hid known_c
 have HD0 := Go.Lib.hid (d0_of n hn.2)
 have g1 : decide ((n : Int) < 18) = false := by simp; omega
 have g2 : decide ((n : Int) > 28) = false := by simp; omega
 have g3 : decide ((nm.size : Int) > 60) = false := by simp; omega
 obtain ⟨bN, hbN⟩ : ∃ b, b = decide (Named n) := ⟨_, rfl⟩
 have HbN := Go.Lib.hid hbN
 clear hS hbN
 obtain ⟨d0, hd0⟩ : ∃ d, Mc.new 256 [sysW n] = d := ⟨_, rfl⟩
 rw [hd0] at HD0
 have Hd0 := Go.Lib.hid hd0
 clear hd0
 go_enter Tryz.func3, Tryz.ntmps3
 go_wp2_with fail
 refine HM.out.mono ?_
 rintro e w1 ⟨bm, rfl, hq, hbm⟩
 have HC1 := Go.Lib.hid hq
 clear hq HM
 cases bm
 case true =>
  clear hbm
  go_wp2_with fail
  refine (HK.out _).mono ?_
  rintro e wk ⟨rfl, hq⟩
  have HQ := Go.Lib.hid (HC1.out.trans hq)
  clear hq
  go_wp2_with fail
  go_ret
  exact ⟨rfl, HQ.out⟩
 case false =>
 obtain ⟨hL, hx⟩ := hbm rfl
 have HBG := Go.Lib.hid (HBG.out hL hx)
 clear hbm hx
 go_wp2_with fail
 refine (HW1.out _ _ (Blk.new _ _ _)).mono ?_
 rintro e w2 ⟨A1, c1, rfl, hcl, hq⟩
 have HC2 := Go.Lib.hid ((HC1.out.alloc _).trans hq)
 have HBN := Go.Lib.hid (HBG.out w2 A1 c1 HC2.out hcl)
 clear hcl hq HC1 HBG HW1
 go_wp2_with fail
 refine HBN.out.mono ?_
 rintro e w3 ⟨pr, p, mb, mm, s, r, base, v, F, rfl, hpr, hms, hF, hp, hmb, hpr2, hc3⟩
 rw [Hd0.out] at hms
 have HMS := Go.Lib.hid (fun (W : World) (hc : Chg NoB w3 W) => hms.quiet hc)
 have HPR := Go.Lib.hid hpr
 have hsz2 := HC2.out.size
 have HC3 := Go.Lib.hid (HC2.out.trans hc3)
 have HLO : Hid (w.heap.size ≤ p ∧ w.heap.size ≤ mb ∧ w.heap.size ≤ pr ∧ ∀ k, F k → w.heap.size ≤ k) := Go.Lib.hid ⟨by omega, by omega, by omega, fun k hk => by have := (hF k hk).1; omega⟩
 have hlt3 := hms.m.lt
 have HNE : Hid (pr ≠ p ∧ pr ≠ mb ∧ pr ≠ mm ∧ p ≠ mb ∧ mm ≠ p ∧ mm ≠ mb ∧ ¬ F pr) := Go.Lib.hid ⟨(hpr.ne_ hms.m.m (by decide)), (hpr.ne_ hms.m.b (by decide)), fun e => hms.m.mm_ne hpr e.symm, hms.m.ne.1, hms.m.ne.2.1, hms.m.ne.2.2, fun h => (hF pr h).2 rfl⟩
 have HFL := Go.Lib.hid (fun (k : Nat) (hk : F k) => hms.s.lt hk)
 have hprl := hpr.lt
 have HL3 := Go.Lib.hid (And.intro hlt3 hprl)
 have K0 : Hid (w3.cell? ⟨pr, 0, none⟩ = some (.pointer (some ⟨p, 0, none⟩))) := Go.Lib.hid (hpr.cell 0)
 have HCP : Hid (∀ W, Chg NoB w3 W → Calls Tryz.prog 10 #[.pointer (some ⟨s, 0, none⟩)] W (fun e w' => ∃ c v' F' ρ, e = .returned (.pointer (some ⟨c, 0, none⟩)) ∧ StoreV W.heap.size w' c v' F' ∧ Sim v v' ρ ∧ StoreV base w' s v F ∧ Chg NoB W w')) := Go.Lib.hid fun W hc => copy_v (hms.s.quiet hc)
 clear hpr hms hF hp hmb hpr2 hc3 HBN HC2 hlt3 hsz2 hprl
 go_wp2_with fail
 go_cut [13, 14] from 52 to 62 (fun v13 v14 wx => Cut6 w3 v d0 v13 v14 wx)
 case first =>
  refine regionH (fun V' => Chg NoB w3 V') (by kernel_rfl) (Chg.refl NoB w3).drew (fun hS => ?_)
  have hI : CI w3 w3.drew v none none := ⟨(Chg.refl NoB w3).drew, (by intro _ h; cases h), (by intro _ h; cases h)⟩
  refine takeH (i := 0) (t := 52) (v := ?v0y11) rfl (by kernel_rfl) (fun _ _ _ h => h) rfl (Or.inl ⟨by rfl, ?h0y11⟩) hS ?r0y11
  case h0y11 => (intro V' hSw; clear hSw; go_simp; try with_reducible rfl)
  try simp only [sw1, sw2, sw3]
  refine takeH (i := 1) (t := 53) (v := ?v1y12) rfl (by kernel_rfl) (fun _ _ _ h => h) rfl (Or.inl ⟨by rfl, ?h1y12⟩) hS ?r1y12
  case h1y12 => (intro V' hSw; clear hSw; go_simp; try with_reducible rfl)
  try simp only [sw1, sw2, sw3]
  refine takeH (i := 2) (t := 54) (v := ?v2y13) rfl (by kernel_rfl) (fun _ _ _ h => h) rfl (Or.inl ⟨by rfl, ?h2y13⟩) hS ?r2y13
  case h2y13 => (intro V' hSw; clear hSw; go_simp; try with_reducible rfl)
  try simp only [sw1, sw2, sw3]
  refine takeH (i := 3) (t := 55) (v := ?v3y14) rfl (by kernel_rfl) (fun _ _ _ h => h) rfl (Or.inl ⟨by rfl, ?h3y14⟩) hS ?r3y14
  case h3y14 => (intro V' hSw; have q := cell_q hSw K0.out; clear hSw; go_simp; try with_reducible rfl)
  try simp only [sw1, sw2, sw3]
  refine takeH (i := 6) (t := 58) (v := ?v6y15) rfl (by kernel_rfl) (fun _ _ _ h => h) rfl (Or.inl ⟨by rfl, ?h6y15⟩) hS ?r6y15
  case h6y15 => (intro V' hSw; clear hSw; go_simp; try with_reducible rfl)
  try simp only [sw1, sw2, sw3]
  refine takeH (i := 7) (t := 59) (v := ?v7y16) rfl (by kernel_rfl) (fun _ _ _ h => h) rfl (Or.inl ⟨by rfl, ?h7y16⟩) hS ?r7y16
  case h7y16 => (intro V' hSw; clear hSw; go_simp; try with_reducible rfl)
  try simp only [sw1, sw2, sw3]
  refine takeH (i := 8) (t := 60) (v := ?v8y17) rfl (by kernel_rfl) (fun _ _ _ h => h) rfl (Or.inl ⟨by rfl, ?h8y17⟩) hS ?r8y17
  case h8y17 => (intro V' hSw; clear hSw; go_simp; try with_reducible rfl)
  try simp only [sw1, sw2, sw3]
  refine takeH (i := 9) (t := 61) (v := ?v9y18) rfl (by kernel_rfl) (fun _ _ _ h => h) rfl (Or.inl ⟨by rfl, ?h9y18⟩) hS ?r9y18
  case h9y18 => (intro V' hSw; have q := cell_q hSw K0.out; clear hSw; go_simp; try with_reducible rfl)
  try simp only [sw1, sw2, sw3]
  refine manyH (i := 4) (l := [11]) (by kernel_rfl) ?ho19
  case ho19 =>
   intro j hj
   simp only [List.mem_cons, List.not_mem_nil, or_false] at hj
   rcases hj with rfl | rfl
   ·
    refine opCallH (t := 56) (f := 9) (args := #[.pointer (some ⟨p, 0, none⟩)]) rfl rfl (by rfl) ?hx20 ?hc20
    case hx20 => (go_simp; try rfl)
    case hc20 =>
     refine (mstore_c (HMS.out _ hS).m).mono ?_
     rintro ee V20 ⟨rfl, hq⟩
     have hI := hI.quiet hq
     have hS := hS.trans hq
     clear hq
     refine ⟨_, rfl, hS, ?_⟩
     try simp only [sw1, sw2, sw3]
     refine manyH (i := 5) (l := [11]) (by kernel_rfl) ?ho21
     case ho21 =>
      intro j hj
      simp only [List.mem_cons, List.not_mem_nil, or_false] at hj
      rcases hj with rfl | rfl
      ·
       refine opCallH (t := 57) (f := 10) (args := #[.pointer (some ⟨s, 0, none⟩)]) rfl rfl (by rfl) ?hx22 ?hc22
       case hx22 => (go_simp; try rfl)
       case hc22 =>
        refine (HCP.out _ hS).mono ?_
        rintro ee V22 ⟨cc, v', F', ρ, rfl, h1, h2, h3, h4⟩
        have hI := hI.copy h1 h2 h4
        have hS := hS.trans h4
        clear h1 h2 h3 h4
        refine ⟨_, rfl, hS, ?_⟩
        try simp only [sw1, sw2, sw3]
        refine manyH (i := 10) (l := [11]) (by kernel_rfl) ?ho23
        case ho23 =>
         intro j hj
         simp only [List.mem_cons, List.not_mem_nil, or_false] at hj
         rcases hj with rfl | rfl
         ·
          refine opCallH (t := 62) (f := 11) (args := #[.pointer (some ⟨p, 0, none⟩)]) rfl rfl (by rfl) ?hx24 ?hc24
          case hx24 => (go_simp; try rfl)
          case hc24 =>
           refine (cpu_c (HMS.out _ hS).m).mono ?_
           rintro ee V24 ⟨rfl, hq⟩
           have hI := hI.quiet hq
           have hS := hS.trans hq
           clear hq
           refine ⟨_, rfl, hS, ?_⟩
           try simp only [sw1, sw2, sw3]
           refine manyH (i := 11) (l := []) (by kernel_rfl) ?ho25
           case ho25 =>
            intro j hj
            simp only [List.mem_cons, List.not_mem_nil, or_false] at hj
            rcases hj with rfl
            ·
             refine opValH (t := 14) (v := .pointer (some ⟨(World.heap V24).size, 0, none⟩)) (w' := World.alloc V24 (.cells Cp.zero.arr CpT)) rfl rfl (by rfl) ?hx26 (hS.alloc _) ?hn26
             case hx26 => (go_simp; try rfl)
             case hn26 =>
              have hI := hI.box
              have hS := hS.alloc (.cells Cp.zero.arr CpT)
              generalize World.alloc V24 (.cells Cp.zero.arr CpT) = V26 at hI hS ⊢
              generalize (World.heap V24).size = gg at hI ⊢
              try simp only [sw1, sw2, sw3]
              refine takeH (i := 12) (t := 13) (v := ?v12y27) rfl (by kernel_rfl) (fun _ _ _ h => h) rfl (Or.inl ⟨by rfl, ?h12y27⟩) hS ?r12y27
              case h12y27 => (intro V' hSw; clear hSw; go_simp; try with_reducible rfl)
              try simp only [sw1, sw2, sw3]
              refine storeLastH (i := 13) (w' := World.setRow V26 gg d0.c.arr) rfl (by kernel_rfl) rfl (by rfl) ?hs28 (hI.ch.setRow (fun h => absurd h (by have := (hI.bx gg rfl).2; omega)) _) (by kernel_rfl) ?hd28
              case hs28 => (refine exec_store_row 42 (.tmp 14) (.tmp 62) ?_ gg d0.c.arr ?_ ?_ (hI.bx gg rfl).1 (by kernel_rfl) (by rfl) (by kernel_rfl)) <;> rfl
              case hd28 =>
               have HF := Go.Lib.hid (hI.fin d0)
               clear hI hS
               go_wp2_with fail
               go_meet
               case rel => exact HF.out
         ·
          refine opValH (t := 14) (v := .pointer (some ⟨(World.heap V22).size, 0, none⟩)) (w' := World.alloc V22 (.cells Cp.zero.arr CpT)) rfl rfl (by rfl) ?hx29 (hS.alloc _) ?hn29
          case hx29 => (go_simp; try rfl)
          case hn29 =>
           have hI := hI.box
           have hS := hS.alloc (.cells Cp.zero.arr CpT)
           generalize World.alloc V22 (.cells Cp.zero.arr CpT) = V29 at hI hS ⊢
           generalize (World.heap V22).size = gg at hI ⊢
           try simp only [sw1, sw2, sw3]
           refine manyH (i := 10) (l := []) (by kernel_rfl) ?ho30
           case ho30 =>
            intro j hj
            simp only [List.mem_cons, List.not_mem_nil, or_false] at hj
            rcases hj with rfl
            ·
             refine opCallH (t := 62) (f := 11) (args := #[.pointer (some ⟨p, 0, none⟩)]) rfl rfl (by rfl) ?hx31 ?hc31
             case hx31 => (go_simp; try rfl)
             case hc31 =>
              refine (cpu_c (HMS.out _ hS).m).mono ?_
              rintro ee V31 ⟨rfl, hq⟩
              have hI := hI.quiet hq
              have hS := hS.trans hq
              clear hq
              refine ⟨_, rfl, hS, ?_⟩
              try simp only [sw1, sw2, sw3]
              refine takeH (i := 12) (t := 13) (v := ?v12y32) rfl (by kernel_rfl) (fun _ _ _ h => h) rfl (Or.inl ⟨by rfl, ?h12y32⟩) hS ?r12y32
              case h12y32 => (intro V' hSw; clear hSw; go_simp; try with_reducible rfl)
              try simp only [sw1, sw2, sw3]
              refine storeLastH (i := 13) (w' := World.setRow V31 gg d0.c.arr) rfl (by kernel_rfl) rfl (by rfl) ?hs33 (hI.ch.setRow (fun h => absurd h (by have := (hI.bx gg rfl).2; omega)) _) (by kernel_rfl) ?hd33
              case hs33 => (refine exec_store_row 42 (.tmp 14) (.tmp 62) ?_ gg d0.c.arr ?_ ?_ (hI.bx gg rfl).1 (by kernel_rfl) (by rfl) (by kernel_rfl)) <;> rfl
              case hd33 =>
               have HF := Go.Lib.hid (hI.fin d0)
               clear hI hS
               go_wp2_with fail
               go_meet
               case rel => exact HF.out
      ·
       refine opValH (t := 14) (v := .pointer (some ⟨(World.heap V20).size, 0, none⟩)) (w' := World.alloc V20 (.cells Cp.zero.arr CpT)) rfl rfl (by rfl) ?hx34 (hS.alloc _) ?hn34
       case hx34 => (go_simp; try rfl)
       case hn34 =>
        have hI := hI.box
        have hS := hS.alloc (.cells Cp.zero.arr CpT)
        generalize World.alloc V20 (.cells Cp.zero.arr CpT) = V34 at hI hS ⊢
        generalize (World.heap V20).size = gg at hI ⊢
        try simp only [sw1, sw2, sw3]
        refine manyH (i := 5) (l := []) (by kernel_rfl) ?ho35
        case ho35 =>
         intro j hj
         simp only [List.mem_cons, List.not_mem_nil, or_false] at hj
         rcases hj with rfl
         ·
          refine opCallH (t := 57) (f := 10) (args := #[.pointer (some ⟨s, 0, none⟩)]) rfl rfl (by rfl) ?hx36 ?hc36
          case hx36 => (go_simp; try rfl)
          case hc36 =>
           refine (HCP.out _ hS).mono ?_
           rintro ee V36 ⟨cc, v', F', ρ, rfl, h1, h2, h3, h4⟩
           have hI := hI.copy h1 h2 h4
           have hS := hS.trans h4
           clear h1 h2 h3 h4
           refine ⟨_, rfl, hS, ?_⟩
           try simp only [sw1, sw2, sw3]
           refine manyH (i := 10) (l := []) (by kernel_rfl) ?ho37
           case ho37 =>
            intro j hj
            simp only [List.mem_cons, List.not_mem_nil, or_false] at hj
            rcases hj with rfl
            ·
             refine opCallH (t := 62) (f := 11) (args := #[.pointer (some ⟨p, 0, none⟩)]) rfl rfl (by rfl) ?hx38 ?hc38
             case hx38 => (go_simp; try rfl)
             case hc38 =>
              refine (cpu_c (HMS.out _ hS).m).mono ?_
              rintro ee V38 ⟨rfl, hq⟩
              have hI := hI.quiet hq
              have hS := hS.trans hq
              clear hq
              refine ⟨_, rfl, hS, ?_⟩
              try simp only [sw1, sw2, sw3]
              refine takeH (i := 12) (t := 13) (v := ?v12y39) rfl (by kernel_rfl) (fun _ _ _ h => h) rfl (Or.inl ⟨by rfl, ?h12y39⟩) hS ?r12y39
              case h12y39 => (intro V' hSw; clear hSw; go_simp; try with_reducible rfl)
              try simp only [sw1, sw2, sw3]
              refine storeLastH (i := 13) (w' := World.setRow V38 gg d0.c.arr) rfl (by kernel_rfl) rfl (by rfl) ?hs40 (hI.ch.setRow (fun h => absurd h (by have := (hI.bx gg rfl).2; omega)) _) (by kernel_rfl) ?hd40
              case hs40 => (refine exec_store_row 42 (.tmp 14) (.tmp 62) ?_ gg d0.c.arr ?_ ?_ (hI.bx gg rfl).1 (by kernel_rfl) (by rfl) (by kernel_rfl)) <;> rfl
              case hd40 =>
               have HF := Go.Lib.hid (hI.fin d0)
               clear hI hS
               go_wp2_with fail
               go_meet
               case rel => exact HF.out
   ·
    refine opValH (t := 14) (v := .pointer (some ⟨(World.heap w3.drew).size, 0, none⟩)) (w' := World.alloc w3.drew (.cells Cp.zero.arr CpT)) rfl rfl (by rfl) ?hx41 (hS.alloc _) ?hn41
    case hx41 => (go_simp; try rfl)
    case hn41 =>
     have hI := hI.box
     have hS := hS.alloc (.cells Cp.zero.arr CpT)
     generalize World.alloc w3.drew (.cells Cp.zero.arr CpT) = V41 at hI hS ⊢
     generalize (World.heap w3.drew).size = gg at hI ⊢
     try simp only [sw1, sw2, sw3]
     refine manyH (i := 4) (l := []) (by kernel_rfl) ?ho42
     case ho42 =>
      intro j hj
      simp only [List.mem_cons, List.not_mem_nil, or_false] at hj
      rcases hj with rfl
      ·
       refine opCallH (t := 56) (f := 9) (args := #[.pointer (some ⟨p, 0, none⟩)]) rfl rfl (by rfl) ?hx43 ?hc43
       case hx43 => (go_simp; try rfl)
       case hc43 =>
        refine (mstore_c (HMS.out _ hS).m).mono ?_
        rintro ee V43 ⟨rfl, hq⟩
        have hI := hI.quiet hq
        have hS := hS.trans hq
        clear hq
        refine ⟨_, rfl, hS, ?_⟩
        try simp only [sw1, sw2, sw3]
        refine manyH (i := 5) (l := []) (by kernel_rfl) ?ho44
        case ho44 =>
         intro j hj
         simp only [List.mem_cons, List.not_mem_nil, or_false] at hj
         rcases hj with rfl
         ·
          refine opCallH (t := 57) (f := 10) (args := #[.pointer (some ⟨s, 0, none⟩)]) rfl rfl (by rfl) ?hx45 ?hc45
          case hx45 => (go_simp; try rfl)
          case hc45 =>
           refine (HCP.out _ hS).mono ?_
           rintro ee V45 ⟨cc, v', F', ρ, rfl, h1, h2, h3, h4⟩
           have hI := hI.copy h1 h2 h4
           have hS := hS.trans h4
           clear h1 h2 h3 h4
           refine ⟨_, rfl, hS, ?_⟩
           try simp only [sw1, sw2, sw3]
           refine manyH (i := 10) (l := []) (by kernel_rfl) ?ho46
           case ho46 =>
            intro j hj
            simp only [List.mem_cons, List.not_mem_nil, or_false] at hj
            rcases hj with rfl
            ·
             refine opCallH (t := 62) (f := 11) (args := #[.pointer (some ⟨p, 0, none⟩)]) rfl rfl (by rfl) ?hx47 ?hc47
             case hx47 => (go_simp; try rfl)
             case hc47 =>
              refine (cpu_c (HMS.out _ hS).m).mono ?_
              rintro ee V47 ⟨rfl, hq⟩
              have hI := hI.quiet hq
              have hS := hS.trans hq
              clear hq
              refine ⟨_, rfl, hS, ?_⟩
              try simp only [sw1, sw2, sw3]
              refine takeH (i := 12) (t := 13) (v := ?v12y48) rfl (by kernel_rfl) (fun _ _ _ h => h) rfl (Or.inl ⟨by rfl, ?h12y48⟩) hS ?r12y48
              case h12y48 => (intro V' hSw; clear hSw; go_simp; try with_reducible rfl)
              try simp only [sw1, sw2, sw3]
              refine storeLastH (i := 13) (w' := World.setRow V47 gg d0.c.arr) rfl (by kernel_rfl) rfl (by rfl) ?hs49 (hI.ch.setRow (fun h => absurd h (by have := (hI.bx gg rfl).2; omega)) _) (by kernel_rfl) ?hd49
              case hs49 => (refine exec_store_row 42 (.tmp 14) (.tmp 62) ?_ gg d0.c.arr ?_ ?_ (hI.bx gg rfl).1 (by kernel_rfl) (by rfl) (by kernel_rfl)) <;> rfl
              case hd49 =>
               have HF := Go.Lib.hid (hI.fin d0)
               clear hI hS
               go_wp2_with fail
               go_meet
               case rel => exact HF.out
 case rest =>
  obtain ⟨w4, rfl⟩ : ∃ w4, w4 = wc := ⟨wc, rfl⟩
  obtain ⟨cc, gg, b', v', F', ρ, rfl, rfl, hc4, hs4, hsim, hF', hbx, hgg⟩ := hcut
  have k0 : w4.cell? ⟨gg, 0, none⟩ = some (.int .u32 (d0.c.R 0)) := hbx.cell 0
  have k1 : w4.cell? ⟨gg, 1, none⟩ = some (.int .u32 (d0.c.R 1)) := hbx.cell 1
  have z0 := hbx.frozen 0
  have z1 := hbx.frozen 1
  have HB4 := Go.Lib.hid (And.intro hc4 (And.intro hs4 (And.intro hsim (And.intro hF' (And.intro hbx hgg)))))
  clear hc4 hs4 hsim hF' hbx hgg
  go_upto_region 8 with fail
  have hB7 : Blk ((w4.setCell ⟨gg, 0, none⟩ (.int .u32 a)).setCell ⟨gg, 1, none⟩ (.int .u32 b)) gg CpT (cpOf d0 a b).arr := (HB4.out.2.2.2.2.1.set_ 0 _).set_ 1 _
  have hC7 : Chg (fun k => k = gg) w4 ((w4.setCell ⟨gg, 0, none⟩ (.int .u32 a)).setCell ⟨gg, 1, none⟩ (.int .u32 b)) := ((Chg.refl (fun k => k = gg) w4).setCell (p := ⟨gg, 0, none⟩) (fun _ => rfl) _).setCell (p := ⟨gg, 1, none⟩) (fun _ => rfl) _
  generalize (w4.setCell ⟨gg, 0, none⟩ (.int .u32 a)).setCell ⟨gg, 1, none⟩ (.int .u32 b) = W7 at *
  have HB7 := Go.Lib.hid (And.intro hB7 hC7)
  clear hB7 hC7 k0 k1 z0 z1
  go_cut [15] from 69 to 78 (fun v15 wx => v15 = .bool bN ∧ wx = W7)
  case first =>
   by_cases h18 : n = 18
   ·subst h18
    go_wp2_with fail
    go_meet
    case rel => exact ⟨by rw [HbN.out]; rfl, rfl⟩
   by_cases h19 : n = 19
   ·subst h19
    go_wp2_with fail
    go_meet
    case rel => exact ⟨by rw [HbN.out]; rfl, rfl⟩
   by_cases h28 : n = 28
   ·subst h28
    go_wp2_with fail
    go_meet
    case rel => exact ⟨by rw [HbN.out]; rfl, rfl⟩
   have e18 : ((n : Int) == 18) = false := by simp; omega
   have e19 : ((n : Int) == 19) = false := by simp; omega
   have e28 : ((n : Int) == 28) = false := by simp; omega
   have hN : decide (Named n) = false := by simp [Named, h18, h19, h28]
   have HN := Go.Lib.hid hN
   clear h18 h19 h28 hN
   go_wp2_with fail
   go_meet
   case rel => exact ⟨by rw [HbN.out, HN.out], rfl⟩
  case rest =>
   obtain ⟨h15, hw⟩ := hcut
   subst h15
   obtain rfl := hw.symm
   clear hw
   have hgg3 := HB4.out.2.2.2.2.2
   have hl3 := HL3.out
   have HGL : Hid (p ≠ gg ∧ mb ≠ gg ∧ mm ≠ gg ∧ pr ≠ gg ∧ ∀ k, F k → k ≠ gg) := Go.Lib.hid ⟨by omega, by omega, by omega, by omega, fun k hk => by have := HFL.out k hk; omega⟩
   have HP7 : Hid (Blk W7 pr PT #[.pointer (some ⟨p, 0, none⟩), .pointer (some ⟨r, 0, none⟩)]) := Go.Lib.hid ((HPR.out.chg HB4.out.1 id).chg HB7.out.2 HGL.out.2.2.2.1)
   have HC7 : Hid (StoreV b' W7 cc v' F') := Go.Lib.hid (HB4.out.2.1.chg HB7.out.2 (fun k hk e => (HB4.out.2.2.2.1 k hk).2 e))
   clear hgg3 hl3
   have HM7 : Hid (MS W7 p mb s mm d0 v base F) := Go.Lib.hid (by
    have h3 := HMS.out _ HB4.out.1
    have hl := HL3.out
    have hg := HB4.out.2.2.2.2.2
    exact ⟨h3.m.chg HB7.out.2 (by omega) (by omega) (by omega), h3.s.chg HB7.out.2 (fun k hk e => by have := HFL.out k hk; omega), h3.ne⟩)
   go_upto_if 79 with fail
   go_cut [17] from 79 to 130 (fun v17 wx => NS W7 p mb s mm gg d0 n a b nm wx)
   case first =>
    cases bN
    ·have hnN : ¬ Named n := of_decide_eq_false HbN.out.symm
     have HF : Hid (NS W7 p mb s mm gg d0 n a b nm W7) := Go.Lib.hid ⟨⟨d0.M, a, b, HM7.out.m, HB7.out.1, HD0.out.ok.m, rfl, ha, hb, fun h => absurd h hnN, fun _ => ⟨rfl, rfl⟩⟩, Chg.refl _ _⟩
     clear hnN
     go_wp2_with fail
     go_meet
     case rel => exact HF.out
    ·have hN : Named n := of_decide_eq_true HbN.out.symm
     have HN := Go.Lib.hid hN
     clear hN
     have k0 : W7.cell? ⟨gg, 0, none⟩ = some (.int .u32 a) := HB7.out.1.cell 0
     have k1 : W7.cell? ⟨gg, 1, none⟩ = some (.int .u32 b) := HB7.out.1.cell 1
     have z0 := HB7.out.1.frozen 0
     have z1 := HB7.out.1.frozen 1
     have hs32 : (nm.size : Int) % 4294967296 = nm.size := by omega
     go_upto_region 11 with fail
     have hB10 : Blk ((W7.setCell ⟨gg, 0, none⟩ (.int .u32 64)).setCell ⟨gg, 1, none⟩ (.int .u32 nm.size)) gg CpT (cpOf d0 64 nm.size).arr := (HB7.out.1.set_ 0 _).set_ 1 _
     have hC10 : Chg (fun k => k = gg) W7 ((W7.setCell ⟨gg, 0, none⟩ (.int .u32 64)).setCell ⟨gg, 1, none⟩ (.int .u32 nm.size)) := ((Chg.refl (fun k => k = gg) W7).setCell (p := ⟨gg, 0, none⟩) (fun _ => rfl) _).setCell (p := ⟨gg, 1, none⟩) (fun _ => rfl) _
     generalize (W7.setCell ⟨gg, 0, none⟩ (.int .u32 64)).setCell ⟨gg, 1, none⟩ (.int .u32 nm.size) = W10 at *
     have HB10 := Go.Lib.hid (And.intro hB10 hC10)
     clear hB10 hC10 k0 k1 z0 z1 hs32
     have hcv := fun (W : World) (s : ByteArray) => Lib.run_convert_string_bytes (P := Tryz.prog) W 9 44 5 s Tryz.underlying9 Tryz.underlying44 Tryz.underlying5
     have Hc : Hid (∀ j, j < nm.size → (Lib.bytesWorld W10 5 nm).cell? ⟨W10.heap.size, j, none⟩ = some (.int .u8 (nb nm j))) := Go.Lib.hid fun j hj => Lib.bytesWorld_cell W10 _ nm j hj
     have Hch : Hid (Chg NoB W10 (Lib.bytesWorld W10 5 nm)) := Go.Lib.hid (bytesWorld_chg W10 _ nm)
     go_wp2_with fail
     have hs11 := Lib.bytesWorld_size W10 5 nm
     generalize hW : Lib.bytesWorld W10 5 nm = W11 at Hc Hch hs11 ⊢
     have HP11 := Go.Lib.hid ((HP7.out.chg HB10.out.2 HGL.out.2.2.2.1).chg Hch.out id)
     have HG11 := Go.Lib.hid (HB10.out.1.chg Hch.out id)
     have hg10 := HB10.out.1.lt
     have hs10 := Hch.out.size
     have hs10' := HB10.out.2.size
     have hb4 := HB4.out.1.size
     have hb7 := HB7.out.2.size
     have HSZ := Go.Lib.hid (And.intro hg10 (And.intro hs10 (And.intro hs10' (And.intro hb4 (And.intro hb7 hs11)))))
     generalize W10.heap.size = gb at *
     clear hW hcv hg10 hs10 hs10' hb4 hb7 hs11
     go_loopw [17] (fun i wr => ∃ (q : Nat) (M : Nat → Int), q ≤ nm.size + 3 ∧ q % 4 = 0 ∧ i = .int .i64 q ∧ MAt wr p mb s mm { d0 with M := M } ∧ NI d0.M M nm q ∧ Chg (memF p mb) W11 wr) (fun i _ => nm.size + 4 - (intOf i).toNat)
     case atStart => exact ⟨0, d0.M, by omega, rfl, rfl, (HM7.out.m.chg HB10.out.2 (by have := HL3.out; have := HB4.out.2.2.2.2.2; omega) (by have := HL3.out; have := HB4.out.2.2.2.2.2; omega) (by have := HL3.out; have := HB4.out.2.2.2.2.2; omega)).quiet Hch.out, ⟨HD0.out.ok.m, fun _ _ => rfl, fun _ h => absurd h (by omega)⟩, Chg.refl _ _⟩
     case round =>
      obtain ⟨q, M, hq, hq4, rfl, hm, hni, hcw⟩ := hrel
      have HR := Go.Lib.hid (And.intro hm (And.intro hni hcw))
      have hgb : gb < W11.heap.size := by have := HSZ.out; omega
      have k0 : wr.cell? ⟨pr, 0, none⟩ = some (.pointer (some ⟨p, 0, none⟩)) := (HP11.out.chg hcw (by have := HNE.out; unfold memF; omega)).cell 0
      have HGR := Go.Lib.hid (HG11.out.chg hcw (by have := HGL.out; unfold memF; omega))
      have HCB : Hid (∀ j, j < nm.size → wr.cell? ⟨gb, j, none⟩ = some (.int .u8 (nb nm j))) := Go.Lib.hid fun j hj => by
       have h1 := Hc.out j hj
       rw [World.cell?_of_block (hcw.block gb hgb (by have := HL3.out; have := HSZ.out; have := HB4.out.2.2.2.2.2; unfold memF; omega))]
       exact h1
      clear hm hni hcw hgb
      by_cases hlt : q < nm.size
      ·have hdl : decide ((q : Int) < (nm.size : Int)) = true := by simp; omega
       have HSW : Hid (Calls Tryz.prog 13 #[.pointer (some ⟨p, 0, none⟩), .int .u32 ((64 + q : Nat) : Int), .int .u32 (nw nm q)] wr (MPost p mb s mm (.int .i64 0) { d0 with M := putWord M (64 + q) (nw nm q) } wr)) := Go.Lib.hid (by
        have hok : ({ d0 with M := M } : Mc).Ok := ⟨HD0.out.ok.c, HR.out.2.1.bd, HD0.out.ok.n, HD0.out.ok.heap⟩
        have := setWord_c HR.out.1 hok (64 + q) (by omega) (nw nm q) (nw_bd nm q)
        rw [if_pos (show 64 + q < ({ d0 with M := M } : Mc).n ∧ (64 + q) % 4 = 0 from ⟨by show 64 + q < d0.n; rw [HD0.out.nn]; omega, by omega⟩)] at this
        rw [if_pos (show 64 + q < ({ d0 with M := M } : Mc).n ∧ (64 + q) % 4 = 0 from ⟨by show 64 + q < d0.n; rw [HD0.out.nn]; omega, by omega⟩)] at this
        exact this)
       obtain ⟨M2, hM2⟩ : ∃ M2, putWord M (64 + q) (nw nm q) = M2 := ⟨_, rfl⟩
       have HNI2 : Hid (NI d0.M M2 nm (q + 4)) := Go.Lib.hid (by rw [← hM2]; exact HR.out.2.1.step)
       rw [hM2, show ((64 + q : Nat) : Int) = 64 + (q : Int) by omega] at HSW
       clear hM2
       by_cases h1 : ¬ (q + 1 < nm.size)
       ·
        have kc0 : wr.cell? ⟨gb, q, none⟩ = some (.int .u8 (nb nm (q))) := HCB.out (q) (by omega)
        have kd0 : decide ((q : Int) < (nm.size : Int)) = true := by simp; omega
        have kb0 := nb_bd nm (q)
        have kd1 : decide ((q : Int) + 1 < (nm.size : Int)) = false := by simp; omega
        have hnw : nw nm q = nb nm (q) := by unfold nw; rw [nb_out nm (j := q + 1) (by omega)]; rw [nb_out nm (j := q + 2) (by omega)]; rw [nb_out nm (j := q + 3) (by omega)]; (try simp)
        have Hnw := Go.Lib.hid hnw
        clear hnw
        generalize nb nm (q) = y0 at *
        go_wp2_with fail
        refine wp_loop_rounds 6 ?_
        rw [rounds_succ]
        go_wp2_with fail
        rw [rounds_succ]
        go_wp2_with fail
        rw [Hnw.out] at HSW
        refine HSW.out.mono ?_
        rintro e w5 ⟨rfl, hm5, hc5⟩
        have H5 := Go.Lib.hid (And.intro hm5 (HR.out.2.2.trans hc5))
        clear hm5 hc5 HSW
        go_wp2_with fail
        refine (num_c 0 _).mono ?_
        rintro e w6 ⟨rfl, rfl⟩
        go_wp2_with fail
        refine ⟨⟨q + 4, M2, by omega, by omega, by go_num, H5.out.1, HNI2.out, H5.out.2⟩, by simp only [intOf]; omega⟩
       by_cases h2 : ¬ (q + 2 < nm.size)
       ·
        have kc0 : wr.cell? ⟨gb, q, none⟩ = some (.int .u8 (nb nm (q))) := HCB.out (q) (by omega)
        have kd0 : decide ((q : Int) < (nm.size : Int)) = true := by simp; omega
        have kb0 := nb_bd nm (q)
        have kc1 : wr.cell? ⟨gb, q + 1, none⟩ = some (.int .u8 (nb nm (q + 1))) := HCB.out (q + 1) (by omega)
        have kd1 : decide ((q : Int) + 1 < (nm.size : Int)) = true := by simp; omega
        have kb1 := nb_bd nm (q + 1)
        have kd2 : decide ((q : Int) + 2 < (nm.size : Int)) = false := by simp; omega
        have hnw : nw nm q = nb nm (q) + nb nm (q + 1) * 256 := by unfold nw; rw [nb_out nm (j := q + 2) (by omega)]; rw [nb_out nm (j := q + 3) (by omega)]; (try simp)
        have Hnw := Go.Lib.hid hnw
        clear hnw
        generalize nb nm (q) = y0 at *
        generalize nb nm (q + 1) = y1 at *
        go_wp2_with fail
        refine wp_loop_rounds 6 ?_
        rw [rounds_succ]
        go_wp2_with fail
        rw [rounds_succ]
        go_wp2_with fail
        rw [rounds_succ]
        go_wp2_with fail
        rw [Hnw.out] at HSW
        refine HSW.out.mono ?_
        rintro e w5 ⟨rfl, hm5, hc5⟩
        have H5 := Go.Lib.hid (And.intro hm5 (HR.out.2.2.trans hc5))
        clear hm5 hc5 HSW
        go_wp2_with fail
        refine (num_c 0 _).mono ?_
        rintro e w6 ⟨rfl, rfl⟩
        go_wp2_with fail
        refine ⟨⟨q + 4, M2, by omega, by omega, by go_num, H5.out.1, HNI2.out, H5.out.2⟩, by simp only [intOf]; omega⟩
       by_cases h3 : ¬ (q + 3 < nm.size)
       ·
        have kc0 : wr.cell? ⟨gb, q, none⟩ = some (.int .u8 (nb nm (q))) := HCB.out (q) (by omega)
        have kd0 : decide ((q : Int) < (nm.size : Int)) = true := by simp; omega
        have kb0 := nb_bd nm (q)
        have kc1 : wr.cell? ⟨gb, q + 1, none⟩ = some (.int .u8 (nb nm (q + 1))) := HCB.out (q + 1) (by omega)
        have kd1 : decide ((q : Int) + 1 < (nm.size : Int)) = true := by simp; omega
        have kb1 := nb_bd nm (q + 1)
        have kc2 : wr.cell? ⟨gb, q + 2, none⟩ = some (.int .u8 (nb nm (q + 2))) := HCB.out (q + 2) (by omega)
        have kd2 : decide ((q : Int) + 2 < (nm.size : Int)) = true := by simp; omega
        have kb2 := nb_bd nm (q + 2)
        have kd3 : decide ((q : Int) + 3 < (nm.size : Int)) = false := by simp; omega
        have hnw : nw nm q = nb nm (q) + nb nm (q + 1) * 256 + nb nm (q + 2) * 65536 := by unfold nw; rw [nb_out nm (j := q + 3) (by omega)]; (try simp)
        have Hnw := Go.Lib.hid hnw
        clear hnw
        generalize nb nm (q) = y0 at *
        generalize nb nm (q + 1) = y1 at *
        generalize nb nm (q + 2) = y2 at *
        go_wp2_with fail
        refine wp_loop_rounds 6 ?_
        rw [rounds_succ]
        go_wp2_with fail
        rw [rounds_succ]
        go_wp2_with fail
        rw [rounds_succ]
        go_wp2_with fail
        rw [rounds_succ]
        go_wp2_with fail
        rw [Hnw.out] at HSW
        refine HSW.out.mono ?_
        rintro e w5 ⟨rfl, hm5, hc5⟩
        have H5 := Go.Lib.hid (And.intro hm5 (HR.out.2.2.trans hc5))
        clear hm5 hc5 HSW
        go_wp2_with fail
        refine (num_c 0 _).mono ?_
        rintro e w6 ⟨rfl, rfl⟩
        go_wp2_with fail
        refine ⟨⟨q + 4, M2, by omega, by omega, by go_num, H5.out.1, HNI2.out, H5.out.2⟩, by simp only [intOf]; omega⟩
       have kc0 : wr.cell? ⟨gb, q, none⟩ = some (.int .u8 (nb nm (q))) := HCB.out (q) (by omega)
       have kd0 : decide ((q : Int) < (nm.size : Int)) = true := by simp; omega
       have kb0 := nb_bd nm (q)
       have kc1 : wr.cell? ⟨gb, q + 1, none⟩ = some (.int .u8 (nb nm (q + 1))) := HCB.out (q + 1) (by omega)
       have kd1 : decide ((q : Int) + 1 < (nm.size : Int)) = true := by simp; omega
       have kb1 := nb_bd nm (q + 1)
       have kc2 : wr.cell? ⟨gb, q + 2, none⟩ = some (.int .u8 (nb nm (q + 2))) := HCB.out (q + 2) (by omega)
       have kd2 : decide ((q : Int) + 2 < (nm.size : Int)) = true := by simp; omega
       have kb2 := nb_bd nm (q + 2)
       have kc3 : wr.cell? ⟨gb, q + 3, none⟩ = some (.int .u8 (nb nm (q + 3))) := HCB.out (q + 3) (by omega)
       have kd3 : decide ((q : Int) + 3 < (nm.size : Int)) = true := by simp; omega
       have kb3 := nb_bd nm (q + 3)
       have hnw : nw nm q = nb nm (q) + nb nm (q + 1) * 256 + nb nm (q + 2) * 65536 + nb nm (q + 3) * 16777216 := by unfold nw; (try simp)
       have Hnw := Go.Lib.hid hnw
       clear hnw
       generalize nb nm (q) = y0 at *
       generalize nb nm (q + 1) = y1 at *
       generalize nb nm (q + 2) = y2 at *
       generalize nb nm (q + 3) = y3 at *
       go_wp2_with fail
       refine wp_loop_rounds 6 ?_
       rw [rounds_succ]
       go_wp2_with fail
       rw [rounds_succ]
       go_wp2_with fail
       rw [rounds_succ]
       go_wp2_with fail
       rw [rounds_succ]
       go_wp2_with fail
       rw [rounds_succ]
       go_wp2_with fail
       rw [Hnw.out] at HSW
       refine HSW.out.mono ?_
       rintro e w5 ⟨rfl, hm5, hc5⟩
       have H5 := Go.Lib.hid (And.intro hm5 (HR.out.2.2.trans hc5))
       clear hm5 hc5 HSW
       go_wp2_with fail
       refine (num_c 0 _).mono ?_
       rintro e w6 ⟨rfl, rfl⟩
       go_wp2_with fail
       refine ⟨⟨q + 4, M2, by omega, by omega, by go_num, H5.out.1, HNI2.out, H5.out.2⟩, by simp only [intOf]; omega⟩
      ·have hdl : decide ((q : Int) < (nm.size : Int)) = false := by simp; omega
       have HF : Hid (NS W7 p mb s mm gg d0 n a b nm wr) := Go.Lib.hid ⟨⟨M, 64, nm.size, HR.out.1, HGR.out, HR.out.2.1.bd, HR.out.2.1.word, by omega, by omega, fun _ => ⟨by omega, (HR.out.2.1.name (by omega)).symm⟩, fun h => absurd HN.out h⟩,
        ((HB10.out.2.mono fun k _ e => .inl e).trans (Hch.out.mono fun _ _ h => h.elim)).trans (HR.out.2.2.mono fun k _ e => .inr e)⟩
       clear k0
       go_wp2_with fail
       go_meet
       case rel => exact HF.out
   case rest =>
    obtain ⟨w8, rfl⟩ : ∃ w8, w8 = wc := ⟨wc, rfl⟩
    obtain ⟨⟨M, x, y, hm, hbk, hbd, hw0, hx, hy, hnamed, hplain⟩, hch⟩ := hcut
    have HM8 : Hid (MS w8 p mb s mm { d0 with M := M } v base F) := Go.Lib.hid ⟨hm, HM7.out.s.chg hch (fun k hk e => by have h1 := HGL.out.2.2.2.2 k hk; have h2 := HM7.out.ne k hk; unfold memF at e; omega), HM7.out.ne⟩
    have HC8 : Hid (StoreV b' w8 cc v' F') := Go.Lib.hid (HC7.out.chg hch (fun k hk e => by have h1 := HB4.out.2.2.2.1 k hk; have h2 := HL3.out; unfold memF at e; omega))
    have HP8 := Go.Lib.hid (HP7.out.chg hch (by have := HGL.out; have := HNE.out; unfold memF; omega))
    obtain ⟨c2, hc2⟩ : ∃ c2, cpOf d0 x y = c2 := ⟨_, rfl⟩
    have hR0 : c2.R 0 = x := by rw [← hc2]; exact (cpOf_R d0 x y).1
    have hR1 : c2.R 1 = y := by rw [← hc2]; exact (cpOf_R d0 x y).2.1
    have hpc2 : c2.pc = 0 := by rw [← hc2, (cpOf_R d0 x y).2.2]; exact HD0.out.pc
    have hok2 : c2.Ok := by
     rw [← hc2]
     refine ⟨fun i => ?_, HD0.out.ok.c.h, HD0.out.ok.c.pc⟩
     have := HD0.out.ok.c.r i
     unfold cpOf upd
     simp only
     split
     ·omega
     ·split
      ·omega
      ·exact this
    rw [hc2] at hbk
    have HD8 : Hid (({ d0 with M := M, c := c2 } : Mc).Ok ∧ wordAt M 0 = sysW n ∧ c2.R 0 = x ∧ c2.R 1 = y ∧ c2.pc = 0 ∧ x < 4294967296 ∧ y < 4294967296 ∧ (Named n → x + y ≤ 256 ∧ cut0 nm = nameAt M x y) ∧ (¬ Named n → x = a ∧ y = b)) := Go.Lib.hid ⟨⟨hok2, hbd, HD0.out.ok.n, HD0.out.ok.heap⟩, by rw [hw0]; exact HD0.out.w, hR0, hR1, hpc2, hx, hy, hnamed, hplain⟩
    have HB8 := Go.Lib.hid hbk
    have HS8 : Hid (w8.drew.cell? ⟨pr, 0, none⟩ = some (.pointer (some ⟨p, 0, none⟩)) ∧ Blk w8.drew gg CpT c2.arr) := Go.Lib.hid ⟨HP8.out.cell 0, hbk⟩
    have HSC : Hid (Calls Tryz.prog 14 #[.pointer (some ⟨p, 0, none⟩), .agg c2.arr] w8.drew (MPost p mb s mm (.int .i64 0) { d0 with M := M, c := c2 } w8.drew)) := Go.Lib.hid (setCpu_c (hm.quiet (Chg.refl NoB w8).drew) c2)
    have hxx := hx
    have HW8 : Hid (Chg NoB w w8) := Go.Lib.hid (((HC3.out.trans HB4.out.1).step HB7.out.2 (fun k hk e => by have h1 := HC3.out.size; have h2 := HB4.out.2.2.2.2.2; omega)).step hch (fun k hk e => by have h1 := HC3.out.size; have h2 := HB4.out.2.2.2.2.2; have h3 := HLO.out; unfold memF at e; omega))
    clear hm hbk hbd hw0 hx hy hnamed hplain hch hc2 hR0 hR1 hpc2 hok2
    go_wp2_with fail
    refine regionH (fun V' => V'.cell? ⟨pr, 0, none⟩ = some (.pointer (some ⟨p, 0, none⟩)) ∧ Blk V' gg CpT c2.arr) (by kernel_rfl) HS8.out (fun hS => ?_)
    refine takeH (i := 0) (t := 131) (v := ?v0y1) rfl (by kernel_rfl) (fun _ _ _ h => h) rfl (Or.inl ⟨by rfl, ?h0y1⟩) hS ?r0y1
    case h0y1 => (intro V' hSw; clear hSw; go_simp; try with_reducible rfl)
    try simp only [sw1, sw2, sw3]
    refine takeH (i := 1) (t := 132) (v := ?v1y2) rfl (by kernel_rfl) (fun _ _ _ h => h) rfl (Or.inl ⟨by rfl, ?h1y2⟩) hS ?r1y2
    case h1y2 => (intro V' hSw; clear hSw; go_simp; try with_reducible rfl)
    try simp only [sw1, sw2, sw3]
    refine takeH (i := 2) (t := 133) (v := ?v2y3) rfl (by kernel_rfl) (fun _ _ _ h => h) rfl (Or.inl ⟨by rfl, ?h2y3⟩) hS ?r2y3
    case h2y3 => (intro V' hSw; clear hSw; go_simp; try with_reducible rfl)
    try simp only [sw1, sw2, sw3]
    refine takeH (i := 3) (t := 134) (v := ?v3y4) rfl (by kernel_rfl) (fun _ _ _ h => h) rfl (Or.inl ⟨by rfl, ?h3y4⟩) hS ?r3y4
    case h3y4 => (intro V' hSw; have q := hSw.1; clear hSw; go_simp; try with_reducible rfl)
    try simp only [sw1, sw2, sw3]
    refine takeH (i := 4) (t := 135) (v := .agg c2.arr) rfl (by kernel_rfl) (fun _ _ _ h => h) rfl (Or.inl ⟨by rfl, ?h4y5⟩) hS ?r4y5
    case h4y5 => (intro V' hSw; (refine exec_load_row 42 (.tmp 14) ?_ gg ?_ hSw.2 Tryz.underlying42 rfl (by kernel_rfl)) <;> rfl)
    try simp only [sw1, sw2, sw3]
    refine manyH (i := 5) (l := []) (by kernel_rfl) ?hm
    case hm =>
     intro j hj
     obtain rfl : j = 5 := by simpa using hj
     refine opCallH (t := 136) (f := 14) (args := #[.pointer (some ⟨p, 0, none⟩), .agg c2.arr]) rfl rfl (by rfl) ?hx ?hc
     case hx => (go_simp; try rfl)
     case hc =>
      refine HSC.out.mono ?_
      rintro ee w9 ⟨rfl, hm9, hc9⟩
      have hS : w9.cell? ⟨pr, 0, none⟩ = some (.pointer (some ⟨p, 0, none⟩)) ∧ Blk w9 gg CpT c2.arr := ⟨((HP8.out.chg (Chg.refl NoB w8).drew id).chg hc9 (by have := HNE.out; unfold memF; omega)).cell 0, hS.2.chg hc9 (by have := HGL.out; unfold memF; omega)⟩
      have H9 := Go.Lib.hid (And.intro hm9 (show Chg (memF p mb) w8 w9 from ((Chg.refl (memF p mb) w8).drew).trans hc9))
      clear hm9 hc9
      refine ⟨_, rfl, hS, ?_⟩
      try simp only [sw1, sw2, sw3]
      refine manyH (i := 6) (l := []) (by kernel_rfl) ?hm
      case hm =>
       intro j hj
       obtain rfl : j = 6 := by simpa using hj
       refine opCallH (t := 137) (f := 12) (args := #[.int .i64 0]) rfl rfl (by rfl) ?hx ?hc
       case hx => (go_simp; try rfl)
       case hc =>
        refine (num_c 0 _).mono ?_
        rintro ee wq ⟨rfl, hq9⟩
        obtain rfl := hq9.symm
        clear hq9
        refine ⟨_, rfl, hS, ?_⟩
        try simp only [sw1, sw2, sw3]
        refine takeH (i := 7) (t := 138) (v := .bool false) rfl (by kernel_rfl) (fun _ _ _ h => h) rfl (Or.inl ⟨by rfl, ?h7y6⟩) hS ?r7y6
        case h7y6 => (intro V' hSw; clear hSw; go_simp; try simp)
        try simp only [sw1, sw2, sw3]
        refine takeH (i := 8) (t := 139) (v := ?v8y7) rfl (by kernel_rfl) (fun _ _ _ h => h) rfl (Or.inl ⟨by rfl, ?h8y7⟩) hS ?r8y7
        case h8y7 => (intro V' hSw; clear hSw; go_simp; try with_reducible rfl)
        try simp only [sw1, sw2, sw3]
        refine takeH (i := 9) (t := 140) (v := ?v9y8) rfl (by kernel_rfl) (fun _ _ _ h => h) rfl (Or.inl ⟨by rfl, ?h9y8⟩) hS ?r9y8
        case h9y8 => (intro V' hSw; clear hSw; go_simp; try with_reducible rfl)
        try simp only [sw1, sw2, sw3]
        refine takeH (i := 10) (t := 141) (v := ?v10y9) rfl (by kernel_rfl) (fun _ _ _ h => h) rfl (Or.inl ⟨by rfl, ?h10y9⟩) hS ?r10y9
        case h10y9 => (intro V' hSw; clear hSw; go_simp; try with_reducible rfl)
        try simp only [sw1, sw2, sw3]
        refine takeH (i := 11) (t := 142) (v := ?v11y10) rfl (by kernel_rfl) (fun _ _ _ h => h) rfl (Or.inl ⟨by rfl, ?h11y10⟩) hS ?r11y10
        case h11y10 => (intro V' hSw; clear hSw; go_simp; try with_reducible rfl)
        try simp only [sw1, sw2, sw3]
        refine wpAnyH_done (by kernel_rfl) ?_ _
        have HS9 := Go.Lib.hid hS
        clear hS HSC HS8
        have hcs := callF_sim HB4.out.2.2.1 HM7.out.s.good.toVOk HC7.out.good.toVOk n hn (sg (a : Int)) b (cut0 nm)
        have hcx : callF v n (sg (a : Int)) b (cut0 nm) = callF v n (sg (x : Int)) y (cut0 nm) := by
         by_cases hN : Named n
         ·exact callF_named v hN _ _ _ _ _
         ·obtain ⟨h1, h2⟩ := HD8.out.2.2.2.2.2.2.2.2 hN
          rw [h1, h2]
        rw [hcx] at hcs
        have hst9 : Hid (MS w9 p mb s mm { d0 with M := M, c := c2 } v base F) := Go.Lib.hid ⟨H9.out.1, HM8.out.s.chg H9.out.2 (fun k hk e => by have h2 := HM7.out.ne k hk; unfold memF at e; omega), HM8.out.ne⟩
        have HST := Go.Lib.hid (stepn_c hst9.out HD8.out.1 HD0.out.k HD0.out.h HD8.out.2.2.2.2.1 n hn HD8.out.2.1 x y HD8.out.2.2.1 HD8.out.2.2.2.1 HD8.out.2.2.2.2.2.1 HD8.out.2.2.2.2.2.2.1 (cut0 nm) (fun hN => by
         obtain ⟨h1, h2⟩ := HD8.out.2.2.2.2.2.2.2.1 hN
         exact ⟨by show x + y ≤ d0.n; rw [HD0.out.nn]; exact h1, h2⟩))
        have HC9 : Hid (StoreV b' w9 cc v' F') := Go.Lib.hid (HC8.out.chg H9.out.2 (fun k hk e => by have h1 := HB4.out.2.2.2.1 k hk; have h2 := HL3.out; unfold memF at e; omega))
        have HCL : Hid (∀ W, StoreV b' W cc v' F' → Calls Tryz.prog 16 #[.pointer (some ⟨cc, 0, none⟩), .int .i64 n, .int .u32 a, .int .u32 b, .string (cut0 nm)] W (VPost b' cc F' (.tuple #[.int .u32 (callF v n (sg (x : Int)) y (cut0 nm)).1, .bool (callF v n (sg (x : Int)) y (cut0 nm)).2.1]) (callF v' n (sg (a : Int)) b (cut0 nm)).2.2 W)) := Go.Lib.hid fun W h => by
         have := call_c h n hn (a : Int) (by omega) b hb (cut0 nm) (by have := cut0_size nm; unfold maxLen; omega)
         rw [hcs.1, hcs.2.1] at this
         exact this
        obtain ⟨ρ2, hsim2⟩ := hcs.2.2
        have HS2 := Go.Lib.hid hsim2
        have hfull : n < 24 → (callF v n (sg (x : Int)) y (cut0 nm)).2.1 = false := fun h => callF_full v hn.1 h _ _ _
        generalize callF v n (sg (x : Int)) y (cut0 nm) = R at *
        obtain ⟨wt, fu, v1⟩ := R
        generalize (callF v' n (sg (a : Int)) b (cut0 nm)).2.2 = v1' at *
        simp only at hfull HS2 HCL HST
        clear hcs hcx hsim2
        obtain ⟨D, hD⟩ : ∃ D, afterF { ({ d0 with M := M, c := c2 } : Mc) with c := { c2 with pc := 1 } } n (wt, fu, v1) = D := ⟨_, rfl⟩
        have hDk : decide (D.kind = 0) = !fu := by
         rw [← hD]
         unfold afterF
         by_cases h24 : n < 24
         ·rw [if_pos h24, hfull h24]
          show decide (d0.kind = 0) = true
          simp [HD0.out.k]
         ·rw [if_neg h24]
          cases fu
          ·rw [if_neg Bool.false_ne_true]
           show decide (d0.kind = 0) = true
           simp [HD0.out.k]
          ·rw [if_pos rfl]
           rfl
        have hDR : ∀ i, 1 ≤ i → i < 16 → D.c.R i = c2.R i := fun i h1 h2 => by
         rw [← hD]
         unfold afterF
         split
         ·show upd c2.R 0 wt i = _
          unfold upd
          rw [if_neg (by omega)]
         ·split <;> rfl
        have hD0 : D.c.R 0 = if n < 24 then wt else (x : Int) := by
         rw [← hD]
         unfold afterF
         split
         ·show upd c2.R 0 wt 0 = _
          simp [upd]
         ·split
          ·exact HD8.out.2.2.1
          ·exact HD8.out.2.2.1
        have HST2 : Hid (Calls Tryz.prog 15 #[.pointer (some ⟨p, 0, none⟩)] w9 (fun e w1 => e = .returned (.bool (!fu)) ∧ MAt w1 p mb s mm D ∧ SE p mb mm s base F v1 w9 w1)) := Go.Lib.hid (by
         have := HST.out
         rw [← hDk, ← hD]
         exact this)
        have HDR := Go.Lib.hid (And.intro hDR hD0)
        clear HST hD hDk hDR hD0
        have kp := HS9.out.1
        have HUP := Go.Lib.hid (fun (W : World) => upTo_c nm (by unfold maxLen; omega) W)
        go_wp2_with fail
        refine HST2.out.mono ?_
        rintro e w10 ⟨rfl, hm10, F1, hs10, hne10, hch10, hsub10⟩
        have hC10 : StoreV b' w10 cc v' F' := HC9.out.chg hch10 (fun k hk e => by have h1 := HB4.out.2.2.2.1 k hk; have h2 := HL3.out; rcases e with e | e; have := HFL.out k e; omega; unfold memF at e; omega)
        have hP10 : Blk w10 pr PT #[.pointer (some ⟨p, 0, none⟩), .pointer (some ⟨r, 0, none⟩)] := (HP8.out.chg H9.out.2 (by have := HNE.out; unfold memF; omega)).chg hch10 (fun e => e.elim HNE.out.2.2.2.2.2.2 (by have := HNE.out; unfold memF; omega))
        have hG10 : Blk w10 gg CpT c2.arr := HS9.out.2.chg hch10 (fun e => by have h1 := HGL.out; rcases e with e | e; exact h1.2.2.2.2 _ e rfl; unfold memF at e; omega)
        have HX10 : Hid (MAt w10 p mb s mm D ∧ StoreV base w10 s v1 F1 ∧ (∀ k, F1 k → k ≠ p ∧ k ≠ mb ∧ k ≠ mm) ∧ StoreV b' w10 cc v' F' ∧ Blk w10 pr PT #[.pointer (some ⟨p, 0, none⟩), .pointer (some ⟨r, 0, none⟩)] ∧ Blk w10 gg CpT c2.arr ∧ (∀ k, F1 k → ¬ F' k) ∧ Chg NoB w w10) := Go.Lib.hid ⟨hm10, hs10, hne10, hC10, hP10, hG10, fun k hk hF => by
          have h9 := HC9.out.lt hF
          have h1 := HFL.out k (hsub10 k hk h9)
          have h2 := (HB4.out.2.2.2.1 k hF).1
          omega, (HW8.out.step H9.out.2 (fun k hk e => by have h3 := HLO.out; unfold memF at e; omega)).step hch10 (fun k hk e => by have h3 := HLO.out; rcases e with e | e; have := h3.2.2.2 k e; omega; unfold memF at e; omega)⟩
        clear kp HST2 hm10 hs10 hne10 hch10 hsub10 hC10 hP10 hG10
        have k0 : w10.cell? ⟨gg, 0, none⟩ = some (.int .u32 x) := by
         have := HX10.out.2.2.2.2.2.1.cell 0
         rw [this, ← HD8.out.2.2.1]
         rfl
        go_wp2_with fail
        refine (HUP.out _).mono ?_
        rintro e w11 ⟨rfl, hq⟩
        have HQ11 := Go.Lib.hid hq
        clear hq HUP
        go_wp2_with fail
        refine (HCL.out _ (HX10.out.2.2.2.1.quiet HQ11.out)).mono ?_
        rintro e w12 ⟨rfl, F2, hs12, hch12, hsub12⟩
        have HX12 : Hid (MAt w12 p mb s mm D ∧ StoreV base w12 s v1 F1 ∧ StoreV b' w12 cc v1' F2 ∧ Blk w12 pr PT #[.pointer (some ⟨p, 0, none⟩), .pointer (some ⟨r, 0, none⟩)] ∧ Blk w12 gg CpT c2.arr ∧ Chg NoB w w12) := Go.Lib.hid (by
         have hl := HL3.out
         have hF' := HB4.out.2.2.2.1
         have h3 := HC3.out.size
         exact ⟨(HX10.out.1.quiet HQ11.out).chg hch12 (fun e => by have := hF' _ e; omega) (fun e => by have := hF' _ e; omega) (fun e => by have := hF' _ e; omega), (HX10.out.2.1.quiet HQ11.out).chg hch12 (fun k hk e => HX10.out.2.2.2.2.2.2.1 k hk e), hs12,
          (HX10.out.2.2.2.2.1.chg HQ11.out id).chg hch12 (fun e => by have := hF' _ e; omega), (HX10.out.2.2.2.2.2.1.chg HQ11.out id).chg hch12 (fun e => (hF' _ e).2 rfl), (HX10.out.2.2.2.2.2.2.2.trans HQ11.out).step hch12 (fun k hk e => by have := hF' _ e; omega)⟩)
        clear hs12 hch12 hsub12 k0 HCL
        have kp : w12.cell? ⟨pr, 0, none⟩ = some (.pointer (some ⟨p, 0, none⟩)) := HX12.out.2.2.2.1.cell 0
        have HCU := Go.Lib.hid (cpu_c HX12.out.1)
        go_wp2_with fail
        refine HCU.out.mono ?_
        rintro e w13 ⟨rfl, hq⟩
        have HQ13 := Go.Lib.hid hq
        have HB13 := Go.Lib.hid (fun cs => (Blk.new w13 CpT cs))
        clear hq HCU kp
        unfold Cp.val
        go_upto_region 27 with (first
         | (refine wpList_store_row rfl 42 (.tmp 23) (.tmp 162) rfl w13.heap.size D.c.arr rfl rfl CpT Cp.zero.arr (HB13.out _) (by kernel_rfl) (by rfl) (by kernel_rfl) ?_))
        have hB14 : Blk ((w13.alloc (.cells Cp.zero.arr CpT)).setRow w13.heap.size D.c.arr) w13.heap.size CpT D.c.arr := (HB13.out _).setRow _
        have hC14 : Chg NoB w13 ((w13.alloc (.cells Cp.zero.arr CpT)).setRow w13.heap.size D.c.arr) := ((Chg.refl NoB w13).alloc _).setRow (fun h => absurd h (by omega)) _
        change (Code.wp _ _ _ _ ((w13.alloc (.cells Cp.zero.arr CpT)).setRow w13.heap.size D.c.arr))
        generalize (w13.alloc (.cells Cp.zero.arr CpT)).setRow w13.heap.size D.c.arr = W14 at *
        generalize w13.heap.size = g2 at *
        have H14 := Go.Lib.hid (And.intro hB14 (HQ13.out.trans hC14))
        clear hB14 hC14 HB13
        go_upto_if 164 with fail
        go_cut [21] from 163 to 167 (fun v21 wx => v21 = .int .u32 (D.c.R 0) ∧ wx = W14)
        case first =>
         by_cases h24 : n < 24
         ·have hd24 : decide ((n : Int) ≥ 24) = false := by simp; omega
          have hd25 : decide ((24 : Int) ≤ (n : Int)) = false := by simp; omega
          have hd26 : (n : Int) < 24 := by omega
          have hd27 : ¬ (24 : Int) ≤ (n : Int) := by omega
          have H24 := Go.Lib.hid h24
          clear h24
          go_wp2_with fail
          go_meet
          case rel => exact ⟨by rw [HDR.out.2, if_pos H24.out], rfl⟩
         ·have hd24 : decide ((n : Int) ≥ 24) = true := by simp; omega
          have hd25 : decide ((24 : Int) ≤ (n : Int)) = true := by simp; omega
          have hd26 : ¬ (n : Int) < 24 := by omega
          have hd27 : (24 : Int) ≤ (n : Int) := by omega
          have H24 := Go.Lib.hid h24
          clear h24
          have k0 : W14.cell? ⟨gg, 0, none⟩ = some (.int .u32 x) := by
           have := (HX12.out.2.2.2.2.1.chg H14.out.2 id).cell 0
           rw [this, ← HD8.out.2.2.1]
           rfl
          go_wp2_with fail
          go_meet
          case rel => exact ⟨by rw [HDR.out.2, if_neg H24.out], rfl⟩
        case rest =>
         obtain ⟨h21, hw⟩ := hcut
         subst h21
         obtain rfl := hw.symm
         clear hw
         have HSA : Hid (∀ W, Chg NoB W14 W → Calls Tryz.prog 18 #[.pointer (some ⟨s, 0, none⟩), .pointer (some ⟨cc, 0, none⟩)] W (Quiet (.bool true) W)) := Go.Lib.hid fun W hW => same_v (HX12.out.2.1.quiet (H14.out.2.trans hW)) (Eqv.refl v1) (HX12.out.2.2.1.quiet (H14.out.2.trans hW)) HS2.out
         have HR1 : Hid (∀ W, Chg NoB W14 W → Calls Tryz.prog 19 #[.pointer (some ⟨s, 0, none⟩)] W (Quiet (.int .i64 (v1.rd.length : Nat)) W)) := Go.Lib.hid fun W hW => riders_q (HX12.out.2.1.quiet (H14.out.2.trans hW))
         have HR2 : Hid (∀ W, Chg NoB W14 W → Calls Tryz.prog 19 #[.pointer (some ⟨cc, 0, none⟩)] W (Quiet (.int .i64 (v1.rd.length : Nat)) W)) := Go.Lib.hid fun W hW => by
          have := riders_q (HX12.out.2.2.1.quiet (H14.out.2.trans hW))
          rw [HS2.out.rd, List.length_map] at this
          exact this
         have HSTO : Hid (∀ W, Chg NoB W14 W → Calls Tryz.prog 9 #[.pointer (some ⟨p, 0, none⟩)] W (Quiet (.pointer (some ⟨s, 0, none⟩)) W)) := Go.Lib.hid fun W hW => mstore_c (HX12.out.1.quiet (H14.out.2.trans hW))
         have HPP : Hid (∀ W, Chg NoB W14 W → W.cell? ⟨pr, 0, none⟩ = some (.pointer (some ⟨p, 0, none⟩))) := Go.Lib.hid fun W hW => (HX12.out.2.2.2.1.chg (H14.out.2.trans hW) id).cell 0
         have HCC : Hid (∀ W, Chg NoB W14 W → ∀ k, k < 16 → W.cell? ⟨g2, k, none⟩ = some (.int .u32 (D.c.R k)) ∧ W.cell? ⟨gg, k, none⟩ = some (.int .u32 (c2.R k))) := Go.Lib.hid fun W hW k hk => ⟨((H14.out.1.chg hW id).cell k).trans (D.c.reg hk), ((HX12.out.2.2.2.2.1.chg (H14.out.2.trans hW) id).cell k).trans (c2.reg hk)⟩
         have HW14 : Hid (Chg NoB w W14) := Go.Lib.hid (HX12.out.2.2.2.2.2.trans H14.out.2)
         generalize v1.rd.length = rl at *
         go_wp2_with fail
         go_loopw [24] (fun i wr => ∃ k : Nat, 1 ≤ k ∧ k ≤ 16 ∧ i = .int .i64 k ∧ Chg NoB W14 wr) (fun i _ => 16 - (intOf i).toNat)
         case atStart => exact ⟨1, by omega, by omega, rfl, Chg.refl _ _⟩
         case round =>
          obtain ⟨k, hk1, hk, rfl, hcw⟩ := hrel
          have HCW := Go.Lib.hid hcw
          clear hcw
          by_cases hlt : k < 16
          ·obtain ⟨q1, q2⟩ := HCC.out _ HCW.out k hlt
           rw [HDR.out.1 k hk1 hlt] at q1
           have hdl : decide ((k : Int) < 16) = true := by simp; omega
           go_wp2_with fail
           go_quiet (fail)
           go_wp2_with fail
           refine ⟨⟨k + 1, by omega, by omega, by go_num, HCW.out.drewN _⟩, by simp only [intOf]; omega⟩
          ·have hdl : decide ((k : Int) < 16) = false := by simp; omega
           obtain ⟨q1, _⟩ := HCC.out _ HCW.out 0 (by decide)
           have kp := HPP.out _ HCW.out
           cases fu
           ·
            go_wp2_with fail
            refine (HSTO.out _ HCW.out).mono ?_
            rintro e x1 ⟨rfl, hq⟩
            have HE1 := Go.Lib.hid (HCW.out.trans hq)
            clear hq kp q1
            have kp := HPP.out _ HE1.out
            go_wp2_with fail
            refine (HSA.out _ HE1.out).mono ?_
            rintro e x2 ⟨rfl, hq⟩
            have HE2 := Go.Lib.hid (HE1.out.trans hq)
            clear hq kp
            have kp := HPP.out _ HE2.out
            go_wp2_with fail
            refine (HSTO.out _ HE2.out).mono ?_
            rintro e x3 ⟨rfl, hq⟩
            have HE3 := Go.Lib.hid (HE2.out.trans hq)
            clear hq kp
            go_wp2_with fail
            refine (HR1.out _ HE3.out).mono ?_
            rintro e x4 ⟨rfl, hq⟩
            have HE4 := Go.Lib.hid (HE3.out.trans hq)
            clear hq
            go_wp2_with fail
            refine (HR2.out _ HE4.out).mono ?_
            rintro e x5 ⟨rfl, hq⟩
            have HE5 := Go.Lib.hid (HE4.out.trans hq)
            clear hq
            go_wp2_with fail
            refine (HK.out _).mono ?_
            rintro e x6 ⟨rfl, hq⟩
            have HE6 := Go.Lib.hid ((HW14.out.trans HE5.out).trans hq)
            clear hq
            go_wp2_with fail
            go_ret
            exact ⟨rfl, HE6.out⟩
           ·
            go_wp2_with fail
            refine (HSTO.out _ HCW.out).mono ?_
            rintro e x1 ⟨rfl, hq⟩
            have HE1 := Go.Lib.hid (HCW.out.trans hq)
            clear hq kp q1
            have kp := HPP.out _ HE1.out
            go_wp2_with fail
            refine (HSA.out _ HE1.out).mono ?_
            rintro e x2 ⟨rfl, hq⟩
            have HE2 := Go.Lib.hid (HE1.out.trans hq)
            clear hq kp
            have kp := HPP.out _ HE2.out
            go_wp2_with fail
            refine (HSTO.out _ HE2.out).mono ?_
            rintro e x3 ⟨rfl, hq⟩
            have HE3 := Go.Lib.hid (HE2.out.trans hq)
            clear hq kp
            go_wp2_with fail
            refine (HR1.out _ HE3.out).mono ?_
            rintro e x4 ⟨rfl, hq⟩
            have HE4 := Go.Lib.hid (HE3.out.trans hq)
            clear hq
            go_wp2_with fail
            refine (HR2.out _ HE4.out).mono ?_
            rintro e x5 ⟨rfl, hq⟩
            have HE5 := Go.Lib.hid (HE4.out.trans hq)
            clear hq
            go_wp2_with fail
            refine (HK.out _).mono ?_
            rintro e x6 ⟨rfl, hq⟩
            have HE6 := Go.Lib.hid ((HW14.out.trans HE5.out).trans hq)
            clear hq
            go_wp2_with fail
            go_ret
            exact ⟨rfl, HE6.out⟩
set_option maxRecDepth 100000 in
set_option maxHeartbeats 4000000 in
theorem machineCalls_skip (w : World) (A : Option Addr) (L : List St) (c : Nat) (hS : StepsAt w A L) (hLm : L.length ≤ maxLen) (n : Int) (a b : Int) (nm : ByteArray) (hsk : n < 18 ∨ 28 < n ∨ 60 < nm.size) :
  Calls Tryz.prog 3 #[.slice A L.length c, .int .i64 n, .int .u32 a, .int .u32 b, .string nm] w (Quiet (.bool true) w) := by
 have HM := Go.Lib.hid (much_c (c := c) hS 20 (by decide) hLm)
 have HK := Go.Lib.hid known_c
 clear hS
 have hc : n < 18 ∨ (¬ n < 18 ∧ 28 < n) ∨ (¬ n < 18 ∧ ¬ 28 < n ∧ 60 < nm.size) := by omega
 clear hsk
 rcases hc with h1 | ⟨h1, h2⟩ | ⟨h1, h2, h3⟩
 ·
  have g1 : decide (n < 18) = true := by simpa using h1
  clear h1
  go_enter Tryz.func3, Tryz.ntmps3
  go_wp2_with fail
  refine HM.out.mono ?_
  rintro e w1 ⟨bm, rfl, hq, -⟩
  have HC1 := Go.Lib.hid hq
  clear hq HM
  cases bm
  ·
   go_wp2_with fail
   refine (HK.out _).mono ?_
   rintro e wk ⟨rfl, hq⟩
   have HQ := Go.Lib.hid (HC1.out.trans hq)
   clear hq
   go_wp2_with fail
   go_ret
   exact ⟨rfl, HQ.out⟩
  ·
   go_wp2_with fail
   refine (HK.out _).mono ?_
   rintro e wk ⟨rfl, hq⟩
   have HQ := Go.Lib.hid (HC1.out.trans hq)
   clear hq
   go_wp2_with fail
   go_ret
   exact ⟨rfl, HQ.out⟩
 ·
  have g1 : decide (n < 18) = false := by simpa using h1
  have g2 : decide (n > 28) = true := by simpa using h2
  clear h1 h2
  go_enter Tryz.func3, Tryz.ntmps3
  go_wp2_with fail
  refine HM.out.mono ?_
  rintro e w1 ⟨bm, rfl, hq, -⟩
  have HC1 := Go.Lib.hid hq
  clear hq HM
  cases bm
  ·
   go_wp2_with fail
   refine (HK.out _).mono ?_
   rintro e wk ⟨rfl, hq⟩
   have HQ := Go.Lib.hid (HC1.out.trans hq)
   clear hq
   go_wp2_with fail
   go_ret
   exact ⟨rfl, HQ.out⟩
  ·
   go_wp2_with fail
   refine (HK.out _).mono ?_
   rintro e wk ⟨rfl, hq⟩
   have HQ := Go.Lib.hid (HC1.out.trans hq)
   clear hq
   go_wp2_with fail
   go_ret
   exact ⟨rfl, HQ.out⟩
 ·
  have g1 : decide (n < 18) = false := by simpa using h1
  have g2 : decide (n > 28) = false := by simpa using h2
  have g3 : decide ((nm.size : Int) > 60) = true := by simp; omega
  clear h1 h2 h3
  go_enter Tryz.func3, Tryz.ntmps3
  go_wp2_with fail
  refine HM.out.mono ?_
  rintro e w1 ⟨bm, rfl, hq, -⟩
  have HC1 := Go.Lib.hid hq
  clear hq HM
  cases bm
  ·
   go_wp2_with fail
   refine (HK.out _).mono ?_
   rintro e wk ⟨rfl, hq⟩
   have HQ := Go.Lib.hid (HC1.out.trans hq)
   clear hq
   go_wp2_with fail
   go_ret
   exact ⟨rfl, HQ.out⟩
  ·
   go_wp2_with fail
   refine (HK.out _).mono ?_
   rintro e wk ⟨rfl, hq⟩
   have HQ := Go.Lib.hid (HC1.out.trans hq)
   clear hq
   go_wp2_with fail
   go_ret
   exact ⟨rfl, HQ.out⟩
end Go.Proofs.YtggknljlibhkjaaGreat
