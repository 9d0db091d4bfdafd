/- What is proved: the walk of the law MachineNew, where a machine is made. Conditions: as each theorem says. -/
import Derived.Test.YtggknljlibhkjaaGreatRnD
import Derived.Test.YtggknljlibhkjaaGreatLawRow
set_option linter.unusedSimpArgs false
set_option linter.unusedVariables false
namespace Go.Proofs.YtggknljlibhkjaaGreat
open Go Go.RowKit
/-- both machines, and their stores, side by side -/
structure NB (base : Nat) (w W : World) (p mb s mm r rmb rs pr : Nat) (d e : Mc) (F : Nat → Prop) : Prop where
  hm : MAt W p mb s mm d
  hr : RMAt W r rmb (.pointer (some ⟨rs, 0, none⟩)) e
  hs : StoreV base W s ⟨10, [], [], []⟩ F
  hrs : Blk W rs R2T (r2arr 10)
  hpr : Blk W pr PT #[.pointer (some ⟨p, 0, none⟩), .pointer (some ⟨r, 0, none⟩)]
  chg : Chg NoB w W
  lo : w.heap.size ≤ p ∧ w.heap.size ≤ mb ∧ w.heap.size ≤ rmb
  f : ¬ F p ∧ ¬ F mb ∧ ¬ F rmb
  n1 : r ≠ p ∧ r ≠ mb ∧ rs ≠ p ∧ rs ≠ mb ∧ pr ≠ p ∧ pr ≠ mb ∧ rmb ≠ p ∧ rmb ≠ mb ∧ mm ≠ rmb
  n2 : r ≠ rmb ∧ rs ≠ rmb ∧ pr ≠ rmb
section
variable {base : Nat} {w W W' : World} {p mb s mm r rmb rs pr : Nat} {d e d' : Mc} {F : Nat → Prop}
theorem NB.quiet (h : NB base w W p mb s mm r rmb rs pr d e F) (hc : Chg NoB W W') : NB base w W' p mb s mm r rmb rs pr d e F :=
  ⟨h.hm.quiet hc, h.hr.quiet hc, h.hs.quiet hc, h.hrs.chg hc id, h.hpr.chg hc id, h.chg.trans hc, h.lo, h.f, h.n1, h.n2⟩
theorem NB.mem (h : NB base w W p mb s mm r rmb rs pr d e F) (hm : MAt W' p mb s mm d') (hc : Chg (memF p mb) W W') : NB base w W' p mb s mm r rmb rs pr d' e F := by
  have h1 := h.n1
  have hl := h.lo
  have hf := h.f
  refine ⟨hm, h.hr.chg hc (by unfold memF; omega) (by unfold memF; omega), h.hs.chg hc (fun k hk hx => ?_), h.hrs.chg hc (by unfold memF; omega), h.hpr.chg hc (by unfold memF; omega), h.chg.step hc (fun i hi hx => by unfold memF at hx; omega), h.lo, h.f, h.n1, h.n2⟩
  rcases hx with rfl | rfl
  · exact hf.1 hk
  · exact hf.2.1 hk
theorem NB.ref (h : NB base w W p mb s mm r rmb rs pr d e F) (i : Nat) (x : Int) : NB base w (W.setCell ⟨rmb, i, none⟩ (.int .u8 x)) p mb s mm r rmb rs pr d { e with M := upd e.M i x } F := by
  have h1 := h.n1
  have h2 := h.n2
  have hl := h.lo
  have hf := h.f
  have hc : Chg (fun k => k = rmb) W (W.setCell ⟨rmb, i, none⟩ (.int .u8 x)) := (Chg.refl (fun k => k = rmb) W).setCell (p := ⟨rmb, i, none⟩) (fun _ => rfl) _
  refine ⟨h.hm.chg hc (by omega) (by omega) (by omega), ⟨h.hr.m.far (p := ⟨rmb, i, none⟩) h2.1 _, ?_⟩, h.hs.chg hc (fun k hk hx => by subst hx; exact hf.2.2 hk), h.hrs.chg hc (by omega), h.hpr.chg hc (by omega), h.chg.setCell (p := ⟨rmb, i, none⟩) (fun hx => by simp at hx; omega) _, h.lo, h.f, h.n1, h.n2⟩
  rw [← memArr_set]
  exact h.hr.b.set_ i _
end
def putK (M : Nat → Int) (p : Nat) (x : Int) : Nat → Nat → Int
  | 0 => M
  | k + 1 => upd (putK M p x k) (p + k) ((wb [x]).getD k 0)
theorem putK4 (M : Nat → Int) (p : Nat) (x : Int) : putK M p x 4 = putWord M p x := rfl
set_option maxRecDepth 100000 in
set_option maxHeartbeats 8000000 in
theorem new_A (w : World) (n : Nat) (A : Option Addr) (c : Nat) (zs : List Nat) (pl x : Nat) (hn : 64 ≤ n ∧ n ≤ 16777216 ∧ n % 4 = 0) (h0 : zs.length ≤ 3000) (h1 : n ≤ 65536) (h2 : zs.length ≤ n / 4) (hp : pl < 4294967296) (hx : x < 4294967296) (h4 : pl < n) (h5 : pl % 4 = 0) (hz : ∀ z ∈ zs, z < 4294967296) (hc : CellsAt w A (wv32 zs)) :
    Calls Tryz.prog 4 #[.int .i64 n, .slice A zs.length c, .int .u32 pl, .int .u32 x] w (Quiet (.bool true) w) := by
  have HM := Go.Lib.hid (fun W => may_c n W)
  have HM : Hid (∀ W, Calls Tryz.prog 22 #[.int .i64 n] W (Still (.bool true) W)) := Go.Lib.hid fun W => by
    have := HM.out W
    rw [decide_eq_true (show 64 ≤ (n : Int) ∧ (n : Int) ≤ 16777216 ∧ (n : Int) % 4 = 0 by omega)] at this
    exact this
  have HK := Go.Lib.hid known_c
  have hl : (zs.map fun (z : Nat) => (z : Int)).length = zs.length := by simp
  have hb : ∀ y ∈ zs.map (fun (z : Nat) => (z : Int)), 0 ≤ y ∧ y < 4294967296 := fun y hy => by
    obtain ⟨z, hz', rfl⟩ := List.mem_map.1 hy
    have := hz z hz'
    omega
  have hcc : CellsAt w A (u32s (zs.map fun (z : Nat) => (z : Int))) := by
    have : u32s (zs.map fun (z : Nat) => (z : Int)) = wv32 zs := by simp [u32s, wv32]
    rw [this]; exact hc
  have HN := Go.Lib.hid (new_v 10 (by decide) w)
  have hlz : (zs.map fun (z : Nat) => (z : Int)).length ≤ n / 4 := by rw [hl]; exact h2
  have HO := Go.Lib.hid (mnew_ok n (zs.map fun (z : Nat) => (z : Int)) hn hlz hb).1
  generalize hlE : (zs.map fun (z : Nat) => (z : Int)) = l at *
  have HMN : Hid (∀ (W : World) (s : Nat) (F : Nat → Prop), StoreV w.heap.size W s ⟨10, [], [], []⟩ F → Chg NoB w W → Calls Tryz.prog 21 #[.int .i64 n, .slice A zs.length c, .pointer (some ⟨s, 0, none⟩)] W (MNewPost s n l w.heap.size ⟨10, [], [], []⟩ F W)) := Go.Lib.hid fun W s F h hq => by
    have := mnew_c h n A c l hn hlz hb (hcc.chg hq (fun _ _ => id))
    rw [hl] at this
    exact this
  have HRN : Hid (∀ (W : World) (sp : Option Addr), Chg NoB w W → Calls Tryz.prog 23 #[.int .i64 n, .slice A zs.length c, .pointer sp] W (RNewPost n l (.pointer sp) W)) := Go.Lib.hid fun W sp hq => by
    have := rnew_c W n A c l sp hn hlz hb (hcc.chg hq (fun _ _ => id))
    rw [hl] at this
    exact this
  have g0 : decide ((zs.length : Int) > 3000) = false := by simp; omega
  have g1 : decide ((n : Int) > 65536) = false := by simp; omega
  have g4 : decide ((n : Int) / 4 < (zs.length : Int)) = false := by simp; omega
  have g5 : decide ((pl : Int) ≥ (n : Int)) = false := by simp; omega
  have g6 : decide ((pl : Int) < (n : Int)) = true := by simp; omega
  have g7 : ((pl : Int) % 4 != 0) = false := by
    have : (pl : Int) % 4 = 0 := by omega
    rw [this]; rfl
  clear hl hb hcc hc hz hlz hlE
  unfold ptr at HN
  go_enter Tryz.func4, Tryz.ntmps4
  go_wp2_with fail
  refine HN.out.mono ?_
  rintro e w1 ⟨s, F, rfl, hS, hc1⟩
  have H1 := Go.Lib.hid (And.intro hS hc1)
  clear hS hc1 HN
  go_wp2_with fail
  refine (HMN.out _ _ _ H1.out.1 H1.out.2).mono ?_
  rintro e w2 ⟨p, mb, mm, rfl, hm, hS3, hc3, hpp, hmb, hmm⟩
  have hsz := H1.out.2.size
  have hFlt : ∀ k, F k → k < w1.heap.size := fun k hk => H1.out.1.lt hk
  have H2 := Go.Lib.hid (And.intro hm (And.intro hS3 (H1.out.2.trans hc3)))
  have hlt := hm.lt
  clear hm hS3 hc3 H1 HMN
  go_wp2_with fail
  refine (HM.out _).mono ?_
  rintro e w' ⟨rfl, he⟩
  obtain rfl := he.symm
  clear he
  go_wp2_with fail
  refine (num_c _ _).mono ?_
  rintro e wn1 ⟨rfl, hen⟩
  obtain rfl := hen.symm
  clear hen
  go_wp2_with fail
  have hq2 : Chg NoB w2 (w2.alloc (.cells (r2arr 10) R2T)) := (Chg.refl _ _).alloc _
  have hb2 : Blk (w2.alloc (.cells (r2arr 10) R2T)) w2.heap.size R2T (r2arr 10) := Blk.new _ _ _
  have hz2 : (w2.alloc (.cells (r2arr 10) R2T)).heap.size = w2.heap.size + 1 := by simp
  change Calls _ _ _ (w2.alloc (.cells (r2arr 10) R2T)) _
  have HR1 := Go.Lib.hid (HRN.out (w2.alloc (.cells (r2arr 10) R2T)) (some ⟨w2.heap.size, 0, none⟩) (H2.out.2.2.trans hq2))
  generalize w2.alloc (.cells (r2arr 10) R2T) = w3 at *
  refine HR1.out.mono ?_
  rintro e w4 ⟨r, rmb, rfl, hrm, hq4, hr1, hr2⟩
  have hq24 := hq2.trans hq4
  have hltr := hrm.m.lt
  have hltb := hrm.b.lt
  have hrne : r ≠ rmb := hrm.m.ne_ hrm.b (by decide)
  have hNB : NB w.heap.size w (w4.alloc (.cells #[.pointer (some ⟨p, 0, none⟩), .pointer (some ⟨r, 0, none⟩)] PT)) p mb s mm r rmb w2.heap.size w4.heap.size (Mc.new n l) (Mc.new n l) F := by
    have hA : Chg NoB w4 (w4.alloc (.cells #[.pointer (some ⟨p, 0, none⟩), .pointer (some ⟨r, 0, none⟩)] PT)) := (Chg.refl _ _).alloc _
    refine ⟨(H2.out.1.quiet hq24).quiet hA, hrm.quiet hA, (H2.out.2.1.quiet hq24).quiet hA, (hb2.chg hq4 id).chg hA id, Blk.new _ _ _, (H2.out.2.2.trans hq24).trans hA, ⟨by omega, by omega, by omega⟩, ⟨fun h => by have := hFlt _ h; omega, fun h => by have := hFlt _ h; omega, fun h => by have := hFlt _ h; omega⟩, ⟨by omega, by omega, by omega, by omega, by omega, by omega, by omega, by omega, by omega⟩, ⟨hrne, by omega, by omega⟩⟩
  generalize hprE : w4.heap.size = pr at *
  generalize hrsE : w2.heap.size = rs at *
  clear HR1 hq2 hb2 hz2 hrm hq4 hr1 hr2 hq24 hltr hltb hrne H2 hlt hsz hFlt hmb hmm hpp
  go_upto_region 12 with fail
  change (Code.wp _ _ _ _ (w4.alloc (.cells #[.pointer (some ⟨p, 0, none⟩), .pointer (some ⟨r, 0, none⟩)] PT)))
  generalize w4.alloc (.cells #[.pointer (some ⟨p, 0, none⟩), .pointer (some ⟨r, 0, none⟩)] PT) = W5 at *
  have HB := Go.Lib.hid hNB
  have HWd := Go.Lib.hid (word_c hNB.hm HO.out pl hp)
  rw [if_pos (show pl < (Mc.new n l).n ∧ pl % 4 = 0 from ⟨h4, h5⟩)] at HWd
  clear hNB
  go_wp2_with fail
  refine HWd.out.mono ?_
  rintro e w6 ⟨rfl, hq⟩
  have HB6 := Go.Lib.hid (HB.out.quiet hq)
  have HBy := Go.Lib.hid (byte_c HB6.out.hm HO.out pl hp)
  rw [if_pos (show pl < (Mc.new n l).n from h4)] at HBy
  clear hq HWd HB
  go_wp2_with fail
  refine HBy.out.mono ?_
  rintro e w7 ⟨rfl, hq⟩
  have HB7 := Go.Lib.hid (HB6.out.quiet hq)
  have HSw := Go.Lib.hid (setWord_c HB7.out.hm HO.out pl hp x (by omega))
  rw [if_pos (show pl < (Mc.new n l).n ∧ pl % 4 = 0 from ⟨h4, h5⟩)] at HSw
  rw [if_pos (show pl < (Mc.new n l).n ∧ pl % 4 = 0 from ⟨h4, h5⟩)] at HSw
  clear hq HBy HB6
  go_wp2_with fail
  refine HSw.out.mono ?_
  rintro e w8 ⟨rfl, hm8, hc8⟩
  have HB8 : Hid (NB w.heap.size w w8 p mb s mm r rmb rs pr { Mc.new n l with M := putWord (Mc.new n l).M pl x } (Mc.new n l) F) := Go.Lib.hid (HB7.out.mem hm8 hc8)
  clear hm8 hc8 HSw HB7
  generalize hxE : wordAt (Mc.new n l).M pl = xw at *
  have HXE := Go.Lib.hid hxE
  clear hxE
  obtain ⟨by0, hbyE⟩ : ∃ y, (Mc.new n l).M pl = y := ⟨_, rfl⟩
  rw [hbyE]
  have HBE := Go.Lib.hid hbyE
  clear hbyE
  have q1 : w8.cell? ⟨pr, 1, none⟩ = some (.pointer (some ⟨r, 0, none⟩)) := by rw [HB8.out.hpr.cell 1]; rfl
  go_wp2_with fail
  refine (rword_c HB8.out.hr HO.out.m hn.2.1 pl (show pl + 4 ≤ n by omega)).mono ?_
  rintro e w9 ⟨rfl, hq⟩
  have HB9 := Go.Lib.hid (HB8.out.quiet hq)
  rw [HXE.out]
  clear hq q1 HB8
  go_wp2_with fail
  have HRX := Go.Lib.hid (rnew_c (w9.alloc (.cells #[.int .u32 x] 23)) n (some ⟨w9.heap.size, 0, none⟩) 1 [(x : Int)] none hn (by simp; omega) (fun y hy => by simp at hy; omega) (cells_of_blk (Blk.new w9 _ _)))
  refine HRX.out.mono ?_
  rintro e w10 ⟨r2, rmb2, rfl, hr2, hq, hl1, hl2⟩
  have hqa := ((Chg.refl NoB w9).alloc (.cells #[.int .u32 x] 23)).trans hq
  have HB10 := Go.Lib.hid (HB9.out.quiet hqa)
  have HR2 := Go.Lib.hid hr2
  have hrl := HB9.out.hr.b.lt
  have hsz9 : (w9.alloc (.cells #[.int .u32 x] 23)).heap.size = w9.heap.size + 1 := by simp
  rw [hsz9] at hl1 hl2
  have hne1 : r2 ≠ rmb := by omega
  have hne2 : rmb2 ≠ rmb := by omega
  clear hr2 hq hqa HRX HB9 hsz9
  go_wp2_with fail
  go_loopw [23] (fun v23 wr => ∃ i : Nat, i ≤ 4 ∧ v23 = .int .i64 i ∧ NB w.heap.size w wr p mb s mm r rmb rs pr { Mc.new n l with M := putWord (Mc.new n l).M pl x } { Mc.new n l with M := putK (Mc.new n l).M pl x i } F ∧ RMAt wr r2 rmb2 (.pointer none) (Mc.new n [(x : Int)])) (fun v23 _ => 4 - (intOf v23).toNat)
  case atStart => exact ⟨0, Nat.zero_le _, rfl, HB10.out, HR2.out⟩
  case round =>
    clear HB10 HR2
    obtain ⟨i, hi, rfl, hB, hR⟩ := hrel
    have HBi := Go.Lib.hid hB
    have HRi := Go.Lib.hid hR
    by_cases hlt : i < 4
    · have hd4 : decide ((i : Int) < 4) = true := by simp; omega
      have hin : i < n := by omega
      have hpi : pl + i < n := by omega
      have Kc : Hid (wr.cell? ⟨pr, 1, none⟩ = some (.pointer (some ⟨r, 0, none⟩)) ∧ wr.cell? ⟨r, 22, none⟩ = some (.slice (some ⟨rmb, 0, none⟩) n n) ∧ wr.cell? ⟨r2, 22, none⟩ = some (.slice (some ⟨rmb2, 0, none⟩) n n) ∧ wr.cell? ⟨rmb2, i, none⟩ = some (.int .u8 ((wb [(x : Int)]).getD i 0))) :=
        Go.Lib.hid ⟨by rw [hB.hpr.cell 1]; rfl, by rw [hB.hr.m.cell 22]; rfl, by rw [hR.m.cell 22]; rfl, hR.byte (i := i) hin⟩
      have hwp : IntKind.i64.wrap (pl : Int) = pl := by rw [IntKind.wrap_i64]; omega
      have hwi : IntKind.i64.wrap ((pl : Int) + (i : Int)) = ((pl + i : Nat) : Int) := by rw [IntKind.wrap_i64]; omega
      have crm : wr.cell? ⟨rmb, pl + i, none⟩ = some (.int .u8 (putK (Mc.new n l).M pl x i (pl + i))) := hB.hr.byte (i := pl + i) hpi
      have zrm := hB.hr.b.frozen (pl + i)
      have HNX : Hid (NB w.heap.size w (wr.setCell ⟨rmb, pl + i, none⟩ (.int .u8 ((wb [(x : Int)]).getD i 0))) p mb s mm r rmb rs pr { Mc.new n l with M := putWord (Mc.new n l).M pl x } { Mc.new n l with M := putK (Mc.new n l).M pl x (i + 1) } F ∧ RMAt (wr.setCell ⟨rmb, pl + i, none⟩ (.int .u8 ((wb [(x : Int)]).getD i 0))) r2 rmb2 (.pointer none) (Mc.new n [(x : Int)])) :=
        Go.Lib.hid ⟨hB.ref (pl + i) _, hR.chg ((Chg.refl (fun k => k = rmb) wr).setCell (p := ⟨rmb, pl + i, none⟩) (fun _ => rfl) _) hne1 hne2⟩
      clear hB hR
      generalize putK (Mc.new n l).M pl x i (pl + i) = old at *
      generalize pl + i = j at *
      generalize (wb [(x : Int)]).getD i 0 = bi at *
      go_wp2_with fail
      refine regionT 19 (fun V' => Chg NoB wr V') (by kernel_rfl) (by decide) ((Chg.refl NoB wr).drew) (fun inv hHeld => ?_)
      refine takeT (i := 0) (t := 130) (v := ?v0y1) rfl (by kernel_rfl) (by kernel_rfl) (by kernel_rfl) (fun _ _ _ h => h) (by kernel_rfl) (by kernel_rfl) (by decide) (by decide) rfl (Or.inl ⟨by rfl, ?h0y1⟩) inv hHeld ?r0y1
      case h0y1 => (intro V' hSw; clear hSw; go_simp; try with_reducible rfl)
      clear inv
      intro inv
      try simp only [List.setIfInBounds_toArray, List.set_cons_zero, List.set_cons_succ]
      refine takeT (i := 1) (t := 131) (v := ?v1y2) rfl (by kernel_rfl) (by kernel_rfl) (by kernel_rfl) (fun _ _ _ h => h) (by kernel_rfl) (by kernel_rfl) (by decide) (by decide) rfl (Or.inl ⟨by rfl, ?h1y2⟩) inv hHeld ?r1y2
      case h1y2 => (intro V' hSw; clear hSw; go_simp; try with_reducible rfl)
      clear inv
      intro inv
      try simp only [List.setIfInBounds_toArray, List.set_cons_zero, List.set_cons_succ]
      refine takeT (i := 2) (t := 132) (v := ?v2y3) rfl (by kernel_rfl) (by kernel_rfl) (by kernel_rfl) (fun _ _ _ h => h) (by kernel_rfl) (by kernel_rfl) (by decide) (by decide) rfl (Or.inl ⟨by rfl, ?h2y3⟩) inv hHeld ?r2y3
      case h2y3 => (intro V' hSw; clear hSw; go_simp; try with_reducible rfl)
      clear inv
      intro inv
      try simp only [List.setIfInBounds_toArray, List.set_cons_zero, List.set_cons_succ]
      refine takeT (i := 3) (t := 133) (v := ?v3y4) rfl (by kernel_rfl) (by kernel_rfl) (by kernel_rfl) (fun _ _ _ h => h) (by kernel_rfl) (by kernel_rfl) (by decide) (by decide) rfl (Or.inl ⟨by rfl, ?h3y4⟩) inv hHeld ?r3y4
      case h3y4 => (intro V' hSw; have q := cellq hSw Kc.out.1; clear hSw; go_simp; try with_reducible rfl)
      clear inv
      intro inv
      try simp only [List.setIfInBounds_toArray, List.set_cons_zero, List.set_cons_succ]
      refine takeT (i := 4) (t := 134) (v := ?v4y5) rfl (by kernel_rfl) (by kernel_rfl) (by kernel_rfl) (fun _ _ _ h => h) (by kernel_rfl) (by kernel_rfl) (by decide) (by decide) rfl (Or.inl ⟨by rfl, ?h4y5⟩) inv hHeld ?r4y5
      case h4y5 => (intro V' hSw; clear hSw; go_simp; try with_reducible rfl)
      clear inv
      intro inv
      try simp only [List.setIfInBounds_toArray, List.set_cons_zero, List.set_cons_succ]
      refine takeT (i := 5) (t := 135) (v := ?v5y6) rfl (by kernel_rfl) (by kernel_rfl) (by kernel_rfl) (fun _ _ _ h => h) (by kernel_rfl) (by kernel_rfl) (by decide) (by decide) rfl (Or.inl ⟨by rfl, ?h5y6⟩) inv hHeld ?r5y6
      case h5y6 => (intro V' hSw; clear hSw; go_simp; try with_reducible rfl)
      clear inv
      intro inv
      try simp only [List.setIfInBounds_toArray, List.set_cons_zero, List.set_cons_succ]
      refine takeT (i := 6) (t := 136) (v := ?v6y7) rfl (by kernel_rfl) (by kernel_rfl) (by kernel_rfl) (fun _ _ _ h => h) (by kernel_rfl) (by kernel_rfl) (by decide) (by decide) rfl (Or.inl ⟨by rfl, ?h6y7⟩) inv hHeld ?r6y7
      case h6y7 => (intro V' hSw; have q := cellq hSw Kc.out.2.1; clear hSw; go_simp; try with_reducible rfl)
      clear inv
      intro inv
      try simp only [List.setIfInBounds_toArray, List.set_cons_zero, List.set_cons_succ]
      refine takeT (i := 7) (t := 137) (v := ?v7y8) rfl (by kernel_rfl) (by kernel_rfl) (by kernel_rfl) (fun _ _ _ h => h) (by kernel_rfl) (by kernel_rfl) (by decide) (by decide) rfl (Or.inl ⟨by rfl, ?h7y8⟩) inv hHeld ?r7y8
      case h7y8 => (intro V' hSw; clear hSw; go_simp; try with_reducible rfl)
      clear inv
      intro inv
      try simp only [List.setIfInBounds_toArray, List.set_cons_zero, List.set_cons_succ]
      refine takeT (i := 8) (t := 138) (v := .int .i64 (pl : Int)) rfl (by kernel_rfl) (by kernel_rfl) (by kernel_rfl) (fun _ _ _ h => h) (by kernel_rfl) (by kernel_rfl) (by decide) (by decide) rfl (Or.inl ⟨by rfl, ?h8y9⟩) inv hHeld ?r8y9
      case h8y9 => (intro V' hSw; clear hSw; go_simp; try simp only [hwp])
      clear inv
      intro inv
      try simp only [List.setIfInBounds_toArray, List.set_cons_zero, List.set_cons_succ]
      refine takeT (i := 9) (t := 139) (v := ?v9y10) rfl (by kernel_rfl) (by kernel_rfl) (by kernel_rfl) (fun _ _ _ h => h) (by kernel_rfl) (by kernel_rfl) (by decide) (by decide) rfl (Or.inl ⟨by rfl, ?h9y10⟩) inv hHeld ?r9y10
      case h9y10 => (intro V' hSw; clear hSw; go_simp; try with_reducible rfl)
      clear inv
      intro inv
      try simp only [List.setIfInBounds_toArray, List.set_cons_zero, List.set_cons_succ]
      refine takeT (i := 10) (t := 140) (v := .int .i64 (j : Int)) rfl (by kernel_rfl) (by kernel_rfl) (by kernel_rfl) (fun _ _ _ h => h) (by kernel_rfl) (by kernel_rfl) (by decide) (by decide) rfl (Or.inl ⟨by rfl, ?h10y11⟩) inv hHeld ?r10y11
      case h10y11 => (intro V' hSw; clear hSw; go_simp; try simp only [hwi])
      clear inv
      intro inv
      try simp only [List.setIfInBounds_toArray, List.set_cons_zero, List.set_cons_succ]
      refine takeT (i := 11) (t := 141) (v := ?v11y12) rfl (by kernel_rfl) (by kernel_rfl) (by kernel_rfl) (fun _ _ _ h => h) (by kernel_rfl) (by kernel_rfl) (by decide) (by decide) rfl (Or.inl ⟨by rfl, ?h11y12⟩) inv hHeld ?r11y12
      case h11y12 => (intro V' hSw; clear hSw; go_simp; try with_reducible rfl)
      clear inv
      intro inv
      try simp only [List.setIfInBounds_toArray, List.set_cons_zero, List.set_cons_succ]
      refine takeT (i := 12) (t := 142) (v := ?v12y13) rfl (by kernel_rfl) (by kernel_rfl) (by kernel_rfl) (fun _ _ _ h => h) (by kernel_rfl) (by kernel_rfl) (by decide) (by decide) rfl (Or.inl ⟨by rfl, ?h12y13⟩) inv hHeld ?r12y13
      case h12y13 => (intro V' hSw; clear hSw; go_simp; try with_reducible rfl)
      clear inv
      intro inv
      try simp only [List.setIfInBounds_toArray, List.set_cons_zero, List.set_cons_succ]
      refine takeT (i := 13) (t := 143) (v := ?v13y14) rfl (by kernel_rfl) (by kernel_rfl) (by kernel_rfl) (fun _ _ _ h => h) (by kernel_rfl) (by kernel_rfl) (by decide) (by decide) rfl (Or.inl ⟨by rfl, ?h13y14⟩) inv hHeld ?r13y14
      case h13y14 => (intro V' hSw; clear hSw; go_simp; try with_reducible rfl)
      clear inv
      intro inv
      try simp only [List.setIfInBounds_toArray, List.set_cons_zero, List.set_cons_succ]
      refine takeT (i := 14) (t := 144) (v := ?v14y15) rfl (by kernel_rfl) (by kernel_rfl) (by kernel_rfl) (fun _ _ _ h => h) (by kernel_rfl) (by kernel_rfl) (by decide) (by decide) rfl (Or.inl ⟨by rfl, ?h14y15⟩) inv hHeld ?r14y15
      case h14y15 => (intro V' hSw; have q := cellq hSw Kc.out.2.2.1; clear hSw; go_simp; try with_reducible rfl)
      clear inv
      intro inv
      try simp only [List.setIfInBounds_toArray, List.set_cons_zero, List.set_cons_succ]
      refine takeT (i := 15) (t := 145) (v := ?v15y16) rfl (by kernel_rfl) (by kernel_rfl) (by kernel_rfl) (fun _ _ _ h => h) (by kernel_rfl) (by kernel_rfl) (by decide) (by decide) rfl (Or.inl ⟨by rfl, ?h15y16⟩) inv hHeld ?r15y16
      case h15y16 => (intro V' hSw; clear hSw; go_simp; try with_reducible rfl)
      clear inv
      intro inv
      try simp only [List.setIfInBounds_toArray, List.set_cons_zero, List.set_cons_succ]
      refine takeT (i := 16) (t := 146) (v := ?v16y17) rfl (by kernel_rfl) (by kernel_rfl) (by kernel_rfl) (fun _ _ _ h => h) (by kernel_rfl) (by kernel_rfl) (by decide) (by decide) rfl (Or.inl ⟨by rfl, ?h16y17⟩) inv hHeld ?r16y17
      case h16y17 => (intro V' hSw; clear hSw; go_simp; try with_reducible rfl)
      clear inv
      intro inv
      try simp only [List.setIfInBounds_toArray, List.set_cons_zero, List.set_cons_succ]
      refine takeT (i := 17) (t := 147) (v := ?v17y18) rfl (by kernel_rfl) (by kernel_rfl) (by kernel_rfl) (fun _ _ _ h => h) (by kernel_rfl) (by kernel_rfl) (by decide) (by decide) rfl (Or.inl ⟨by rfl, ?h17y18⟩) inv hHeld ?r17y18
      case h17y18 => (intro V' hSw; have q := cellq hSw Kc.out.2.2.2; clear hSw; go_simp; try with_reducible rfl)
      clear inv
      intro inv
      try simp only [List.setIfInBounds_toArray, List.set_cons_zero, List.set_cons_succ]
      refine takeT (i := 18) (t := 148) (v := ?v18y19) rfl (by kernel_rfl) (by kernel_rfl) (by kernel_rfl) (fun _ _ _ h => h) (by kernel_rfl) (by kernel_rfl) (by decide) (by decide) rfl (Or.inl ⟨by rfl, ?h18y19⟩) inv hHeld ?r18y19
      case h18y19 => (intro V' hSw; clear hSw; go_simp; try with_reducible rfl)
      clear inv
      intro inv
      try simp only [List.setIfInBounds_toArray, List.set_cons_zero, List.set_cons_succ]
      refine lastT (i := 19) (w' := (wr.setCell ⟨rmb, j, none⟩ (.int .u8 bi)).drew) rfl (by kernel_rfl) rfl (by rfl) ?hx20 (by decide) (by kernel_rfl) ?_
      case hx20 => (go_simp; try with_reducible rfl)
      clear hHeld inv crm zrm
      have HNY := Go.Lib.hid (And.intro (HNX.out.1.quiet (Chg.refl NoB _).drew) (HNX.out.2.quiet (Chg.refl NoB _).drew))
      go_wp2_with fail
      refine ⟨⟨i + 1, hlt, by simp, HNY.out.1, HNY.out.2⟩, by simp only [intOf]; omega⟩
    · obtain rfl : i = 4 := by omega
      clear hB hR
      have HB8 := Go.Lib.hid (show NB w.heap.size w wr p mb s mm r rmb rs pr { Mc.new n l with M := putWord (Mc.new n l).M pl x } { Mc.new n l with M := putWord (Mc.new n l).M pl x } F from HBi.out)
      clear HBi HRi
      go_wp2_with fail
      refine (num_c _ _).mono ?_
      rintro e wn2 ⟨rfl, hen⟩
      obtain rfl := hen.symm
      clear hen
      go_wp2_with fail
      refine (num_c _ _).mono ?_
      rintro e wn3 ⟨rfl, hen⟩
      obtain rfl := hen.symm
      clear hen
      go_wp2_with fail
      refine (HRN.out _ none HB8.out.chg).mono ?_
      rintro e w20 ⟨r3, rmb3, rfl, hr3, hq, _, _⟩
      have HB20 := Go.Lib.hid (HB8.out.quiet hq)
      have q22 : w20.cell? ⟨r3, 22, none⟩ = some (.slice (some ⟨rmb3, 0, none⟩) n n) := by rw [hr3.m.cell 22]; rfl
      have qb : w20.cell? ⟨rmb3, pl, none⟩ = some (.int .u8 by0) := by rw [hr3.byte (i := pl) h4, HBE.out]
      clear hr3 hq HB8
      go_wp2_with fail
      clear q22 qb
      refine (num_c _ _).mono ?_
      rintro e wn4 ⟨rfl, hen⟩
      obtain rfl := hen.symm
      clear hen
      go_wp2_with fail
      refine (num_c _ _).mono ?_
      rintro e wn5 ⟨rfl, hen⟩
      obtain rfl := hen.symm
      clear hen
      go_wp2_with fail
      refine (alike_c HB20.out.hpr HB20.out.hm ⟨HO.out.c, putWord_bd HO.out.m pl (by omega), HO.out.n, HO.out.heap⟩ HB20.out.hr HB20.out.hs HB20.out.hrs).mono ?_
      rintro e w21 ⟨rfl, hq⟩
      have HB21 := Go.Lib.hid (HB20.out.chg.trans hq)
      clear hq HB20
      go_wp2_with fail
      refine (HK.out _).mono ?_
      rintro e w22 ⟨rfl, hq⟩
      have HB22 := Go.Lib.hid (HB21.out.trans hq)
      clear hq HB21
      go_wp2_with fail
      go_ret
      exact ⟨rfl, HB22.out⟩
set_option maxRecDepth 100000 in
set_option maxHeartbeats 8000000 in
theorem new_B (w : World) (n : Nat) (A : Option Addr) (c : Nat) (zs : List Nat) (pl x : Nat) (hn : 64 ≤ n ∧ n ≤ 16777216 ∧ n % 4 = 0) (h0 : zs.length ≤ 3000) (h1 : n ≤ 65536) (h2 : zs.length ≤ n / 4) (hp : pl < 4294967296) (hx : x < 4294967296) (h4 : n ≤ pl) (hz : ∀ z ∈ zs, z < 4294967296) (hc : CellsAt w A (wv32 zs)) :
    Calls Tryz.prog 4 #[.int .i64 n, .slice A zs.length c, .int .u32 pl, .int .u32 x] w (Quiet (.bool true) w) := by
  have HM := Go.Lib.hid (fun W => may_c n W)
  have HM : Hid (∀ W, Calls Tryz.prog 22 #[.int .i64 n] W (Still (.bool true) W)) := Go.Lib.hid fun W => by
    have := HM.out W
    rw [decide_eq_true (show 64 ≤ (n : Int) ∧ (n : Int) ≤ 16777216 ∧ (n : Int) % 4 = 0 by omega)] at this
    exact this
  have HK := Go.Lib.hid known_c
  have hl : (zs.map fun (z : Nat) => (z : Int)).length = zs.length := by simp
  have hb : ∀ y ∈ zs.map (fun (z : Nat) => (z : Int)), 0 ≤ y ∧ y < 4294967296 := fun y hy => by
    obtain ⟨z, hz', rfl⟩ := List.mem_map.1 hy
    have := hz z hz'
    omega
  have hcc : CellsAt w A (u32s (zs.map fun (z : Nat) => (z : Int))) := by
    have : u32s (zs.map fun (z : Nat) => (z : Int)) = wv32 zs := by simp [u32s, wv32]
    rw [this]; exact hc
  have HN := Go.Lib.hid (new_v 10 (by decide) w)
  have hlz : (zs.map fun (z : Nat) => (z : Int)).length ≤ n / 4 := by rw [hl]; exact h2
  have HO := Go.Lib.hid (mnew_ok n (zs.map fun (z : Nat) => (z : Int)) hn hlz hb).1
  generalize hlE : (zs.map fun (z : Nat) => (z : Int)) = l at *
  have HMN : Hid (∀ (W : World) (s : Nat) (F : Nat → Prop), StoreV w.heap.size W s ⟨10, [], [], []⟩ F → Chg NoB w W → Calls Tryz.prog 21 #[.int .i64 n, .slice A zs.length c, .pointer (some ⟨s, 0, none⟩)] W (MNewPost s n l w.heap.size ⟨10, [], [], []⟩ F W)) := Go.Lib.hid fun W s F h hq => by
    have := mnew_c h n A c l hn hlz hb (hcc.chg hq (fun _ _ => id))
    rw [hl] at this
    exact this
  have HRN : Hid (∀ (W : World) (sp : Option Addr), Chg NoB w W → Calls Tryz.prog 23 #[.int .i64 n, .slice A zs.length c, .pointer sp] W (RNewPost n l (.pointer sp) W)) := Go.Lib.hid fun W sp hq => by
    have := rnew_c W n A c l sp hn hlz hb (hcc.chg hq (fun _ _ => id))
    rw [hl] at this
    exact this
  have g0 : decide ((zs.length : Int) > 3000) = false := by simp; omega
  have g1 : decide ((n : Int) > 65536) = false := by simp; omega
  have g4 : decide ((n : Int) / 4 < (zs.length : Int)) = false := by simp; omega
  have g5 : decide ((pl : Int) ≥ (n : Int)) = true := by simp; omega
  have g6 : decide ((pl : Int) < (n : Int)) = false := by simp; omega
  clear hl hb hcc hc hz hlz hlE
  unfold ptr at HN
  go_enter Tryz.func4, Tryz.ntmps4
  go_wp2_with fail
  refine HN.out.mono ?_
  rintro e w1 ⟨s, F, rfl, hS, hc1⟩
  have H1 := Go.Lib.hid (And.intro hS hc1)
  clear hS hc1 HN
  go_wp2_with fail
  refine (HMN.out _ _ _ H1.out.1 H1.out.2).mono ?_
  rintro e w2 ⟨p, mb, mm, rfl, hm, hS3, hc3, hpp, hmb, hmm⟩
  have hsz := H1.out.2.size
  have hFlt : ∀ k, F k → k < w1.heap.size := fun k hk => H1.out.1.lt hk
  have H2 := Go.Lib.hid (And.intro hm (And.intro hS3 (H1.out.2.trans hc3)))
  have hlt := hm.lt
  clear hm hS3 hc3 H1 HMN
  go_wp2_with fail
  refine (HM.out _).mono ?_
  rintro e w' ⟨rfl, he⟩
  obtain rfl := he.symm
  clear he
  go_wp2_with fail
  refine (num_c _ _).mono ?_
  rintro e wn6 ⟨rfl, hen⟩
  obtain rfl := hen.symm
  clear hen
  go_wp2_with fail
  have hq2 : Chg NoB w2 (w2.alloc (.cells (r2arr 10) R2T)) := (Chg.refl _ _).alloc _
  have hb2 : Blk (w2.alloc (.cells (r2arr 10) R2T)) w2.heap.size R2T (r2arr 10) := Blk.new _ _ _
  have hz2 : (w2.alloc (.cells (r2arr 10) R2T)).heap.size = w2.heap.size + 1 := by simp
  change Calls _ _ _ (w2.alloc (.cells (r2arr 10) R2T)) _
  have HR1 := Go.Lib.hid (HRN.out (w2.alloc (.cells (r2arr 10) R2T)) (some ⟨w2.heap.size, 0, none⟩) (H2.out.2.2.trans hq2))
  generalize w2.alloc (.cells (r2arr 10) R2T) = w3 at *
  refine HR1.out.mono ?_
  rintro e w4 ⟨r, rmb, rfl, hrm, hq4, hr1, hr2⟩
  have hq24 := hq2.trans hq4
  have hltr := hrm.m.lt
  have hltb := hrm.b.lt
  have hrne : r ≠ rmb := hrm.m.ne_ hrm.b (by decide)
  have hNB : NB w.heap.size w (w4.alloc (.cells #[.pointer (some ⟨p, 0, none⟩), .pointer (some ⟨r, 0, none⟩)] PT)) p mb s mm r rmb w2.heap.size w4.heap.size (Mc.new n l) (Mc.new n l) F := by
    have hA : Chg NoB w4 (w4.alloc (.cells #[.pointer (some ⟨p, 0, none⟩), .pointer (some ⟨r, 0, none⟩)] PT)) := (Chg.refl _ _).alloc _
    refine ⟨(H2.out.1.quiet hq24).quiet hA, hrm.quiet hA, (H2.out.2.1.quiet hq24).quiet hA, (hb2.chg hq4 id).chg hA id, Blk.new _ _ _, (H2.out.2.2.trans hq24).trans hA, ⟨by omega, by omega, by omega⟩, ⟨fun h => by have := hFlt _ h; omega, fun h => by have := hFlt _ h; omega, fun h => by have := hFlt _ h; omega⟩, ⟨by omega, by omega, by omega, by omega, by omega, by omega, by omega, by omega, by omega⟩, ⟨hrne, by omega, by omega⟩⟩
  generalize hprE : w4.heap.size = pr at *
  generalize hrsE : w2.heap.size = rs at *
  clear HR1 hq2 hb2 hz2 hrm hq4 hr1 hr2 hq24 hltr hltb hrne H2 hlt hsz hFlt hmb hmm hpp
  go_upto_region 12 with fail
  change (Code.wp _ _ _ _ (w4.alloc (.cells #[.pointer (some ⟨p, 0, none⟩), .pointer (some ⟨r, 0, none⟩)] PT)))
  generalize w4.alloc (.cells #[.pointer (some ⟨p, 0, none⟩), .pointer (some ⟨r, 0, none⟩)] PT) = W5 at *
  have HB := Go.Lib.hid hNB
  have HWd := Go.Lib.hid (word_c hNB.hm HO.out pl hp)
  rw [if_neg (show ¬ (pl < (Mc.new n l).n ∧ pl % 4 = 0) from fun h => absurd h.1 (Nat.not_lt.2 h4))] at HWd
  clear hNB
  go_wp2_with fail
  refine HWd.out.mono ?_
  rintro e w6 ⟨rfl, hq⟩
  have HB6 := Go.Lib.hid (HB.out.quiet hq)
  have HBy := Go.Lib.hid (byte_c HB6.out.hm HO.out pl hp)
  rw [if_neg (show ¬ pl < (Mc.new n l).n from Nat.not_lt.2 h4)] at HBy
  clear hq HWd HB
  go_wp2_with fail
  refine HBy.out.mono ?_
  rintro e w7 ⟨rfl, hq⟩
  have HB7 := Go.Lib.hid (HB6.out.quiet hq)
  have HSw := Go.Lib.hid (setWord_c HB7.out.hm HO.out pl hp x (by omega))
  rw [if_neg (show ¬ (pl < (Mc.new n l).n ∧ pl % 4 = 0) from fun h => absurd h.1 (Nat.not_lt.2 h4))] at HSw
  rw [if_neg (show ¬ (pl < (Mc.new n l).n ∧ pl % 4 = 0) from fun h => absurd h.1 (Nat.not_lt.2 h4))] at HSw
  clear hq HBy HB6
  go_wp2_with fail
  refine HSw.out.mono ?_
  rintro e w8 ⟨rfl, hm8, hc8⟩
  have HB8 : Hid (NB w.heap.size w w8 p mb s mm r rmb rs pr (Mc.new n l) (Mc.new n l) F) := Go.Lib.hid (HB7.out.mem hm8 hc8)
  clear hm8 hc8 HSw HB7
  obtain ⟨by0, hbyE⟩ : ∃ y, (Mc.new n l).M pl = y := ⟨_, rfl⟩
  have HBE := Go.Lib.hid hbyE
  clear hbyE
  go_wp2_with fail
  refine (num_c _ _).mono ?_
  rintro e wn7 ⟨rfl, hen⟩
  obtain rfl := hen.symm
  clear hen
  go_wp2_with fail
  refine (num_c _ _).mono ?_
  rintro e wn8 ⟨rfl, hen⟩
  obtain rfl := hen.symm
  clear hen
  go_wp2_with fail
  have HB20 := Go.Lib.hid HB8.out
  clear HB8
  refine (num_c _ _).mono ?_
  rintro e wn9 ⟨rfl, hen⟩
  obtain rfl := hen.symm
  clear hen
  go_wp2_with fail
  refine (num_c _ _).mono ?_
  rintro e wn10 ⟨rfl, hen⟩
  obtain rfl := hen.symm
  clear hen
  go_wp2_with fail
  refine (num_c _ _).mono ?_
  rintro e wn11 ⟨rfl, hen⟩
  obtain rfl := hen.symm
  clear hen
  go_wp2_with fail
  refine (alike_c HB20.out.hpr HB20.out.hm HO.out HB20.out.hr HB20.out.hs HB20.out.hrs).mono ?_
  rintro e w21 ⟨rfl, hq⟩
  have HB21 := Go.Lib.hid (HB20.out.chg.trans hq)
  clear hq HB20
  go_wp2_with fail
  refine (HK.out _).mono ?_
  rintro e w22 ⟨rfl, hq⟩
  have HB22 := Go.Lib.hid (HB21.out.trans hq)
  clear hq HB21
  go_wp2_with fail
  go_ret
  exact ⟨rfl, HB22.out⟩
set_option maxRecDepth 100000 in
set_option maxHeartbeats 8000000 in
theorem new_C (w : World) (n : Nat) (A : Option Addr) (c : Nat) (zs : List Nat) (pl x : Nat) (hn : 64 ≤ n ∧ n ≤ 16777216 ∧ n % 4 = 0) (h0 : zs.length ≤ 3000) (h1 : n ≤ 65536) (h2 : zs.length ≤ n / 4) (hp : pl < 4294967296) (hx : x < 4294967296) (h4 : pl < n) (h5 : ¬ pl % 4 = 0) (hz : ∀ z ∈ zs, z < 4294967296) (hc : CellsAt w A (wv32 zs)) :
    Calls Tryz.prog 4 #[.int .i64 n, .slice A zs.length c, .int .u32 pl, .int .u32 x] w (Quiet (.bool true) w) := by
  have HM := Go.Lib.hid (fun W => may_c n W)
  have HM : Hid (∀ W, Calls Tryz.prog 22 #[.int .i64 n] W (Still (.bool true) W)) := Go.Lib.hid fun W => by
    have := HM.out W
    rw [decide_eq_true (show 64 ≤ (n : Int) ∧ (n : Int) ≤ 16777216 ∧ (n : Int) % 4 = 0 by omega)] at this
    exact this
  have HK := Go.Lib.hid known_c
  have hl : (zs.map fun (z : Nat) => (z : Int)).length = zs.length := by simp
  have hb : ∀ y ∈ zs.map (fun (z : Nat) => (z : Int)), 0 ≤ y ∧ y < 4294967296 := fun y hy => by
    obtain ⟨z, hz', rfl⟩ := List.mem_map.1 hy
    have := hz z hz'
    omega
  have hcc : CellsAt w A (u32s (zs.map fun (z : Nat) => (z : Int))) := by
    have : u32s (zs.map fun (z : Nat) => (z : Int)) = wv32 zs := by simp [u32s, wv32]
    rw [this]; exact hc
  have HN := Go.Lib.hid (new_v 10 (by decide) w)
  have hlz : (zs.map fun (z : Nat) => (z : Int)).length ≤ n / 4 := by rw [hl]; exact h2
  have HO := Go.Lib.hid (mnew_ok n (zs.map fun (z : Nat) => (z : Int)) hn hlz hb).1
  generalize hlE : (zs.map fun (z : Nat) => (z : Int)) = l at *
  have HMN : Hid (∀ (W : World) (s : Nat) (F : Nat → Prop), StoreV w.heap.size W s ⟨10, [], [], []⟩ F → Chg NoB w W → Calls Tryz.prog 21 #[.int .i64 n, .slice A zs.length c, .pointer (some ⟨s, 0, none⟩)] W (MNewPost s n l w.heap.size ⟨10, [], [], []⟩ F W)) := Go.Lib.hid fun W s F h hq => by
    have := mnew_c h n A c l hn hlz hb (hcc.chg hq (fun _ _ => id))
    rw [hl] at this
    exact this
  have HRN : Hid (∀ (W : World) (sp : Option Addr), Chg NoB w W → Calls Tryz.prog 23 #[.int .i64 n, .slice A zs.length c, .pointer sp] W (RNewPost n l (.pointer sp) W)) := Go.Lib.hid fun W sp hq => by
    have := rnew_c W n A c l sp hn hlz hb (hcc.chg hq (fun _ _ => id))
    rw [hl] at this
    exact this
  have g0 : decide ((zs.length : Int) > 3000) = false := by simp; omega
  have g1 : decide ((n : Int) > 65536) = false := by simp; omega
  have g4 : decide ((n : Int) / 4 < (zs.length : Int)) = false := by simp; omega
  have g5 : decide ((pl : Int) ≥ (n : Int)) = false := by simp; omega
  have g6 : decide ((pl : Int) < (n : Int)) = true := by simp; omega
  have g7 : ((pl : Int) % 4 != 0) = true := by
    have : ¬ (pl : Int) % 4 = 0 := by omega
    simpa using this
  clear hl hb hcc hc hz hlz hlE
  unfold ptr at HN
  go_enter Tryz.func4, Tryz.ntmps4
  go_wp2_with fail
  refine HN.out.mono ?_
  rintro e w1 ⟨s, F, rfl, hS, hc1⟩
  have H1 := Go.Lib.hid (And.intro hS hc1)
  clear hS hc1 HN
  go_wp2_with fail
  refine (HMN.out _ _ _ H1.out.1 H1.out.2).mono ?_
  rintro e w2 ⟨p, mb, mm, rfl, hm, hS3, hc3, hpp, hmb, hmm⟩
  have hsz := H1.out.2.size
  have hFlt : ∀ k, F k → k < w1.heap.size := fun k hk => H1.out.1.lt hk
  have H2 := Go.Lib.hid (And.intro hm (And.intro hS3 (H1.out.2.trans hc3)))
  have hlt := hm.lt
  clear hm hS3 hc3 H1 HMN
  go_wp2_with fail
  refine (HM.out _).mono ?_
  rintro e w' ⟨rfl, he⟩
  obtain rfl := he.symm
  clear he
  go_wp2_with fail
  refine (num_c _ _).mono ?_
  rintro e wn12 ⟨rfl, hen⟩
  obtain rfl := hen.symm
  clear hen
  go_wp2_with fail
  have hq2 : Chg NoB w2 (w2.alloc (.cells (r2arr 10) R2T)) := (Chg.refl _ _).alloc _
  have hb2 : Blk (w2.alloc (.cells (r2arr 10) R2T)) w2.heap.size R2T (r2arr 10) := Blk.new _ _ _
  have hz2 : (w2.alloc (.cells (r2arr 10) R2T)).heap.size = w2.heap.size + 1 := by simp
  change Calls _ _ _ (w2.alloc (.cells (r2arr 10) R2T)) _
  have HR1 := Go.Lib.hid (HRN.out (w2.alloc (.cells (r2arr 10) R2T)) (some ⟨w2.heap.size, 0, none⟩) (H2.out.2.2.trans hq2))
  generalize w2.alloc (.cells (r2arr 10) R2T) = w3 at *
  refine HR1.out.mono ?_
  rintro e w4 ⟨r, rmb, rfl, hrm, hq4, hr1, hr2⟩
  have hq24 := hq2.trans hq4
  have hltr := hrm.m.lt
  have hltb := hrm.b.lt
  have hrne : r ≠ rmb := hrm.m.ne_ hrm.b (by decide)
  have hNB : NB w.heap.size w (w4.alloc (.cells #[.pointer (some ⟨p, 0, none⟩), .pointer (some ⟨r, 0, none⟩)] PT)) p mb s mm r rmb w2.heap.size w4.heap.size (Mc.new n l) (Mc.new n l) F := by
    have hA : Chg NoB w4 (w4.alloc (.cells #[.pointer (some ⟨p, 0, none⟩), .pointer (some ⟨r, 0, none⟩)] PT)) := (Chg.refl _ _).alloc _
    refine ⟨(H2.out.1.quiet hq24).quiet hA, hrm.quiet hA, (H2.out.2.1.quiet hq24).quiet hA, (hb2.chg hq4 id).chg hA id, Blk.new _ _ _, (H2.out.2.2.trans hq24).trans hA, ⟨by omega, by omega, by omega⟩, ⟨fun h => by have := hFlt _ h; omega, fun h => by have := hFlt _ h; omega, fun h => by have := hFlt _ h; omega⟩, ⟨by omega, by omega, by omega, by omega, by omega, by omega, by omega, by omega, by omega⟩, ⟨hrne, by omega, by omega⟩⟩
  generalize hprE : w4.heap.size = pr at *
  generalize hrsE : w2.heap.size = rs at *
  clear HR1 hq2 hb2 hz2 hrm hq4 hr1 hr2 hq24 hltr hltb hrne H2 hlt hsz hFlt hmb hmm hpp
  go_upto_region 12 with fail
  change (Code.wp _ _ _ _ (w4.alloc (.cells #[.pointer (some ⟨p, 0, none⟩), .pointer (some ⟨r, 0, none⟩)] PT)))
  generalize w4.alloc (.cells #[.pointer (some ⟨p, 0, none⟩), .pointer (some ⟨r, 0, none⟩)] PT) = W5 at *
  have HB := Go.Lib.hid hNB
  have HWd := Go.Lib.hid (word_c hNB.hm HO.out pl hp)
  rw [if_neg (show ¬ (pl < (Mc.new n l).n ∧ pl % 4 = 0) from fun h => h5 h.2)] at HWd
  clear hNB
  go_wp2_with fail
  refine HWd.out.mono ?_
  rintro e w6 ⟨rfl, hq⟩
  have HB6 := Go.Lib.hid (HB.out.quiet hq)
  have HBy := Go.Lib.hid (byte_c HB6.out.hm HO.out pl hp)
  rw [if_pos (show pl < (Mc.new n l).n from h4)] at HBy
  clear hq HWd HB
  go_wp2_with fail
  refine HBy.out.mono ?_
  rintro e w7 ⟨rfl, hq⟩
  have HB7 := Go.Lib.hid (HB6.out.quiet hq)
  have HSw := Go.Lib.hid (setWord_c HB7.out.hm HO.out pl hp x (by omega))
  rw [if_neg (show ¬ (pl < (Mc.new n l).n ∧ pl % 4 = 0) from fun h => h5 h.2)] at HSw
  rw [if_neg (show ¬ (pl < (Mc.new n l).n ∧ pl % 4 = 0) from fun h => h5 h.2)] at HSw
  clear hq HBy HB6
  go_wp2_with fail
  refine HSw.out.mono ?_
  rintro e w8 ⟨rfl, hm8, hc8⟩
  have HB8 : Hid (NB w.heap.size w w8 p mb s mm r rmb rs pr (Mc.new n l) (Mc.new n l) F) := Go.Lib.hid (HB7.out.mem hm8 hc8)
  clear hm8 hc8 HSw HB7
  obtain ⟨by0, hbyE⟩ : ∃ y, (Mc.new n l).M pl = y := ⟨_, rfl⟩
  rw [hbyE]
  have HBE := Go.Lib.hid hbyE
  clear hbyE
  go_wp2_with fail
  refine (num_c _ _).mono ?_
  rintro e wn13 ⟨rfl, hen⟩
  obtain rfl := hen.symm
  clear hen
  go_wp2_with fail
  refine (num_c _ _).mono ?_
  rintro e wn14 ⟨rfl, hen⟩
  obtain rfl := hen.symm
  clear hen
  go_wp2_with fail
  refine (HRN.out _ none HB8.out.chg).mono ?_
  rintro e w20 ⟨r3, rmb3, rfl, hr3, hq, _, _⟩
  have HB20 := Go.Lib.hid (HB8.out.quiet hq)
  have q22 : w20.cell? ⟨r3, 22, none⟩ = some (.slice (some ⟨rmb3, 0, none⟩) n n) := by rw [hr3.m.cell 22]; rfl
  have qb : w20.cell? ⟨rmb3, pl, none⟩ = some (.int .u8 by0) := by rw [hr3.byte (i := pl) h4, HBE.out]
  clear hr3 hq HB8
  go_wp2_with fail
  clear q22 qb
  refine (num_c _ _).mono ?_
  rintro e wn15 ⟨rfl, hen⟩
  obtain rfl := hen.symm
  clear hen
  go_wp2_with fail
  refine (num_c _ _).mono ?_
  rintro e wn16 ⟨rfl, hen⟩
  obtain rfl := hen.symm
  clear hen
  go_wp2_with fail
  refine (alike_c HB20.out.hpr HB20.out.hm HO.out HB20.out.hr HB20.out.hs HB20.out.hrs).mono ?_
  rintro e w21 ⟨rfl, hq⟩
  have HB21 := Go.Lib.hid (HB20.out.chg.trans hq)
  clear hq HB20
  go_wp2_with fail
  refine (HK.out _).mono ?_
  rintro e w22 ⟨rfl, hq⟩
  have HB22 := Go.Lib.hid (HB21.out.trans hq)
  clear hq HB21
  go_wp2_with fail
  go_ret
  exact ⟨rfl, HB22.out⟩
end Go.Proofs.YtggknljlibhkjaaGreat
