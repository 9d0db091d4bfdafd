/- What is proved: the walk of the law MachineFresh. Conditions: none. -/
import Derived.Test.YtggknljlibhkjaaMcY
import Derived.Test.YtggknljlibhkjaaLawRow
namespace Go.Proofs.Ytggknljlibhkjaa
open Go Go.RowKit
set_option maxRecDepth 100000 in
set_option maxHeartbeats 4000000 in
theorem fresh_skip (w : World) (n : Int) (A : Option Addr) (len c : Nat) (f : Int) (h : ¬ (64 ≤ n ∧ n ≤ 16777216 ∧ n % 4 = 0) ∨ n < 256 ∨ 4096 < n ∨ 20 < len) : Calls Try.prog 3 #[.int .i64 n, .slice A len c, .int .u32 f] w (Quiet (.bool true) w) := by
  have HM := Go.Lib.hid (may_c n w)
  have HK := Go.Lib.hid known_c
  by_cases h1 : (64 ≤ n ∧ n ≤ 16777216 ∧ n % 4 = 0)
  · rw [decide_eq_true h1] at HM
    by_cases h2 : n < 256
    · have g2 : decide (n < 256) = true := by simpa using h2
      clear h h1 h2
      go_enter Try.func3, Try.ntmps3
      go_wp2_with fail
      refine HM.out.mono ?_
      rintro e w' ⟨rfl, rfl⟩
      go_wp2_with fail
      refine (HK.out _).mono ?_
      rintro e w1 ⟨rfl, hq⟩
      have HQ := Go.Lib.hid hq
      clear hq
      go_wp2_with fail
      go_ret
      exact ⟨rfl, HQ.out⟩
    · have g2 : decide (n < 256) = false := by simpa using h2
      by_cases h3 : n > 4096
      · have g3 : decide (n > 4096) = true := by simpa using h3
        clear h h1 h2
        go_enter Try.func3, Try.ntmps3
        go_wp2_with fail
        refine HM.out.mono ?_
        rintro e w' ⟨rfl, rfl⟩
        go_wp2_with fail
        refine (HK.out _).mono ?_
        rintro e w1 ⟨rfl, hq⟩
        have HQ := Go.Lib.hid hq
        clear hq
        go_wp2_with fail
        go_ret
        exact ⟨rfl, HQ.out⟩
      · have g3 : decide (n > 4096) = false := by simpa using h3
        have g4 : decide ((len : Int) > 20) = true := by simp; omega
        clear h h1 h2
        go_enter Try.func3, Try.ntmps3
        go_wp2_with fail
        refine HM.out.mono ?_
        rintro e w' ⟨rfl, rfl⟩
        go_wp2_with fail
        refine (HK.out _).mono ?_
        rintro e w1 ⟨rfl, hq⟩
        have HQ := Go.Lib.hid hq
        clear hq
        go_wp2_with fail
        go_ret
        exact ⟨rfl, HQ.out⟩
  · rw [decide_eq_false h1] at HM
    clear h h1
    go_enter Try.func3, Try.ntmps3
    go_wp2_with fail
    refine HM.out.mono ?_
    rintro e w' ⟨rfl, rfl⟩
    go_wp2_with fail
    refine (HK.out _).mono ?_
    rintro e w1 ⟨rfl, hq⟩
    have HQ := Go.Lib.hid hq
    clear hq
    go_wp2_with fail
    go_ret
    exact ⟨rfl, HQ.out⟩

theorem field_regs (v0 v1 v2 v3 v4 v5 v6 v7 v8 v9 v10 v11 v12 v13 v14 v15 v16 v17 v18 v19 v20 v21 : Value) (W : World) : (Instr.field 41 (.agg #[v0, v1, v2, v3, v4, v5, v6, v7, v8, v9, v10, v11, v12, v13, v14, v15, v16, v17, v18, v19, v20, v21]) 0).run Try.prog W = .ok (.agg #[v0, v1, v2, v3, v4, v5, v6, v7, v8, v9, v10, v11, v12, v13, v14, v15]) W := by kernel_rfl
theorem index_regs (v0 v1 v2 v3 v4 v5 v6 v7 v8 v9 v10 v11 v12 v13 v14 v15 : Value) (W : World) : (Instr.index 39 (.agg #[v0, v1, v2, v3, v4, v5, v6, v7, v8, v9, v10, v11, v12, v13, v14, v15]) (.int .i64 0)).run Try.prog W = .ok v0 W := by kernel_rfl
set_option maxRecDepth 100000 in
set_option maxHeartbeats 4000000 in
theorem fresh_go (w : World) (n : Nat) (A : Option Addr) (c : Nat) (zs : List Nat) (f : Int) (hn : 64 ≤ n ∧ n ≤ 16777216 ∧ n % 4 = 0) (h1 : 256 ≤ n ∧ n ≤ 4096) (hl : zs.length ≤ 20) (hz : ∀ z ∈ zs, z < 4294967296) (hf : 0 ≤ f ∧ f < 4294967296) (hc : CellsAt w A (wv32 zs)) :
    Calls Try.prog 3 #[.int .i64 n, .slice A zs.length c, .int .u32 f] w (Quiet (.bool true) w) := by
  have HM := Go.Lib.hid (may_c n w)
  rw [decide_eq_true (show 64 ≤ (n : Int) ∧ (n : Int) ≤ 16777216 ∧ (n : Int) % 4 = 0 by omega)] at HM
  have HK := Go.Lib.hid known_c
  have HC := Go.Lib.hid (And.intro hc hz)
  have HN := Go.Lib.hid (new_v 10 (by decide) w)
  have HW1 : Hid (∀ W g, Blk W g InT in_new.arr → Calls Try.prog 10 #[.slice (some ⟨g, 0, none⟩) 1 1] W (wordsPost [newW] W)) := Go.Lib.hid fun W g h => words1_c in_new _ (fun W => word_new W) W g h
  have g1 : decide ((n : Int) < 256) = false := by simp; omega
  have g2 : decide ((n : Int) > 4096) = false := by simp; omega
  have g3 : decide ((zs.length : Int) > 20) = false := by simp; omega
  clear hc hz
  unfold ptr at HN
  go_enter Try.func3, Try.ntmps3
  go_wp2_with fail
  refine HM.out.mono ?_
  rintro e w' ⟨rfl, rfl⟩
  go_wp2_with fail
  refine HN.out.mono ?_
  rintro e w1 ⟨s, F, rfl, hS, hc1⟩
  have H1 := Go.Lib.hid (And.intro hS hc1)
  clear hS hc1 HN HM g1 g2 g3
  go_wp2_with fail
  refine (HW1.out _ _ (Blk.new _ _ _)).mono ?_
  rintro e w2 ⟨A1, c1, rfl, hcl, hq⟩
  have hc2 := (H1.out.2.alloc _).trans hq
  have hS2 := H1.out.1.quiet ((Chg.refl NoB w1).alloc _ |>.trans hq)
  have HM : Hid (Calls Try.prog 9 #[.int .i64 n, .slice A1 1 c1, .pointer (some ⟨s, 0, none⟩)] w2 (MNewPost s n [newW] w'.heap.size ⟨10, [], [], []⟩ F w2)) := Go.Lib.hid (mnew_c hS2 n A1 c1 [newW] hn (by show 1 ≤ n / 4; omega) (by decide) hcl)
  have H2 := Go.Lib.hid hc2
  clear hcl hq hc2 hS2 H1 HW1
  go_wp2_with fail
  refine HM.out.mono ?_
  rintro e w3 ⟨p, mb, mm, rfl, hm, hS3, hc3, hp, hmb, hmm⟩
  have hsz := H2.out.size
  have HB : Hid (MAt w3 p mb s mm (fillD n f 0) ∧ Chg NoB w' w3) := Go.Lib.hid (And.intro hm (H2.out.trans hc3))
  clear hm hS3 hc3 HM H2 hmm
  go_wp2_with fail
  refine (num_c 0 _).mono ?_
  rintro e w4 ⟨rfl, rfl⟩
  go_wp2_with fail
  go_loopw [11] (fun v11 wr => ∃ k : Nat, 4 + 4 * k ≤ n ∧ v11 = .int .i64 ((4 + 4 * k : Nat) : Int) ∧ MAt wr p mb s mm (fillD n f k) ∧ Chg NoB w' wr) (fun v11 _ => n - (intOf v11).toNat)
  case atStart => exact ⟨0, by omega, rfl, HB.out.1, HB.out.2⟩
  case round =>
    obtain ⟨k, hk, rfl, hm, hcw⟩ := hrel
    have HR := Go.Lib.hid (And.intro hm hcw)
    clear hm hcw HB
    by_cases hlt : 4 + 4 * k < n
    · have g1 : decide (((4 + 4 * k : Nat) : Int) < n) = true := by simp; omega
      have HS : Hid (Calls Try.prog 12 #[.pointer (some ⟨p, 0, none⟩), .int .u32 ((4 + 4 * k : Nat) : Int), .int .u32 f] wr (MPost p mb s mm (.int .i64 0) (fillD n f (k + 1)) wr)) := Go.Lib.hid (by
        have := setWord_c HR.out.1 (fillD_ok hn hf k) (4 + 4 * k) (by omega) f hf
        rw [if_pos (show 4 + 4 * k < (fillD n f k).n ∧ (4 + 4 * k) % 4 = 0 from ⟨hlt, by omega⟩)] at this
        rw [if_pos (show 4 + 4 * k < (fillD n f k).n ∧ (4 + 4 * k) % 4 = 0 from ⟨hlt, by omega⟩)] at this
        have e : ({ fillD n f k with M := putWord (fillD n f k).M (4 + 4 * k) f } : Mc) = fillD n f (k + 1) := by
          rw [show 4 + 4 * k = 4 * (k + 1) by omega]; rfl
        rw [e] at this
        exact this)
      have hmod : ((4 + 4 * k : Nat) : Int) % 4294967296 = ((4 + 4 * k : Nat) : Int) := by omega
      have hadd : ((4 + 4 * (k + 1) : Nat) : Int) = ((4 + 4 * k : Nat) : Int) + 4 := by omega
      have HA := Go.Lib.hid hadd
      clear hadd
      generalize ((4 + 4 * k : Nat) : Int) = v at *
      go_wp2_with fail
      refine HS.out.mono ?_
      rintro e w5 ⟨rfl, hm5, hc5⟩
      have H5 : Hid (MAt w5 p mb s mm (fillD n f (k + 1)) ∧ Chg NoB w' w5) := Go.Lib.hid (And.intro hm5 (HR.out.2.step hc5 (fun i hi h => absurd h (by unfold memF; omega))))
      clear hm5 hc5
      go_wp2_with fail
      refine (num_c 0 _).mono ?_
      rintro e w6 ⟨rfl, rfl⟩
      go_wp2_with fail
      have hvn : (v + 4).toNat = 4 + 4 * (k + 1) := by have := HA.out; omega
      refine ⟨⟨k + 1, by omega, by rw [HA.out], H5.out.1, H5.out.2⟩, ?_⟩
      have := HA.out
      simp only [intOf]
      omega
    · have hkn : 4 + 4 * k = n := by omega
      have g1 : decide (((4 + 4 * k : Nat) : Int) < n) = false := by simp; omega
      have HI : Hid (FI n f (fillD n f k)) := Go.Lib.hid (fillD_FI hn hf (by omega))
      have hh0 : ((fillD n f k).heap : Int) = 4 := by show ((4 * 1 : Nat) : Int) = 4; decide
      have HH0 := Go.Lib.hid hh0
      clear hh0
      generalize fillD n f k = d0 at *
      generalize ((4 + 4 * k : Nat) : Int) = v at *
      clear hk hlt hkn
      go_wp2_with fail
      go_loopw [12, 13] (fun v12 v13 wr => ∃ (i : Nat) (d : Mc), i ≤ zs.length ∧ v13 = .int .i64 i ∧ v12 = .int .i64 d.heap ∧ MAt wr p mb s mm d ∧ FI n f d ∧ Chg NoB w' wr) (fun _ v13 _ => zs.length - (intOf v13).toNat)
      case atStart => exact ⟨0, d0, Nat.zero_le _, rfl, by rw [HH0.out], HR.out.1, HI.out, HR.out.2⟩
      case round =>
        obtain ⟨i, d, hi, rfl, rfl, hm, hI, hcw⟩ := hrel
        have HD := Go.Lib.hid (And.intro hm (And.intro hI hcw))
        clear hm hI hcw HR HI
        by_cases hlt : i < zs.length
        · have g1 : decide ((i : Int) < zs.length) = true := by simp; omega
          have HCP := Go.Lib.hid (cpu_c HD.out.1)
          go_wp2_with fail
          refine HCP.out.mono ?_
          rintro e w5 ⟨rfl, hq5⟩
          have H5 := Go.Lib.hid (HD.out.1.quiet hq5)
          have HC5 := Go.Lib.hid (HD.out.2.2.trans hq5)
          have HB5 := Go.Lib.hid (fun cs => (Blk.new w5 CpT cs))
          clear hq5 HCP
          unfold Cp.val
          go_upto_region 17 with (first
            | (refine wpList_store_row rfl 41 (.tmp 14) (.tmp 77) rfl w5.heap.size d.c.arr rfl rfl CpT Cp.zero.arr (HB5.out _) (by kernel_rfl) (by rfl) (by kernel_rfl) ?_))
          have hB6 : Blk ((w5.alloc (.cells Cp.zero.arr CpT)).setRow w5.heap.size d.c.arr) w5.heap.size CpT d.c.arr := (HB5.out _).setRow _
          have hC6 : Chg NoB w5 ((w5.alloc (.cells Cp.zero.arr CpT)).setRow w5.heap.size d.c.arr) := ((Chg.refl NoB w5).alloc _).setRow (fun h => absurd h (by omega)) _
          change (Code.wp _ _ _ _ ((w5.alloc (.cells Cp.zero.arr CpT)).setRow w5.heap.size d.c.arr))
          have hg5 : p < w5.heap.size ∧ mb < w5.heap.size := ⟨H5.out.lt.1, H5.out.lt.2.1⟩
          have hg0 := HC5.out.size
          generalize (w5.alloc (.cells Cp.zero.arr CpT)).setRow w5.heap.size d.c.arr = W6 at *
          generalize w5.heap.size = g at *
          have H6 := Go.Lib.hid (And.intro (H5.out.quiet hC6) (And.intro (HC5.out.trans hC6) hB6))
          have HF := Go.Lib.hid HD.out.2.1
          clear hB6 hC6 H5 HC5 HB5 HD
          have hz1 := HC.out.2 zs[i] (List.getElem_mem hlt)
          have HZ : Hid (∀ W', Chg NoB w' W' → ∃ ad, A = some ad ∧ W'.cell? (ad.add i) = some (.int .u32 (zs[i] : Nat))) := Go.Lib.hid fun W' hc => CellsAt.headW (HC.out.1.chg hc (fun _ _ => id)) hlt
          generalize zs[i] = z at *
          obtain ⟨ad, rfl, hza⟩ := HZ.out W6 H6.out.2.1
          have k0 : W6.cell? ⟨g, 0, none⟩ = some (.int .u32 (d.c.R 0)) := H6.out.2.2.cell 0
          have k21 : W6.cell? ⟨g, 21, none⟩ = some (.int .u32 d.c.pc) := H6.out.2.2.cell 21
          have z0 := H6.out.2.2.frozen 0
          have z21 := H6.out.2.2.frozen 21
          go_upto_region 18 with fail
          clear k0 k21 z0 z21 hza
          have hB7 : Blk ((W6.setCell ⟨g, 0, none⟩ (.int .u32 z)).setCell ⟨g, 21, none⟩ (.int .u32 0)) g CpT (call1 d z).c.arr := (H6.out.2.2.set_ 0 _).set_ 21 _
          have hM7 := H6.out.1
          have hM7 : MAt ((W6.setCell ⟨g, 0, none⟩ (.int .u32 z)).setCell ⟨g, 21, none⟩ (.int .u32 0)) p mb s mm d := hM7.chg (F := fun k => k = g) (((Chg.refl (fun k => k = g) W6).setCell (p := ⟨g, 0, none⟩) (fun _ => rfl) _).setCell (p := ⟨g, 21, none⟩) (fun _ => rfl) _) (by omega) (by omega) (hM7.mm_ne H6.out.2.2)
          have hC7 : Chg NoB w' ((W6.setCell ⟨g, 0, none⟩ (.int .u32 z)).setCell ⟨g, 21, none⟩ (.int .u32 0)) := (H6.out.2.1.setCell (p := ⟨g, 0, none⟩) (fun h => absurd h (show ¬ g < w'.heap.size by omega)) _).setCell (p := ⟨g, 21, none⟩) (fun h => absurd h (show ¬ g < w'.heap.size by omega)) _
          generalize (W6.setCell ⟨g, 0, none⟩ (.int .u32 z)).setCell ⟨g, 21, none⟩ (.int .u32 0) = W7 at *
          have HSC : Hid (Calls Try.prog 14 #[.pointer (some ⟨p, 0, none⟩), .agg (call1 d z).c.arr] W7 (MPost p mb s mm (.int .i64 0) (call1 d z) W7)) := Go.Lib.hid (setCpu_c hM7 (call1 d z).c)
          have HB7 := Go.Lib.hid hB7
          have HC7 := Go.Lib.hid hC7
          clear hB7 hM7 hC7 H6
          go_wp2_with (first
            | (refine wpList_load_row rfl 41 (.tmp 14) rfl g rfl CpT (call1 d z).c.arr (0, 0) _ HB7.out Try.underlying41 rfl (by kernel_rfl) ?_))
          refine HSC.out.mono ?_
          rintro e w8 ⟨rfl, hm8, hc8⟩
          have hcw8 := HC7.out.step hc8 (fun i hi h => absurd h (by unfold memF; omega))
          have H8 := Go.Lib.hid (And.intro hm8 hcw8)
          obtain ⟨ad', had, hza⟩ := HZ.out w8 hcw8
          obtain rfl := Option.some.inj had
          have HST := Go.Lib.hid (next_c hm8 (HF.out.callOk hz1).1 (HF.out.callOk hz1).2 HF.out.alone)
          clear hm8 hc8 hcw8 HSC HC7 HB7 had
          go_wp2_with fail
          refine (num_c 0 _).mono ?_
          rintro e w9 ⟨rfl, rfl⟩
          have hz0 : (0 : Int) ≤ z := by omega
          have hz2 : (z : Int) < 4294967296 := by omega
          have htop : ((newTop d z : Nat) : Int) = (d.heap : Int) + ((z : Int) + 3) / 4 * 4 := by unfold newTop; omega
          by_cases hfit : newTop d z ≤ n
          · have HFF := Go.Lib.hid (HF.out.fits hz1 hfit)
            rw [decide_eq_true (HFF.out.1.kind)] at HST
            have g4 : decide ((d.heap : Int) + ((z : Int) + 3) / 4 * 4 > n) = false := by simp; omega
            have hdh := HF.out.hi
            go_wp2_with fail
            generalize (call1 d z).next = d2 at *
            refine HST.out.mono ?_
            rintro e w10 ⟨rfl, hm10, hc10⟩
            have hcw10 := H8.out.2.step hc10 (fun i hi h => absurd h (by unfold memF; omega))
            have HCP2 := Go.Lib.hid (cpu_c hm10)
            have H10 := Go.Lib.hid (And.intro hm10 hcw10)
            clear hm10 hc10 hcw10 HST H8 hza
            unfold Cp.val Cp.arr at HCP2
            rw [HFF.out.2.2] at HCP2
            go_wp2_with fail
            refine HCP2.out.mono ?_
            rintro e w11 ⟨rfl, hq⟩
            have H11 := Go.Lib.hid (And.intro (H10.out.1.quiet hq) (H10.out.2.trans hq))
            have HH11 := Go.Lib.hid (heap_c (H10.out.1.quiet hq))
            rw [HFF.out.2.1, htop] at HH11
            clear hq H10 HCP2
            go_wp2_with fail
            rw [field_regs]
            go_wp2_with fail
            rw [index_regs]
            go_wp2_with fail
            refine HH11.out.mono ?_
            rintro e w12 ⟨rfl, rfl⟩
            go_wp2_with fail
            have hnt : d2.heap = newTop d z := HFF.out.2.1
            generalize hT : (d.heap : Int) + ((z : Int) + 3) / 4 * 4 = T at *
            go_loopw [17] (fun v17 wr' => ∃ j : Nat, 4 + 4 * j ≤ n ∧ v17 = .int .i64 ((4 + 4 * j : Nat) : Int) ∧ MAt wr' p mb s mm d2 ∧ Chg NoB w' wr') (fun v17 _ => n - (intOf v17).toNat)
            case atStart => exact ⟨0, by omega, rfl, H11.out.1, H11.out.2⟩
            case round =>
              obtain ⟨j, hj, rfl, hm, hcw⟩ := hrel
              have HR3 := Go.Lib.hid (And.intro hm hcw)
              clear hm hcw HH11
              have HH12 : Hid (∀ W', MAt W' p mb s mm d2 → Calls Try.prog 17 #[.pointer (some ⟨p, 0, none⟩)] W' fun e w' => e = .returned (.int .u32 T) ∧ W' = w') := Go.Lib.hid fun W' h => by
                have := heap_c h
                rw [hnt, htop] at this
                exact this
              by_cases hlt3 : 4 + 4 * j < n
              · have g5 : decide (((4 + 4 * j : Nat) : Int) < n) = true := by simp; omega
                have hmod : ((4 + 4 * j : Nat) : Int) % 4294967296 = ((4 + 4 * j : Nat) : Int) := by omega
                have hws := HFF.out.1.ws (j + 1) (by omega) (by omega)
                rw [show 4 * (j + 1) = 4 + 4 * j by omega] at hws
                have hadd : ((4 + 4 * (j + 1) : Nat) : Int) = ((4 + 4 * j : Nat) : Int) + 4 := by omega
                have HA := Go.Lib.hid hadd
                by_cases hlow : 4 + 4 * j < d2.heap
                · rw [if_pos hlow] at hws
                  have g6 : decide (((4 + 4 * j : Nat) : Int) < T) = true := by simp; omega
                  have HWD := Go.Lib.hid (word_c HR3.out.1 HFF.out.1.ok (4 + 4 * j) (by omega))
                  rw [if_pos (show 4 + 4 * j < d2.n ∧ (4 + 4 * j) % 4 = 0 from ⟨by rw [HFF.out.1.nn]; exact hlt3, by omega⟩), hws] at HWD
                  clear hadd hws hlow
                  generalize ((4 + 4 * j : Nat) : Int) = u at *
                  go_wp2_with fail
                  refine HWD.out.mono ?_
                  rintro e w12 ⟨rfl, hq⟩
                  have HR4 := Go.Lib.hid (And.intro (HR3.out.1.quiet hq) (HR3.out.2.trans hq))
                  clear hq HWD
                  go_wp2_with fail
                  refine (HH12.out _ HR4.out.1).mono ?_
                  rintro e w13 ⟨rfl, rfl⟩
                  go_wp2_with fail
                  refine (num_c 0 _).mono ?_
                  rintro e w14 ⟨rfl, rfl⟩
                  go_wp2_with fail
                  refine ⟨⟨j + 1, by omega, by rw [HA.out], HR4.out.1, HR4.out.2⟩, ?_⟩
                  have := HA.out
                  simp only [intOf]
                  omega
                · rw [if_neg hlow] at hws
                  have g6 : decide (((4 + 4 * j : Nat) : Int) < T) = false := by simp; omega
                  have HWD := Go.Lib.hid (word_c HR3.out.1 HFF.out.1.ok (4 + 4 * j) (by omega))
                  rw [if_pos (show 4 + 4 * j < d2.n ∧ (4 + 4 * j) % 4 = 0 from ⟨by rw [HFF.out.1.nn]; exact hlt3, by omega⟩), hws] at HWD
                  clear hadd hws hlow
                  generalize ((4 + 4 * j : Nat) : Int) = u at *
                  go_wp2_with fail
                  refine HWD.out.mono ?_
                  rintro e w12 ⟨rfl, hq⟩
                  have HR4 := Go.Lib.hid (And.intro (HR3.out.1.quiet hq) (HR3.out.2.trans hq))
                  clear hq HWD
                  go_wp2_with fail
                  refine (HH12.out _ HR4.out.1).mono ?_
                  rintro e w13 ⟨rfl, rfl⟩
                  go_wp2_with fail
                  refine (num_c 0 _).mono ?_
                  rintro e w14 ⟨rfl, rfl⟩
                  go_wp2_with fail
                  refine ⟨⟨j + 1, by omega, by rw [HA.out], HR4.out.1, HR4.out.2⟩, ?_⟩
                  have := HA.out
                  simp only [intOf]
                  omega
              · have g5 : decide (((4 + 4 * j : Nat) : Int) < n) = false := by simp; omega
                generalize ((4 + 4 * j : Nat) : Int) = u at *
                go_wp2_with fail
                refine (HH12.out _ HR3.out.1).mono ?_
                rintro e w12 ⟨rfl, rfl⟩
                go_wp2_with fail
                refine ⟨⟨i + 1, d2, hlt, by simp, by rw [hnt, htop], HR3.out.1, HFF.out.1, HR3.out.2⟩, by simp only [intOf]; omega⟩
          · have HFF := Go.Lib.hid (HF.out.full (z := z) (by omega))
            rw [decide_eq_false (by rw [HFF.out.1]; decide)] at HST
            have g4 : decide ((d.heap : Int) + ((z : Int) + 3) / 4 * 4 > n) = true := by simp; omega
            have hdh := HF.out.hi
            go_wp2_with fail
            generalize (call1 d z).next = d2 at *
            refine HST.out.mono ?_
            rintro e w10 ⟨rfl, hm10, hc10⟩
            have hcw10 := H8.out.2.step hc10 (fun i hi h => absurd h (by unfold memF; omega))
            have HSP := Go.Lib.hid (stopped_c hm10)
            have H10 := Go.Lib.hid (And.intro hm10 hcw10)
            rw [HFF.out.1, HFF.out.2.1] at HSP
            unfold stopVal at HSP
            clear hm10 hc10 hcw10 HST H8 hza
            go_wp2_with fail
            refine HSP.out.mono ?_
            rintro e w11 ⟨rfl, hq⟩
            have H11 := Go.Lib.hid (H10.out.2.trans hq)
            have HH11 := Go.Lib.hid (heap_c (H10.out.1.quiet hq))
            rw [HFF.out.2.2] at HH11
            clear hq H10 HSP
            go_wp2_with fail
            refine HH11.out.mono ?_
            rintro e w12 ⟨rfl, rfl⟩
            go_wp2_with fail
            refine (HK.out _).mono ?_
            rintro e w13 ⟨rfl, hq⟩
            have HQ := Go.Lib.hid (H11.out.trans hq)
            clear hq
            go_wp2_with fail
            go_ret
            exact ⟨rfl, HQ.out⟩
        · have g1 : decide ((i : Int) < zs.length) = false := by simp; omega
          go_wp2_with fail
          refine (HK.out _).mono ?_
          rintro e w5 ⟨rfl, hq⟩
          have HQ := Go.Lib.hid (HD.out.2.2.trans hq)
          clear hq
          go_wp2_with fail
          go_ret
          exact ⟨rfl, HQ.out⟩
/-- what is told of a slice of words that came in -/
def InRow (w : World) (a : Option Addr) (len cap : Nat) (zs : List Int) : Prop :=
  (a = none ∧ len = 0 ∧ cap = 0 ∧ zs = []) ∨
  ∃ x, a = some x ∧ len ≤ cap ∧ cap ≤ maxLen ∧ zs.length = cap ∧ (∀ i, i < zs.length → w.cell? (x.add i) = some (.int .u32 (zs.getD i 0))) ∧ ∀ n ∈ zs, (Lit.int .u32 n).wf = true
theorem machineFresh_walk (a0 : Int) (w0 : (Lit.int .i64 a0).wf = true) (a1 : Option Addr) (len1 cap1 : Nat) (z1 : List Int) (a2 : Int) (w2 : (Lit.int .u32 a2).wf = true) (w : World) (w1 : InRow w a1 len1 cap1 z1) :
    Calls Try.prog 3 #[.int .i64 a0, .slice a1 len1 cap1, .int .u32 a2] w (Quiet (.bool true) w) := by
  by_cases h : ¬ (64 ≤ a0 ∧ a0 ≤ 16777216 ∧ a0 % 4 = 0) ∨ a0 < 256 ∨ 4096 < a0 ∨ 20 < len1
  · exact fresh_skip w a0 a1 len1 cap1 a2 h
  · obtain ⟨ws, rfl, hw, hd⟩ := row_words w1
    obtain ⟨n, rfl⟩ : ∃ n : Nat, a0 = n := ⟨a0.toNat, by omega⟩
    have := bounds_u32 w2
    exact fresh_go w n a1 cap1 ws a2 (by omega) (by omega) (by omega) hw (by omega) hd
end Go.Proofs.Ytggknljlibhkjaa
