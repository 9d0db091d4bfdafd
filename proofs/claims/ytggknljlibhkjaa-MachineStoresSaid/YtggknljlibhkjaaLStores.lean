/- What is proved: the walk of the law MachineStores. Conditions: none. -/
import Derived.Test.YtggknljlibhkjaaGMcC
import Derived.Test.YtggknljlibhkjaaMcS
import Derived.Test.YtggknljlibhkjaaLSt
import Derived.Test.YtggknljlibhkjaaLawRow
set_option linter.unusedSimpArgs false
set_option linter.unusedVariables false
namespace Go.Proofs.Ytggknljlibhkjaa
open Go Go.RowKit
set_option maxRecDepth 100000 in
set_option maxHeartbeats 4000000 in
theorem stores_may (w : World) (n : Int) (A : Option Addr) (len c pl x : Nat) (one : Bool) (h : ¬ (64 ≤ n ∧ n ≤ 16777216 ∧ n % 4 = 0)) : Calls Try.prog 4 #[.int .i64 n, .slice A len c, .int .u32 pl, .int .u32 x, .bool one] w (Quiet (.bool true) w) := by
  have HM := Go.Lib.hid (may_c n w)
  have HK := Go.Lib.hid known_c
  rw [decide_eq_false h] at HM
  clear h
  go_enter Try.func4, Try.ntmps4
  go_wp2_with fail
  refine HM.out.mono ?_
  rintro e w' ⟨rfl, rfl⟩
  go_wp2_with fail
  refine (HK.out _).mono ?_
  rintro e w1 ⟨rfl, hq⟩
  have HQ := Go.Lib.hid hq
  clear hq
  go_wp2_with fail
  go_ret
  exact ⟨rfl, HQ.out⟩
set_option maxRecDepth 100000 in
set_option maxHeartbeats 4000000 in
theorem stores_skip (w : World) (n : Nat) (A : Option Addr) (len c pl x : Nat) (one : Bool) (hn : 64 ≤ n ∧ n ≤ 16777216 ∧ n % 4 = 0) (hpb : pl < 4294967296) (h : ¬ (n ≤ 4096 ∧ len ≤ n / 4 ∧ 3 ≤ len ∧ pl < n ∧ 8 ≤ pl ∧ (one = true ∨ pl % 4 = 0))) : Calls Try.prog 4 #[.int .i64 n, .slice A len c, .int .u32 pl, .int .u32 x, .bool one] w (Quiet (.bool true) w) := by
  have HM := Go.Lib.hid (may_c n w)
  have HK := Go.Lib.hid known_c
  rw [decide_eq_true (show 64 ≤ (n : Int) ∧ (n : Int) ≤ 16777216 ∧ (n : Int) % 4 = 0 by omega)] at HM
  by_cases c0 : n ≤ 4096
  · have g0 : decide ((n : Int) > 4096) = false := by simp; omega
    by_cases c1 : len ≤ n / 4
    · have g1 : decide ((n : Int) / 4 < (len : Int)) = false := by simp; omega
      by_cases c2 : 3 ≤ len
      · have g2 : decide ((len : Int) < 3) = false := by simp; omega
        by_cases c3 : pl < n
        · have g3 : decide ((pl : Int) ≥ (n : Int)) = false := by simp; omega
          by_cases c4 : 8 ≤ pl
          · have g4 : decide ((pl : Int) < 8) = false := by simp; omega
            obtain rfl : one = false := by cases one <;> simp_all
            have g9 : ((pl : Int) % 4 != 0) = true := by
              have : ¬ (pl : Int) % 4 = 0 := by omega
              simpa using this
            clear h
            go_enter Try.func4, Try.ntmps4
            go_wp2_with fail
            refine HM.out.mono ?_
            rintro e w' ⟨rfl, rfl⟩
            go_wp2_with fail
            refine (HK.out _).mono ?_
            rintro e w1 ⟨rfl, hq⟩
            have HQ := Go.Lib.hid hq
            clear hq
            go_wp2_with fail
            go_ret
            exact ⟨rfl, HQ.out⟩
          · have g4 : decide ((pl : Int) < 8) = true := by simp; omega
            clear h
            go_enter Try.func4, Try.ntmps4
            go_wp2_with fail
            refine HM.out.mono ?_
            rintro e w' ⟨rfl, rfl⟩
            go_wp2_with fail
            refine (HK.out _).mono ?_
            rintro e w1 ⟨rfl, hq⟩
            have HQ := Go.Lib.hid hq
            clear hq
            go_wp2_with fail
            go_ret
            exact ⟨rfl, HQ.out⟩
        · have g3 : decide ((pl : Int) ≥ (n : Int)) = true := by simp; omega
          clear h
          go_enter Try.func4, Try.ntmps4
          go_wp2_with fail
          refine HM.out.mono ?_
          rintro e w' ⟨rfl, rfl⟩
          go_wp2_with fail
          refine (HK.out _).mono ?_
          rintro e w1 ⟨rfl, hq⟩
          have HQ := Go.Lib.hid hq
          clear hq
          go_wp2_with fail
          go_ret
          exact ⟨rfl, HQ.out⟩
      · have g2 : decide ((len : Int) < 3) = true := by simp; omega
        clear h
        go_enter Try.func4, Try.ntmps4
        go_wp2_with fail
        refine HM.out.mono ?_
        rintro e w' ⟨rfl, rfl⟩
        go_wp2_with fail
        refine (HK.out _).mono ?_
        rintro e w1 ⟨rfl, hq⟩
        have HQ := Go.Lib.hid hq
        clear hq
        go_wp2_with fail
        go_ret
        exact ⟨rfl, HQ.out⟩
    · have g1 : decide ((n : Int) / 4 < (len : Int)) = true := by simp; omega
      clear h
      go_enter Try.func4, Try.ntmps4
      go_wp2_with fail
      refine HM.out.mono ?_
      rintro e w' ⟨rfl, rfl⟩
      go_wp2_with fail
      refine (HK.out _).mono ?_
      rintro e w1 ⟨rfl, hq⟩
      have HQ := Go.Lib.hid hq
      clear hq
      go_wp2_with fail
      go_ret
      exact ⟨rfl, HQ.out⟩
  · have g0 : decide ((n : Int) > 4096) = true := by simp; omega
    clear h
    go_enter Try.func4, Try.ntmps4
    go_wp2_with fail
    refine HM.out.mono ?_
    rintro e w' ⟨rfl, rfl⟩
    go_wp2_with fail
    refine (HK.out _).mono ?_
    rintro e w1 ⟨rfl, hq⟩
    have HQ := Go.Lib.hid hq
    clear hq
    go_wp2_with fail
    go_ret
    exact ⟨rfl, HQ.out⟩
theorem field_regs (v0 v1 v2 v3 v4 v5 v6 v7 v8 v9 v10 v11 v12 v13 v14 v15 v16 v17 v18 v19 v20 v21 : Value) (W : World) : (Instr.field 41 (.agg #[v0, v1, v2, v3, v4, v5, v6, v7, v8, v9, v10, v11, v12, v13, v14, v15, v16, v17, v18, v19, v20, v21]) 0).run Try.prog W = .ok (.agg #[v0, v1, v2, v3, v4, v5, v6, v7, v8, v9, v10, v11, v12, v13, v14, v15]) W := by kernel_rfl
theorem index_regs4 (v0 v1 v2 v3 v4 v5 v6 v7 v8 v9 v10 v11 v12 v13 v14 v15 : Value) (W : World) : (Instr.index 39 (.agg #[v0, v1, v2, v3, v4, v5, v6, v7, v8, v9, v10, v11, v12, v13, v14, v15]) (.int .i64 4)).run Try.prog W = .ok v4 W := by kernel_rfl
def in_st (one : Bool) : In := ⟨3, false, one, 2, 3, 0, 0, 0, 0, 0, 0⟩
def in_ld (one : Bool) : In := ⟨2, false, one, 4, 3, 0, 0, 0, 0, 0, 0⟩
theorem word_st (one : Bool) : WordOf (in_st one) (stW one) := by cases one; exact fun W => word_stw W; exact fun W => word_stb W
theorem word_ld (one : Bool) : WordOf (in_ld one) (ldW one) := by cases one; exact fun W => word_ldw W; exact fun W => word_ldb W
set_option maxRecDepth 100000 in
set_option maxHeartbeats 4000000 in
theorem stores_true (w : World) (n : Nat) (A : Option Addr) (c : Nat) (zs : List Nat) (pl x : Nat) (hn : 64 ≤ n ∧ n ≤ 16777216 ∧ n % 4 = 0) (h1 : n ≤ 4096) (h2 : zs.length ≤ n / 4) (h3 : 3 ≤ zs.length) (h4 : pl < n) (h8 : 8 ≤ pl) (ho : true = true ∨ pl % 4 = 0) (hx : x < 4294967296) (hz : ∀ z ∈ zs, z < 4294967296) (hc : CellsAt w A (wv32 zs)) :
    Calls Try.prog 4 #[.int .i64 n, .slice A zs.length c, .int .u32 pl, .int .u32 x, .bool true] w (Quiet (.bool true) w) := by
  have HM := Go.Lib.hid (may_c n w)
  rw [decide_eq_true (show 64 ≤ (n : Int) ∧ (n : Int) ≤ 16777216 ∧ (n : Int) % 4 = 0 by omega)] at HM
  have HK := Go.Lib.hid known_c
  have hl : (zs.map fun (z : Nat) => (z : Int)).length = zs.length := by simp
  have hb : ∀ y ∈ zs.map (fun (z : Nat) => (z : Int)), 0 ≤ y ∧ y < 4294967296 := fun y hy => by
    obtain ⟨z, hz', rfl⟩ := List.mem_map.1 hy
    have := hz z hz'
    omega
  have hcc : CellsAt w A (u32s (zs.map fun (z : Nat) => (z : Int))) := by
    have : u32s (zs.map fun (z : Nat) => (z : Int)) = wv32 zs := by simp [u32s, wv32]
    rw [this]; exact hc
  have HN := Go.Lib.hid (new_v 10 (by decide) w)
  have HMN : Hid (∀ (W : World) (s : Nat) (F : Nat → Prop), StoreV w.heap.size W s ⟨10, [], [], []⟩ F → Chg NoB w W → Calls Try.prog 9 #[.int .i64 n, .slice A zs.length c, .pointer (some ⟨s, 0, none⟩)] W (MNewPost s n (zs.map fun (z : Nat) => (z : Int)) w.heap.size ⟨10, [], [], []⟩ F W)) := Go.Lib.hid fun W s F h hq => by
    have := mnew_c h n A c (zs.map fun (z : Nat) => (z : Int)) hn (by rw [hl]; exact h2) hb (hcc.chg hq (fun _ _ => id))
    rw [hl] at this
    exact this
  have HW2 : Hid (∀ W g, Blk W g InT ((in_st true).arr ++ (in_ld true).arr) → Calls Try.prog 10 #[.slice (some ⟨g, 0, none⟩) 2 2] W (wordsOwn [stW true, ldW true] W)) := Go.Lib.hid fun W g h => words2_o (in_st true) (in_ld true) _ _ (word_st true) (word_ld true) W g h
  have hlz : (zs.map fun (z : Nat) => (z : Int)).length ≤ n / 4 := by rw [hl]; exact h2
  have HD : Hid ((stD n (zs.map fun (z : Nat) => (z : Int)) true).Ok ∧ (stC n (zs.map fun (z : Nat) => (z : Int)) true x pl).Ok ∧ (stC n (zs.map fun (z : Nat) => (z : Int)) true x pl).heap ≤ n) := Go.Lib.hid ⟨stD_ok hn hlz hb, (stC_ok hn hlz hb hx (by omega)).1, (show (stC n (zs.map fun (z : Nat) => (z : Int)) true x pl).heap ≤ (stC n (zs.map fun (z : Nat) => (z : Int)) true x pl).n from (stC_ok hn hlz hb hx (by omega)).2)⟩
  have HO := Go.Lib.hid (mnew_ok n (zs.map fun (z : Nat) => (z : Int)) hn hlz hb).1
  clear hl hb hcc hc hz hlz
  generalize (zs.map fun (z : Nat) => (z : Int)) = l at *
  have g0 : decide ((n : Int) > 4096) = false := by simp; omega
  have g1 : decide ((n : Int) / 4 < (zs.length : Int)) = false := by simp; omega
  have g2 : decide ((zs.length : Int) < 3) = false := by simp; omega
  have g3 : decide ((pl : Int) ≥ (n : Int)) = false := by simp; omega
  have g4 : decide ((pl : Int) < 8) = false := by simp; omega
  unfold ptr at HN
  go_enter Try.func4, Try.ntmps4
  go_wp2_with fail
  refine HM.out.mono ?_
  rintro e w' ⟨rfl, rfl⟩
  go_wp2_with fail
  refine HN.out.mono ?_
  rintro e w1 ⟨s, F, rfl, hS, hc1⟩
  have H1 := Go.Lib.hid (And.intro hS hc1)
  clear hS hc1 HN HM g0 g1 g2 g3 g4 
  go_wp2_with fail
  refine (HMN.out _ _ _ H1.out.1 H1.out.2).mono ?_
  rintro e w2 ⟨p, mb, mm, rfl, hm, hS3, hc3, hp, hmb, hmm⟩
  have hsz := H1.out.2.size
  have hFlt : ∀ k, F k → k < w1.heap.size := fun k hk => H1.out.1.lt hk
  have HB2 := Go.Lib.hid (And.intro hm (And.intro hS3 (H1.out.2.trans hc3)))
  have hlt := hm.lt
  clear hm hS3 hc3 H1 hmm HMN
  go_wp2_with fail
  refine (num_c 0 _).mono ?_
  rintro e w3 ⟨rfl, rfl⟩
  go_wp2_with fail
  refine (HW2.out _ _ (Blk.new _ _ _)).mono ?_
  rintro e w4 ⟨A1, c1, rfl, hown, hq⟩
  obtain ⟨g, cap, hAg, hg1, hg2⟩ := hown.form (by decide)
  obtain ⟨rfl, rfl⟩ : A1 = some ⟨g, 0, none⟩ ∧ c1 = cap := by simpa using hAg
  have hq4 := ((Chg.refl NoB w3).alloc _).trans hq
  have hgg : w3.heap.size < g := by simp at hg1; omega
  have HB : Hid (MAt w4 p mb s mm (Mc.new n l) ∧ StoreV w'.heap.size w4 s ⟨10, [], [], []⟩ F ∧ Chg NoB w' w4) := Go.Lib.hid (And.intro (HB2.out.1.quiet hq4) (And.intro (HB2.out.2.1.quiet hq4) (HB2.out.2.2.trans hq4)))
  have HL : Hid (w4.drew.cell? ⟨g, 0, none⟩ = some (.int .u32 (stW true)) ∧ w4.drew.cell? ⟨g, 1, none⟩ = some (.int .u32 (ldW true))) := Go.Lib.hid (by
    obtain ⟨ad, had, hcl⟩ := CellsAt.of_own hown (by simp [u32s])
    obtain rfl := Option.some.inj had
    have e0 := hcl 0 _ rfl
    have e1 := hcl 1 _ rfl
    rw [add0] at e0 e1
    exact ⟨e0, e1⟩)
  have HLC : Hid (∀ V V' : World, V.cell? ⟨g, 0, none⟩ = some (.int .u32 (stW true)) ∧ V.cell? ⟨g, 1, none⟩ = some (.int .u32 (ldW true)) → Chg (memF p mb) V V' → V'.cell? ⟨g, 0, none⟩ = some (.int .u32 (stW true)) ∧ V'.cell? ⟨g, 1, none⟩ = some (.int .u32 (ldW true))) := Go.Lib.hid fun V V' h hc => by
    have hg : ¬ memF p mb g := by unfold memF; omega
    exact ⟨(World.cell?_of_block (hc.block g (World.block_lt_of_cell? V ⟨g, 0, none⟩ h.1) hg)).trans h.1, (World.cell?_of_block (hc.block g (World.block_lt_of_cell? V ⟨g, 1, none⟩ h.2) hg)).trans h.2⟩
  have HSA : Hid (∀ V, MAt V p mb s mm (Mc.new n l) → Calls Try.prog 12 #[.pointer (some ⟨p, 0, none⟩), .int .u32 0, .int .u32 (stW true)] V (MPost p mb s mm (.int .i64 0) { Mc.new n l with M := putWord (Mc.new n l).M 0 (stW true) } V)) := Go.Lib.hid fun V hV => by
    have := setWord_c hV HO.out 0 (by decide) (stW true) (stW_bd true)
    rw [if_pos (show 0 < (Mc.new n l).n ∧ 0 % 4 = 0 from ⟨show 0 < n by omega, rfl⟩), if_pos (show 0 < (Mc.new n l).n ∧ 0 % 4 = 0 from ⟨show 0 < n by omega, rfl⟩)] at this
    exact this
  have HSB : Hid (∀ V, MAt V p mb s mm { Mc.new n l with M := putWord (Mc.new n l).M 0 (stW true) } → Calls Try.prog 12 #[.pointer (some ⟨p, 0, none⟩), .int .u32 4, .int .u32 (ldW true)] V (MPost p mb s mm (.int .i64 0) (stD n l true) V)) := Go.Lib.hid fun V hV => by
    have hok : ({ Mc.new n l with M := putWord (Mc.new n l).M 0 (stW true) } : Mc).Ok := ⟨HO.out.c, putWord_bd HO.out.m 0 (stW_bd true), HO.out.n, HO.out.heap⟩
    have := setWord_c hV hok 4 (by decide) (ldW true) (ldW_bd true)
    rw [if_pos (show 4 < (Mc.new n l).n ∧ 4 % 4 = 0 from ⟨show 4 < n by omega, rfl⟩), if_pos (show 4 < (Mc.new n l).n ∧ 4 % 4 = 0 from ⟨show 4 < n by omega, rfl⟩)] at this
    exact this
  clear hown hq hq4 HB2 HW2 hAg hg1
  go_wp2_with fail
  refine regionH (fun V' => V'.cell? ⟨g, 0, none⟩ = some (.int .u32 (stW true)) ∧ V'.cell? ⟨g, 1, none⟩ = some (.int .u32 (ldW true))) (by kernel_rfl) HL.out (fun hS => ?_)
  refine takeH (i := 0) (t := 87) (v := ?v0y1) rfl (by kernel_rfl) (by kernel_rfl) (by kernel_rfl) (fun _ _ _ h => h) rfl (Or.inl ⟨by rfl, ?h0y1⟩) hS ?r0y1
  case h0y1 => (intro V' hSw; go_simp; try with_reducible rfl)
  try simp only [List.setIfInBounds_toArray, List.set_cons_zero, List.set_cons_succ]
  refine takeH (i := 1) (t := 88) (v := ?v1y2) rfl (by kernel_rfl) (by kernel_rfl) (by kernel_rfl) (fun _ _ _ h => h) rfl (Or.inl ⟨by rfl, ?h1y2⟩) hS ?r1y2
  case h1y2 => (intro V' hSw; go_simp; try with_reducible rfl)
  try simp only [List.setIfInBounds_toArray, List.set_cons_zero, List.set_cons_succ]
  refine takeH (i := 2) (t := 89) (v := ?v2y3) rfl (by kernel_rfl) (by kernel_rfl) (by kernel_rfl) (fun _ _ _ h => h) rfl (Or.inl ⟨by rfl, ?h2y3⟩) hS ?r2y3
  case h2y3 => (intro V' hSw; go_simp; try with_reducible rfl)
  try simp only [List.setIfInBounds_toArray, List.set_cons_zero, List.set_cons_succ]
  refine takeH (i := 3) (t := 90) (v := ?v3y4) rfl (by kernel_rfl) (by kernel_rfl) (by kernel_rfl) (fun _ _ _ h => h) rfl (Or.inl ⟨by rfl, ?h3y4⟩) hS ?r3y4
  case h3y4 => (intro V' hSw; have z := hSw.1; clear hSw; go_simp; try with_reducible rfl)
  try simp only [List.setIfInBounds_toArray, List.set_cons_zero, List.set_cons_succ]
  refine takeH (i := 6) (t := 93) (v := ?v6y5) rfl (by kernel_rfl) (by kernel_rfl) (by kernel_rfl) (fun _ _ _ h => h) rfl (Or.inl ⟨by rfl, ?h6y5⟩) hS ?r6y5
  case h6y5 => (intro V' hSw; go_simp; try with_reducible rfl)
  try simp only [List.setIfInBounds_toArray, List.set_cons_zero, List.set_cons_succ]
  refine takeH (i := 7) (t := 94) (v := ?v7y6) rfl (by kernel_rfl) (by kernel_rfl) (by kernel_rfl) (fun _ _ _ h => h) rfl (Or.inl ⟨by rfl, ?h7y6⟩) hS ?r7y6
  case h7y6 => (intro V' hSw; go_simp; try with_reducible rfl)
  try simp only [List.setIfInBounds_toArray, List.set_cons_zero, List.set_cons_succ]
  refine takeH (i := 8) (t := 95) (v := ?v8y7) rfl (by kernel_rfl) (by kernel_rfl) (by kernel_rfl) (fun _ _ _ h => h) rfl (Or.inl ⟨by rfl, ?h8y7⟩) hS ?r8y7
  case h8y7 => (intro V' hSw; go_simp; try with_reducible rfl)
  try simp only [List.setIfInBounds_toArray, List.set_cons_zero, List.set_cons_succ]
  refine takeH (i := 9) (t := 96) (v := ?v9y8) rfl (by kernel_rfl) (by kernel_rfl) (by kernel_rfl) (fun _ _ _ h => h) rfl (Or.inl ⟨by rfl, ?h9y8⟩) hS ?r9y8
  case h9y8 => (intro V' hSw; have z := hSw.2; clear hSw; go_simp; try with_reducible rfl)
  try simp only [List.setIfInBounds_toArray, List.set_cons_zero, List.set_cons_succ]
  refine manyH (i := 4) (l := []) (by kernel_rfl) ?hm4
  case hm4 =>
    intro j hj
    obtain rfl : j = 4 := by simpa using hj
    refine opCallH (t := 91) (f := 12) (args := #[.pointer (some ⟨p, 0, none⟩), .int .u32 0, .int .u32 (stW true)]) rfl rfl (by rfl) ?hx4 ?hc4
    case hx4 => (go_simp; try rfl)
    case hc4 =>
      refine (HSA.out _ (HB.out.1.quiet (Chg.refl NoB _).drew)).mono ?_
      rintro ee w5 ⟨rfl, hm1, hc1⟩
      have hS := HLC.out _ _ hS hc1
      have hch := ((Chg.refl (memF p mb) w4).drew).trans hc1
      refine ⟨_, rfl, hS, ?_⟩
      try simp only [List.setIfInBounds_toArray, List.set_cons_zero, List.set_cons_succ]
      refine manyH (i := 5) (l := []) (by kernel_rfl) ?hm5
      case hm5 =>
        intro j hj
        obtain rfl : j = 5 := by simpa using hj
        refine opCallH (t := 92) (f := 11) (args := #[.int .i64 0]) rfl rfl (by rfl) ?hx5 ?hc5
        case hx5 => (go_simp; try rfl)
        case hc5 =>
          refine (num_c 0 _).mono ?_
          rintro ee w6 ⟨rfl, rfl⟩
          refine ⟨_, rfl, hS, ?_⟩
          try simp only [List.setIfInBounds_toArray, List.set_cons_zero, List.set_cons_succ]
          refine manyH (i := 10) (l := []) (by kernel_rfl) ?hm10
          case hm10 =>
            intro j hj
            obtain rfl : j = 10 := by simpa using hj
            refine opCallH (t := 97) (f := 12) (args := #[.pointer (some ⟨p, 0, none⟩), .int .u32 4, .int .u32 (ldW true)]) rfl rfl (by rfl) ?hx10 ?hc10
            case hx10 => (go_simp; try rfl)
            case hc10 =>
              refine (HSB.out _ hm1).mono ?_
              rintro ee w7 ⟨rfl, hm2, hc2⟩
              have hS := HLC.out _ _ hS hc2
              have hch := hch.trans hc2
              refine ⟨_, rfl, hS, ?_⟩
              try simp only [List.setIfInBounds_toArray, List.set_cons_zero, List.set_cons_succ]
              refine manyH (i := 11) (l := []) (by kernel_rfl) ?hm11
              case hm11 =>
                intro j hj
                obtain rfl : j = 11 := by simpa using hj
                refine opCallH (t := 98) (f := 11) (args := #[.int .i64 0]) rfl rfl (by rfl) ?hx11 ?hc11
                case hx11 => (go_simp; try rfl)
                case hc11 =>
                  refine (num_c 0 _).mono ?_
                  rintro ee w8 ⟨rfl, rfl⟩
                  refine ⟨_, rfl, hS, ?_⟩
                  try simp only [List.setIfInBounds_toArray, List.set_cons_zero, List.set_cons_succ]
                  refine takeH (i := 12) (t := 99) (v := ?v12y9) rfl (by kernel_rfl) (by kernel_rfl) (by kernel_rfl) (fun _ _ _ h => h) rfl (Or.inl ⟨by rfl, ?h12y9⟩) hS ?r12y9
                  case h12y9 => (intro V' hSw; go_simp; try with_reducible rfl)
                  try simp only [List.setIfInBounds_toArray, List.set_cons_zero, List.set_cons_succ]
                  refine takeH (i := 13) (t := 100) (v := ?v13y10) rfl (by kernel_rfl) (by kernel_rfl) (by kernel_rfl) (fun _ _ _ h => h) rfl (Or.inl ⟨by rfl, ?h13y10⟩) hS ?r13y10
                  case h13y10 => (intro V' hSw; go_simp; try with_reducible rfl)
                  try simp only [List.setIfInBounds_toArray, List.set_cons_zero, List.set_cons_succ]
                  refine wpAnyH_done (by kernel_rfl) ?_ _
                  have hSt : StoreV w'.heap.size w8 s ⟨10, [], [], []⟩ F := HB.out.2.1.chg hch (fun k hk => by have := hFlt k hk; unfold memF; omega)
                  have hW8 : Chg NoB w' w8 := HB.out.2.2.step hch (fun i hi h => absurd h (by unfold memF; omega))
                  have HCO := Go.Lib.hid (mcopy_c hm2 HD.out.1 hSt)
                  have hlt8 := hm2.lt
                  have HM8 := Go.Lib.hid (And.intro hm2 hW8)
                  have h48 := hch.size
                  clear hm1 hm2 hc1 hc2 hch hSt hW8 hS HSA HSB HLC HL HB
                  go_wp2_with fail
                  refine HCO.out.mono ?_
                  rintro e w9 ⟨p2, mb2, cap2, rfl, hk, hq, hp2, hmb2⟩
                  have H9 := Go.Lib.hid (And.intro (HM8.out.1.quiet hq) (And.intro hk (HM8.out.2.trans hq)))
                  have h9a : p2 < w9.heap.size := World.block_lt_of_cell? w9 _ hk.m
                  have h9b : mb2 < w9.heap.size := World.block_lt_of_cell? w9 _ (hk.b 0 (show 0 < n by omega))
                  have h89 := hq.size
                  have HCP := Go.Lib.hid (cpu_c H9.out.1)
                  clear hk hq HCO HM8
                  go_wp2_with fail
                  refine HCP.out.mono ?_
                  rintro e w10 ⟨rfl, hq5⟩
                  have h10 := hq5.size
                  have H5 := Go.Lib.hid (And.intro (H9.out.1.quiet hq5) (And.intro (H9.out.2.1.chg hq5 (fun h => h) (fun h => h)) (H9.out.2.2.trans hq5)))
                  have HB5 := Go.Lib.hid (fun cs => (Blk.new w10 CpT cs))
                  clear hq5 HCP H9
                  unfold Cp.val
                  go_upto_region 12 with (first
                    | (refine wpList_store_row rfl 41 (.tmp 17) (.tmp 104) rfl w10.heap.size (stD n l true).c.arr rfl rfl CpT Cp.zero.arr (HB5.out _) (by kernel_rfl) (by rfl) (by kernel_rfl) ?_))
                  have hB6 : Blk ((w10.alloc (.cells Cp.zero.arr CpT)).setRow w10.heap.size (stD n l true).c.arr) w10.heap.size CpT (stD n l true).c.arr := (HB5.out _).setRow _
                  have hC6 : Chg NoB w10 ((w10.alloc (.cells Cp.zero.arr CpT)).setRow w10.heap.size (stD n l true).c.arr) := ((Chg.refl NoB w10).alloc _).setRow (fun h => absurd h (by omega)) _
                  change (Code.wp _ _ _ _ ((w10.alloc (.cells Cp.zero.arr CpT)).setRow w10.heap.size (stD n l true).c.arr))
                  have h0t := H5.out.2.2.size
                  generalize (w10.alloc (.cells Cp.zero.arr CpT)).setRow w10.heap.size (stD n l true).c.arr = W6 at *
                  generalize w10.heap.size = gg at *
                  have H6 := Go.Lib.hid (And.intro (H5.out.1.quiet hC6) (And.intro (H5.out.2.1.chg hC6 (fun h => h) (fun h => h)) (And.intro (H5.out.2.2.trans hC6) hB6)))
                  clear hB6 hC6 H5 HB5
                  have k2 : W6.cell? ⟨gg, 2, none⟩ = some (.int .u32 ((stD n l true).c.R 2)) := H6.out.2.2.2.cell 2
                  have k3 : W6.cell? ⟨gg, 3, none⟩ = some (.int .u32 ((stD n l true).c.R 3)) := H6.out.2.2.2.cell 3
                  have z2 := H6.out.2.2.2.frozen 2
                  have z3 := H6.out.2.2.2.frozen 3
                  go_upto_region 13 with fail
                  clear k2 k3 z2 z3
                  have hB7 : Blk ((W6.setCell ⟨gg, 2, none⟩ (.int .u32 x)).setCell ⟨gg, 3, none⟩ (.int .u32 pl)) gg CpT (stC n l true x pl).c.arr := (H6.out.2.2.2.set_ 2 _).set_ 3 _
                  have hC0 : Chg (fun k => k = gg) W6 ((W6.setCell ⟨gg, 2, none⟩ (.int .u32 x)).setCell ⟨gg, 3, none⟩ (.int .u32 pl)) := ((Chg.refl (fun k => k = gg) W6).setCell (p := ⟨gg, 2, none⟩) (fun _ => rfl) _).setCell (p := ⟨gg, 3, none⟩) (fun _ => rfl) _
                  have hM7 := H6.out.1
                  have hM7 := hM7.chg hC0 (show ¬ p = gg by omega) (show ¬ mb = gg by omega) (hM7.mm_ne H6.out.2.2.2)
                  have hK7 := H6.out.2.1.chg hC0 (show ¬ p2 = gg by omega) (show ¬ mb2 = gg by omega)
                  have hC7 := H6.out.2.2.1.step hC0 (fun i hi h => absurd h (show ¬ i = gg by omega))
                  generalize (W6.setCell ⟨gg, 2, none⟩ (.int .u32 x)).setCell ⟨gg, 3, none⟩ (.int .u32 pl) = W7 at *
                  have HSC : Hid (Calls Try.prog 14 #[.pointer (some ⟨p, 0, none⟩), .agg (stC n l true x pl).c.arr] W7 (MPost p mb s mm (.int .i64 0) (stC n l true x pl) W7)) := Go.Lib.hid (setCpu_c hM7 (stC n l true x pl).c)
                  have H7 := Go.Lib.hid (And.intro hB7 (And.intro hK7 hC7))
                  clear hB7 hM7 hC7 hK7 hC0 H6
                  go_wp2_with (first
                    | (refine wpList_load_row rfl 41 (.tmp 17) rfl gg rfl CpT (stC n l true x pl).c.arr (0, 0) _ H7.out.1 Try.underlying41 rfl (by kernel_rfl) ?_))
                  refine HSC.out.mono ?_
                  rintro e w11 ⟨rfl, hm8, hc8⟩
                  have hk8 := H7.out.2.1.chg hc8 (show ¬ memF p mb p2 by unfold memF; omega) (show ¬ memF p mb mb2 by unfold memF; omega)
                  have hcw8 := H7.out.2.2.step hc8 (fun i hi h => absurd h (by unfold memF; omega))
                  have HST := Go.Lib.hid (next_c hm8 HD.out.2.1 HD.out.2.2 (stC_alone hx (by omega)))
                  have H8 := Go.Lib.hid (And.intro hk8 hcw8)
                  rw [stC_next (by omega) hx h4 (by first | exact ho | exact .inl rfl), decide_eq_true (show (stE n l true x pl).kind = 0 from rfl)] at HST
                  clear hm8 hc8 hk8 hcw8 HSC H7
                  go_wp2_with fail
                  refine (num_c 0 _).mono ?_
                  rintro e w12 ⟨rfl, rfl⟩
                  go_wp2_with fail
                  refine HST.out.mono ?_
                  rintro e w13 ⟨rfl, hm9, hc9⟩
                  have H10 := Go.Lib.hid (And.intro hm9 (And.intro (H8.out.1.chg hc9 (show ¬ memF p mb p2 by unfold memF; omega) (show ¬ memF p mb mb2 by unfold memF; omega)) (H8.out.2.step hc9 (fun i hi h => absurd h (by unfold memF; omega)))))
                  have HE : Hid ((stE n l true x pl).Ok ∧ (stE n l true x pl).heap ≤ (stE n l true x pl).n) := Go.Lib.hid (by
                    have := next_ok HD.out.2.1 HD.out.2.2
                    rw [stC_next (by omega) hx h4 (by first | exact ho | exact .inl rfl)] at this
                    exact this)
                  clear hm9 hc9 HST H8
                  go_wp2_with fail
                  go_loopw [18] (fun v18 wr => ∃ i : Nat, i ≤ n ∧ v18 = .int .u32 i ∧ MAt wr p mb s mm (stE n l true x pl) ∧ MLk wr p2 mb2 n cap2 (stD n l true).M ∧ Chg NoB w' wr) (fun v18 _ => n - (intOf v18).toNat)
                  case atStart => exact ⟨0, Nat.zero_le _, rfl, H10.out⟩
                  case round =>
                    obtain ⟨i, hi, rfl, hrr⟩ := hrel
                    have HR := Go.Lib.hid hrr
                    clear hrr H10
                    by_cases hlt3 : i < n
                    · have g9 : decide ((i : Int) < (n : Int)) = true := by simp; omega
                      by_cases ca : pl ≤ i
                      · have k1 : decide ((i : Int) ≥ (pl : Int)) = true := by simp; omega
                        by_cases cb : i < pl + 4
                        · have k2 : decide ((i : Int) < (pl : Int) + 4) = true := by simp; omega
                          by_cases cc : i = pl
                          · have k3 : ((i : Int) == (pl : Int)) = true := by simp; omega
                            have k4 : (i : Int) - (pl : Int) = 0 := by omega
                            have hval : (stE n l true x pl).M i = _ := stE_M i
                            simp only [if_pos cc, if_pos] at hval
                            have HCC := Go.Lib.hid cc
                            clear cc
                            have HBY := Go.Lib.hid (byte_c HR.out.1 HE.out.1 i (by omega))
                            rw [if_pos (show i < (stE n l true x pl).n from hlt3), hval] at HBY
                            clear hval
                            go_wp2_with fail
                            refine HBY.out.mono ?_
                            rintro e w14 ⟨rfl, hq⟩
                            have hr4 := HR.out
                            have HR4 := Go.Lib.hid (And.intro (hr4.1.quiet hq) (And.intro (hr4.2.1.chg hq (fun h => h) (fun h => h)) (hr4.2.2.trans hq)))
                            have HKY := Go.Lib.hid (kbyte_c HR4.out.2.1 hn.2.1 i hlt3)
                            clear hq hr4 HBY
                            go_wp2_with fail
                            refine HKY.out.mono ?_
                            rintro e w15 ⟨rfl, hq⟩
                            have hr4 := HR4.out
                            have HR5 := Go.Lib.hid (And.intro (hr4.1.quiet hq) (And.intro (hr4.2.1.chg hq (fun h => h) (fun h => h)) (hr4.2.2.trans hq)))
                            clear hq hr4 HKY HR4 HR
                            go_wp2_with fail
                            refine (num_c 0 _).mono ?_
                            rintro e w16 ⟨rfl, rfl⟩
                            go_wp2_with fail
                            refine (num_c 0 _).mono ?_
                            rintro e w17 ⟨rfl, rfl⟩
                            go_wp2_with fail
                            refine ⟨⟨i + 1, hlt3, by simp, HR5.out⟩, by simp only [intOf]; omega⟩
                          · have k3 : ((i : Int) == (pl : Int)) = false := by simp; omega
                            have hval : (stE n l true x pl).M i = _ := stE_M i
                            simp only [if_neg cc, if_pos] at hval
                            have HBY := Go.Lib.hid (byte_c HR.out.1 HE.out.1 i (by omega))
                            rw [if_pos (show i < (stE n l true x pl).n from hlt3), hval] at HBY
                            clear hval
                            go_wp2_with fail
                            refine HBY.out.mono ?_
                            rintro e w14 ⟨rfl, hq⟩
                            have hr4 := HR.out
                            have HR4 := Go.Lib.hid (And.intro (hr4.1.quiet hq) (And.intro (hr4.2.1.chg hq (fun h => h) (fun h => h)) (hr4.2.2.trans hq)))
                            have HKY := Go.Lib.hid (kbyte_c HR4.out.2.1 hn.2.1 i hlt3)
                            clear hq hr4 HBY
                            go_wp2_with fail
                            refine HKY.out.mono ?_
                            rintro e w15 ⟨rfl, hq⟩
                            have hr4 := HR4.out
                            have HR5 := Go.Lib.hid (And.intro (hr4.1.quiet hq) (And.intro (hr4.2.1.chg hq (fun h => h) (fun h => h)) (hr4.2.2.trans hq)))
                            clear hq hr4 HKY HR4 HR
                            go_wp2_with fail
                            refine (num_c 0 _).mono ?_
                            rintro e w16 ⟨rfl, rfl⟩
                            go_wp2_with fail
                            refine (num_c 0 _).mono ?_
                            rintro e w17 ⟨rfl, rfl⟩
                            go_wp2_with fail
                            refine ⟨⟨i + 1, hlt3, by simp, HR5.out⟩, by simp only [intOf]; omega⟩
                        · have k2 : decide ((i : Int) < (pl : Int) + 4) = false := by simp; omega
                          have hval : (stE n l true x pl).M i = _ := stE_M i
                          simp only [if_neg (show ¬ i = pl by omega), if_pos] at hval
                          have HBY := Go.Lib.hid (byte_c HR.out.1 HE.out.1 i (by omega))
                          rw [if_pos (show i < (stE n l true x pl).n from hlt3), hval] at HBY
                          clear hval
                          go_wp2_with fail
                          refine HBY.out.mono ?_
                          rintro e w14 ⟨rfl, hq⟩
                          have hr4 := HR.out
                          have HR4 := Go.Lib.hid (And.intro (hr4.1.quiet hq) (And.intro (hr4.2.1.chg hq (fun h => h) (fun h => h)) (hr4.2.2.trans hq)))
                          have HKY := Go.Lib.hid (kbyte_c HR4.out.2.1 hn.2.1 i hlt3)
                          clear hq hr4 HBY
                          go_wp2_with fail
                          refine HKY.out.mono ?_
                          rintro e w15 ⟨rfl, hq⟩
                          have hr4 := HR4.out
                          have HR5 := Go.Lib.hid (And.intro (hr4.1.quiet hq) (And.intro (hr4.2.1.chg hq (fun h => h) (fun h => h)) (hr4.2.2.trans hq)))
                          clear hq hr4 HKY HR4 HR
                          go_wp2_with fail
                          refine (num_c 0 _).mono ?_
                          rintro e w16 ⟨rfl, rfl⟩
                          go_wp2_with fail
                          refine (num_c 0 _).mono ?_
                          rintro e w17 ⟨rfl, rfl⟩
                          go_wp2_with fail
                          refine ⟨⟨i + 1, hlt3, by simp, HR5.out⟩, by simp only [intOf]; omega⟩
                      · have k1 : decide ((i : Int) ≥ (pl : Int)) = false := by simp; omega
                        have hval : (stE n l true x pl).M i = _ := stE_M i
                        simp only [if_neg (show ¬ i = pl by omega), if_pos] at hval
                        have HBY := Go.Lib.hid (byte_c HR.out.1 HE.out.1 i (by omega))
                        rw [if_pos (show i < (stE n l true x pl).n from hlt3), hval] at HBY
                        clear hval
                        go_wp2_with fail
                        refine HBY.out.mono ?_
                        rintro e w14 ⟨rfl, hq⟩
                        have hr4 := HR.out
                        have HR4 := Go.Lib.hid (And.intro (hr4.1.quiet hq) (And.intro (hr4.2.1.chg hq (fun h => h) (fun h => h)) (hr4.2.2.trans hq)))
                        have HKY := Go.Lib.hid (kbyte_c HR4.out.2.1 hn.2.1 i hlt3)
                        clear hq hr4 HBY
                        go_wp2_with fail
                        refine HKY.out.mono ?_
                        rintro e w15 ⟨rfl, hq⟩
                        have hr4 := HR4.out
                        have HR5 := Go.Lib.hid (And.intro (hr4.1.quiet hq) (And.intro (hr4.2.1.chg hq (fun h => h) (fun h => h)) (hr4.2.2.trans hq)))
                        clear hq hr4 HKY HR4 HR
                        go_wp2_with fail
                        refine (num_c 0 _).mono ?_
                        rintro e w16 ⟨rfl, rfl⟩
                        go_wp2_with fail
                        refine (num_c 0 _).mono ?_
                        rintro e w17 ⟨rfl, rfl⟩
                        go_wp2_with fail
                        refine ⟨⟨i + 1, hlt3, by simp, HR5.out⟩, by simp only [intOf]; omega⟩
                    · have g9 : decide ((i : Int) < (n : Int)) = false := by simp; omega
                      have HS2 := Go.Lib.hid (next_c HR.out.1 HE.out.1 HE.out.2 (stE_alone (by omega) h8))
                      have hR4 : (stE n l true x pl).next.c.R 4 = (x : Int) % 256 := stE_R4 (by omega) hx h4 h8 (by first | exact ho | exact .inl rfl)
                      have hK4 : (stE n l true x pl).next.kind = 0 := by rw [stE_next (by omega) h4 h8 (by first | exact ho | exact .inl rfl)]; rfl
                      rw [decide_eq_true hK4] at HS2
                      clear hK4
                      generalize (stE n l true x pl).next = d9 at *
                      go_wp2_with fail
                      refine HS2.out.mono ?_
                      rintro e w14 ⟨rfl, hm9, hc9⟩
                      have HC9 := Go.Lib.hid (HR.out.2.2.step hc9 (fun i hi h => absurd h (by unfold memF; omega)))
                      have HCQ := Go.Lib.hid (cpu_c hm9)
                      unfold Cp.val Cp.arr at HCQ
                      rw [hR4] at HCQ
                      clear hm9 hc9 HS2 hR4
                      go_wp2_with fail
                      refine HCQ.out.mono ?_
                      rintro e w15 ⟨rfl, hq⟩
                      have HC10 := Go.Lib.hid (HC9.out.trans hq)
                      clear hq HCQ
                      go_wp2_with fail
                      rw [field_regs]
                      go_wp2_with fail
                      rw [index_regs4]
                      go_wp2_with fail
                      refine (HK.out _).mono ?_
                      rintro e w16 ⟨rfl, hq⟩
                      have HQ := Go.Lib.hid (HC10.out.trans hq)
                      clear hq
                      go_wp2_with fail
                      go_ret
                      exact ⟨rfl, HQ.out⟩
set_option maxRecDepth 100000 in
set_option maxHeartbeats 4000000 in
theorem stores_false (w : World) (n : Nat) (A : Option Addr) (c : Nat) (zs : List Nat) (pl x : Nat) (hn : 64 ≤ n ∧ n ≤ 16777216 ∧ n % 4 = 0) (h1 : n ≤ 4096) (h2 : zs.length ≤ n / 4) (h3 : 3 ≤ zs.length) (h4 : pl < n) (h8 : 8 ≤ pl) (ho : false = true ∨ pl % 4 = 0) (hx : x < 4294967296) (hz : ∀ z ∈ zs, z < 4294967296) (hc : CellsAt w A (wv32 zs)) :
    Calls Try.prog 4 #[.int .i64 n, .slice A zs.length c, .int .u32 pl, .int .u32 x, .bool false] w (Quiet (.bool true) w) := by
  have HM := Go.Lib.hid (may_c n w)
  rw [decide_eq_true (show 64 ≤ (n : Int) ∧ (n : Int) ≤ 16777216 ∧ (n : Int) % 4 = 0 by omega)] at HM
  have HK := Go.Lib.hid known_c
  have hl : (zs.map fun (z : Nat) => (z : Int)).length = zs.length := by simp
  have hb : ∀ y ∈ zs.map (fun (z : Nat) => (z : Int)), 0 ≤ y ∧ y < 4294967296 := fun y hy => by
    obtain ⟨z, hz', rfl⟩ := List.mem_map.1 hy
    have := hz z hz'
    omega
  have hcc : CellsAt w A (u32s (zs.map fun (z : Nat) => (z : Int))) := by
    have : u32s (zs.map fun (z : Nat) => (z : Int)) = wv32 zs := by simp [u32s, wv32]
    rw [this]; exact hc
  have HN := Go.Lib.hid (new_v 10 (by decide) w)
  have HMN : Hid (∀ (W : World) (s : Nat) (F : Nat → Prop), StoreV w.heap.size W s ⟨10, [], [], []⟩ F → Chg NoB w W → Calls Try.prog 9 #[.int .i64 n, .slice A zs.length c, .pointer (some ⟨s, 0, none⟩)] W (MNewPost s n (zs.map fun (z : Nat) => (z : Int)) w.heap.size ⟨10, [], [], []⟩ F W)) := Go.Lib.hid fun W s F h hq => by
    have := mnew_c h n A c (zs.map fun (z : Nat) => (z : Int)) hn (by rw [hl]; exact h2) hb (hcc.chg hq (fun _ _ => id))
    rw [hl] at this
    exact this
  have HW2 : Hid (∀ W g, Blk W g InT ((in_st false).arr ++ (in_ld false).arr) → Calls Try.prog 10 #[.slice (some ⟨g, 0, none⟩) 2 2] W (wordsOwn [stW false, ldW false] W)) := Go.Lib.hid fun W g h => words2_o (in_st false) (in_ld false) _ _ (word_st false) (word_ld false) W g h
  have hlz : (zs.map fun (z : Nat) => (z : Int)).length ≤ n / 4 := by rw [hl]; exact h2
  have HD : Hid ((stD n (zs.map fun (z : Nat) => (z : Int)) false).Ok ∧ (stC n (zs.map fun (z : Nat) => (z : Int)) false x pl).Ok ∧ (stC n (zs.map fun (z : Nat) => (z : Int)) false x pl).heap ≤ n) := Go.Lib.hid ⟨stD_ok hn hlz hb, (stC_ok hn hlz hb hx (by omega)).1, (show (stC n (zs.map fun (z : Nat) => (z : Int)) false x pl).heap ≤ (stC n (zs.map fun (z : Nat) => (z : Int)) false x pl).n from (stC_ok hn hlz hb hx (by omega)).2)⟩
  have HO := Go.Lib.hid (mnew_ok n (zs.map fun (z : Nat) => (z : Int)) hn hlz hb).1
  clear hl hb hcc hc hz hlz
  generalize (zs.map fun (z : Nat) => (z : Int)) = l at *
  have g0 : decide ((n : Int) > 4096) = false := by simp; omega
  have g1 : decide ((n : Int) / 4 < (zs.length : Int)) = false := by simp; omega
  have g2 : decide ((zs.length : Int) < 3) = false := by simp; omega
  have g3 : decide ((pl : Int) ≥ (n : Int)) = false := by simp; omega
  have g4 : decide ((pl : Int) < 8) = false := by simp; omega
  have g5 : ((pl : Int) % 4 != 0) = false := by
    have : (pl : Int) % 4 = 0 := by
      rcases ho with h | h
      · cases h
      · omega
    rw [this]; rfl
  unfold ptr at HN
  go_enter Try.func4, Try.ntmps4
  go_wp2_with fail
  refine HM.out.mono ?_
  rintro e w' ⟨rfl, rfl⟩
  go_wp2_with fail
  refine HN.out.mono ?_
  rintro e w1 ⟨s, F, rfl, hS, hc1⟩
  have H1 := Go.Lib.hid (And.intro hS hc1)
  clear hS hc1 HN HM g0 g1 g2 g3 g4 g5
  go_wp2_with fail
  refine (HMN.out _ _ _ H1.out.1 H1.out.2).mono ?_
  rintro e w2 ⟨p, mb, mm, rfl, hm, hS3, hc3, hp, hmb, hmm⟩
  have hsz := H1.out.2.size
  have hFlt : ∀ k, F k → k < w1.heap.size := fun k hk => H1.out.1.lt hk
  have HB2 := Go.Lib.hid (And.intro hm (And.intro hS3 (H1.out.2.trans hc3)))
  have hlt := hm.lt
  clear hm hS3 hc3 H1 hmm HMN
  go_wp2_with fail
  refine (num_c 0 _).mono ?_
  rintro e w3 ⟨rfl, rfl⟩
  go_wp2_with fail
  refine (HW2.out _ _ (Blk.new _ _ _)).mono ?_
  rintro e w4 ⟨A1, c1, rfl, hown, hq⟩
  obtain ⟨g, cap, hAg, hg1, hg2⟩ := hown.form (by decide)
  obtain ⟨rfl, rfl⟩ : A1 = some ⟨g, 0, none⟩ ∧ c1 = cap := by simpa using hAg
  have hq4 := ((Chg.refl NoB w3).alloc _).trans hq
  have hgg : w3.heap.size < g := by simp at hg1; omega
  have HB : Hid (MAt w4 p mb s mm (Mc.new n l) ∧ StoreV w'.heap.size w4 s ⟨10, [], [], []⟩ F ∧ Chg NoB w' w4) := Go.Lib.hid (And.intro (HB2.out.1.quiet hq4) (And.intro (HB2.out.2.1.quiet hq4) (HB2.out.2.2.trans hq4)))
  have HL : Hid (w4.drew.cell? ⟨g, 0, none⟩ = some (.int .u32 (stW false)) ∧ w4.drew.cell? ⟨g, 1, none⟩ = some (.int .u32 (ldW false))) := Go.Lib.hid (by
    obtain ⟨ad, had, hcl⟩ := CellsAt.of_own hown (by simp [u32s])
    obtain rfl := Option.some.inj had
    have e0 := hcl 0 _ rfl
    have e1 := hcl 1 _ rfl
    rw [add0] at e0 e1
    exact ⟨e0, e1⟩)
  have HLC : Hid (∀ V V' : World, V.cell? ⟨g, 0, none⟩ = some (.int .u32 (stW false)) ∧ V.cell? ⟨g, 1, none⟩ = some (.int .u32 (ldW false)) → Chg (memF p mb) V V' → V'.cell? ⟨g, 0, none⟩ = some (.int .u32 (stW false)) ∧ V'.cell? ⟨g, 1, none⟩ = some (.int .u32 (ldW false))) := Go.Lib.hid fun V V' h hc => by
    have hg : ¬ memF p mb g := by unfold memF; omega
    exact ⟨(World.cell?_of_block (hc.block g (World.block_lt_of_cell? V ⟨g, 0, none⟩ h.1) hg)).trans h.1, (World.cell?_of_block (hc.block g (World.block_lt_of_cell? V ⟨g, 1, none⟩ h.2) hg)).trans h.2⟩
  have HSA : Hid (∀ V, MAt V p mb s mm (Mc.new n l) → Calls Try.prog 12 #[.pointer (some ⟨p, 0, none⟩), .int .u32 0, .int .u32 (stW false)] V (MPost p mb s mm (.int .i64 0) { Mc.new n l with M := putWord (Mc.new n l).M 0 (stW false) } V)) := Go.Lib.hid fun V hV => by
    have := setWord_c hV HO.out 0 (by decide) (stW false) (stW_bd false)
    rw [if_pos (show 0 < (Mc.new n l).n ∧ 0 % 4 = 0 from ⟨show 0 < n by omega, rfl⟩), if_pos (show 0 < (Mc.new n l).n ∧ 0 % 4 = 0 from ⟨show 0 < n by omega, rfl⟩)] at this
    exact this
  have HSB : Hid (∀ V, MAt V p mb s mm { Mc.new n l with M := putWord (Mc.new n l).M 0 (stW false) } → Calls Try.prog 12 #[.pointer (some ⟨p, 0, none⟩), .int .u32 4, .int .u32 (ldW false)] V (MPost p mb s mm (.int .i64 0) (stD n l false) V)) := Go.Lib.hid fun V hV => by
    have hok : ({ Mc.new n l with M := putWord (Mc.new n l).M 0 (stW false) } : Mc).Ok := ⟨HO.out.c, putWord_bd HO.out.m 0 (stW_bd false), HO.out.n, HO.out.heap⟩
    have := setWord_c hV hok 4 (by decide) (ldW false) (ldW_bd false)
    rw [if_pos (show 4 < (Mc.new n l).n ∧ 4 % 4 = 0 from ⟨show 4 < n by omega, rfl⟩), if_pos (show 4 < (Mc.new n l).n ∧ 4 % 4 = 0 from ⟨show 4 < n by omega, rfl⟩)] at this
    exact this
  clear hown hq hq4 HB2 HW2 hAg hg1
  go_wp2_with fail
  refine regionH (fun V' => V'.cell? ⟨g, 0, none⟩ = some (.int .u32 (stW false)) ∧ V'.cell? ⟨g, 1, none⟩ = some (.int .u32 (ldW false))) (by kernel_rfl) HL.out (fun hS => ?_)
  refine takeH (i := 0) (t := 87) (v := ?v0y1) rfl (by kernel_rfl) (by kernel_rfl) (by kernel_rfl) (fun _ _ _ h => h) rfl (Or.inl ⟨by rfl, ?h0y1⟩) hS ?r0y1
  case h0y1 => (intro V' hSw; go_simp; try with_reducible rfl)
  try simp only [List.setIfInBounds_toArray, List.set_cons_zero, List.set_cons_succ]
  refine takeH (i := 1) (t := 88) (v := ?v1y2) rfl (by kernel_rfl) (by kernel_rfl) (by kernel_rfl) (fun _ _ _ h => h) rfl (Or.inl ⟨by rfl, ?h1y2⟩) hS ?r1y2
  case h1y2 => (intro V' hSw; go_simp; try with_reducible rfl)
  try simp only [List.setIfInBounds_toArray, List.set_cons_zero, List.set_cons_succ]
  refine takeH (i := 2) (t := 89) (v := ?v2y3) rfl (by kernel_rfl) (by kernel_rfl) (by kernel_rfl) (fun _ _ _ h => h) rfl (Or.inl ⟨by rfl, ?h2y3⟩) hS ?r2y3
  case h2y3 => (intro V' hSw; go_simp; try with_reducible rfl)
  try simp only [List.setIfInBounds_toArray, List.set_cons_zero, List.set_cons_succ]
  refine takeH (i := 3) (t := 90) (v := ?v3y4) rfl (by kernel_rfl) (by kernel_rfl) (by kernel_rfl) (fun _ _ _ h => h) rfl (Or.inl ⟨by rfl, ?h3y4⟩) hS ?r3y4
  case h3y4 => (intro V' hSw; have z := hSw.1; clear hSw; go_simp; try with_reducible rfl)
  try simp only [List.setIfInBounds_toArray, List.set_cons_zero, List.set_cons_succ]
  refine takeH (i := 6) (t := 93) (v := ?v6y5) rfl (by kernel_rfl) (by kernel_rfl) (by kernel_rfl) (fun _ _ _ h => h) rfl (Or.inl ⟨by rfl, ?h6y5⟩) hS ?r6y5
  case h6y5 => (intro V' hSw; go_simp; try with_reducible rfl)
  try simp only [List.setIfInBounds_toArray, List.set_cons_zero, List.set_cons_succ]
  refine takeH (i := 7) (t := 94) (v := ?v7y6) rfl (by kernel_rfl) (by kernel_rfl) (by kernel_rfl) (fun _ _ _ h => h) rfl (Or.inl ⟨by rfl, ?h7y6⟩) hS ?r7y6
  case h7y6 => (intro V' hSw; go_simp; try with_reducible rfl)
  try simp only [List.setIfInBounds_toArray, List.set_cons_zero, List.set_cons_succ]
  refine takeH (i := 8) (t := 95) (v := ?v8y7) rfl (by kernel_rfl) (by kernel_rfl) (by kernel_rfl) (fun _ _ _ h => h) rfl (Or.inl ⟨by rfl, ?h8y7⟩) hS ?r8y7
  case h8y7 => (intro V' hSw; go_simp; try with_reducible rfl)
  try simp only [List.setIfInBounds_toArray, List.set_cons_zero, List.set_cons_succ]
  refine takeH (i := 9) (t := 96) (v := ?v9y8) rfl (by kernel_rfl) (by kernel_rfl) (by kernel_rfl) (fun _ _ _ h => h) rfl (Or.inl ⟨by rfl, ?h9y8⟩) hS ?r9y8
  case h9y8 => (intro V' hSw; have z := hSw.2; clear hSw; go_simp; try with_reducible rfl)
  try simp only [List.setIfInBounds_toArray, List.set_cons_zero, List.set_cons_succ]
  refine manyH (i := 4) (l := []) (by kernel_rfl) ?hm4
  case hm4 =>
    intro j hj
    obtain rfl : j = 4 := by simpa using hj
    refine opCallH (t := 91) (f := 12) (args := #[.pointer (some ⟨p, 0, none⟩), .int .u32 0, .int .u32 (stW false)]) rfl rfl (by rfl) ?hx4 ?hc4
    case hx4 => (go_simp; try rfl)
    case hc4 =>
      refine (HSA.out _ (HB.out.1.quiet (Chg.refl NoB _).drew)).mono ?_
      rintro ee w5 ⟨rfl, hm1, hc1⟩
      have hS := HLC.out _ _ hS hc1
      have hch := ((Chg.refl (memF p mb) w4).drew).trans hc1
      refine ⟨_, rfl, hS, ?_⟩
      try simp only [List.setIfInBounds_toArray, List.set_cons_zero, List.set_cons_succ]
      refine manyH (i := 5) (l := []) (by kernel_rfl) ?hm5
      case hm5 =>
        intro j hj
        obtain rfl : j = 5 := by simpa using hj
        refine opCallH (t := 92) (f := 11) (args := #[.int .i64 0]) rfl rfl (by rfl) ?hx5 ?hc5
        case hx5 => (go_simp; try rfl)
        case hc5 =>
          refine (num_c 0 _).mono ?_
          rintro ee w6 ⟨rfl, rfl⟩
          refine ⟨_, rfl, hS, ?_⟩
          try simp only [List.setIfInBounds_toArray, List.set_cons_zero, List.set_cons_succ]
          refine manyH (i := 10) (l := []) (by kernel_rfl) ?hm10
          case hm10 =>
            intro j hj
            obtain rfl : j = 10 := by simpa using hj
            refine opCallH (t := 97) (f := 12) (args := #[.pointer (some ⟨p, 0, none⟩), .int .u32 4, .int .u32 (ldW false)]) rfl rfl (by rfl) ?hx10 ?hc10
            case hx10 => (go_simp; try rfl)
            case hc10 =>
              refine (HSB.out _ hm1).mono ?_
              rintro ee w7 ⟨rfl, hm2, hc2⟩
              have hS := HLC.out _ _ hS hc2
              have hch := hch.trans hc2
              refine ⟨_, rfl, hS, ?_⟩
              try simp only [List.setIfInBounds_toArray, List.set_cons_zero, List.set_cons_succ]
              refine manyH (i := 11) (l := []) (by kernel_rfl) ?hm11
              case hm11 =>
                intro j hj
                obtain rfl : j = 11 := by simpa using hj
                refine opCallH (t := 98) (f := 11) (args := #[.int .i64 0]) rfl rfl (by rfl) ?hx11 ?hc11
                case hx11 => (go_simp; try rfl)
                case hc11 =>
                  refine (num_c 0 _).mono ?_
                  rintro ee w8 ⟨rfl, rfl⟩
                  refine ⟨_, rfl, hS, ?_⟩
                  try simp only [List.setIfInBounds_toArray, List.set_cons_zero, List.set_cons_succ]
                  refine takeH (i := 12) (t := 99) (v := ?v12y9) rfl (by kernel_rfl) (by kernel_rfl) (by kernel_rfl) (fun _ _ _ h => h) rfl (Or.inl ⟨by rfl, ?h12y9⟩) hS ?r12y9
                  case h12y9 => (intro V' hSw; go_simp; try with_reducible rfl)
                  try simp only [List.setIfInBounds_toArray, List.set_cons_zero, List.set_cons_succ]
                  refine takeH (i := 13) (t := 100) (v := ?v13y10) rfl (by kernel_rfl) (by kernel_rfl) (by kernel_rfl) (fun _ _ _ h => h) rfl (Or.inl ⟨by rfl, ?h13y10⟩) hS ?r13y10
                  case h13y10 => (intro V' hSw; go_simp; try with_reducible rfl)
                  try simp only [List.setIfInBounds_toArray, List.set_cons_zero, List.set_cons_succ]
                  refine wpAnyH_done (by kernel_rfl) ?_ _
                  have hSt : StoreV w'.heap.size w8 s ⟨10, [], [], []⟩ F := HB.out.2.1.chg hch (fun k hk => by have := hFlt k hk; unfold memF; omega)
                  have hW8 : Chg NoB w' w8 := HB.out.2.2.step hch (fun i hi h => absurd h (by unfold memF; omega))
                  have HCO := Go.Lib.hid (mcopy_c hm2 HD.out.1 hSt)
                  have hlt8 := hm2.lt
                  have HM8 := Go.Lib.hid (And.intro hm2 hW8)
                  have h48 := hch.size
                  clear hm1 hm2 hc1 hc2 hch hSt hW8 hS HSA HSB HLC HL HB
                  go_wp2_with fail
                  refine HCO.out.mono ?_
                  rintro e w9 ⟨p2, mb2, cap2, rfl, hk, hq, hp2, hmb2⟩
                  have H9 := Go.Lib.hid (And.intro (HM8.out.1.quiet hq) (And.intro hk (HM8.out.2.trans hq)))
                  have h9a : p2 < w9.heap.size := World.block_lt_of_cell? w9 _ hk.m
                  have h9b : mb2 < w9.heap.size := World.block_lt_of_cell? w9 _ (hk.b 0 (show 0 < n by omega))
                  have h89 := hq.size
                  have HCP := Go.Lib.hid (cpu_c H9.out.1)
                  clear hk hq HCO HM8
                  go_wp2_with fail
                  refine HCP.out.mono ?_
                  rintro e w10 ⟨rfl, hq5⟩
                  have h10 := hq5.size
                  have H5 := Go.Lib.hid (And.intro (H9.out.1.quiet hq5) (And.intro (H9.out.2.1.chg hq5 (fun h => h) (fun h => h)) (H9.out.2.2.trans hq5)))
                  have HB5 := Go.Lib.hid (fun cs => (Blk.new w10 CpT cs))
                  clear hq5 HCP H9
                  unfold Cp.val
                  go_upto_region 12 with (first
                    | (refine wpList_store_row rfl 41 (.tmp 17) (.tmp 104) rfl w10.heap.size (stD n l false).c.arr rfl rfl CpT Cp.zero.arr (HB5.out _) (by kernel_rfl) (by rfl) (by kernel_rfl) ?_))
                  have hB6 : Blk ((w10.alloc (.cells Cp.zero.arr CpT)).setRow w10.heap.size (stD n l false).c.arr) w10.heap.size CpT (stD n l false).c.arr := (HB5.out _).setRow _
                  have hC6 : Chg NoB w10 ((w10.alloc (.cells Cp.zero.arr CpT)).setRow w10.heap.size (stD n l false).c.arr) := ((Chg.refl NoB w10).alloc _).setRow (fun h => absurd h (by omega)) _
                  change (Code.wp _ _ _ _ ((w10.alloc (.cells Cp.zero.arr CpT)).setRow w10.heap.size (stD n l false).c.arr))
                  have h0t := H5.out.2.2.size
                  generalize (w10.alloc (.cells Cp.zero.arr CpT)).setRow w10.heap.size (stD n l false).c.arr = W6 at *
                  generalize w10.heap.size = gg at *
                  have H6 := Go.Lib.hid (And.intro (H5.out.1.quiet hC6) (And.intro (H5.out.2.1.chg hC6 (fun h => h) (fun h => h)) (And.intro (H5.out.2.2.trans hC6) hB6)))
                  clear hB6 hC6 H5 HB5
                  have k2 : W6.cell? ⟨gg, 2, none⟩ = some (.int .u32 ((stD n l false).c.R 2)) := H6.out.2.2.2.cell 2
                  have k3 : W6.cell? ⟨gg, 3, none⟩ = some (.int .u32 ((stD n l false).c.R 3)) := H6.out.2.2.2.cell 3
                  have z2 := H6.out.2.2.2.frozen 2
                  have z3 := H6.out.2.2.2.frozen 3
                  go_upto_region 13 with fail
                  clear k2 k3 z2 z3
                  have hB7 : Blk ((W6.setCell ⟨gg, 2, none⟩ (.int .u32 x)).setCell ⟨gg, 3, none⟩ (.int .u32 pl)) gg CpT (stC n l false x pl).c.arr := (H6.out.2.2.2.set_ 2 _).set_ 3 _
                  have hC0 : Chg (fun k => k = gg) W6 ((W6.setCell ⟨gg, 2, none⟩ (.int .u32 x)).setCell ⟨gg, 3, none⟩ (.int .u32 pl)) := ((Chg.refl (fun k => k = gg) W6).setCell (p := ⟨gg, 2, none⟩) (fun _ => rfl) _).setCell (p := ⟨gg, 3, none⟩) (fun _ => rfl) _
                  have hM7 := H6.out.1
                  have hM7 := hM7.chg hC0 (show ¬ p = gg by omega) (show ¬ mb = gg by omega) (hM7.mm_ne H6.out.2.2.2)
                  have hK7 := H6.out.2.1.chg hC0 (show ¬ p2 = gg by omega) (show ¬ mb2 = gg by omega)
                  have hC7 := H6.out.2.2.1.step hC0 (fun i hi h => absurd h (show ¬ i = gg by omega))
                  generalize (W6.setCell ⟨gg, 2, none⟩ (.int .u32 x)).setCell ⟨gg, 3, none⟩ (.int .u32 pl) = W7 at *
                  have HSC : Hid (Calls Try.prog 14 #[.pointer (some ⟨p, 0, none⟩), .agg (stC n l false x pl).c.arr] W7 (MPost p mb s mm (.int .i64 0) (stC n l false x pl) W7)) := Go.Lib.hid (setCpu_c hM7 (stC n l false x pl).c)
                  have H7 := Go.Lib.hid (And.intro hB7 (And.intro hK7 hC7))
                  clear hB7 hM7 hC7 hK7 hC0 H6
                  go_wp2_with (first
                    | (refine wpList_load_row rfl 41 (.tmp 17) rfl gg rfl CpT (stC n l false x pl).c.arr (0, 0) _ H7.out.1 Try.underlying41 rfl (by kernel_rfl) ?_))
                  refine HSC.out.mono ?_
                  rintro e w11 ⟨rfl, hm8, hc8⟩
                  have hk8 := H7.out.2.1.chg hc8 (show ¬ memF p mb p2 by unfold memF; omega) (show ¬ memF p mb mb2 by unfold memF; omega)
                  have hcw8 := H7.out.2.2.step hc8 (fun i hi h => absurd h (by unfold memF; omega))
                  have HST := Go.Lib.hid (next_c hm8 HD.out.2.1 HD.out.2.2 (stC_alone hx (by omega)))
                  have H8 := Go.Lib.hid (And.intro hk8 hcw8)
                  rw [stC_next (by omega) hx h4 (by first | exact ho | exact .inl rfl), decide_eq_true (show (stE n l false x pl).kind = 0 from rfl)] at HST
                  clear hm8 hc8 hk8 hcw8 HSC H7
                  go_wp2_with fail
                  refine (num_c 0 _).mono ?_
                  rintro e w12 ⟨rfl, rfl⟩
                  go_wp2_with fail
                  refine HST.out.mono ?_
                  rintro e w13 ⟨rfl, hm9, hc9⟩
                  have H10 := Go.Lib.hid (And.intro hm9 (And.intro (H8.out.1.chg hc9 (show ¬ memF p mb p2 by unfold memF; omega) (show ¬ memF p mb mb2 by unfold memF; omega)) (H8.out.2.step hc9 (fun i hi h => absurd h (by unfold memF; omega)))))
                  have HE : Hid ((stE n l false x pl).Ok ∧ (stE n l false x pl).heap ≤ (stE n l false x pl).n) := Go.Lib.hid (by
                    have := next_ok HD.out.2.1 HD.out.2.2
                    rw [stC_next (by omega) hx h4 (by first | exact ho | exact .inl rfl)] at this
                    exact this)
                  clear hm9 hc9 HST H8
                  go_wp2_with fail
                  go_loopw [18] (fun v18 wr => ∃ i : Nat, i ≤ n ∧ v18 = .int .u32 i ∧ MAt wr p mb s mm (stE n l false x pl) ∧ MLk wr p2 mb2 n cap2 (stD n l false).M ∧ Chg NoB w' wr) (fun v18 _ => n - (intOf v18).toNat)
                  case atStart => exact ⟨0, Nat.zero_le _, rfl, H10.out⟩
                  case round =>
                    obtain ⟨i, hi, rfl, hrr⟩ := hrel
                    have HR := Go.Lib.hid hrr
                    clear hrr H10
                    by_cases hlt3 : i < n
                    · have g9 : decide ((i : Int) < (n : Int)) = true := by simp; omega
                      by_cases ca : pl ≤ i
                      · have k1 : decide ((i : Int) ≥ (pl : Int)) = true := by simp; omega
                        by_cases cb : i < pl + 4
                        · have k2 : decide ((i : Int) < (pl : Int) + 4) = true := by simp; omega
                          have cc : i = pl ∨ i = pl + 1 ∨ i = pl + 2 ∨ i = pl + 3 := by omega
                          rcases cc with cc | cc | cc | cc
                          · have k4 : (i : Int) - (pl : Int) = 0 := by omega
                            have hval : (stE n l false x pl).M i = _ := stE_M i
                            have hval : (stE n l false x pl).M i = (x : Int) % 256 := by
                              rw [hval, if_neg (by decide)]
                              rw [if_pos cc]

                            have HCC := Go.Lib.hid cc
                            clear cc
                            have HBY := Go.Lib.hid (byte_c HR.out.1 HE.out.1 i (by omega))
                            rw [if_pos (show i < (stE n l false x pl).n from hlt3), hval] at HBY
                            clear hval
                            generalize (stD n l false).M i = y at *
                            go_wp2_with fail
                            refine HBY.out.mono ?_
                            rintro e w14 ⟨rfl, hq⟩
                            have hr4 := HR.out
                            have HR4 := Go.Lib.hid (And.intro (hr4.1.quiet hq) (And.intro (hr4.2.1.chg hq (fun h => h) (fun h => h)) (hr4.2.2.trans hq)))
                            have HKY := Go.Lib.hid (kbyte_c HR4.out.2.1 hn.2.1 i hlt3)
                            clear hq hr4 HBY
                            go_wp2_with fail
                            refine HKY.out.mono ?_
                            rintro e w15 ⟨rfl, hq⟩
                            have hr4 := HR4.out
                            have HR5 := Go.Lib.hid (And.intro (hr4.1.quiet hq) (And.intro (hr4.2.1.chg hq (fun h => h) (fun h => h)) (hr4.2.2.trans hq)))
                            clear hq hr4 HKY HR4 HR
                            go_wp2_with fail
                            refine (num_c 0 _).mono ?_
                            rintro e w16 ⟨rfl, rfl⟩
                            go_wp2_with fail
                            refine (num_c 0 _).mono ?_
                            rintro e w17 ⟨rfl, rfl⟩
                            go_wp2_with fail
                            refine ⟨⟨i + 1, hlt3, by simp, HR5.out⟩, by simp only [intOf]; omega⟩
                          · have k4 : (i : Int) - (pl : Int) = 1 := by omega
                            have hval : (stE n l false x pl).M i = _ := stE_M i
                            have hval : (stE n l false x pl).M i = (x : Int) / 256 % 256 := by
                              rw [hval, if_neg (by decide)]
                              rw [if_neg (by omega)]
                              rw [if_pos cc]

                            have HCC := Go.Lib.hid cc
                            clear cc
                            have HBY := Go.Lib.hid (byte_c HR.out.1 HE.out.1 i (by omega))
                            rw [if_pos (show i < (stE n l false x pl).n from hlt3), hval] at HBY
                            clear hval
                            generalize (stD n l false).M i = y at *
                            go_wp2_with fail
                            refine HBY.out.mono ?_
                            rintro e w14 ⟨rfl, hq⟩
                            have hr4 := HR.out
                            have HR4 := Go.Lib.hid (And.intro (hr4.1.quiet hq) (And.intro (hr4.2.1.chg hq (fun h => h) (fun h => h)) (hr4.2.2.trans hq)))
                            have HKY := Go.Lib.hid (kbyte_c HR4.out.2.1 hn.2.1 i hlt3)
                            clear hq hr4 HBY
                            go_wp2_with fail
                            refine HKY.out.mono ?_
                            rintro e w15 ⟨rfl, hq⟩
                            have hr4 := HR4.out
                            have HR5 := Go.Lib.hid (And.intro (hr4.1.quiet hq) (And.intro (hr4.2.1.chg hq (fun h => h) (fun h => h)) (hr4.2.2.trans hq)))
                            clear hq hr4 HKY HR4 HR
                            go_wp2_with fail
                            refine (num_c 0 _).mono ?_
                            rintro e w16 ⟨rfl, rfl⟩
                            go_wp2_with fail
                            refine (num_c 0 _).mono ?_
                            rintro e w17 ⟨rfl, rfl⟩
                            go_wp2_with fail
                            refine ⟨⟨i + 1, hlt3, by simp, HR5.out⟩, by simp only [intOf]; omega⟩
                          · have k4 : (i : Int) - (pl : Int) = 2 := by omega
                            have hval : (stE n l false x pl).M i = _ := stE_M i
                            have hval : (stE n l false x pl).M i = (x : Int) / 65536 % 256 := by
                              rw [hval, if_neg (by decide)]
                              rw [if_neg (by omega)]
                              rw [if_neg (by omega)]
                              rw [if_pos cc]

                            have HCC := Go.Lib.hid cc
                            clear cc
                            have HBY := Go.Lib.hid (byte_c HR.out.1 HE.out.1 i (by omega))
                            rw [if_pos (show i < (stE n l false x pl).n from hlt3), hval] at HBY
                            clear hval
                            generalize (stD n l false).M i = y at *
                            go_wp2_with fail
                            refine HBY.out.mono ?_
                            rintro e w14 ⟨rfl, hq⟩
                            have hr4 := HR.out
                            have HR4 := Go.Lib.hid (And.intro (hr4.1.quiet hq) (And.intro (hr4.2.1.chg hq (fun h => h) (fun h => h)) (hr4.2.2.trans hq)))
                            have HKY := Go.Lib.hid (kbyte_c HR4.out.2.1 hn.2.1 i hlt3)
                            clear hq hr4 HBY
                            go_wp2_with fail
                            refine HKY.out.mono ?_
                            rintro e w15 ⟨rfl, hq⟩
                            have hr4 := HR4.out
                            have HR5 := Go.Lib.hid (And.intro (hr4.1.quiet hq) (And.intro (hr4.2.1.chg hq (fun h => h) (fun h => h)) (hr4.2.2.trans hq)))
                            clear hq hr4 HKY HR4 HR
                            go_wp2_with fail
                            refine (num_c 0 _).mono ?_
                            rintro e w16 ⟨rfl, rfl⟩
                            go_wp2_with fail
                            refine (num_c 0 _).mono ?_
                            rintro e w17 ⟨rfl, rfl⟩
                            go_wp2_with fail
                            refine ⟨⟨i + 1, hlt3, by simp, HR5.out⟩, by simp only [intOf]; omega⟩
                          · have k4 : (i : Int) - (pl : Int) = 3 := by omega
                            have hval : (stE n l false x pl).M i = _ := stE_M i
                            have hval : (stE n l false x pl).M i = (x : Int) / 16777216 := by
                              rw [hval, if_neg (by decide)]
                              rw [if_neg (by omega)]
                              rw [if_neg (by omega)]
                              rw [if_neg (by omega)]
                              rw [if_pos cc]

                            have HCC := Go.Lib.hid cc
                            clear cc
                            have HBY := Go.Lib.hid (byte_c HR.out.1 HE.out.1 i (by omega))
                            rw [if_pos (show i < (stE n l false x pl).n from hlt3), hval] at HBY
                            clear hval
                            generalize (stD n l false).M i = y at *
                            go_wp2_with fail
                            refine HBY.out.mono ?_
                            rintro e w14 ⟨rfl, hq⟩
                            have hr4 := HR.out
                            have HR4 := Go.Lib.hid (And.intro (hr4.1.quiet hq) (And.intro (hr4.2.1.chg hq (fun h => h) (fun h => h)) (hr4.2.2.trans hq)))
                            have HKY := Go.Lib.hid (kbyte_c HR4.out.2.1 hn.2.1 i hlt3)
                            clear hq hr4 HBY
                            go_wp2_with fail
                            refine HKY.out.mono ?_
                            rintro e w15 ⟨rfl, hq⟩
                            have hr4 := HR4.out
                            have HR5 := Go.Lib.hid (And.intro (hr4.1.quiet hq) (And.intro (hr4.2.1.chg hq (fun h => h) (fun h => h)) (hr4.2.2.trans hq)))
                            clear hq hr4 HKY HR4 HR
                            go_wp2_with fail
                            refine (num_c 0 _).mono ?_
                            rintro e w16 ⟨rfl, rfl⟩
                            go_wp2_with fail
                            refine (num_c 0 _).mono ?_
                            rintro e w17 ⟨rfl, rfl⟩
                            go_wp2_with fail
                            refine ⟨⟨i + 1, hlt3, by simp, HR5.out⟩, by simp only [intOf]; omega⟩
                        · have k2 : decide ((i : Int) < (pl : Int) + 4) = false := by simp; omega
                          have hval : (stE n l false x pl).M i = _ := stE_M i
                          have hval : (stE n l false x pl).M i = (stD n l false).M i := by
                            rw [hval, if_neg (by decide), if_neg (by omega), if_neg (by omega), if_neg (by omega), if_neg (by omega)]
                          have HBY := Go.Lib.hid (byte_c HR.out.1 HE.out.1 i (by omega))
                          rw [if_pos (show i < (stE n l false x pl).n from hlt3), hval] at HBY
                          clear hval
                          go_wp2_with fail
                          refine HBY.out.mono ?_
                          rintro e w14 ⟨rfl, hq⟩
                          have hr4 := HR.out
                          have HR4 := Go.Lib.hid (And.intro (hr4.1.quiet hq) (And.intro (hr4.2.1.chg hq (fun h => h) (fun h => h)) (hr4.2.2.trans hq)))
                          have HKY := Go.Lib.hid (kbyte_c HR4.out.2.1 hn.2.1 i hlt3)
                          clear hq hr4 HBY
                          go_wp2_with fail
                          refine HKY.out.mono ?_
                          rintro e w15 ⟨rfl, hq⟩
                          have hr4 := HR4.out
                          have HR5 := Go.Lib.hid (And.intro (hr4.1.quiet hq) (And.intro (hr4.2.1.chg hq (fun h => h) (fun h => h)) (hr4.2.2.trans hq)))
                          clear hq hr4 HKY HR4 HR
                          go_wp2_with fail
                          refine (num_c 0 _).mono ?_
                          rintro e w16 ⟨rfl, rfl⟩
                          go_wp2_with fail
                          refine (num_c 0 _).mono ?_
                          rintro e w17 ⟨rfl, rfl⟩
                          go_wp2_with fail
                          refine ⟨⟨i + 1, hlt3, by simp, HR5.out⟩, by simp only [intOf]; omega⟩
                      · have k1 : decide ((i : Int) ≥ (pl : Int)) = false := by simp; omega
                        have hval : (stE n l false x pl).M i = _ := stE_M i
                        have hval : (stE n l false x pl).M i = (stD n l false).M i := by
                          rw [hval, if_neg (by decide), if_neg (by omega), if_neg (by omega), if_neg (by omega), if_neg (by omega)]
                        have HBY := Go.Lib.hid (byte_c HR.out.1 HE.out.1 i (by omega))
                        rw [if_pos (show i < (stE n l false x pl).n from hlt3), hval] at HBY
                        clear hval
                        go_wp2_with fail
                        refine HBY.out.mono ?_
                        rintro e w14 ⟨rfl, hq⟩
                        have hr4 := HR.out
                        have HR4 := Go.Lib.hid (And.intro (hr4.1.quiet hq) (And.intro (hr4.2.1.chg hq (fun h => h) (fun h => h)) (hr4.2.2.trans hq)))
                        have HKY := Go.Lib.hid (kbyte_c HR4.out.2.1 hn.2.1 i hlt3)
                        clear hq hr4 HBY
                        go_wp2_with fail
                        refine HKY.out.mono ?_
                        rintro e w15 ⟨rfl, hq⟩
                        have hr4 := HR4.out
                        have HR5 := Go.Lib.hid (And.intro (hr4.1.quiet hq) (And.intro (hr4.2.1.chg hq (fun h => h) (fun h => h)) (hr4.2.2.trans hq)))
                        clear hq hr4 HKY HR4 HR
                        go_wp2_with fail
                        refine (num_c 0 _).mono ?_
                        rintro e w16 ⟨rfl, rfl⟩
                        go_wp2_with fail
                        refine (num_c 0 _).mono ?_
                        rintro e w17 ⟨rfl, rfl⟩
                        go_wp2_with fail
                        refine ⟨⟨i + 1, hlt3, by simp, HR5.out⟩, by simp only [intOf]; omega⟩
                    · have g9 : decide ((i : Int) < (n : Int)) = false := by simp; omega
                      have HS2 := Go.Lib.hid (next_c HR.out.1 HE.out.1 HE.out.2 (stE_alone (by omega) h8))
                      have hR4 : (stE n l false x pl).next.c.R 4 = (x : Int) := stE_R4 (by omega) hx h4 h8 (by first | exact ho | exact .inl rfl)
                      have hK4 : (stE n l false x pl).next.kind = 0 := by rw [stE_next (by omega) h4 h8 (by first | exact ho | exact .inl rfl)]; rfl
                      rw [decide_eq_true hK4] at HS2
                      clear hK4
                      generalize (stE n l false x pl).next = d9 at *
                      go_wp2_with fail
                      refine HS2.out.mono ?_
                      rintro e w14 ⟨rfl, hm9, hc9⟩
                      have HC9 := Go.Lib.hid (HR.out.2.2.step hc9 (fun i hi h => absurd h (by unfold memF; omega)))
                      have HCQ := Go.Lib.hid (cpu_c hm9)
                      unfold Cp.val Cp.arr at HCQ
                      rw [hR4] at HCQ
                      clear hm9 hc9 HS2 hR4
                      go_wp2_with fail
                      refine HCQ.out.mono ?_
                      rintro e w15 ⟨rfl, hq⟩
                      have HC10 := Go.Lib.hid (HC9.out.trans hq)
                      clear hq HCQ
                      go_wp2_with fail
                      rw [field_regs]
                      go_wp2_with fail
                      rw [index_regs4]
                      go_wp2_with fail
                      refine (HK.out _).mono ?_
                      rintro e w16 ⟨rfl, hq⟩
                      have HQ := Go.Lib.hid (HC10.out.trans hq)
                      clear hq
                      go_wp2_with fail
                      go_ret
                      exact ⟨rfl, HQ.out⟩
end Go.Proofs.Ytggknljlibhkjaa
