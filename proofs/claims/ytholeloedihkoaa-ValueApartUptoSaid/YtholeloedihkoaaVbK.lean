/- What is proved: the walk of ValueApart. Conditions: the memory holds the shape, which is small; the library's variable. -/
import Derived.Test.YtholeloedihkoaaVbJ
import Derived.Test.YtholeloedihkoaaVbI
import Derived.Lib.Builder
import Derived.Deep.OwnRows
set_option linter.unusedSimpArgs false
set_option linter.unusedVariables false
namespace Go.Proofs.Ytholeloedihkoaa
open Go Go.RowKit
abbrev nsR : List ByteArray := [⟨#[110]⟩, ⟨#[116]⟩]
def sI : Sv := ⟨1, 0, none, 0, 0, none, 0, 0⟩
def sR : Sv := ⟨8, 0, none, 2, 2, none, 2, 2⟩
def sP : Sv := ⟨9, 0, none, 0, 0, none, 0, 0⟩
def TP : Ti := ⟨9, 0, none, none, 0, [], none, 4⟩
def ksR (s : Sv) (ns : List ByteArray) (ks : SF) : SF := .cons sI [] .nil (.cons s ns ks .nil)
theorem vtinfo : (Try.prog.info? VT).map (·.size) = some 4 := by kernel_rfl
theorem goodR : recGood nsR = true := by decide +kernel
section
variable {w W : World} {s : Sv} {ns : List ByteArray} {ks : SF}
theorem ty_rec {nb tb rb : Nat} {T TR : Ti} (hn : TiAt 0 W nb (basicT 1)) (ht : TyS W s ns ks (tb, T)) (hr : TiAt 0 W rb TR) (h1 : TR.kind = 8) (h2 : TR.n = 0) (h3 : TR.base = none) (h4 : TR.fs = (recL (nsR.zip [(nb, basicT 1), (tb, T)])).1) (h5 : TR.size = recSize (nsR.zip [(nb, basicT 1), (tb, T)])) : TyS W sR nsR (ksR s ns ks) (rb, TR) := by
  refine ⟨hr, by rw [h1]; rfl, [(nb, basicT 1), (tb, T)], ⟨nb, basicT 1, [(tb, T)], rfl, hn, rfl, ⟨[], rfl, ?_⟩, tb, T, [], rfl, ht.1, ht.2.1, ht.2.2, rfl⟩, ?_⟩
  · unfold OwnTy
    rw [if_neg (show ¬ sI.k = 7 by decide), if_neg (show ¬ sI.k = 8 by decide), if_neg (show ¬ sI.k = 9 by decide)]
    exact ⟨1, rfl, by decide, by decide, rfl⟩
  · unfold OwnTy
    rw [if_neg (show ¬ sR.k = 7 by decide), if_pos (show sR.k = 8 from rfl)]
    exact ⟨rfl, h2, h3, h4, h5⟩
theorem err_rec {nb tb : Nat} {T : Ti} (he : errOf s ns ks = 0) (ht : TyS W s ns ks (tb, T)) (hz : recSize (nsR.zip [(nb, basicT 1), (tb, T)]) ≤ 262144) : errOf sR nsR (ksR s ns ks) = 0 := by
  have h1 : errOf sI [] .nil = 0 := by decide +kernel
  have h2 : errsF (ksR s ns ks) = [errOf sI [] .nil, errOf s ns ks] := rfl
  have h3 : sizesF (ksR s ns ks) = [4, T.size] := by
    rw [ty_size ht]
    rfl
  have h4 : recSizeS [4, T.size] ≤ 262144 := by rw [recSize_sizes] at hz; exact hz
  unfold errOf
  rw [h2, h1, he]
  simp only [List.find?_cons, List.find?_nil]
  rw [show sR.k = 8 from rfl, err8_eq, h3, goodR, if_neg (by simp), if_pos rfl, if_pos h4]
  simp
theorem ty_ptr {pb : Nat} (h : TiAt 0 W pb TP) : TyS W sP [] .nil (pb, TP) := by
  refine ⟨h, rfl, [], rfl, ?_⟩
  unfold OwnTy
  rw [if_neg (show ¬ sP.k = 7 by decide), if_neg (show ¬ sP.k = 8 by decide), if_pos (show sP.k = 9 from rfl)]
  exact ⟨rfl, rfl, rfl, rfl⟩
theorem TyS.quiet {b : Nat} {T : Ti} {W' : World} (h : TyS W s ns ks (b, T)) (hc : Chg NoB W W') : TyS W' s ns ks (b, T) := by
  obtain ⟨ts, hok⟩ := h.ok
  exact (hok.keepV (.of_quiet hc)).tyS
end
theorem VsAt.at_sep {C : Int → Option Addr → Prop} {W : World} : ∀ (v : VF) {lo i j : Nat} {b1 b2 : Nat} {x1 x2 : Ty} {A1 A2 : Option Addr} {c1 c2 : Nat} {k1 k2 : VF}, VsAt C W lo v → v.at? i = some (.cons b1 x1 A1 c1 k1 .nil) → v.at? j = some (.cons b2 x2 A2 c2 k2 .nil) → i < j → VsAt C W (b1 + 1) (.cons b2 x2 A2 c2 k2 .nil)
  | .nil, _, _, _, _, _, _, _, _, _, _, _, _, _, _, h, _, _ => by simp [VF.at?] at h
  | .cons b t A c ks r, lo, 0, j + 1, _, _, _, _, _, _, _, _, _, _, ⟨_, _, _, _, _, h8⟩, h1, h2, _ => by
    simp only [VF.at?, Option.some.injEq, VF.cons.injEq] at h1 h2
    obtain ⟨rfl, _⟩ := h1
    exact VsAt.at_ r h8 h2
  | .cons b t A c ks r, lo, i + 1, j + 1, _, _, _, _, _, _, _, _, _, _, ⟨_, _, _, _, _, h8⟩, h1, h2, hij => by
    simp only [VF.at?] at h1 h2
    exact VsAt.at_sep r h8 h1 h2 (by omega)
  | .cons _ _ _ _ _ _, _, _, 0, _, _, _, _, _, _, _, _, _, _, _, _, _, hij => by omega
theorem VC.far {w w' : World} {b tb n c k : Nat} {x : Int} {p A : Option Addr} {bs : List Nat} (h : VC w b tb x p A n c bs) (hc : Chg (fun j => j = k) w w') (hb : b ≠ k) (hk : ∃ cs t, Blk w k t cs ∧ t ≠ PV) : VC w' b tb x p A n c bs := by
  obtain ⟨cs, t, hk, ht⟩ := hk
  refine ⟨h.blk.chg hc hb, own_chg h.row hc (fun j hj hF => ?_)⟩
  subst hF
  exact own_blk_ne h.row hk (Ne.symm ht) hj
theorem rem_run {W : World} (q n : Nat) (hn : 0 < n) (hq : q < n) (h : n ≤ 65535) : (binOp .rem 3 (.int .i64 ((q : Int) + 1)) (.int .i64 (n : Int))).run Try.prog W = .ok (.int .i64 (((q + 1) % n : Nat) : Int)) W := by
  have h1 : ((q : Int) + 1).tmod n = (((q + 1) % n : Nat) : Int) := by
    rw [Int.tmod_eq_emod_of_nonneg (by omega)]
    rfl
  have h2 : (n : Int) ≠ 0 := by omega
  have h3 : (q + 1) % n < n := Nat.mod_lt _ hn
  have h4 : IntKind.i64.wrap (((q + 1) % n : Nat) : Int) = (((q + 1) % n : Nat) : Int) := by
    generalize (q + 1) % n = r at *
    rw [IntKind.wrap_i64]
    omega
  simp [binOp, Op.intDiv, h1, h2, h4]
  intro h0
  omega
section
variable {P : Program} {ops : Array Oper} {Q : Exit → Act → World → Prop} {md : Region.Mode} {S S' : World → Prop} {n : Nat}
/-- what is held may be made more -/
theorem wpAnyT_S (hS : ∀ w, S' w → S w) : ∀ (fuel : Nat) (listed : Array Bool) (a : Act) (w : World), wpAnyT P md ops Q S' n fuel listed a w → wpAnyT P md ops Q S n fuel listed a w
  | 0, _, _, _, h => h
  | fuel + 1, _, _, _, h => ⟨h.1, fun i hi => wpOp_mono (fun a' w' h' => ⟨fun hn => hS _ (h'.1 hn), wpAnyT_S hS fuel _ a' w' h'.2⟩) (h.2 i hi)⟩
end
set_option maxHeartbeats 16000000 in
set_option maxRecDepth 30000 in
theorem valueApart_walk {w : World} {s : Sv} {ns : List ByteArray} {ks : SF} {a : Int} {mv : Int} (h : IsS w s ns ks) (hlen : ks.len ≤ 209715) (hsm : ks.small) (ha : (Lit.int .u32 a).wf = true) (hm : w.cell? ⟨0, 0, none⟩ = some (.int .i64 mv)) :
    Calls Try.prog 4 #[s.val, .int .u32 a] w (fun e w' => e = .returned (.bool true) ∧ Chg NoB w w') := by
  have HS := Go.Lib.hid h
  have HSM := Go.Lib.hid (And.intro hlen hsm)
  have HM := Go.Lib.hid hm
  have hab := bounds_u32 ha
  have HAB : Hid (0 ≤ a ∧ a < 4294967296) := Go.Lib.hid (by omega)
  clear h hlen hsm hm hab ha
  unfold Sv.val
  have hbx := Blk.new w ShT (shArr s)
  have hab : Chg NoB w (w.alloc (Obj.cells (shArr s) ShT)) := (Chg.refl NoB w).alloc _
  unfold shArr at hbx hab
  have HB := Go.Lib.hid (And.intro hbx hab)
  clear hbx hab
  go_enter Try.func4, Try.ntmps4
  go_wp2_with fail
  refine (small_c (HS.out.quiet HB.out.2)).mono ?_
  rintro e w2 ⟨q, rfl, hc⟩
  have HB2 := Go.Lib.hid (And.intro (HB.out.1.chg hc id) (HB.out.2.trans hc))
  clear HB hc
  cases q with
  | false =>
    go_wp2_with fail
    refine (known_c (keepC HB2.out.2 HM.out)).mono ?_
    rintro e w3 ⟨rfl, hc⟩
    have HC := Go.Lib.hid (HB2.out.2.trans hc)
    clear hc
    go_wp2_with fail
    go_ret
    exact ⟨rfl, HC.out⟩
  | true =>
    have b0 : w2.cell? ⟨w.heap.size, 0, none⟩ = some (.int .i64 s.k) := HB2.out.1.cell 0
    have b1 : w2.cell? ⟨w.heap.size, 1, none⟩ = some (.int .i64 s.n) := HB2.out.1.cell 1
    have b2 : w2.cell? ⟨w.heap.size, 2, none⟩ = some (.slice s.nA s.nl s.nc) := HB2.out.1.cell 2
    have b3 : w2.cell? ⟨w.heap.size, 3, none⟩ = some (.slice s.pA s.pl s.pc) := HB2.out.1.cell 3
    go_wp2_with fail
    refine (refMake_c (HS.out.quiet HB2.out.2) HSM.out.1 HSM.out.2).mono ?_
    rintro e w3 ⟨rfl, hc⟩
    have HB3 := Go.Lib.hid (And.intro (HB2.out.1.chg hc id) (HB2.out.2.trans hc))
    clear hc b0 b1 b2 b3 HB2
    obtain ⟨er, her⟩ : ∃ er, errOf s ns ks = er := ⟨_, rfl⟩
    rw [her]
    by_cases he0 : er = 0
    · subst he0
      have HER := Go.Lib.hid her
      clear her
      go_wp2_with fail
      refine (basic_c (w := w3) 1 (by decide) (by decide)).mono ?_
      rintro e w4 ⟨nb, rfl, hnT, hc⟩
      have HB4 := Go.Lib.hid (And.intro (HB3.out.1.chg hc id) (HB3.out.2.trans hc))
      have HN4 := Go.Lib.hid (hnT.mono (Nat.zero_le _))
      clear hc hnT HB3
      have b0 : w4.cell? ⟨w.heap.size, 0, none⟩ = some (.int .i64 s.k) := HB4.out.1.cell 0
      have b1 : w4.cell? ⟨w.heap.size, 1, none⟩ = some (.int .i64 s.n) := HB4.out.1.cell 1
      have b2 : w4.cell? ⟨w.heap.size, 2, none⟩ = some (.slice s.nA s.nl s.nc) := HB4.out.1.cell 2
      have b3 : w4.cell? ⟨w.heap.size, 3, none⟩ = some (.slice s.pA s.pl s.pc) := HB4.out.1.cell 3
      unfold ptr
      go_wp2_with fail
      have hbd := build_c (HS.out.quiet HB4.out.2) (keepC HB4.out.2 HM.out) (by have := HSM.out.1; omega) HSM.out.2.few
      rw [HER.out] at hbd
      refine hbd.mono ?_
      clear hbd
      rintro e w5 hbt
      obtain ⟨_, tb, T, rfl, hT, hTk, hTy, hc⟩ : (0 : Int) = 0 ∧ ∃ b T, e = .returned (.tuple #[ptr b, .int .i64 0]) ∧ TiAt w4.heap.size w5 b T ∧ T.kind ≠ 0 ∧ TyS w5 s ns ks (b, T) ∧ Chg NoB w4 w5 := by
        rcases hbt with hbt | hbt
        · exact hbt
        · exact absurd rfl hbt.1
      have HB5 := Go.Lib.hid (HB4.out.2.trans hc)
      have HTY5 := Go.Lib.hid hTy
      have HN5 := Go.Lib.hid (HN4.out.quiet hc)
      have HTK := Go.Lib.hid hTk
      clear hT hTk hTy hc b0 b1 b2 b3 HB4 HN4 hbt
      unfold ptr
      go_wp2_with fail
      have hq1 : Chg NoB w5 (w5.alloc (Obj.cells #[.string ⟨#[110]⟩, .string ⟨#[116]⟩] 9)) := (Chg.refl NoB w5).alloc _
      have hr1 := (Blk.new w5 9 #[.string ⟨#[110]⟩, .string ⟨#[116]⟩]).alloc (Obj.cells #[.pointer (some ⟨nb, 0, none⟩), .pointer (some ⟨tb, 0, none⟩)] PT)
      have hr2 := Blk.new (w5.alloc (Obj.cells #[.string ⟨#[110]⟩, .string ⟨#[116]⟩] 9)) PT #[.pointer (some ⟨nb, 0, none⟩), .pointer (some ⟨tb, 0, none⟩)]
      have hq2 := hq1.alloc (Obj.cells #[.pointer (some ⟨nb, 0, none⟩), .pointer (some ⟨tb, 0, none⟩)] PT)
      have hz1 : (w5.alloc (Obj.cells #[.string ⟨#[110]⟩, .string ⟨#[116]⟩] 9)).heap.size = w5.heap.size + 1 := by simp
      rw [hz1] at hr2
      generalize (w5.alloc (Obj.cells #[.string ⟨#[110]⟩, .string ⟨#[116]⟩] 9)).alloc (Obj.cells #[.pointer (some ⟨nb, 0, none⟩), .pointer (some ⟨tb, 0, none⟩)] PT) = w6 at *
      generalize w5.heap.size = z5 at *
      have hrec := record_c (lo := 0) (w := w6) (l := nsR.zip [(nb, basicT 1), (tb, T)]) (c := 2) (d := 2) (A := some ⟨z5, 0, none⟩) (B := some ⟨z5 + 1, 0, none⟩) (mv := mv) (cells_of_blk hr1) (cells_of_blk hr2) (fun x hx => by
        simp only [List.zip_cons_cons, List.zip_nil_right, List.mem_cons, List.not_mem_nil, or_false] at hx
        rcases hx with rfl | rfl
        · exact ⟨HN5.out.quiet hq2, by show (1 : Nat) ≠ 0; decide⟩
        · exact ⟨HTY5.out.1.quiet hq2, HTK.out⟩)
      refine (hrec (by show 2 ≤ 1100000; omega) (fun x hx => by
        simp only [List.zip_cons_cons, List.zip_nil_right, List.mem_cons, List.not_mem_nil, or_false] at hx
        unfold maxLen
        rcases hx with rfl | rfl
        · show 1 ≤ _; omega
        · show 1 ≤ _; omega) (keepC hq2 (keepC HB5.out HM.out))).mono ?_
      clear hrec hr1 hr2 hz1 hq1
      rintro e w7 hrp
      have HB6 := Go.Lib.hid (HB5.out.trans hq2)
      unfold RecPost at hrp
      rw [if_pos (show recGood ((nsR.zip [(nb, basicT 1), (tb, T)]).map (·.1)) = true from goodR)] at hrp
      by_cases hrz : recSize (nsR.zip [(nb, basicT 1), (tb, T)]) ≤ 262144
      · rw [if_pos hrz] at hrp
        obtain ⟨rb, TR, rfl, hTR, hk1, hk2, hk3, hk4, hk5, hc⟩ := hrp
        have HQ7 := Go.Lib.hid (hq2.trans hc)
        have hTR7 := ty_rec (HN5.out.quiet HQ7.out) (HTY5.out.quiet HQ7.out) (hTR.mono (Nat.zero_le _)) hk1 hk2 hk3 hk4 hk5
        have HTR := Go.Lib.hid hTR7
        have HRK := Go.Lib.hid hk1
        have HER2 := Go.Lib.hid (err_rec HER.out HTY5.out hrz)
        have HT7 := Go.Lib.hid (HTY5.out.quiet HQ7.out)
        have HC7 := Go.Lib.hid (HB6.out.trans hc)
        have HRS := Go.Lib.hid hk5
        clear hTR hk1 hk2 hk3 hk4 hk5 hc hTR7 hrz hq2 HB5 HB6 HTY5 HN5
        unfold ptr
        go_wp2_with fail
        refine (num_c (w := w7) 0).mono ?_
        rintro e w8 ⟨rfl, rfl⟩
        go_wp2_with fail
        refine (pointer_c w7).mono ?_
        rintro e w8 ⟨pb, rfl, hpT, hc8⟩
        have hpb : w7.heap.size ≤ pb := hpT.lo.1
        have HP8 := Go.Lib.hid (ty_ptr (show TiAt 0 w8 pb TP from hpT.mono (Nat.zero_le _)))
        have HC8 := Go.Lib.hid hc8
        have HPB := Go.Lib.hid hpb
        clear hpT hc8 hpb
        unfold ptr
        go_wp2_with fail
        refine (new_c (w := w8) ⟨sR, nsR, ksR s ns ks, rb, TR⟩ (HTR.out.quiet HC8.out)).mono ?_
        rintro e w9 ⟨vb, Av, cv, kv, rfl, hv, hc9⟩
        have HV9 := Go.Lib.hid (And.intro hv hc9)
        clear hv hc9
        unfold ptr
        go_wp2_with fail
        refine (new_c (w := w9) ⟨sP, [], .nil, pb, TP⟩ (HP8.out.quiet HV9.out.2)).mono ?_
        rintro e w10 ⟨ob, Ao, co, ko, rfl, ho, hc10⟩
        have HO10 := Go.Lib.hid (And.intro ho hc10)
        clear ho hc10
        unfold ptr
        go_wp2_with fail
        refine (new_c (w := w10) ⟨sP, [], .nil, pb, TP⟩ (HP8.out.quiet (HV9.out.2.trans HO10.out.2))).mono ?_
        rintro e w11 ⟨qb, Aq, cq, kq, rfl, hq, hc11⟩
        have HQ11 := Go.Lib.hid (And.intro hq hc11)
        clear hq hc11
        unfold ptr
        go_wp2_with fail
        have HNUM : Hid (∀ (x : Int) (W : World), Calls Try.prog 14 #[.int .i64 x] W fun e w' => e = .returned (.int .i64 x) ∧ W = w') := Go.Lib.hid fun x W => num_c (w := W) x
        refine (HNUM.out 0 w11).mono ?_
        rintro e w12 ⟨rfl, rfl⟩
        go_wp2_with fail
        refine (HNUM.out 0 w11).mono ?_
        rintro e w12 ⟨rfl, rfl⟩
        go_wp2_with fail
        refine (HNUM.out 0 w11).mono ?_
        rintro e w12 ⟨rfl, rfl⟩
        go_wp2_with fail
        refine (HNUM.out 0 w11).mono ?_
        rintro e w12 ⟨rfl, rfl⟩
        go_wp2_with fail
        refine (HNUM.out 0 w11).mono ?_
        rintro e w12 ⟨rfl, rfl⟩
        go_wp2_with fail
        have hc811 : Chg NoB w8 w11 := (HV9.out.2.trans HO10.out.2).trans HQ11.out.2
        have hP11 := HP8.out.quiet hc811
        have hR11 := HTR.out.quiet (HC8.out.trans hc811)
        have hRk : TR.kind = 8 := HRK.out
        refine (point_c hP11.1 (by show (9 : Nat) ≠ 0; decide) hR11.1 (by show TR.kind ≠ 0; omega)).mono ?_
        rintro e w12 hpt
        obtain ⟨rfl, hw12⟩ : e = .returned (.int .i64 0) ∧ w12 = w11.setCell ⟨pb, 2, none⟩ (ptr rb) := by
          rcases hpt with ⟨h1, _⟩ | ⟨_, _, h1, _⟩ | ⟨_, _, _, h1, h2⟩
          · rcases h1 with h1 | h1
            · exact absurd rfl h1
            · exact absurd hRk h1
          · exact absurd rfl h1
          · exact ⟨h1, h2⟩
        have hset : Chg (fun k => k = pb) w11 w12 := by rw [hw12]; exact (Chg.refl (fun k => k = pb) w11).setCell (p := ⟨pb, 2, none⟩) (fun _ => rfl) _
        have hq12 : Chg NoB w7 w12 := (HC8.out.trans hc811).step hset fun k hk hF => by subst hF; have := HPB.out; omega
        have hpblk : Blk w12 pb TT #[.int .i64 9, .int .i64 0, ptr rb, .slice none 0 0, .map none, .int .i64 4] := by
          rw [hw12]
          exact hP11.1.blk.set_ 2 (ptr rb)
        -- behind Point
        have hTP : TiAt 0 w12 pb ⟨9, 0, some rb, none, 0, [], none, 4⟩ := TiAt.plain w12 9 0 4 (some rb) (by decide) (by decide) (Nat.zero_le _) hpblk
        have hpb8 : pb < w8.heap.size := HP8.out.1.blk.lt
        have hv11 := (HV9.out.1.quiet HO10.out.2).quiet HQ11.out.2
        have hc711 : Chg NoB w7 w11 := HC8.out.trans hc811
        have htf := VsAt.tyF hc711 _ hv11 (fun x hx => by
          simp only [VF.tys, List.mem_cons, List.not_mem_nil, or_false] at hx
          subst hx
          exact HTR.out)
        have hv12 := VsAt.move hset hq12 _ hv11 htf (fun k hk hF => by have := (hv11.foot_ge _ hk).1; omega)
        have hvlt : ∀ k, (VF.cons vb ⟨sR, nsR, ksR s ns ks, rb, TR⟩ Av cv kv .nil).foot k → k < w9.heap.size := fun k hk => (HV9.out.1.foot_ge _ hk).2
        obtain ⟨xo, po, hvo, _, hxo, hpo⟩ := (HO10.out.1.quiet HQ11.out.2).vc
        obtain ⟨xq, pq, hvq, _, hxq, hpq⟩ := HQ11.out.1.vc
        subst hxo hpo hxq hpq
        have hobl := (HO10.out.1.foot_ge _ (.inl rfl))
        have hqbl := (HQ11.out.1.foot_ge _ (.inl rfl))
        have hs9 := HV9.out.2.size
        have hs10 := HO10.out.2.size
        have hvo12 := hvo.far hset (by have := hs9; omega) ⟨_, _, hP11.1.blk, by decide⟩
        have hvq12 := hvq.far hset (by omega) ⟨_, _, hP11.1.blk, by decide⟩
        obtain ⟨_, ⟨xv, pv, hvb, _⟩, _⟩ := hv12
        have hv12 := VsAt.move hset hq12 _ hv11 htf (fun k hk hF => by have := (hv11.foot_ge _ hk).1; omega)
        have hv0 : w12.cell? ⟨vb, 0, none⟩ = some (.pointer (some ⟨rb, 0, none⟩)) := hvb.cell 0
        have hset1 := set_c hvo12 hTP (.inr (.inr (.inr (.inr (.inr rfl))))) (x' := 0) (p' := some ⟨vb, 0, none⟩) (by decide) (.inr ⟨vb, _, rfl, hv0⟩)
        have HSET1 := Go.Lib.hid hset1
        have HV12 := Go.Lib.hid (And.intro hv12 hvlt)
        have HTP := Go.Lib.hid hTP
        have HQ12 := Go.Lib.hid hq12
        have HVQ := Go.Lib.hid hvq12
        have HOB := Go.Lib.hid (show w9.heap.size ≤ ob ∧ ob < w10.heap.size ∧ w10.heap.size ≤ qb ∧ ob ≠ qb by omega)
        have HOBK := Go.Lib.hid hvo12
        unfold ptr at HSET1
        clear hTP hpb8 hv11 hc711 htf hv12 hvlt hvo hvq hobl hqbl hs9 hs10 hvo12 hvq12 hvb hv0 hset1 hset hq12 hpblk hpt hw12 hc811 hP11 hR11 hRk
        go_wp2_with fail
        refine (HNUM.out 0 w12).mono ?_
        rintro e w13 ⟨rfl, rfl⟩
        go_wp2_with fail
        refine HSET1.out.mono ?_
        rintro e w13 ⟨rfl, hc13, hb13⟩
        have hof : ∀ k, (VF.cons vb ⟨sR, nsR, ksR s ns ks, rb, TR⟩ Av cv kv .nil).foot k → ¬ k = ob := fun k hk h => by have := HV12.out.2 k hk; have := HOB.out; omega
        have hqf : ∀ k, (VF.cons vb ⟨sR, nsR, ksR s ns ks, rb, TR⟩ Av cv kv .nil).foot k → ¬ k = qb := fun k hk h => by have := HV12.out.2 k hk; have := HOB.out; omega
        have hV13 := HV12.out.1.chg hc13 (fun k hk _ => by subst hk; exact ⟨_, _, .inl HOBK.out.blk⟩) _ hof
        have hP13 := HTP.out.keepV ⟨_, hc13, fun k hk _ => by subst hk; exact ⟨_, _, .inl HOBK.out.blk⟩⟩
        have hQ13 := HVQ.out.far hc13 (fun h => HOB.out.2.2.2 h.symm) ⟨_, _, HOBK.out.blk, by decide⟩
        rw [if_pos rfl, show fitK 9 0 = 0 from rfl] at hb13
        have hO13 : VC w13 ob pb 0 (some ⟨vb, 0, none⟩) Ao ko.len co ko.blks := ⟨hb13, own_chg HOBK.out.row hc13 (fun j hj hF => by subst hF; exact own_blk_ne HOBK.out.row HOBK.out.blk (by decide) hj)⟩
        have hC13 : Chg NoB w w13 := (HC7.out.trans HQ12.out).step hc13 (fun k hk hF => by subst hF; have := HOB.out; have := HC7.out.size; have := HC8.out.size; have := HV9.out.2.size; omega)
        have h713 : Chg NoB w7 w13 := HQ12.out.step hc13 (fun k hk hF => by subst hF; have := HOB.out; have := HC8.out.size; have := HV9.out.2.size; omega)
        have HG := Go.Lib.hid (get_c hO13 hP13 (by show (9 : Nat) ≠ 0; decide) ⟨by show (9 : Nat) ≠ 7; decide, by show (9 : Nat) ≠ 8; decide⟩)
        have H13 := Go.Lib.hid (And.intro hV13 (And.intro hP13 (And.intro hQ13 (And.intro hO13 (And.intro hC13 h713)))))
        have HF := Go.Lib.hid (And.intro hof hqf)
        unfold ptr at HG
        clear hV13 hP13 hQ13 hO13 hC13 h713 hof hqf hb13 hc13 HOBK HTP HVQ HSET1
        go_wp2_with fail
        refine (HNUM.out 0 w13).mono ?_
        rintro e w14 ⟨rfl, rfl⟩
        go_wp2_with fail
        refine HG.out.mono ?_
        rintro e w14 ⟨rfl, hc14⟩
        go_wp2_with fail
        have hbx := Blk.new w14 47 #[.int .u32 0, .pointer (some ⟨vb, 0, none⟩)]
        have hc15 := hc14.alloc (Obj.cells #[.int .u32 0, .pointer (some ⟨vb, 0, none⟩)] 47)
        generalize w14.alloc (Obj.cells #[.int .u32 0, .pointer (some ⟨vb, 0, none⟩)] 47) = w15 at *
        have hxs : w13.heap.size ≤ w14.heap.size := hc14.size
        generalize w14.heap.size = xb at *
        have HXB := Go.Lib.hid (And.intro hbx hxs)
        have HC15 := Go.Lib.hid hc15
        clear hbx hc15 hc14 hxs HG
        refine (HNUM.out 0 w15).mono ?_
        rintro e w16 ⟨rfl, rfl⟩
        have x0 : w15.cell? ⟨xb, 0, none⟩ = some (.int .u32 0) := HXB.out.1.cell 0
        have x1 : w15.cell? ⟨xb, 1, none⟩ = some (.pointer (some ⟨vb, 0, none⟩)) := HXB.out.1.cell 1
        have hV15 := H13.out.1.quiet HC15.out
        obtain ⟨_, ⟨xv, pv, hvb, _⟩, _⟩ := H13.out.1.quiet HC15.out
        have hv0 : w15.cell? ⟨vb, 0, none⟩ = some (.pointer (some ⟨rb, 0, none⟩)) := hvb.cell 0
        have HSET2 := Go.Lib.hid (set_c (H13.out.2.2.1.quiet HC15.out) (H13.out.2.1.quiet HC15.out) (.inr (.inr (.inr (.inr (.inr rfl))))) (x' := 0) (p' := some ⟨vb, 0, none⟩) (by decide) (.inr ⟨vb, _, rfl, hv0⟩))
        unfold ptr at HSET2
        clear hV15 hvb hv0
        go_wp2_with fail
        refine HSET2.out.mono ?_
        rintro e w16 ⟨rfl, hc16, hb16⟩
        rw [if_pos rfl, show fitK 9 0 = 0 from rfl] at hb16
        have hq15 := (H13.out.2.2.1.quiet HC15.out)
        have hV16 := (H13.out.1.quiet HC15.out).chg hc16 (fun k hk _ => by subst hk; exact ⟨_, _, .inl hq15.blk⟩) _ HF.out.2
        have hP16 := (H13.out.2.1.quiet HC15.out).keepV ⟨_, hc16, fun k hk _ => by subst hk; exact ⟨_, _, .inl hq15.blk⟩⟩
        have hQ16 : VC w16 qb pb 0 (some ⟨vb, 0, none⟩) Aq kq.len cq kq.blks := ⟨hb16, own_chg hq15.row hc16 (fun j hj hF => by subst hF; exact own_blk_ne hq15.row hq15.blk (by decide) hj)⟩
        have hqsz : qb < w13.heap.size := H13.out.2.2.1.blk.lt
        have hxb16 := HXB.out.1.chg hc16 (fun h => by have := HXB.out.2; omega)
        have hC16 : Chg NoB w w16 := (H13.out.2.2.2.2.1.trans HC15.out).step hc16 (fun k hk hF => by subst hF; have := HOB.out; have := HC7.out.size; have := HC8.out.size; have := HV9.out.2.size; have := HO10.out.2.size; omega)
        have h716 : Chg NoB w7 w16 := (H13.out.2.2.2.2.2.trans HC15.out).step hc16 (fun k hk hF => by subst hF; have := HOB.out; have := HC8.out.size; have := HV9.out.2.size; have := HO10.out.2.size; omega)
        have HG := Go.Lib.hid (get_c hQ16 hP16 (by show (9 : Nat) ≠ 0; decide) ⟨by show (9 : Nat) ≠ 7; decide, by show (9 : Nat) ≠ 8; decide⟩)
        have H16 := Go.Lib.hid (And.intro hV16 (And.intro hxb16 (And.intro hC16 h716)))
        unfold ptr at HG
        clear hV16 hP16 hQ16 hqsz hxb16 hC16 h716 hc16 hb16 hq15 HSET2 x0 x1
        go_wp2_with fail
        refine (HNUM.out 0 w16).mono ?_
        rintro e w17 ⟨rfl, rfl⟩
        go_wp2_with fail
        refine HG.out.mono ?_
        rintro e w17 ⟨rfl, hc17⟩
        go_wp2_with fail
        have hby := Blk.new w17 47 #[.int .u32 0, .pointer (some ⟨vb, 0, none⟩)]
        have hc18 := hc17.alloc (Obj.cells #[.int .u32 0, .pointer (some ⟨vb, 0, none⟩)] 47)
        generalize w17.alloc (Obj.cells #[.int .u32 0, .pointer (some ⟨vb, 0, none⟩)] 47) = w18 at *
        generalize w17.heap.size = yb at *
        have hV18 := H16.out.1.quiet hc18
        have H18 := Go.Lib.hid (And.intro hV18 (And.intro (H16.out.2.1.chg hc18 id) (And.intro hby (And.intro (H16.out.2.2.1.trans hc18) (H16.out.2.2.2.trans hc18)))))
        clear hby hc18 hc17 hV18 HG
        have y0 : w18.cell? ⟨yb, 0, none⟩ = some (.int .u32 0) := H18.out.2.2.1.cell 0
        have y1 : w18.cell? ⟨yb, 1, none⟩ = some (.pointer (some ⟨vb, 0, none⟩)) := H18.out.2.2.1.cell 1
        have hneq : (binOp .neq PV (.pointer (some ⟨vb, 0, none⟩)) (.pointer (some ⟨vb, 0, none⟩))).run Try.prog w18 = .ok (.bool false) w18 := by
          obtain ⟨j, hj, hjs⟩ := Option.map_eq_some_iff.1 vtinfo
          exact Go.Lib.run_neq_ptr_same (P := Try.prog) w18 ⟨vb, 0, none⟩ Try.underlying41 hj
        refine (HNUM.out 0 w18).mono ?_
        rintro e w19 ⟨rfl, rfl⟩
        obtain ⟨kb0, k0, A0, c0, kk0, hat0, hka0, hF0⟩ := field_at (H18.out.1.mono (Nat.zero_le _)) HRK.out HER2.out (j := 0) (nm := ⟨#[110]⟩) rfl
        obtain ⟨kb1, k1, A1, c1, kk1, hat1, hka1, hF1⟩ := field_at (H18.out.1.mono (Nat.zero_le _)) HRK.out HER2.out (j := 1) (nm := ⟨#[116]⟩) rfl
        have HF0 := Go.Lib.hid (hF0 w18 (Chg.refl _ _))
        have HF1 := Go.Lib.hid (hF1 w18 (Chg.refl _ _))
        have HAT := Go.Lib.hid (And.intro hat0 (And.intro hka0 (And.intro hat1 hka1)))
        have hkv := H18.out.1.2.2.2.2.1
        have hk0 := VsAt.at_ _ hkv HAT.out.1
        have hk1 := VsAt.at_ _ hkv HAT.out.2.2.1
        have hks := VsAt.at_sep _ hkv HAT.out.1 HAT.out.2.2.1 (by decide)
        have hne : kb0 ≠ kb1 := by have := hks.1; omega
        have heql : (binOp .eql PV (.pointer (some ⟨kb0, 0, none⟩)) (.pointer (some ⟨kb1, 0, none⟩))).run Try.prog w18 = .ok (.bool false) w18 := by
          obtain ⟨j, hj, hjs⟩ := Option.map_eq_some_iff.1 vtinfo
          obtain ⟨x0, p0, hb0, _⟩ := hk0.2.1
          obtain ⟨x1, p1, hb1, _⟩ := hk1.2.1
          exact run_eql_ptr_other (P := Try.prog) w18 (a := ⟨kb0, 0, none⟩) (b := ⟨kb1, 0, none⟩) Try.underlying41 hj (by rw [hjs]; decide) (fun e => hne (by injection e)) hb0 hb1
        obtain ⟨xk, pk, hvk, _, hxk, hpk⟩ := hk0.vc
        subst hxk hpk
        obtain ⟨tsk, hokk, _⟩ := hk0.kids_len
        have hk0e : some (sI, ([] : List ByteArray), SF.nil) = some (k0.s, k0.ns, k0.ks) := HAT.out.2.1
        have hs0 : k0.s = sI := by injection hk0e with e; injection e with e1 e2; exact e1.symm
        have hT0k : k0.T.kind = 1 := by
          have h1 := hokk.2.1
          rw [hs0] at h1
          have h2 : sI.k = 1 := rfl
          omega
        have hset3 := set_c hvk hokk.1 (.inl hT0k) (x' := a) (p' := none) HAB.out (.inl rfl)
        rw [hT0k] at hset3
        have HSET3 := Go.Lib.hid hset3
        have HSEP := Go.Lib.hid hks
        have HVK := Go.Lib.hid hvk
        have HK0T := Go.Lib.hid (And.intro hokk.1 hT0k)
        unfold ptr at HSET3
        clear hkv hk0 hk1 hks hvk hokk hk0e hs0 hset3 hT0k
        unfold ptr at HF0 HF1
        clear hF0 hF1 hat0 hka0 hat1 hka1
        go_wp2_with fail
        refine HF0.out.mono ?_
        rintro e w19 ⟨rfl, rfl⟩
        go_wp2_with fail
        refine HF1.out.mono ?_
        rintro e w19 ⟨rfl, rfl⟩
        go_wp2_with fail
        refine (HNUM.out 0 w18).mono ?_
        rintro e w19 ⟨rfl, rfl⟩
        go_wp2_with fail
        refine (HNUM.out 0 w18).mono ?_
        rintro e w19 ⟨rfl, rfl⟩
        go_wp2_with fail
        refine HSET3.out.mono ?_
        rintro e w19 ⟨rfl, hc19, hb19⟩
        rw [if_neg (by decide), show fitK 1 a = a from rfl] at hb19
        have hkbs : w8.heap.size ≤ kb0 := by
          have h1 := (VsAt.at_ _ H18.out.1.2.2.2.2.1 HAT.out.1).1
          have h2 := H18.out.1.1
          omega
        have hC19 : Chg NoB w w19 := H18.out.2.2.2.1.step hc19 (fun k hk hF => by subst hF; have := HC7.out.size; have := HC8.out.size; omega)
        have h719 : Chg NoB w7 w19 := H18.out.2.2.2.2.step hc19 (fun k hk hF => by subst hF; have := HC8.out.size; omega)
        have hv19 : VsAt AnyC w19 0 (.cons vb ⟨sR, nsR, ksR s ns ks, rb, TR⟩ Av cv kv .nil) := ((VsAt.imp (C' := AnyC) (fun _ _ _ => trivial) _ H18.out.1).mono (Nat.zero_le _)).set hc19 ⟨_, HVK.out.blk⟩ (fun q x p s hb => by
          have hb2 := HVK.out.blk
          unfold Blk at hb hb2
          rw [hb] at hb2
          injection hb2 with hb2
          injection hb2 with hb2 _ _
          have hb3 := congrArg Array.toList hb2
          simp only [List.cons.injEq] at hb3
          obtain ⟨e1, _, _, e4, _⟩ := hb3
          subst e1 e4
          exact ⟨a, none, hb19, HAB.out, trivial⟩)
        have hs19 : VsAt Zr w19 (kb0 + 1) (.cons kb1 k1 A1 c1 kk1 .nil) := HSEP.out.chg hc19 (fun k hk _ => by subst hk; exact ⟨_, _, .inl HVK.out.blk⟩) _ (fun k hk h => by have := (HSEP.out.foot_ge _ hk).1; omega)
        have hvk19 : VC w19 kb0 k0.b a none A0 kk0.len c0 kk0.blks := ⟨hb19, own_chg HVK.out.row hc19 (fun j hj hF => by subst hF; exact own_blk_ne HVK.out.row HVK.out.blk (by decide) hj)⟩
        have hk0T : TiAt 0 w19 k0.b k0.T := (HK0T.out.1.mono (Nat.zero_le _)).keepV ⟨_, hc19, fun k hk _ => by subst hk; exact ⟨_, _, .inl HVK.out.blk⟩⟩
        have hx19 := H18.out.2.1.chg hc19 (fun h => by
          have h1 := H18.out.2.1
          have h2 := HVK.out.blk
          rw [h] at h1
          unfold Blk at h1 h2
          rw [h1] at h2
          injection h2 with h2
          injection h2 with _ h2
          exact absurd h2 (by decide))
        have x0 : w19.cell? ⟨xb, 0, none⟩ = some (.int .u32 0) := hx19.cell 0
        have x1 : w19.cell? ⟨xb, 1, none⟩ = some (.pointer (some ⟨vb, 0, none⟩)) := hx19.cell 1
        obtain ⟨kb0', k0', A0', c0', kk0', hat0', _, hF0'⟩ := field_at hv19 HRK.out HER2.out (j := 0) (nm := ⟨#[110]⟩) rfl
        have hF19 := hF0' w19 (Chg.refl _ _)
        obtain rfl : kb0' = kb0 := by
          rw [HAT.out.1] at hat0'
          injection hat0' with e
          injection e with e
          exact e.symm
        have HF19 := Go.Lib.hid hF19
        have HG19 := Go.Lib.hid (get_c hvk19 hk0T (by rw [HK0T.out.2]; decide) ⟨by rw [HK0T.out.2]; decide, by rw [HK0T.out.2]; decide⟩)
        have H19 := Go.Lib.hid (And.intro hs19 (And.intro hC19 h719))
        unfold ptr at HF19 HG19
        clear hkbs hC19 h719 hv19 hs19 hvk19 hk0T hx19 hF0' hF19 hat0' hb19 hc19 HSET3 hneq heql HF0 HF1
        go_wp2_with fail
        refine (HNUM.out 0 w19).mono ?_
        rintro e w20 ⟨rfl, rfl⟩
        go_wp2_with fail
        refine HF19.out.mono ?_
        rintro e w20 ⟨rfl, rfl⟩
        go_wp2_with fail
        refine HG19.out.mono ?_
        rintro e w20 ⟨rfl, hc20⟩
        go_wp2_with fail
        have hbz := Blk.new w20 47 #[.int .u32 a, .pointer none]
        have hc21 := hc20.alloc (Obj.cells #[.int .u32 a, .pointer none] 47)
        generalize w20.alloc (Obj.cells #[.int .u32 a, .pointer none] 47) = w21 at *
        generalize w20.heap.size = zb at *
        have hbz0 : w21.cell? ⟨zb, 0, none⟩ = some (.int .u32 a) := hbz.cell 0
        have HZ := Go.Lib.hid hbz
        have H21 := Go.Lib.hid (And.intro (H19.out.1.quiet hc21) (And.intro (H19.out.2.1.trans hc21) (H19.out.2.2.trans hc21)))
        clear hbz hc20 hc21 HG19 HF19 H19 x0 x1 y0 y1
        obtain ⟨tsK, hokK, hksK⟩ := H21.out.1.kids_len
        have hTk : k1.T.size = T.size := by
          have hk1e : some (s, ns, ks) = some (k1.s, k1.ns, k1.ks) := HAT.out.2.2.2
          have h1 := ty_size hokK.tyS
          have h2 := ty_size HT7.out
          injection hk1e with e
          injection e with e1 e
          injection e with e2 e3
          rw [← e1, ← e3] at h1
          rw [h1, h2]
        have HBY : Hid (∀ W, Chg NoB w21 W → Calls Try.prog 21 #[.pointer (some ⟨kb1, 0, none⟩)] W (fun e w' => ∃ A c, e = .returned (.slice A T.size c) ∧ Chg NoB W w' ∧ ∀ V, Chg NoB w' V → (convert 51 9 (.slice A T.size c)).run Try.prog V = .ok (.string (strOf (List.replicate T.size 0))) V)) := Go.Lib.hid (by
          intro W hW
          have hv := H21.out.1.quiet hW
          obtain ⟨tsK, hokK, hksK⟩ := hv.kids_len
          have hl1 := one_len hokK hksK (szOk kk1 hv.2.2.2.2.1) (wordAt W kb1) (toAt W kb1)
          have hz := zero_bytes _ hv (bytesOf k1.T (wordAt W kb1) (toAt W kb1) (bytesF W kk1)) (by simp [bytesF])
          have hl : bytesOf k1.T (wordAt W kb1) (toAt W kb1) (bytesF W kk1) = List.replicate T.size 0 := List.eq_replicate_iff.2 ⟨by rw [hl1, hTk], hz⟩
          have hb := bytes_all _ W hv 0 kb1 (bytesOf k1.T (wordAt W kb1) (toAt W kb1) (bytesF W kk1)) rfl rfl
          refine hb.mono ?_
          rintro e w' ⟨v, rfl, own, hc⟩
          rw [hl] at own
          obtain ⟨A, c, rfl⟩ := own_slice1' own
          rw [List.length_replicate] at own
          rw [List.length_replicate]
          refine ⟨A, c, rfl, hc, fun V hV => ?_⟩
          have own2 := own_chg own hV (fun _ _ => id)
          exact run_text (by simp) (own_cells own2))
        have hsz : 1 ≤ T.size ∧ T.size ≤ 262144 := HT7.out.1.sz
        have HMK : Hid (∀ W : World, (Instr.makeSlice 51 (.int .i64 T.size) (.int .i64 T.size)).run Try.prog W = .ok (.slice (some ⟨W.heap.size, 0, none⟩) T.size T.size) (W.alloc (.cells (madeCells #[.int .u8 0] T.size) U8))) := Go.Lib.hid fun W => run_make_row' 51 U8 (.int .u8 0) 1 Try.underlying51 u8info rfl .i64 .i64 T.size (by omega) (by omega) W
        have HMT : Hid (∀ (W V : World), Chg NoB (W.alloc (.cells (madeCells #[.int .u8 0] T.size) U8)) V → (convert 51 9 (.slice (some ⟨W.heap.size, 0, none⟩) T.size T.size)).run Try.prog V = .ok (.string (strOf (List.replicate T.size 0))) V) := Go.Lib.hid fun W V hV => by
          have hb := (Blk.new W U8 (madeCells #[.int .u8 0] T.size)).chg hV id
          have hc := cells_of_blk hb
          rw [toList_madeCells_one] at hc
          exact run_text (by simp) (by unfold u8s; rw [List.map_replicate]; exact hc)
        have HSZ : Hid (∀ W, Chg NoB w21 W → Calls Try.prog 22 #[.pointer (some ⟨tb, 0, none⟩)] W fun e w' => e = .returned (.int .i64 T.size) ∧ W = w') := Go.Lib.hid fun W hW => size_c (HT7.out.1.quiet (H21.out.2.2.trans hW)) HTK.out
        have HB0 := Go.Lib.hid hbz0
        clear hokK hksK hTk hsz hbz0
        generalize strOf (List.replicate T.size 0) = tx at *
        refine regionT 18 (fun V' => Chg NoB (w21) V') (by kernel_rfl) (by decide) ((Chg.refl NoB w21).drew) (fun inv hHeld => ?_)
        refine takeT (i := 0) (t := 182) (v := ?v0y1) rfl (by kernel_rfl) (by kernel_rfl) (by kernel_rfl) (fun _ _ _ h => h) (by kernel_rfl) (by kernel_rfl) (by decide) (by decide) rfl (Or.inl ⟨by rfl, ?h0y1⟩) inv hHeld ?r0y1
        case h0y1 => (intro V' hSw; clear hSw; go_simp; try with_reducible rfl)
        clear inv
        intro inv
        try simp only [List.setIfInBounds_toArray, List.set_cons_zero, List.set_cons_succ]
        refine callT (i := 1) (t := 183) (f := 14) (args := #[.int .i64 0]) rfl (by kernel_rfl) rfl (by rfl) ?hx2 inv (by decide) ?hc2
        case hx2 => (go_simp; try rfl)
        case hc2 =>
          refine (HNUM.out 0 _).mono ?_
          rintro e wq ⟨rfl, rfl⟩
          refine ⟨_, rfl, hHeld.trans (Chg.refl NoB _), fun inv2 hHeld2 => ?_⟩
          clear inv hHeld
          have inv := inv2
          have hHeld := hHeld2
          clear inv2 hHeld2
          try simp only [List.setIfInBounds_toArray, List.set_cons_zero, List.set_cons_succ]
          refine takeT (i := 2) (t := 184) (v := ?v2y3) rfl (by kernel_rfl) (by kernel_rfl) (by kernel_rfl) (fun _ _ _ h => h) (by kernel_rfl) (by kernel_rfl) (by decide) (by decide) rfl (Or.inl ⟨by rfl, ?h2y3⟩) inv hHeld ?r2y3
          case h2y3 => (intro V' hSw; clear hSw; go_simp; try with_reducible rfl)
          clear inv
          intro inv
          try simp only [List.setIfInBounds_toArray, List.set_cons_zero, List.set_cons_succ]
          refine takeT (i := 3) (t := 185) (v := ?v3y4) rfl (by kernel_rfl) (by kernel_rfl) (by kernel_rfl) (fun _ _ _ h => h) (by kernel_rfl) (by kernel_rfl) (by decide) (by decide) rfl (Or.inl ⟨by rfl, ?h3y4⟩) inv hHeld ?r3y4
          case h3y4 => (intro V' hSw; clear hSw; go_simp; try with_reducible rfl)
          clear inv
          intro inv
          try simp only [List.setIfInBounds_toArray, List.set_cons_zero, List.set_cons_succ]
          refine takeT (i := 4) (t := 186) (v := ?v4y5) rfl (by kernel_rfl) (by kernel_rfl) (by kernel_rfl) (fun _ _ _ h => h) (by kernel_rfl) (by kernel_rfl) (by decide) (by decide) rfl (Or.inl ⟨by rfl, ?h4y5⟩) inv hHeld ?r4y5
          case h4y5 => (intro V' hSw; clear hSw; go_simp; try with_reducible rfl)
          clear inv
          intro inv
          try simp only [List.setIfInBounds_toArray, List.set_cons_zero, List.set_cons_succ]
          refine takeT (i := 5) (t := 187) (v := ?v5y6) rfl (by kernel_rfl) (by kernel_rfl) (by kernel_rfl) (fun _ _ _ h => h) (by kernel_rfl) (by kernel_rfl) (by decide) (by decide) rfl (Or.inl ⟨by rfl, ?h5y6⟩) inv hHeld ?r5y6
          case h5y6 => (intro V' hSw; have hq := keepC hSw HB0.out; clear hSw; go_simp; try with_reducible rfl)
          clear inv
          intro inv
          try simp only [List.setIfInBounds_toArray, List.set_cons_zero, List.set_cons_succ]
          refine takeT (i := 6) (t := 188) (v := ?v6y7) rfl (by kernel_rfl) (by kernel_rfl) (by kernel_rfl) (fun _ _ _ h => h) (by kernel_rfl) (by kernel_rfl) (by decide) (by decide) rfl (Or.inl ⟨by rfl, ?h6y7⟩) inv hHeld ?r6y7
          case h6y7 => (intro V' hSw; clear hSw; go_simp; try with_reducible rfl)
          clear inv
          intro inv
          try simp only [List.setIfInBounds_toArray, List.set_cons_zero, List.set_cons_succ]
          refine takeT (i := 7) (t := 189) (v := .bool false) rfl (by kernel_rfl) (by kernel_rfl) (by kernel_rfl) (fun _ _ _ h => h) (by kernel_rfl) (by kernel_rfl) (by decide) (by decide) rfl (Or.inl ⟨by rfl, ?h7y8⟩) inv hHeld ?r7y8
          case h7y8 => (intro V' hSw; clear hSw; go_simp; try with_reducible rfl)
          clear inv
          intro inv
          try simp only [List.setIfInBounds_toArray, List.set_cons_zero, List.set_cons_succ]
          refine takeT (i := 8) (t := 190) (v := ?v8y9) rfl (by kernel_rfl) (by kernel_rfl) (by kernel_rfl) (fun _ _ _ h => h) (by kernel_rfl) (by kernel_rfl) (by decide) (by decide) rfl (Or.inl ⟨by rfl, ?h8y9⟩) inv hHeld ?r8y9
          case h8y9 => (intro V' hSw; clear hSw; go_simp; try with_reducible rfl)
          clear inv
          intro inv
          try simp only [List.setIfInBounds_toArray, List.set_cons_zero, List.set_cons_succ]
          refine takeT (i := 9) (t := 191) (v := ?v9y10) rfl (by kernel_rfl) (by kernel_rfl) (by kernel_rfl) (fun _ _ _ h => h) (by kernel_rfl) (by kernel_rfl) (by decide) (by decide) rfl (Or.inl ⟨by rfl, ?h9y10⟩) inv hHeld ?r9y10
          case h9y10 => (intro V' hSw; clear hSw; go_simp; try with_reducible rfl)
          clear inv
          intro inv
          try simp only [List.setIfInBounds_toArray, List.set_cons_zero, List.set_cons_succ]
          refine takeT (i := 10) (t := 192) (v := ?v10y11) rfl (by kernel_rfl) (by kernel_rfl) (by kernel_rfl) (fun _ _ _ h => h) (by kernel_rfl) (by kernel_rfl) (by decide) (by decide) rfl (Or.inl ⟨by rfl, ?h10y11⟩) inv hHeld ?r10y11
          case h10y11 => (intro V' hSw; clear hSw; go_simp; try with_reducible rfl)
          clear inv
          intro inv
          try simp only [List.setIfInBounds_toArray, List.set_cons_zero, List.set_cons_succ]
          refine takeT (i := 13) (t := 195) (v := ?v13y12) rfl (by kernel_rfl) (by kernel_rfl) (by kernel_rfl) (fun _ _ _ h => h) (by kernel_rfl) (by kernel_rfl) (by decide) (by decide) rfl (Or.inl ⟨by rfl, ?h13y12⟩) inv hHeld ?r13y12
          case h13y12 => (intro V' hSw; clear hSw; go_simp; try with_reducible rfl)
          clear inv
          intro inv
          try simp only [List.setIfInBounds_toArray, List.set_cons_zero, List.set_cons_succ]
          refine callT (i := 11) (t := 193) (f := 21) (args := #[.pointer (some ⟨kb1, 0, none⟩)]) rfl (by kernel_rfl) rfl (by rfl) ?hx11 inv (by decide) ?hc11
          case hx11 => (go_simp; try rfl)
          case hc11 =>
            refine (HBY.out _ hHeld).mono ?_
            rintro e w22 ⟨A5, c5, rfl, hc22, hT22⟩
            refine ⟨_, rfl, hHeld.trans hc22, fun inv2 hHeld2 => ?_⟩
            clear inv hHeld
            have inv := inv2
            have hHeld := hHeld2
            clear inv2 hHeld2
            have HT22 := Go.Lib.hid hT22
            have HH22 := Go.Lib.hid hHeld
            clear hc22 hT22
            refine wpAnyT_S (S' := fun V' => Chg NoB w22 V') (fun V h => HH22.out.trans h) _ _ _ _ ?_
            have hHeld : Chg NoB w22 w22 := Chg.refl NoB w22
            try simp only [List.setIfInBounds_toArray, List.set_cons_zero, List.set_cons_succ]
            refine takeT (i := 12) (t := 194) (v := .string tx) rfl (by kernel_rfl) (by kernel_rfl) (by kernel_rfl) (fun _ _ _ h => h) (by kernel_rfl) (by kernel_rfl) (by decide) (by decide) rfl (Or.inl ⟨by rfl, ?h12y14⟩) inv hHeld ?r12y14
            case h12y14 => (intro V' hSw; have hq := HT22.out V' hSw; clear hSw; go_simp; try with_reducible rfl)
            clear inv
            intro inv
            try simp only [List.setIfInBounds_toArray, List.set_cons_zero, List.set_cons_succ]
            refine callT (i := 14) (t := 196) (f := 22) (args := #[.pointer (some ⟨tb, 0, none⟩)]) rfl (by kernel_rfl) rfl (by rfl) ?hx15 inv (by decide) ?hc15
            case hx15 => (go_simp; try rfl)
            case hc15 =>
              refine (HSZ.out _ HH22.out).mono ?_
              rintro e wq ⟨rfl, rfl⟩
              refine ⟨_, rfl, hHeld.trans (Chg.refl NoB _), fun inv2 hHeld2 => ?_⟩
              clear inv hHeld
              have inv := inv2
              have hHeld := hHeld2
              clear inv2 hHeld2
              try simp only [List.setIfInBounds_toArray, List.set_cons_zero, List.set_cons_succ]
              refine valT (i := 15) (t := 197) (v := .slice (some ⟨w22.heap.size, 0, none⟩) T.size T.size) (w' := w22.alloc (.cells (madeCells #[.int .u8 0] T.size) U8)) rfl (by kernel_rfl) rfl (by rfl) ?hx15 inv (by decide) (hHeld.alloc _) ?r15
              case hx15 => (have hq := HMK.out w22; go_simp; try with_reducible rfl)
              case r15 =>
                intro inv2 hHeld2
                clear inv hHeld
                have inv := inv2
                have hHeld := hHeld2
                clear inv2 hHeld2
                have HT23 := Go.Lib.hid (HMT.out w22)
                have HH23 := Go.Lib.hid (HH22.out.trans hHeld)
                generalize w22.alloc (.cells (madeCells #[.int .u8 0] T.size) U8) = w23 at *
                generalize w22.heap.size = mb at *
                refine wpAnyT_S (S' := fun V' => Chg NoB w23 V') (fun V h => hHeld.trans h) _ _ _ _ ?_
                have hHeld : Chg NoB w23 w23 := Chg.refl NoB w23
                try simp only [List.setIfInBounds_toArray, List.set_cons_zero, List.set_cons_succ]
                refine takeT (i := 16) (t := 198) (v := .string tx) rfl (by kernel_rfl) (by kernel_rfl) (by kernel_rfl) (fun _ _ _ h => h) (by kernel_rfl) (by kernel_rfl) (by decide) (by decide) rfl (Or.inl ⟨by rfl, ?h16y17⟩) inv hHeld ?r16y17
                case h16y17 => (intro V' hSw; have hq := HT23.out V' hSw; clear hSw; go_simp; try with_reducible rfl)
                clear inv
                intro inv
                try simp only [List.setIfInBounds_toArray, List.set_cons_zero, List.set_cons_succ]
                refine takeT (i := 17) (t := 199) (v := ?v17y18) rfl (by kernel_rfl) (by kernel_rfl) (by kernel_rfl) (fun _ _ _ h => h) (by kernel_rfl) (by kernel_rfl) (by decide) (by decide) rfl (Or.inl ⟨by rfl, ?h17y18⟩) inv hHeld ?r17y18
                case h17y18 => (intro V' hSw; clear hSw; go_simp; try with_reducible rfl)
                clear inv
                intro inv
                try simp only [List.setIfInBounds_toArray, List.set_cons_zero, List.set_cons_succ]
                refine lastV (i := 18) (t := 200) (v := ?vl19) (w' := w23) rfl (by kernel_rfl) rfl (by rfl) ?hx19 (by decide) (by kernel_rfl) ?_
                case hx19 => (go_simp; try with_reducible rfl)
                clear inv
                have HV23 := Go.Lib.hid (H21.out.1.quiet HH23.out)
                have HC23 := Go.Lib.hid (And.intro (H21.out.2.1.trans HH23.out) (H21.out.2.2.trans HH23.out))
                clear hHeld HT23 HT22 HH22 HMT HMK HBY HSZ HB0 HZ
                have HLEN : Hid (Calls Try.prog 23 #[.pointer (some ⟨tb, 0, none⟩)] w23 fun e w' => e = .returned (.int .i64 T.n) ∧ w23 = w') := Go.Lib.hid (len_c (HT7.out.1.quiet HC23.out.2) HTK.out)
                have HEL : Hid (∀ q, q < T.n → ∃ ea eb, (decide (ea = eb) = decide (T.n = 1)) ∧ (Calls Try.prog 24 #[.pointer (some ⟨kb1, 0, none⟩), .int .i64 q] w23 fun e w' => e = .returned (.tuple #[.pointer (some ⟨ea, 0, none⟩), .int .i64 0]) ∧ w23 = w') ∧ (Calls Try.prog 24 #[.pointer (some ⟨kb1, 0, none⟩), .int .i64 (((q + 1) % T.n : Nat) : Int)] w23 fun e w' => e = .returned (.tuple #[.pointer (some ⟨eb, 0, none⟩), .int .i64 0]) ∧ w23 = w') ∧ (binOp .eql PV (.pointer (some ⟨ea, 0, none⟩)) (.pointer (some ⟨eb, 0, none⟩))).run Try.prog w23 = .ok (.bool (decide (T.n = 1))) w23) := Go.Lib.hid (by
                  intro q hq
                  have hv := HV23.out.mono (Nat.zero_le _)
                  obtain ⟨tsK, hokK, hksK⟩ := hv.kids_len
                  obtain ⟨tsS, hS1, hS2⟩ := HT7.out.2.2
                  have hk1e : some (s, ns, ks) = some (k1.s, k1.ns, k1.ks) := HAT.out.2.2.2
                  injection hk1e with e
                  injection e with e1 e
                  injection e with e2 e3
                  have hs7 : s.k = 7 := by
                    unfold OwnTy at hS2
                    split at hS2
                    · assumption
                    split at hS2
                    · have := hS2.2.1; simp only at this; omega
                    split at hS2
                    · have := hS2.1; simp only at this; omega
                    · obtain ⟨n, _, _, _, h⟩ := hS2
                      simp only at h
                      rw [h] at hq
                      exact absurd hq (by show ¬ q < (basicT n).n; exact Nat.not_lt_zero _)
                  have hk7 : k1.T.kind = 7 := by have := hokK.2.1; rw [← e1, hs7] at this; omega
                  have hkn : k1.T.n = T.n := by
                    have h1 := hokK.2.2.2
                    unfold OwnTy at h1 hS2
                    rw [if_pos (by rw [← e1]; exact hs7)] at h1
                    rw [if_pos hs7] at hS2
                    obtain ⟨_, _, _, h1, _⟩ := h1
                    obtain ⟨_, _, _, h2, _⟩ := hS2
                    simp only at h2
                    rw [h1, h2, ← e1]
                  have hr : (q + 1) % T.n < T.n := Nat.mod_lt _ (by omega)
                  obtain ⟨ea, xa, Aa, ca, ka, hata, _, hea⟩ := elem_at hv hk7 (j := q) (by omega)
                  obtain ⟨eb, xb, Ab, cb, kb, hatb, _, heb⟩ := elem_at hv hk7 (j := (q + 1) % T.n) (by omega)
                  have hkv := hv.2.2.2.2.1
                  have hdec : decide (ea = eb) = decide (T.n = 1) := by
                    apply decide_eq_decide.2
                    constructor
                    · intro he
                      by_cases h1 : T.n = 1
                      · exact h1
                      · exfalso
                        rcases Nat.lt_or_ge (q + 1) T.n with h2 | h2
                        · rw [Nat.mod_eq_of_lt h2] at hatb
                          have := (VsAt.at_sep _ hkv hata hatb (by omega)).1
                          omega
                        · have h3 : q + 1 = T.n := by omega
                          rw [h3, Nat.mod_self] at hatb
                          have := (VsAt.at_sep _ hkv hatb hata (by omega)).1
                          omega
                    · intro h1
                      have h2 : (q + 1) % T.n = q := by rw [h1, Nat.mod_one]; omega
                      rw [h2, hata] at hatb
                      injection hatb with e
                      injection e
                  refine ⟨ea, eb, hdec, hea w23 (Chg.refl _ _), heb w23 (Chg.refl _ _), ?_⟩
                  obtain ⟨j, hj, hjs⟩ := Option.map_eq_some_iff.1 vtinfo
                  rw [← hdec]
                  by_cases hb : ea = eb
                  · subst hb
                    simpa using run_eql_ptr_same (P := Try.prog) w23 ⟨ea, 0, none⟩ Try.underlying41 hj
                  · obtain ⟨x0, p0, hb0, _⟩ := (VsAt.at_ _ hkv hata).2.1
                    obtain ⟨x1, p1, hb1, _⟩ := (VsAt.at_ _ hkv hatb).2.1
                    simpa [hb] using run_eql_ptr_other (P := Try.prog) w23 (a := ⟨ea, 0, none⟩) (b := ⟨eb, 0, none⟩) Try.underlying41 hj (by rw [hjs]; decide) (fun e => hb (by injection e)) hb0 hb1)
                have hnn := HT7.out.1.nn
                generalize T.n = nn at *
                have HNN := Go.Lib.hid hnn
                clear hnn
                go_wp2_with fail
                go_loopw [30, 31, 32, 33, 34] (fun v30 _ _ _ _ wr => ∃ q : Nat, q ≤ nn ∧ v30 = .int .i64 q ∧ wr = w23) (fun v30 _ _ _ _ _ => nn - (intOf v30).toNat)
                case atStart => exact ⟨0, Nat.zero_le _, rfl, rfl⟩
                case round =>
                  obtain ⟨q, hq, rfl, rfl⟩ := hrel
                  by_cases hlt : q < nn
                  · obtain ⟨ea, eb, _, hea, heb, heq⟩ := HEL.out q hlt
                    have HEA := Go.Lib.hid hea
                    have HEB := Go.Lib.hid heb
                    have hli : ((q : Int) < (nn : Int)) := by omega
                    have hn65 := HNN.out
                    have hrem := rem_run (W := wr) q nn (by omega) hlt hn65
                    clear hea heb
                    go_wp2_with fail
                    refine HLEN.out.mono ?_
                    rintro e w24 ⟨rfl, rfl⟩
                    go_wp2_with fail
                    refine HEA.out.mono ?_
                    rintro e w24 ⟨rfl, rfl⟩
                    go_wp2_with fail
                    refine HLEN.out.mono ?_
                    rintro e w24 ⟨rfl, rfl⟩
                    go_wp2_with fail
                    refine HEB.out.mono ?_
                    rintro e w24 ⟨rfl, rfl⟩
                    go_wp2_with fail
                    refine HLEN.out.mono ?_
                    rintro e w24 ⟨rfl, rfl⟩
                    have hone : ((nn : Int) == 1) = decide (nn = 1) := by
                      by_cases h : nn = 1
                      · subst h; rfl
                      · have h2 : (nn : Int) ≠ 1 := by omega
                        rw [beq_eq_false_iff_ne.2 h2]; simp [h]
                    generalize decide (nn = 1) = d at *
                    cases d
                    all_goals
                      go_wp2_with fail
                      go_roundw
                      case rel => exact ⟨q + 1, by omega, by go_num, by trivial⟩
                      case measure => simp [intOf]; omega
                  · have hli : ¬ ((q : Int) < (nn : Int)) := by omega
                    go_wp2_with fail
                    refine HLEN.out.mono ?_
                    rintro e w24 ⟨rfl, rfl⟩
                    go_wp2_with fail
                    refine (known_c (keepC HC23.out.1 HM.out)).mono ?_
                    rintro e w24 ⟨rfl, hc⟩
                    have HC := Go.Lib.hid (HC23.out.1.trans hc)
                    clear hc
                    go_wp2_with fail
                    go_ret
                    exact ⟨rfl, HC.out⟩
      · rw [if_neg hrz] at hrp
        obtain ⟨rfl, hc⟩ := hrp
        have HC7 := Go.Lib.hid (HB6.out.trans hc)
        clear hc
        go_wp2_with fail
        refine (num_c (w := w7) 3).mono ?_
        rintro e w8 ⟨rfl, rfl⟩
        go_wp2_with fail
        refine (known_c (keepC HC7.out HM.out)).mono ?_
        rintro e w8 ⟨rfl, hc⟩
        have HC := Go.Lib.hid (HC7.out.trans hc)
        clear hc
        go_wp2_with fail
        go_ret
        exact ⟨rfl, HC.out⟩
    · have hd : (er != 0) = true := by simpa using he0
      go_wp2_with fail
      refine (known_c (keepC HB3.out.2 HM.out)).mono ?_
      rintro e w4 ⟨rfl, hc⟩
      have HC := Go.Lib.hid (HB3.out.2.trans hc)
      clear hc
      go_wp2_with fail
      go_ret
      exact ⟨rfl, HC.out⟩
end Go.Proofs.Ytholeloedihkoaa
