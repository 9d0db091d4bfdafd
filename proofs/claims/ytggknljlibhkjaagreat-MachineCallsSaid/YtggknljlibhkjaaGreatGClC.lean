import Derived.Test.YtggknljlibhkjaaGreatGClA
import Derived.Test.YtggknljlibhkjaaGreatGClB
import Derived.Test.YtggknljlibhkjaaGreatRnA
import Derived.Test.YtggknljlibhkjaaGreatSteps
set_option linter.unusedSimpArgs false
set_option linter.unusedVariables false
namespace Go.Proofs.YtggknljlibhkjaaGreat
open Go Go.RowKit
abbrev PT : TypeId := 38
def BPost (x : Int) (w : World) (e : Ending) (w' : World) : Prop := ∃ pr p mb mm s r base v F, e = .returned (.tuple #[.pointer (some ⟨pr, 0, none⟩), .bool true]) ∧ Blk w' pr PT #[.pointer (some ⟨p, 0, none⟩), .pointer (some ⟨r, 0, none⟩)] ∧
 MS w' p mb s mm (Mc.new 256 [x]) v base F ∧ (∀ k, F k → w.heap.size ≤ k ∧ k ≠ pr) ∧ w.heap.size ≤ p ∧ w.heap.size ≤ mb ∧ w.heap.size ≤ pr ∧ Chg NoB w w'
set_option maxRecDepth 100000 in
set_option maxHeartbeats 4000000 in
theorem begin_c (w : World) (A : Option Addr) (L : List St) (c : Nat) (hS : StepsAt w A L) (hL : L.length ≤ 20) (hx : ∀ x ∈ L, x.b.length ≤ 20000 ∧ x.nm.size ≤ 20000) (A1 : Option Addr) (c1 : Nat) (x0 : Int) (hx0 : 0 ≤ x0 ∧ x0 < 4294967296) (hcl : CellsAt w A1 (u32s [x0])) :
  Calls Tryz.prog 7 #[.int .i64 256, .slice A1 1 c1, .int .i64 300, .slice A L.length c] w (BPost x0 w) := by
 have HS := Go.Lib.hid hS
 have Hall := Go.Lib.hid hx
 have H0 := Go.Lib.hid (new_v 300 (by decide) w)
 have HMN : Hid (∀ (W : World) (s base : Nat) (v : V) (F : Nat → Prop), StoreV base W s v F → Chg NoB w W → Calls Tryz.prog 21 #[.int .i64 256, .slice A1 1 c1, .pointer (some ⟨s, 0, none⟩)] W (MNewPost s 256 [x0] base v F W)) := Go.Lib.hid fun W s base v F h hc => mnew_c h 256 A1 c1 [x0] (by decide) (by show 1 ≤ 256 / 4; decide) (by intro x hx; simp at hx; subst hx; exact hx0) (hcl.chg hc (fun _ _ => id))
 have HRN : Hid (∀ (W : World) (r : Nat), Chg NoB w W → Calls Tryz.prog 23 #[.int .i64 256, .slice A1 1 c1, .pointer (some ⟨r, 0, none⟩)] W (RNewPost 256 [x0] (.pointer (some ⟨r, 0, none⟩)) W)) := Go.Lib.hid fun W r hc => rnew_c W 256 A1 c1 [x0] (some ⟨r, 0, none⟩) (by decide) (by show 1 ≤ 256 / 4; decide) (by intro x hx; simp at hx; subst hx; exact hx0) (hcl.chg hc (fun _ _ => id))
 clear hS hx hcl hx0
 unfold ptr at H0
 go_enter Tryz.func7, Tryz.ntmps7
 go_wp2_with fail
 refine H0.out.mono ?_
 rintro e w1 ⟨s, F, rfl, hs, hc1⟩
 have HC1 := Go.Lib.hid hc1
 have Hs := Go.Lib.hid hs
 clear H0 hs hc1
 go_wp2_with fail
 refine (num_c _ _).mono ?_
 rintro e w2 ⟨rfl, rfl⟩
 go_upto_region 5 with fail
 have hT := two_start (w0 := w) Hs.out (Nat.le_refl _) HC1.out
 rw [show ((300 : Nat) : Int) = 300 from rfl] at hT
 generalize World.alloc w2 (.cells #[.slice none 0 0, .slice none 0 0, .slice none 0 0, .int .i64 300] RST) = w3 at *
 generalize w2.heap.size = r at *
 have HT := Go.Lib.hid hT
 clear hT Hs HC1
 go_wp2_with fail
 go_loopw [13] (fun i wr => ∃ (k : Nat) (v U : V), k ≤ L.length ∧ i = .int .i64 k ∧ Two w wr s r v U ∧ RS v U ∧ Sz v k) (fun i _ => L.length - (intOf i).toNat)
 case atStart => exact ⟨0, _, _, Nat.zero_le _, rfl, HT.out, RS.start_ 300, ⟨Nat.le_refl _, Nat.le_refl _, Nat.le_refl _, fun n => by simp [V.bytes]⟩⟩
 case round =>
  obtain ⟨k, v, U, hk, rfl, hT, hrs, hsz⟩ := hrel
  have HT2 := Go.Lib.hid hT
  have HG := Go.Lib.hid (And.intro hrs hsz)
  clear hT HT hrs hsz
  by_cases hlt : k < L.length
  ·have hdl : decide ((k : Int) < (L.length : Int)) = true := by simp; omega
   obtain ⟨x, hx⟩ : ∃ x, L[k]? = some x := ⟨_, List.getElem?_eq_getElem hlt⟩
   obtain ⟨b, oo, rfl, hcs⟩ := HS.out (by omega)
   obtain ⟨hraw, k0, k1, k2, k3, k4⟩ := hcs k x hx
   have K := Go.Lib.hid (And.intro k0 (And.intro k1 (And.intro k2 (And.intro k3 k4))))
   have hxb := Hall.out x (List.mem_of_getElem? hx)
   have HX := Go.Lib.hid (fun (W : World) (hW : Chg NoB w W) => (⟨hraw.n, hraw.nm, hxb.1, hraw.cells.chg hW (fun _ _ => id)⟩ : StepOk W x))
   clear hcs k0 k1 k2 k3 k4 hraw hx hxb
   go_wp2_with fail
   have hg := HT2.out.good
   have hrs := HG.out.1
   have hsz := HG.out.2
   have HSM := Go.Lib.hid (And.intro (hrs.small hsz (by omega) hg.2) (fun p hp => by rw [hrs.bytes]; rw [hrs.rd] at hp; exact hg.1.ps p hp : ∀ p ∈ U.rd, p.pos ≤ (U.bytes p.n).length))
   have HST := Go.Lib.hid (hrs.step hg.1 x)
   have HSZ := Go.Lib.hid (hsz.step hg.1 x (HX.out w (Chg.refl _ _)).b)
   clear hg hrs hsz
   refine regionH (fun V' => Chg NoB w V') (by kernel_rfl) (HT2.out.chg.trans (Chg.refl NoB _).drew) (fun hS => ?_)
   refine takeH (i := 0) (t := 37) (v := ?v0y1) rfl (by kernel_rfl) (fun _ _ _ h => h) rfl (Or.inl ⟨by rfl, ?h0y1⟩) hS ?r0y1
   case h0y1 => (intro V' hSw; clear hSw; go_simp; try with_reducible rfl)
   try simp only [sw1, sw2, sw3]
   refine takeH (i := 1) (t := 38) (v := ?v1y2) rfl (by kernel_rfl) (fun _ _ _ h => h) rfl (Or.inl ⟨by rfl, ?h1y2⟩) hS ?r1y2
   case h1y2 => (intro V' hSw; clear hSw; go_simp; try with_reducible rfl)
   try simp only [sw1, sw2, sw3]
   refine takeH (i := 2) (t := 39) (v := ?v2y3) rfl (by kernel_rfl) (fun _ _ _ h => h) rfl (Or.inl ⟨by rfl, ?h2y3⟩) hS ?r2y3
   case h2y3 => (intro V' hSw; clear hSw; go_simp; try with_reducible rfl)
   try simp only [sw1, sw2, sw3]
   refine takeH (i := 3) (t := 40) (v := ?v3y4) rfl (by kernel_rfl) (fun _ _ _ h => h) rfl (Or.inl ⟨by rfl, ?h3y4⟩) hS ?r3y4
   case h3y4 => (intro V' hSw; clear hSw; go_simp; try with_reducible rfl)
   try simp only [sw1, sw2, sw3]
   refine takeH (i := 4) (t := 41) (v := ?v4y5) rfl (by kernel_rfl) (fun _ _ _ h => h) rfl (Or.inl ⟨by rfl, ?h4y5⟩) hS ?r4y5
   case h4y5 => (intro V' hSw; clear hSw; go_simp; try with_reducible rfl)
   try simp only [sw1, sw2, sw3]
   refine takeH (i := 5) (t := 42) (v := x.v) rfl (by kernel_rfl) (fun _ _ _ h => h) rfl (Or.inl ⟨by rfl, ?h5y6⟩) hS ?r5y6
   case h5y6 => (intro V' hSw; have q0 := cell_q hSw K.out.1; have q1 := cell_q hSw K.out.2.1; have q2 := cell_q hSw K.out.2.2.1; have q3 := cell_q hSw K.out.2.2.2.1; have q4 := cell_q hSw K.out.2.2.2.2; clear hSw; go_simp; try rfl)
   try simp only [sw1, sw2, sw3]
   refine takeH (i := 7) (t := 44) (v := ?v7y7) rfl (by kernel_rfl) (fun _ _ _ h => h) rfl (Or.inl ⟨by rfl, ?h7y7⟩) hS ?r7y7
   case h7y7 => (intro V' hSw; clear hSw; go_simp; try with_reducible rfl)
   try simp only [sw1, sw2, sw3]
   refine takeH (i := 8) (t := 45) (v := ?v8y8) rfl (by kernel_rfl) (fun _ _ _ h => h) rfl (Or.inl ⟨by rfl, ?h8y8⟩) hS ?r8y8
   case h8y8 => (intro V' hSw; clear hSw; go_simp; try with_reducible rfl)
   try simp only [sw1, sw2, sw3]
   refine takeH (i := 9) (t := 46) (v := ?v9y9) rfl (by kernel_rfl) (fun _ _ _ h => h) rfl (Or.inl ⟨by rfl, ?h9y9⟩) hS ?r9y9
   case h9y9 => (intro V' hSw; clear hSw; go_simp; try with_reducible rfl)
   try simp only [sw1, sw2, sw3]
   refine takeH (i := 10) (t := 47) (v := ?v10y10) rfl (by kernel_rfl) (fun _ _ _ h => h) rfl (Or.inl ⟨by rfl, ?h10y10⟩) hS ?r10y10
   case h10y10 => (intro V' hSw; clear hSw; go_simp; try with_reducible rfl)
   try simp only [sw1, sw2, sw3]
   refine takeH (i := 11) (t := 48) (v := x.v) rfl (by kernel_rfl) (fun _ _ _ h => h) rfl (Or.inl ⟨by rfl, ?h11y11⟩) hS ?r11y11
   case h11y11 => (intro V' hSw; have q0 := cell_q hSw K.out.1; have q1 := cell_q hSw K.out.2.1; have q2 := cell_q hSw K.out.2.2.1; have q3 := cell_q hSw K.out.2.2.2.1; have q4 := cell_q hSw K.out.2.2.2.2; clear hSw; go_simp; try rfl)
   try simp only [sw1, sw2, sw3]
   refine manyH (i := 6) (l := []) (by kernel_rfl) ?hm
   case hm =>
    intro j hj
    obtain rfl : j = 6 := by simpa using hj
    refine opCallH (t := 43) (f := 30) (args := #[.agg #[], .pointer (some ⟨s, 0, none⟩), x.v]) rfl rfl (by rfl) ?hx ?hc
    case hx => (go_simp; try rfl)
    case hc =>
     refine ((HT2.out.quiet (Chg.refl NoB wr).drew).do_ x (HX.out _ hS)).mono ?_
     rintro ee w8 ⟨rfl, hQ⟩
     have hS := hQ.chg
     have HQ8 := Go.Lib.hid hQ
     clear hQ
     refine ⟨_, rfl, hS, ?_⟩
     try simp only [sw1, sw2, sw3]
     refine manyH (i := 12) (l := []) (by kernel_rfl) ?hm
     case hm =>
      intro j hj
      obtain rfl : j = 12 := by simpa using hj
      refine opCallH (t := 49) (f := 31) (args := #[.pointer (some ⟨r, 0, none⟩), x.v]) rfl rfl (by rfl) ?hx ?hc
      case hx => (go_simp; try rfl)
      case hc =>
       refine (HQ8.out.rdo HSM.out.1 HSM.out.2 x (HX.out _ hS)).mono ?_
       rintro ee w9 ⟨rfl, hQ⟩
       rw [HST.out.1]
       have hS := hQ.chg
       have HQ9 := Go.Lib.hid hQ
       clear hQ
       refine ⟨_, rfl, hS, ?_⟩
       try simp only [sw1, sw2, sw3]
       refine takeH (i := 13) (t := 50) (v := .bool false) rfl (by kernel_rfl) (fun _ _ _ h => h) rfl (Or.inl ⟨by rfl, ?h13y12⟩) hS ?r13y12
       case h13y12 => (intro V' hSw; clear hSw; go_simp; try simp)
       try simp only [sw1, sw2, sw3]
       refine wpAnyH_done (by kernel_rfl) ?_ _
       clear hS
       go_wp2_with fail
       refine ⟨⟨k + 1, _, _, by omega, by go_num, HQ9.out, HST.out.2, HSZ.out⟩, by simp only [intOf]; omega⟩
  ·have hdl : decide ((k : Int) < (L.length : Int)) = false := by simp; omega
   obtain ⟨base, F2, a2, g1, g2, g3, g4, g5⟩ := HT2.out
   have HM := Go.Lib.hid (HMN.out _ _ _ _ _ g1 g5)
   have HG5 := Go.Lib.hid (And.intro g5 (And.intro g3 (fun k hk => g1.lt hk : ∀ k, F2 k → k < wr.heap.size)))
   clear g1 g2 g3 g5 HT2 HMN
   go_wp2_with fail
   refine HM.out.mono ?_
   rintro e w3 ⟨p, mb, mm, rfl, hm, hS3, hc3, hp, hmb, hmm⟩
   have hsz5 := HG5.out.1.size
   have HB := Go.Lib.hid (And.intro hm (And.intro hS3 (And.intro hc3 (And.intro hp (And.intro hmb hmm)))))
   clear hm hS3 hc3 hp hmb hmm
   go_wp2_with fail
   refine (num_c _ _).mono ?_
   rintro e w4 ⟨rfl, rfl⟩
   go_wp2_with fail
   refine (HRN.out _ r (HG5.out.1.trans HB.out.2.2.1)).mono ?_
   rintro e w5 ⟨rr, rmb, rfl, hrm, hc5, _, _⟩
   have HC5 := Go.Lib.hid hc5
   clear hrm hc5
   go_wp2_with fail
   go_ret2
   have hc6 := HC5.out.alloc (.cells #[.pointer (some ⟨p, 0, none⟩), .pointer (some ⟨rr, 0, none⟩)] PT)
   obtain ⟨b1, b2, b3, b4, b5, b6⟩ := HB.out
   have h1 := b3.size
   have h2 := HC5.out.size
   exact ⟨_, p, mb, mm, s, rr, base, v, F2, rfl, Blk.new _ _ _, ⟨b1.quiet hc6, b2.quiet hc6, fun k hk => by have := HG5.out.2.2 k hk; omega⟩, fun k hk => ⟨HG5.out.2.1 k hk, by have := HG5.out.2.2 k hk; omega⟩, by omega, by omega, by omega, (HG5.out.1.trans b3).trans hc6⟩
end Go.Proofs.YtggknljlibhkjaaGreat
set_option linter.unusedSimpArgs false
set_option linter.unusedVariables false
namespace Go.Proofs.YtggknljlibhkjaaGreat
open Go Go.RowKit
def nb (n : ByteArray) (j : Nat) : Int := ((n.data.toList.getD j 0).toNat : Nat)
theorem nb_bd (n : ByteArray) (j : Nat) : 0 ≤ nb n j ∧ nb n j < 256 := by
 unfold nb
 have := (n.data.toList.getD j 0).toNat_lt
 omega
theorem nb_out (n : ByteArray) {j : Nat} (h : n.size ≤ j) : nb n j = 0 := by
 unfold nb
 rw [List.getD_eq_getElem?_getD, List.getElem?_eq_none (by simpa using h)]
 rfl
def nw (n : ByteArray) (q : Nat) : Int := nb n q + nb n (q + 1) * 256 + nb n (q + 2) * 65536 + nb n (q + 3) * 16777216
theorem nw_bd (n : ByteArray) (q : Nat) : 0 ≤ nw n q ∧ nw n q < 4294967296 := by
 unfold nw
 have := nb_bd n q
 have := nb_bd n (q + 1)
 have := nb_bd n (q + 2)
 have := nb_bd n (q + 3)
 omega
structure NI (M0 M : Nat → Int) (n : ByteArray) (q : Nat) : Prop where
 bd : ∀ i, 0 ≤ M i ∧ M i < 256
 lo : ∀ i, i < 64 → M i = M0 i
 nm : ∀ i, i < q → M (64 + i) = nb n i
theorem NI.step {M0 M : Nat → Int} {n : ByteArray} {q : Nat} (h : NI M0 M n q) : NI M0 (putWord M (64 + q) (nw n q)) n (q + 4) where
 bd := putWord_bd h.bd _ (nw_bd n q)
 lo := fun i hi => by
  unfold putWord upd
  rw [if_neg (by omega), if_neg (by omega), if_neg (by omega), if_neg (by omega)]
  exact h.lo i hi
 nm := fun i hi => by
  have h0 := nb_bd n q
  have h1 := nb_bd n (q + 1)
  have h2 := nb_bd n (q + 2)
  have h3 := nb_bd n (q + 3)
  unfold putWord upd
  by_cases e3 : i = q + 3
  ·subst e3
   rw [if_pos (by omega)]
   unfold nw
   omega
  rw [if_neg (by omega)]
  by_cases e2 : i = q + 2
  ·subst e2
   rw [if_pos (by omega)]
   unfold nw
   omega
  rw [if_neg (by omega)]
  by_cases e1 : i = q + 1
  ·subst e1
   rw [if_pos (by omega)]
   unfold nw
   omega
  rw [if_neg (by omega)]
  by_cases e0 : i = q
  ·subst e0
   rw [if_pos (by omega)]
   unfold nw
   omega
  rw [if_neg (by omega)]
  exact h.nm i (by omega)
theorem NI.name {M0 M : Nat → Int} {n : ByteArray} {q : Nat} (h : NI M0 M n q) (hq : n.size ≤ q) : nameAt M 64 n.size = cut0 n := by
 unfold nameAt cut0
 have e : bytesAt M 64 n.size = n.data.toList := by
  apply List.ext_getElem
  ·rw [bytesAt_len]; rfl
  ·intro i h1 h2
   rw [bytesAt_len] at h1
   rw [bytesAt_get _ _ _ h1, h.nm i (by omega)]
   unfold nb
   rw [List.getD_eq_getElem?_getD, List.getElem?_eq_getElem h2]
   simp
 rw [e]
theorem NI.word {M0 M : Nat → Int} {n : ByteArray} {q : Nat} (h : NI M0 M n q) : wordAt M 0 = wordAt M0 0 := by
 unfold wordAt
 rw [h.lo 0 (by decide), h.lo (0 + 1) (by decide), h.lo (0 + 2) (by decide), h.lo (0 + 3) (by decide)]
section
variable {v v' : V} {ρ : Nat → Nat}
theorem callF_sim (h : Sim v v' ρ) (hv : VOk v) (hv' : VOk v') (n : Nat) (hn : 18 ≤ n ∧ n ≤ 28) (f : Int) (b : Nat) (nm : ByteArray) : (callF v' n f b nm).1 = (callF v n f b nm).1 ∧ (callF v' n f b nm).2.1 = (callF v n f b nm).2.1 ∧ ∃ ρ', Sim (callF v n f b nm).2.2 (callF v' n f b nm).2.2 ρ' := by
 have hc : n = 18 ∨ n = 19 ∨ n = 20 ∨ n = 21 ∨ n = 22 ∨ n = 23 ∨ n = 24 ∨ n = 25 ∨ n = 26 ∨ n = 27 ∨ n = 28 := by omega
 rcases hc with rfl | rfl | rfl | rfl | rfl | rfl | rfl | rfl | rfl | rfl | rfl
 ·rw [callF_18, callF_18]
  obtain ⟨h1, h2⟩ := h.old nm
  exact ⟨by dsimp only; rw [h1], rfl, _, h2⟩
 ·rw [callF_19, callF_19]
  obtain ⟨h1, h2⟩ := h.fresh hv hv' nm
  exact ⟨by dsimp only; rw [h1], rfl, h2⟩
 ·rw [callF_20, callF_20]
  exact ⟨by dsimp only; rw [h.eof], rfl, _, h⟩
 ·rw [callF_21, callF_21]
  exact ⟨by dsimp only; rw [h.length], rfl, _, h⟩
 ·rw [callF_22, callF_22]
  obtain ⟨h1, h2⟩ := h.read f
  exact ⟨by dsimp only; rw [h1], rfl, _, h2⟩
 ·rw [callF_23, callF_23]
  obtain ⟨h1, h2⟩ := h.readWord f
  exact ⟨by dsimp only; rw [h1], rfl, _, h2⟩
 ·rw [callF_24, callF_24]
  obtain ⟨h1, h2⟩ := h.write hv hv' f [UInt8.ofNat b]
  exact ⟨rfl, by dsimp only; rw [h1], _, h2⟩
 ·rw [callF_25, callF_25]
  obtain ⟨h1, h2⟩ := h.write hv hv' f (bytesOfWord b)
  exact ⟨rfl, by dsimp only; rw [h1], _, h2⟩
 ·rw [callF_26, callF_26]
  exact ⟨rfl, rfl, _, h.seek f b⟩
 ·rw [callF_27, callF_27]
  obtain ⟨h1, h2⟩ := h.register f
  exact ⟨rfl, by dsimp only; rw [h1], _, h2⟩
 ·rw [callF_28, callF_28]
  exact ⟨rfl, rfl, _, h.del nm⟩
end
theorem callF_named (v : V) {n : Nat} (hn : n = 18 ∨ n = 19 ∨ n = 28) (a a' : Int) (b b' : Nat) (nm : ByteArray) : callF v n (sg a) b nm = callF v n (sg a') b' nm := by
 rcases hn with rfl | rfl | rfl
 ·rw [callF_18, callF_18]
 ·rw [callF_19, callF_19]
 ·rw [callF_28, callF_28]
theorem callF_full (v : V) {n : Nat} (h1 : 18 ≤ n) (hn : n < 24) (a : Int) (b : Nat) (nm : ByteArray) : (callF v n (sg a) b nm).2.1 = false := by
 have hc : n = 18 ∨ n = 19 ∨ n = 20 ∨ n = 21 ∨ n = 22 ∨ n = 23 := by omega
 rcases hc with rfl | rfl | rfl | rfl | rfl | rfl
 ·rw [callF_18]
 ·rw [callF_19]
 ·rw [callF_20]
 ·rw [callF_21]
 ·rw [callF_22]
 ·rw [callF_23]
theorem cut0_size (n : ByteArray) : (cut0 n).size ≤ n.size := (List.takeWhile_sublist _).length_le
end Go.Proofs.YtggknljlibhkjaaGreat
