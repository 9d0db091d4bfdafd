/- What is proved: the walk of the law StoreWords. Conditions: none. -/
import Derived.Test.YtebcomijknffmaaLawText
namespace Go.Proofs.Ytebcomijknffmaa
open Go.RowKit

theorem Yes.of {w w1 w2 : World} {e : Ending} (h : Chg NoB w w1) (hy : Yes w1 e w2) : Yes w e w2 := ⟨hy.1, h.trans hy.2⟩

set_option maxRecDepth 20000 in
theorem words_long (w0 : World) (A : Option Addr) (L c at_ n : Nat) (hL : 3000 < L) : Calls Try.prog 4 #[.slice A L c, .int .u32 at_, .int .u32 n] w0 (Yes w0) := by
  have Hk := Go.Lib.hid (known_c w0)
  go_enter Try.func4, Try.ntmps4
  go_wp2_with fail
  refine Hk.out.mono ?_
  rintro e w ⟨rfl, h⟩
  have H := Go.Lib.hid h
  clear h
  go_wp2_with fail
  go_ret
  exact ⟨rfl, H.out⟩

set_option maxRecDepth 20000 in
set_option maxHeartbeats 4000000 in
theorem words_short (w0 : World) (A : Option Addr) (c at_ n : Nat) (l : List UInt8) (hL : l.length ≤ 3000) (hA : A = none → l = [] ∧ c = 0) (hcl : CellsAt w0 A (bv l)) (hat : at_ < 4294967296) (hn : n < 4294967296) :
    Calls Try.prog 4 #[.slice A l.length c, .int .u32 at_, .int .u32 n] w0 (Yes w0) := by
  have hLi : (l.length : Int) ≤ 3000 := by omega
  have H0 := Go.Lib.hid (new_k 8000 (by decide) w0)
  have N := Go.Lib.hid num_c
  have HL := Go.Lib.hid hL
  have HA := Go.Lib.hid hA
  have Hcl := Go.Lib.hid hcl
  have Hat := Go.Lib.hid hat
  have Hn := Go.Lib.hid hn
  obtain ⟨p, HP⟩ : ∃ p, Hid (seekTo at_ l.length = p) := ⟨_, Go.Lib.hid rfl⟩
  have hpl : p ≤ l.length := by rw [← HP.out]; exact Nat.min_le_right _ _
  have hpi : (p : Int) ≤ 3000 := by omega
  have Hpl := Go.Lib.hid hpl
  clear hL hA hcl hat hn hpl
  go_enter Try.func4, Try.ntmps4
  go_wp2_with fail
  refine H0.out.mono ?_
  rintro e w1 ⟨s, rfl, h⟩
  clear H0
  have H1 := Go.Lib.hid (show Calls _ _ _ _ (KPost w0 s (.int .i64 0) (wv1 l)) from (words_1 l HL.out) ▸ put_k h nmA (by decide) HA.out (Hcl.out.chg h.chg (fun _ _ => id)))
  clear h
  unfold ptr nmA at H1
  unfold ptr
  go_wp2_with fail
  refine (N.out _ _).mono ?_
  rintro e wn ⟨rfl, rfl⟩
  go_wp2_with fail
  refine H1.out.mono ?_
  rintro e w2 ⟨rfl, h⟩
  clear H1
  have H2 := Go.Lib.hid (show Calls _ _ _ _ (KPost w0 s (.int .i64 0) (wv l l [])) from (words_2 l HL.out) ▸ put_k h nmB (by decide) HA.out (Hcl.out.chg h.chg (fun _ _ => id)))
  clear h
  unfold ptr nmB at H2
  go_wp2_with fail
  refine (N.out _ _).mono ?_
  rintro e wn ⟨rfl, rfl⟩
  go_wp2_with fail
  refine H2.out.mono ?_
  rintro e w3 ⟨rfl, h⟩
  clear H2
  have H3 := Go.Lib.hid (show Calls _ _ _ _ (KPost w0 s (.int .i64 1) (wv l l [rA 0])) from (words_3 l l) ▸ old_k h nmA (by decide))
  clear h
  unfold ptr nmA at H3
  go_wp2_with fail
  refine (N.out _ _).mono ?_
  rintro e wn ⟨rfl, rfl⟩
  go_wp2_with fail
  refine H3.out.mono ?_
  rintro e w4 ⟨rfl, h⟩
  clear H3
  have H4 := Go.Lib.hid (show Calls _ _ _ _ (KPost w0 s (.int .i64 2) (wv l l [rA 0, rB 0])) from (words_4 l l) ▸ old_k h nmB (by decide))
  clear h
  unfold ptr nmB at H4
  go_wp2_with fail
  refine H4.out.mono ?_
  rintro e w5 ⟨rfl, h⟩
  clear H4
  have H5 := Go.Lib.hid (show Calls _ _ _ _ (KPost w0 s (.tuple #[]) (wv l l [rA p, rB 0])) from HP.out ▸ (words_5 l l 0 0 at_) ▸ seek_k h 1 at_ Hat.out)
  clear h
  unfold ptr at H5
  go_wp2_with fail
  refine H5.out.mono ?_
  rintro e w6 ⟨rfl, h⟩
  clear H5
  have H6 := Go.Lib.hid (show Calls _ _ _ _ (KPost w0 s (.tuple #[]) (wv l l [rA p, rB p])) from HP.out ▸ (words_6 l l (seekTo at_ l.length) 0 at_) ▸ seek_k (HP.out.symm ▸ h) 2 at_ Hat.out)
  clear h
  unfold ptr at H6
  go_wp2_with fail
  refine H6.out.mono ?_
  rintro e w7 ⟨rfl, h⟩
  clear H6
  have H7 := Go.Lib.hid (show Calls _ _ _ _ (KPost w0 s (.int .i64 (p : Nat)) (wv l l [rA p, rB p])) from (words_7 l l p p).symm ▸ at_k h 1)
  clear h
  unfold ptr at H7
  go_wp2_with fail
  refine H7.out.mono ?_
  rintro e w8 ⟨rfl, h⟩
  clear H7
  have H8 := Go.Lib.hid (show Calls _ _ _ _ (KPost w0 s (.int .i64 0) (wv (wr l p (bytesOfWord n)) l [rA (p + 4), rB p])) from (words_9 l l (bytesOfWord n) p p (by have := HL.out; omega) (by have := HL.out; omega) (Nat.le_refl 4) Hpl.out) ▸ writeWord_k h 1 n Hn.out)
  clear h
  unfold ptr at H8
  go_wp2_with fail
  refine H8.out.mono ?_
  rintro e w9 ⟨rfl, h⟩
  clear H8
  go_wp2_with fail
  refine (N.out _ _).mono ?_
  rintro e wn ⟨rfl, rfl⟩
  go_wp2_with fail
  refine wp_loop_rounds 5 ?_
  have e0 : ((UInt8.ofNat (n % 256)).toNat : Int) = (n : Int) % 256 := by simp
  have e1 : ((UInt8.ofNat (n / 256 % 256)).toNat : Int) = (n : Int) / 256 % 256 := by simp
  have e2 : ((UInt8.ofNat (n / 65536 % 256)).toNat : Int) = (n : Int) / 65536 % 256 := by simp
  have e3 : ((UInt8.ofNat (n / 16777216 % 256)).toNat : Int) = (n : Int) / 16777216 % 256 := by simp
  have E := Go.Lib.hid (And.intro e0 (And.intro e1 (And.intro e2 e3)))
  clear e0 e1 e2 e3
  obtain ⟨Z, HZ⟩ : ∃ Z, Hid (wr l p (bytesOfWord n) = Z) := ⟨_, Go.Lib.hid rfl⟩
  have HX := Go.Lib.hid (show Z.length ≤ 3004 by rw [← HZ.out, wr_length]; have := HL.out; have := Hpl.out; have : (bytesOfWord n).length = 4 := rfl; omega)
  have HG := Go.Lib.hid (show ∀ i, i < 4 → Z[p + i]? = (bytesOfWord n)[i]? from fun i hi => by rw [← HZ.out]; exact wr_get _ _ _ Hpl.out i hi)
  have HpZ := Go.Lib.hid (show p ≤ Z.length by rw [← HZ.out, wr_length]; have := Hpl.out; omega)
  have h : K w0 s (wv Z (wr l p []) [rA (p + 4), rB p]) wn := by rw [wr_nil _ _ Hpl.out, ← HZ.out]; exact h
  have H9 := Go.Lib.hid (show Calls _ _ _ _ (KPost w0 s (.int .i64 0) (wv Z (wr l p [UInt8.ofNat (n % 256)]) [rA (p + 4), rB (p + 1)])) from (words_13 Z l p [] (UInt8.ofNat (n % 256)) (p + 4) HX.out HL.out Hpl.out (by decide : 0 ≤ 3)) ▸ write_i h 2 (UInt8.ofNat (n % 256)) E.out.1)
  clear h
  unfold ptr at H9
  rw [rounds_succ]
  go_wp2_with fail
  refine H9.out.mono ?_
  rintro e w10 ⟨rfl, h⟩
  clear H9
  go_wp2_with fail
  refine (N.out _ _).mono ?_
  rintro e wn ⟨rfl, rfl⟩
  go_wp2_with fail
  have H10 := Go.Lib.hid (show Calls _ _ _ _ (KPost w0 s (.int .i64 0) (wv Z (wr l p [UInt8.ofNat (n % 256), UInt8.ofNat (n / 256 % 256)]) [rA (p + 4), rB (p + 2)])) from (words_13 Z l p [UInt8.ofNat (n % 256)] (UInt8.ofNat (n / 256 % 256)) (p + 4) HX.out HL.out Hpl.out (by decide : 1 ≤ 3)) ▸ write_i h 2 (UInt8.ofNat (n / 256 % 256)) E.out.2.1)
  clear h
  unfold ptr at H10
  rw [rounds_succ]
  go_wp2_with fail
  refine H10.out.mono ?_
  rintro e w11 ⟨rfl, h⟩
  clear H10
  go_wp2_with fail
  refine (N.out _ _).mono ?_
  rintro e wn ⟨rfl, rfl⟩
  go_wp2_with fail
  have H11 := Go.Lib.hid (show Calls _ _ _ _ (KPost w0 s (.int .i64 0) (wv Z (wr l p [UInt8.ofNat (n % 256), UInt8.ofNat (n / 256 % 256), UInt8.ofNat (n / 65536 % 256)]) [rA (p + 4), rB (p + 3)])) from (words_13 Z l p [UInt8.ofNat (n % 256), UInt8.ofNat (n / 256 % 256)] (UInt8.ofNat (n / 65536 % 256)) (p + 4) HX.out HL.out Hpl.out (by decide : 2 ≤ 3)) ▸ write_i h 2 (UInt8.ofNat (n / 65536 % 256)) E.out.2.2.1)
  clear h
  unfold ptr at H11
  rw [rounds_succ]
  go_wp2_with fail
  refine H11.out.mono ?_
  rintro e w12 ⟨rfl, h⟩
  clear H11
  go_wp2_with fail
  refine (N.out _ _).mono ?_
  rintro e wn ⟨rfl, rfl⟩
  go_wp2_with fail
  have H12 := Go.Lib.hid (show Calls _ _ _ _ (KPost w0 s (.int .i64 0) (wv Z (wr l p [UInt8.ofNat (n % 256), UInt8.ofNat (n / 256 % 256), UInt8.ofNat (n / 65536 % 256), UInt8.ofNat (n / 16777216 % 256)]) [rA (p + 4), rB (p + 4)])) from (words_13 Z l p [UInt8.ofNat (n % 256), UInt8.ofNat (n / 256 % 256), UInt8.ofNat (n / 65536 % 256)] (UInt8.ofNat (n / 16777216 % 256)) (p + 4) HX.out HL.out Hpl.out (by decide : 3 ≤ 3)) ▸ write_i h 2 (UInt8.ofNat (n / 16777216 % 256)) E.out.2.2.2)
  clear h
  unfold ptr at H12
  rw [rounds_succ]
  go_wp2_with fail
  refine H12.out.mono ?_
  rintro e w13 ⟨rfl, h⟩
  clear H12
  go_wp2_with fail
  refine (N.out _ _).mono ?_
  rintro e wn ⟨rfl, rfl⟩
  go_wp2_with fail
  have h : K w0 s (wv Z Z [rA (p + 4), rB (p + 4)]) wn := by have h' := HZ.out; unfold bytesOfWord at h'; rw [h'] at h; exact h
  have HG1 := Go.Lib.hid (show Calls _ _ _ _ (KGet w0 wn s _ Z) from get_k h (nm := nmA) (n := 0) (by decide) may_A (by simp [wv, lookD, eq_AA]))
  clear h
  unfold ptr nmA at HG1
  rw [rounds_succ]
  go_wp2_with fail
  refine HG1.out.mono ?_
  rintro e g1 ⟨A1, c1, rfl, _, hc1, h, _⟩
  clear HG1
  have HG2 := Go.Lib.hid (show Calls _ _ _ _ (KGet w0 g1 s _ Z) from get_k h (nm := nmB) (n := 1) (by decide) may_B (by simp [wv, lookD, ne_BA, eq_BB]))
  have Hc1 := Go.Lib.hid hc1
  clear h hc1
  unfold ptr nmB at HG2
  go_wp2_with fail
  refine HG2.out.mono ?_
  rintro e g2 ⟨A2, c2, rfl, _, hc2, h, hg2⟩
  clear HG2
  have HT1 := run_text rfl (c := c1) (Hc1.out.chg hg2 (fun _ _ => id))
  have HT2 := run_text rfl (c := c2) hc2
  clear hc2 hg2 Hc1
  have H13 := Go.Lib.hid (show Calls _ _ _ _ (KPost w0 s (.int .i64 ((p + 4 : Nat) : Int)) (wv Z Z [rA (p + 4), rB (p + 4)])) from (words_7 Z Z (p + 4) (p + 4)).symm ▸ at_k h 1)
  clear h
  unfold ptr at H13
  go_wp2_with fail
  refine (N.out _ _).mono ?_
  rintro e wn ⟨rfl, rfl⟩
  go_wp2_with fail
  refine (N.out _ _).mono ?_
  rintro e wn ⟨rfl, rfl⟩
  go_wp2_with fail
  refine H13.out.mono ?_
  rintro e w14 ⟨rfl, h⟩
  clear H13
  have H14 := Go.Lib.hid (show Calls _ _ _ _ (KPost w0 s (.int .i64 ((p + 4 : Nat) : Int)) (wv Z Z [rA (p + 4), rB (p + 4)])) from (words_8 Z Z (p + 4) (p + 4)).symm ▸ at_k h 2)
  clear h
  unfold ptr at H14
  go_wp2_with fail
  refine H14.out.mono ?_
  rintro e w15 ⟨rfl, h⟩
  clear H14
  have H15 := Go.Lib.hid (show Calls _ _ _ _ (KPost w0 s (.tuple #[]) (wv Z Z [rA p, rB (p + 4)])) from (seekTo_of Z p HpZ.out (by have := Hpl.out; have := HL.out; omega)) ▸ (words_5 Z Z (p + 4) (p + 4) p) ▸ seek_k h 1 p (by have := Hpl.out; have := HL.out; omega))
  clear h
  unfold ptr at H15
  go_wp2_with fail
  refine H15.out.mono ?_
  rintro e w16 ⟨rfl, h⟩
  clear H15
  have H16 := Go.Lib.hid (show Calls _ _ _ _ (KPost w0 s (.tuple #[]) (wv Z Z [rA p, rB p])) from (seekTo_of Z p HpZ.out (by have := Hpl.out; have := HL.out; omega)) ▸ (words_6 Z Z p (p + 4) p) ▸ seek_k h 2 p (by have := Hpl.out; have := HL.out; omega))
  clear h
  unfold ptr at H16
  go_wp2_with fail
  refine H16.out.mono ?_
  rintro e w17 ⟨rfl, h⟩
  clear H16
  have H17 := Go.Lib.hid (show Calls _ _ _ _ (KPost w0 s (.int .u32 (n : Nat)) (wv Z Z [rA (p + 4), rB p])) from (words_14 Z Z p p n Hn.out HG.out) ▸ readWord_k h 1)
  clear h
  unfold ptr at H17
  go_wp2_with fail
  refine H17.out.mono ?_
  rintro e w18 ⟨rfl, h⟩
  clear H17
  obtain ⟨b0, HB0⟩ : ∃ b, Hid (Z[p + 0]? = some b ∧ b = UInt8.ofNat (n % 256)) := ⟨_, Go.Lib.hid ⟨HG.out 0 (by decide), rfl⟩⟩
  obtain ⟨b1, HB1⟩ : ∃ b, Hid (Z[p + 1]? = some b ∧ b = UInt8.ofNat (n / 256 % 256)) := ⟨_, Go.Lib.hid ⟨HG.out 1 (by decide), rfl⟩⟩
  obtain ⟨b2, HB2⟩ : ∃ b, Hid (Z[p + 2]? = some b ∧ b = UInt8.ofNat (n / 65536 % 256)) := ⟨_, Go.Lib.hid ⟨HG.out 2 (by decide), rfl⟩⟩
  obtain ⟨b3, HB3⟩ : ∃ b, Hid (Z[p + 3]? = some b ∧ b = UInt8.ofNat (n / 16777216 % 256)) := ⟨_, Go.Lib.hid ⟨HG.out 3 (by decide), rfl⟩⟩
  have HW := Go.Lib.hid (show word4 b0 b1 b2 b3 = n by rw [HB0.out.2, HB1.out.2, HB2.out.2, HB3.out.2]; exact word4_bytes n Hn.out)
  have H18 := Go.Lib.hid (show Calls _ _ _ _ (KPost w0 s (.int .u8 b0.toNat) (wv Z Z [rA (p + 4), rB (p + 1)])) from (words_15 Z Z (p + 4) (p + 0) b0 HB0.out.1) ▸ read_k h 2)
  clear h
  unfold ptr at H18
  go_wp2_with fail
  refine H18.out.mono ?_
  rintro e w19 ⟨rfl, h⟩
  clear H18
  have H19 := Go.Lib.hid (show Calls _ _ _ _ (KPost w0 s (.int .u8 b1.toNat) (wv Z Z [rA (p + 4), rB (p + 2)])) from (words_15 Z Z (p + 4) (p + 1) b1 HB1.out.1) ▸ read_k h 2)
  clear h
  unfold ptr at H19
  go_wp2_with fail
  refine H19.out.mono ?_
  rintro e w20 ⟨rfl, h⟩
  clear H19
  have H20 := Go.Lib.hid (show Calls _ _ _ _ (KPost w0 s (.int .u8 b2.toNat) (wv Z Z [rA (p + 4), rB (p + 3)])) from (words_15 Z Z (p + 4) (p + 2) b2 HB2.out.1) ▸ read_k h 2)
  clear h
  unfold ptr at H20
  go_wp2_with fail
  refine H20.out.mono ?_
  rintro e w21 ⟨rfl, h⟩
  clear H20
  have H21 := Go.Lib.hid (show Calls _ _ _ _ (KPost w0 s (.int .u8 b3.toNat) (wv Z Z [rA (p + 4), rB (p + 4)])) from (words_15 Z Z (p + 4) (p + 3) b3 HB3.out.1) ▸ read_k h 2)
  clear h
  unfold ptr at H21
  go_wp2_with fail
  refine H21.out.mono ?_
  rintro e w22 ⟨rfl, h⟩
  clear H21
  clear HT1 HT2
  have hS : ((b0.toNat : Int) + (b1.toNat : Int) % 4294967296 * 256 + (b2.toNat : Int) % 4294967296 * 65536 + (b3.toNat : Int) % 4294967296 * 16777216) % 4294967296 = (n : Int) := by
    have h1 := HW.out
    have h2 := Hn.out
    have i0 := b0.toNat_lt
    have i1 := b1.toNat_lt
    have i2 := b2.toNat_lt
    have i3 := b3.toNat_lt
    unfold word4 at h1
    omega
  have H22 := Go.Lib.hid (show Calls _ _ _ _ (KPost w0 s (.int .i64 ((p + 4 : Nat) : Int)) (wv Z Z [rA (p + 4), rB (p + 4)])) from (words_7 Z Z (p + 4) (p + 4)).symm ▸ at_k h 1)
  clear h
  unfold ptr at H22
  go_wp2_with fail
  refine H22.out.mono ?_
  rintro e w23 ⟨rfl, h⟩
  clear H22
  have H23 := Go.Lib.hid (show Calls _ _ _ _ (KPost w0 s (.int .i64 ((p + 4 : Nat) : Int)) (wv Z Z [rA (p + 4), rB (p + 4)])) from (words_8 Z Z (p + 4) (p + 4)).symm ▸ at_k h 2)
  clear h
  unfold ptr at H23
  go_wp2_with fail
  refine H23.out.mono ?_
  rintro e w24 ⟨rfl, h⟩
  clear H23
  have Hk := Go.Lib.hid (known_c w24)
  have HH := Go.Lib.hid h.chg
  clear h
  go_wp2_with fail
  refine Hk.out.mono ?_
  rintro e w25 ⟨rfl, h⟩
  have HH2 := Go.Lib.hid h
  clear h Hk
  go_wp2_with fail
  go_ret
  exact ⟨rfl, HH.out.trans HH2.out⟩
end Go.Proofs.Ytebcomijknffmaa
