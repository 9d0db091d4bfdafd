/- What is proved: the walk of the law StoreWrites. Conditions: none. -/
import Derived.Test.YtebcomijknffmaaLawText
import Derived.Test.YtebcomijknffmaaLawWords2
import Derived.Test.YtebcomijknffmaaLawWrites1
import Derived.Test.YtebcomijknffmaaStoreQQ
namespace Go.Proofs.Ytebcomijknffmaa
open Go.RowKit

set_option maxRecDepth 20000 in
theorem writes_long (w0 : World) (A A' : Option Addr) (L L' c c' at_ n : Nat) (hL : 3000 < L ∨ L ≤ 3000 ∧ 3000 < L') : Calls Try.prog 3 #[.slice A L c, .slice A' L' c', .int .u32 at_, .int .u32 n] w0 (Yes w0) := by
  have Hk := Go.Lib.hid (known_c w0)
  rcases hL with hL | ⟨h1, h2⟩
  · go_enter Try.func3, Try.ntmps3
    go_wp2_with fail
    refine Hk.out.mono ?_
    rintro e w ⟨rfl, h⟩
    have H := Go.Lib.hid h
    clear h
    go_wp2_with fail
    go_ret
    exact ⟨rfl, H.out⟩
  · go_enter Try.func3, Try.ntmps3
    go_wp2_with fail
    refine Hk.out.mono ?_
    rintro e w ⟨rfl, h⟩
    have H := Go.Lib.hid h
    clear h
    go_wp2_with fail
    go_ret
    exact ⟨rfl, H.out⟩

def WRel (g2 : World) (Q : Nat → Prop) (s : Nat) (Z m : List UInt8) (p : Nat) (i : Value) (wr : World) : Prop :=
  ∃ k : Nat, k ≤ Z.length ∧ i = .int .i64 k ∧ KQ g2 Q s (xv Z m [rA (p + 4), rA k]) wr

set_option maxRecDepth 20000 in
set_option maxHeartbeats 4000000 in
theorem writes_short (w0 : World) (A A' : Option Addr) (c c' at_ n : Nat) (l m : List UInt8) (hL : l.length ≤ 3000) (hM : m.length ≤ 3000) (hA : A = none → l = [] ∧ c = 0) (hcl : CellsAt w0 A (bv l)) (hB : A' = none → m = [] ∧ c' = 0) (hcm : CellsAt w0 A' (bv m))
    (hat : at_ < 4294967296) (hn : n < 4294967296) :
    Calls Try.prog 3 #[.slice A l.length c, .slice A' m.length c', .int .u32 at_, .int .u32 n] w0 (Yes w0) := by
  have hLi : (l.length : Int) ≤ 3000 := by omega
  have hMi : (m.length : Int) ≤ 3000 := by omega
  have H0 := Go.Lib.hid (new_k 10000 (by decide) w0)
  have N := Go.Lib.hid num_c
  have HL := Go.Lib.hid hL
  have HM := Go.Lib.hid hM
  have HA := Go.Lib.hid hA
  have HB := Go.Lib.hid hB
  have Hcl := Go.Lib.hid hcl
  have Hcm := Go.Lib.hid hcm
  have Hat := Go.Lib.hid hat
  have Hn := Go.Lib.hid hn
  obtain ⟨p, HP⟩ : ∃ p, Hid (seekTo at_ l.length = p) := ⟨_, Go.Lib.hid rfl⟩
  have hpl : p ≤ l.length := by rw [← HP.out]; exact Nat.min_le_right _ _
  have hpi : (p : Int) ≤ 3000 := by omega
  have Hpl := Go.Lib.hid hpl
  obtain ⟨Z, HZ⟩ : ∃ Z, Hid (wr l p (bytesOfWord n) = Z) := ⟨_, Go.Lib.hid rfl⟩
  have HZ4 := Go.Lib.hid (show p + 4 ≤ Z.length ∧ Z.length ≤ 3004 by rw [← HZ.out, wr_length, bytesOfWord_length]; omega)
  have hzl : (l.length : Int) < p + 4 ∧ (Z.length : Int) = p + 4 ∨ (p : Int) + 4 ≤ l.length ∧ (Z.length : Int) = l.length := by rw [← HZ.out, wr_length, bytesOfWord_length]; omega
  clear hL hM hA hcl hB hcm hat hn hpl
  rcases hzl with ⟨hz1, hz2⟩ | ⟨hz1, hz2⟩
  all_goals
    go_enter Try.func3, Try.ntmps3
    go_wp2_with fail
    refine H0.out.mono ?_
    rintro e w1 ⟨s, rfl, h⟩
    clear H0
    have H1 := Go.Lib.hid (show Calls _ _ _ _ (KPost w0 s (.int .i64 0) (xv1 l)) from (writes_1 l HL.out) ▸ put_k h nmA (by decide) HA.out (Hcl.out.chg h.chg (fun _ _ => id)))
    clear h
    unfold ptr nmA at H1
    unfold ptr
    go_wp2_with fail
    refine (N.out _ _).mono ?_
    rintro e wn ⟨rfl, he⟩
    obtain rfl := he.symm
    go_wp2_with fail
    refine H1.out.mono ?_
    rintro e w2 ⟨rfl, h⟩
    clear H1
    have H2 := Go.Lib.hid (show Calls _ _ _ _ (KPost w0 s (.int .i64 0) (xv l m [])) from (writes_2 l m HL.out HM.out) ▸ put_k h nmB (by decide) HB.out (Hcm.out.chg h.chg (fun _ _ => id)))
    clear h
    unfold ptr nmB at H2
    go_wp2_with fail
    refine (N.out _ _).mono ?_
    rintro e wn ⟨rfl, he⟩
    obtain rfl := he.symm
    go_wp2_with fail
    refine H2.out.mono ?_
    rintro e w3 ⟨rfl, h⟩
    clear H2
    go_wp2_with fail
    refine (N.out _ _).mono ?_
    rintro e wn ⟨rfl, he⟩
    obtain rfl := he.symm
    go_wp2_with fail
    have H3 := Go.Lib.hid (show Calls _ _ _ _ (KPost w0 s (.int .i64 1) (xv l m [rA 0])) from (writes_3 l m) ▸ old_k h nmA (by decide))
    clear h
    unfold ptr nmA at H3
    refine H3.out.mono ?_
    rintro e w4 ⟨rfl, h⟩
    clear H3
    have H4 := Go.Lib.hid (show Calls _ _ _ _ (KPost w0 s (.int .i64 2) (xv l m [rA 0, rA 0])) from (writes_4 l m) ▸ old_k h nmA (by decide))
    clear h
    unfold ptr nmA at H4
    go_wp2_with fail
    refine H4.out.mono ?_
    rintro e w5 ⟨rfl, h⟩
    clear H4
    have H5 := Go.Lib.hid (show Calls _ _ _ _ (KPost w0 s (.tuple #[]) (xv l m [rA p, rA 0])) from HP.out ▸ (writes_5 l m 0 0 at_) ▸ seek_k h 1 at_ Hat.out)
    clear h
    unfold ptr at H5
    go_wp2_with fail
    refine H5.out.mono ?_
    rintro e w6 ⟨rfl, h⟩
    clear H5
    have H6 := Go.Lib.hid (show Calls _ _ _ _ (KPost w0 s (.int .i64 (p : Nat)) (xv l m [rA p, rA 0])) from (writes_6 l m p 0).symm ▸ at_k h 1)
    clear h
    unfold ptr at H6
    go_wp2_with fail
    refine H6.out.mono ?_
    rintro e w7 ⟨rfl, h⟩
    clear H6
    have H7 := Go.Lib.hid (show Calls _ _ _ _ (KPost w0 s (.int .i64 0) (xv Z m [rA (p + 4), rA 0])) from HZ.out ▸ (writes_9 l m (bytesOfWord n) p 0 HL.out HM.out (Nat.le_refl 4) Hpl.out) ▸ writeWord_k h 1 n Hn.out)
    clear h
    unfold ptr at H7
    go_wp2_with fail
    refine H7.out.mono ?_
    rintro e w8 ⟨rfl, h⟩
    clear H7
    go_wp2_with fail
    refine (N.out _ _).mono ?_
    rintro e wn ⟨rfl, he⟩
    obtain rfl := he.symm
    go_wp2_with fail
    have HG1 := Go.Lib.hid (show Calls _ _ _ _ (KQGet w0 (· < w0.heap.size) s _ Z _) from get_q h.toQ (nm := nmA) (n := 0) (by decide) may_A (by simp [xv, lookD, eq_AA]))
    clear h
    unfold ptr nmA at HG1
    refine HG1.out.mono ?_
    rintro e g1 ⟨A1, c1, rfl, hc1, _, h, hg0, ha1, _⟩
    clear HG1
    have HG2 := Go.Lib.hid (show Calls _ _ _ _ (KQGet g1 _ s _ m g1) from get_q h (nm := nmB) (n := 1) (by decide) may_B (by simp [xv, lookD, ne_BA, eq_BB]))
    have Hc1 := Go.Lib.hid hc1
    have Hg0 := Go.Lib.hid (Chg.noB hg0 (fun _ hk => hk))
    clear h hc1 hg0
    unfold ptr nmB at HG2
    go_wp2_with fail
    refine HG2.out.mono ?_
    rintro e g2 ⟨A2, c2, rfl, hc2, _, h, hg, ha2, hg2⟩
    clear HG2
    have Hg2 := Go.Lib.hid (Hg0.out.trans hg2)
    have HcZ := Go.Lib.hid (Hc1.out.chg hg2 (fun _ _ => id))
    obtain ⟨ad1, rfl, _⟩ := HcZ.out.head (i := 0) (by have := HZ4.out; omega)
    have Ha2 := Go.Lib.hid ha2
    have Ha1 := Go.Lib.hid ha1
    have Hc2 := Go.Lib.hid hc2
    clear hc2 hg hg2 Hc1 ha1 ha2 Hg0
    have H8 := Go.Lib.hid (show Calls _ _ _ _ (KQPost g2 _ s (.int .i64 (Z.length : Nat)) (xv Z m [rA (p + 4), rA 0])) from (writes_8 Z m (p + 4) 0).symm ▸ h.of (fun _ _ h => length_v h 2))
    clear h
    unfold ptr at H8
    go_wp2_with fail
    refine (N.out _ _).mono ?_
    rintro e wn ⟨rfl, he⟩
    obtain rfl := he.symm
    go_wp2_with fail
    refine (N.out _ _).mono ?_
    rintro e wn ⟨rfl, he⟩
    obtain rfl := he.symm
    go_wp2_with fail
    refine H8.out.mono ?_
    rintro e w9 ⟨rfl, h⟩
    clear H8
    have HT2 := run_text rfl (c := c2) (Hc2.out.chg h.chg (fun ad ha hn => hn (.inr (Ha2.out ad ha))))
    have HTm := run_text rfl (c := c') (Hcm.out.chg (h.noB Hg2.out (fun k hk => .inl (.inl hk))) (fun _ _ => id))
    have H9 := Go.Lib.hid (show Calls _ _ _ _ (KQPost g2 _ s (.int .i64 ((p + 4 : Nat) : Int)) (xv Z m [rA (p + 4), rA 0])) from (writes_6 Z m (p + 4) 0).symm ▸ h.of (fun _ _ h => at_v h 1))
    clear h
    unfold ptr at H9
    go_wp2_with fail
    refine H9.out.mono ?_
    rintro e w10 ⟨rfl, h⟩
    clear H9
    have H10 := Go.Lib.hid (show Calls _ _ _ _ (KQPost g2 _ s (.int .i64 0) (xv Z m [rA (p + 4), rA 0])) from (writes_7 Z m (p + 4) 0).symm ▸ h.of (fun _ _ h => at_v h 2))
    clear h
    unfold ptr at H10
    go_wp2_with fail
    refine H10.out.mono ?_
    rintro e w11 ⟨rfl, h⟩
    clear H10
    go_wp2_with fail
    go_loopw [19] (fun i wr => WRel g2 _ s Z m p i wr) (fun i _ => Z.length - (intOf i).toNat)
    case atStart => exact ⟨0, Nat.zero_le _, rfl, h⟩
    case round =>
      clear h
      obtain ⟨k, hk, rfl, h⟩ := hrel
      by_cases hlt : k < Z.length
      · have Hz := Go.Lib.hid (HcZ.out.chg h.chg (fun ad ha hn => hn (.inl (.inr (Ha1.out ad ha)))))
        have Hl := Go.Lib.hid (Hcl.out.chg (h.noB Hg2.out (fun k hk => .inl (.inl hk))) (fun _ _ => id))
        rcases writes_case l p Z n k HZ.out Hpl.out hlt with ⟨hkl, hx, hb⟩ | ⟨hx, hx', hb⟩ | ⟨hx, hx', hb⟩ | ⟨hx, hx', hb⟩ | ⟨hx, hx', hb⟩
        · obtain ⟨ad, rfl, hla⟩ := Hl.out.head hkl
          obtain ⟨_, e1, hld⟩ := Hz.out.head hlt
          obtain rfl : ad1 = _ := by injection e1
          rw [show Z[k] = _ from (List.getElem?_eq_some_iff.1 hb).2] at hld
          have HR := Go.Lib.hid (show Calls _ _ _ _ (KQPost g2 _ s (.int .u8 (l[k].toNat)) (xv Z m [rA (p + 4), rA (k + 1)])) from (writes_10 Z m (p + 4) k _ hb) ▸ h.of (fun _ _ h => read_v h 2))
          clear h hb e1
          unfold ptr at HR
          go_wp2_with fail
          refine HR.out.mono ?_
          rintro e wx ⟨rfl, h⟩
          clear HR
          go_wp2_with fail
          go_roundw
          case rel => exact ⟨k + 1, by omega, by go_num, h⟩
          case measure => simp [intOf]; omega
        · have ez : ((UInt8.ofNat (n % 256)).toNat : Int) = (n : Int) % 256 := by simp
          obtain ⟨_, e1, hld⟩ := Hz.out.head hlt
          obtain rfl : ad1 = _ := by injection e1
          rw [show Z[k] = _ from (List.getElem?_eq_some_iff.1 hb).2, ez] at hld
          have HR := Go.Lib.hid (show Calls _ _ _ _ (KQPost g2 _ s (.int .u8 ((n : Int) % 256)) (xv Z m [rA (p + 4), rA (k + 1)])) from ez ▸ (writes_10 Z m (p + 4) k _ hb) ▸ h.of (fun _ _ h => read_v h 2))
          clear h hb e1
          unfold ptr at HR
          go_wp2_with fail
          refine HR.out.mono ?_
          rintro e wx ⟨rfl, h⟩
          clear HR
          go_wp2_with fail
          go_roundw
          case rel => exact ⟨k + 1, by omega, by go_num, h⟩
          case measure => simp [intOf]; omega
        · have ez : ((UInt8.ofNat (n / 256 % 256)).toNat : Int) = (n : Int) / 256 % 256 := by simp
          obtain ⟨_, e1, hld⟩ := Hz.out.head hlt
          obtain rfl : ad1 = _ := by injection e1
          rw [show Z[k] = _ from (List.getElem?_eq_some_iff.1 hb).2, ez] at hld
          have HR := Go.Lib.hid (show Calls _ _ _ _ (KQPost g2 _ s (.int .u8 ((n : Int) / 256 % 256)) (xv Z m [rA (p + 4), rA (k + 1)])) from ez ▸ (writes_10 Z m (p + 4) k _ hb) ▸ h.of (fun _ _ h => read_v h 2))
          clear h hb e1
          unfold ptr at HR
          go_wp2_with fail
          refine HR.out.mono ?_
          rintro e wx ⟨rfl, h⟩
          clear HR
          go_wp2_with fail
          go_roundw
          case rel => exact ⟨k + 1, by omega, by go_num, h⟩
          case measure => simp [intOf]; omega
        · have ez : ((UInt8.ofNat (n / 65536 % 256)).toNat : Int) = (n : Int) / 65536 % 256 := by simp
          obtain ⟨_, e1, hld⟩ := Hz.out.head hlt
          obtain rfl : ad1 = _ := by injection e1
          rw [show Z[k] = _ from (List.getElem?_eq_some_iff.1 hb).2, ez] at hld
          have HR := Go.Lib.hid (show Calls _ _ _ _ (KQPost g2 _ s (.int .u8 ((n : Int) / 65536 % 256)) (xv Z m [rA (p + 4), rA (k + 1)])) from ez ▸ (writes_10 Z m (p + 4) k _ hb) ▸ h.of (fun _ _ h => read_v h 2))
          clear h hb e1
          unfold ptr at HR
          go_wp2_with fail
          refine HR.out.mono ?_
          rintro e wx ⟨rfl, h⟩
          clear HR
          go_wp2_with fail
          go_roundw
          case rel => exact ⟨k + 1, by omega, by go_num, h⟩
          case measure => simp [intOf]; omega
        · have ez : ((UInt8.ofNat (n / 16777216 % 256)).toNat : Int) = (n : Int) / 16777216 % 256 := by simp
          obtain ⟨_, e1, hld⟩ := Hz.out.head hlt
          obtain rfl : ad1 = _ := by injection e1
          rw [show Z[k] = _ from (List.getElem?_eq_some_iff.1 hb).2, ez] at hld
          have HR := Go.Lib.hid (show Calls _ _ _ _ (KQPost g2 _ s (.int .u8 ((n : Int) / 16777216 % 256)) (xv Z m [rA (p + 4), rA (k + 1)])) from ez ▸ (writes_10 Z m (p + 4) k _ hb) ▸ h.of (fun _ _ h => read_v h 2))
          clear h hb e1
          unfold ptr at HR
          go_wp2_with fail
          refine HR.out.mono ?_
          rintro e wx ⟨rfl, h⟩
          clear HR
          go_wp2_with fail
          go_roundw
          case rel => exact ⟨k + 1, by omega, by go_num, h⟩
          case measure => simp [intOf]; omega
      · obtain rfl : k = Z.length := by omega
        have Hc := Go.Lib.hid (h.noB Hg2.out (fun k hk => .inl (.inl hk)))
        have Hk := Go.Lib.hid (known_c wr)
        clear h
        go_wp2_with fail
        refine Hk.out.mono ?_
        rintro e w25 ⟨rfl, h⟩
        have HH2 := Go.Lib.hid h
        clear h Hk
        go_wp2_with fail
        go_ret
        exact ⟨rfl, Hc.out.trans HH2.out⟩
end Go.Proofs.Ytebcomijknffmaa
