/- What is proved: the contracts of the reference's Big and Rank, and the law's few. Conditions: numbers of some bounds. -/
import Derived.Test.YtnihjkcniddepaaOpen
import Derived.BigQuiet
import Derived.Deep.QuietTactic
namespace Go.Proofs.Ytnihjkcniddepaa
open Go.RowKit
def bigStep (d : Own) (m : Int) : Int := m - 1 - (min (d.nm.size : Int) 100000) / 16
namespace F
def big : F → Int → Int
  | .nil, m => m
  | .cons d ks r, m => if 0 ≤ m then r.big (ks.big (bigStep d m)) else m
end F
def bigT (d : Own) (ks : F) (m : Int) : Int := ks.big (bigStep d m)
theorem bigStep_le (d : Own) (m : Int) : m - 6251 ≤ bigStep d m ∧ bigStep d m ≤ m - 1 := by unfold bigStep; omega
theorem big_neg (f : F) (m : Int) (h : m < 0) : f.big m = m := by
  cases f with
  | nil => rfl
  | cons d ks r => simp only [F.big]; rw [if_neg (by omega)]
theorem big_range (f : F) : ∀ m, -6251 ≤ m → -6251 ≤ f.big m ∧ f.big m ≤ m := by
  induction f with
  | nil => intro m h; exact ⟨h, by simp [F.big]⟩
  | cons d ks r ihk ihr =>
    intro m h
    simp only [F.big]
    split
    · have h1 := bigStep_le d m
      have h2 := ihk (bigStep d m) (by omega)
      have h3 := ihr _ h2.1
      omega
    · omega
/-- what Big lets pass is no more than the number -/
theorem big_size (f : F) : ∀ m, 0 ≤ f.big m → f.size + f.big m ≤ m := by
  induction f with
  | nil => intro m h; simp [F.big, F.size]
  | cons d ks r ihk ihr =>
    intro m h
    simp only [F.big] at h ⊢
    split
    · rename_i h0
      rw [if_pos h0] at h
      have h1 := bigStep_le d m
      have h3 := ihr _ h
      have h2 := ihk (bigStep d m) (by omega)
      simp only [F.size]
      omega
    · rename_i h0
      rw [if_neg h0] at h
      omega
theorem bigT_size (d : Own) (ks : F) (m : Int) (h : 0 ≤ bigT d ks m) : (ks.size : Int) + 1 ≤ m := by
  have := big_size ks _ h
  have := bigStep_le d m
  unfold bigT at *
  omega
def BigC (d : Own) (ks : F) : Prop :=
  ∀ (kA : Option Addr) (kn kc : Nat) (W : World) (m : Int), IsN W d ks kA kn kc → (0 ≤ m ∧ m ≤ 1000000) → Calls Try.prog 14 #[nodeV d kA kn kc, .int .i64 m] W fun e w' => e = .returned (.int .i64 (bigT d ks m)) ∧ Chg NoB W w'
set_option maxHeartbeats 1000000 in
theorem big_c (d : Own) (ks : F) (hks : ks.All BigC) : BigC d ks := by
  intro kA kn kc w m hN hm
  have hle := hN.le
  have hmo := hN.most
  unfold maxLen at hmo
  have hlen := hN.kids.len
  have hnm := hN.ok.2.1
  unfold maxLen at hnm
  have HN := Go.Lib.hid hN
  have Hks := Go.Lib.hid hks
  have Hlen := Go.Lib.hid hlen
  have hst := bigStep_le d m
  have Hst : Hid (bigStep d m = m - 1 - (min (d.nm.size : Int) 100000) / 16) := Go.Lib.hid rfl
  have HR : Hid (ks.big (bigStep d m) = bigT d ks m) := Go.Lib.hid rfl
  clear hN hks hlen
  have H0 := Go.Lib.hid (show Chg NoB w (w.alloc (.cells #[.int .i64 d.kind, .string d.nm, .int .u32 d.val, .bool d.mark, .slice kA kn kc] 28)) from (Chg.refl _ _).alloc _)
  unfold nodeV
  go_enter Try.func14, Try.ntmps14
  go_wp2_with fail
  go_loopw [1, 5] (fun v i W => ∃ (k : Nat) (mm : Int), k ≤ kn ∧ i = .int .i64 k ∧ v = .int .i64 mm ∧ (-6251 ≤ mm ∧ mm ≤ 1000000) ∧ (ks.drop k).big mm = bigT d ks m ∧ Chg NoB (w.alloc (.cells #[.int .i64 d.kind, .string d.nm, .int .u32 d.val, .bool d.mark, .slice kA kn kc] 28)) W) (fun _ i _ => kn - (intOf i).toNat)
  case atStart => exact ⟨0, bigStep d m, Nat.zero_le _, rfl, by rw [Hst.out], by omega, by simpa [F.drop] using HR.out, Chg.refl _ _⟩
  case round =>
    obtain ⟨k, mm, hk, rfl, rfl, hmm, hbig, hch⟩ := hrel
    obtain ⟨hb0, hb1, hb2, hb3, hb4⟩ := box5 hch
    have Hch := Go.Lib.hid hch
    have Hbig := Go.Lib.hid hbig
    clear hch hbig
    by_cases hlt : k < kn ∧ 0 ≤ mm
    · obtain ⟨hlt, h0⟩ := hlt
      have hl := HN.out.kids.chg (H0.out.trans Hch.out)
      obtain ⟨b, o, d1, k1, r, kA1, kn1, kc1, rfl, hd, ok, h1, h2, c0, c1, c2, c3, c4, hk1⟩ := hl.at_ hlt
      have Hc := Go.Lib.hid (F.All.at_ Hks.out (F.at_drop ks k hd) kA1 kn1 kc1 wr mm ⟨ok, h1, h2, hk1⟩ (by omega))
      have hb := Hbig.out
      rw [hd] at hb
      simp only [F.big] at hb
      rw [if_pos h0] at hb
      have hr := big_range (k1) (bigStep d1 mm) (by have := bigStep_le d1 mm; omega)
      have hs1 := bigStep_le d1 mm
      have hrr : -6251 ≤ bigT d1 k1 mm ∧ bigT d1 k1 mm ≤ 1000000 := by unfold bigT; omega
      have HB := Go.Lib.hid (show (ks.drop (k + 1)).big (bigT d1 k1 mm) = bigT d ks m by rw [F.drop_succ ks k hd]; exact hb)
      clear hl hd ok h1 h2 hk1 hb hr hs1
      have hge : ¬ mm < 0 := by omega
      go_wp2_with fail
      refine Hc.out.mono ?_
      rintro e w1 ⟨rfl, hc1⟩
      go_wp2_with fail
      go_roundw
      case rel => exact ⟨k + 1, _, by omega, by go_num, rfl, hrr, HB.out, Hch.out.trans hc1⟩
      case measure => simp [intOf]; omega
    · have hfin : mm = bigT d ks m := by
        by_cases hlt' : k < kn
        · have h0 : mm < 0 := by omega
          have := Hbig.out
          rwa [big_neg _ _ h0] at this
        · have hkn : k = ks.len := by have := Hlen.out; omega
          have := Hbig.out
          have hnil : ks.drop k = .nil := by
            have := F.len_drop ks k
            cases hq : ks.drop k with
            | nil => rfl
            | cons _ _ _ => rw [hq] at this; simp [F.len] at this; omega
          rwa [hnil] at this
      have Hfin := Go.Lib.hid hfin
      clear hfin
      by_cases hlt' : k < kn
      · have h0 : mm < 0 := by omega
        go_wp2_with fail
        go_ret
        exact ⟨congrArg (fun b => Ending.returned (.int .i64 b)) Hfin.out, H0.out.trans Hch.out⟩
      · go_wp2_with fail
        go_ret
        exact ⟨congrArg (fun b => Ending.returned (.int .i64 b)) Hfin.out, H0.out.trans Hch.out⟩
theorem Big_c (d : Own) (ks : F) : BigC d ks := (F.each big_c (.cons d ks .nil)).1
set_option maxHeartbeats 400000 in
theorem few_c (d : Own) (ks : F) (kA : Option Addr) (kn kc : Nat) (w : World) (hN : IsN w d ks kA kn kc) :
    Calls Try.prog 17 #[nodeV d kA kn kc] w fun e w' => e = .returned (.bool (decide (0 ≤ bigT d ks 400))) ∧ Chg NoB w w' := by
  have hw0 : Chg NoB w (w.alloc (.cells #[.int .i64 d.kind, .string d.nm, .int .u32 d.val, .bool d.mark, .slice kA kn kc] 28)) := (Chg.refl _ _).alloc _
  have h1 := Big_c d ks kA kn kc _ 400 (hN.chg hw0) (by omega)
  unfold nodeV at h1
  have H1 := Go.Lib.hid h1
  have H0 := Go.Lib.hid hw0
  clear h1 hw0 hN
  unfold nodeV
  go_enter Try.func17, Try.ntmps17
  go_wp2_with fail
  refine H1.out.mono ?_
  rintro e w1 ⟨rfl, hc⟩
  go_wp2_with fail
  go_ret
  exact ⟨rfl, H0.out.trans hc⟩
end Go.Proofs.Ytnihjkcniddepaa
