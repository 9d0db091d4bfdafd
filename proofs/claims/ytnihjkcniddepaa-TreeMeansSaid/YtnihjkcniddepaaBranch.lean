/- What is proved: the contract of tree's branches. Conditions: the contracts at the nodes. -/
import Derived.Test.YtnihjkcniddepaaTyp2
namespace Go.Proofs.Ytnihjkcniddepaa
open Go.RowKit
def brI (l : List Att2) (i : Nat) : Bool := if i % 2 == 0 && decide (i + 1 < l.length) then (l.getD i badB).exp else (l.getD i badB).stmts
theorem allN_shift (q : Nat → Bool) (n : Nat) : allN q (n + 1) = (q 0 && allN (fun i => q (i + 1)) n) := by
  induction n with
  | zero => simp [allN]
  | succ n ih =>
    rw [show allN q (n + 1 + 1) = (allN q (n + 1) && q (n + 1)) from rfl, ih]
    simp [allN, Bool.and_assoc]
theorem allN_congr {q q' : Nat → Bool} (n : Nat) (h : ∀ i, i < n → q i = q' i) : allN q n = allN q' n := by
  induction n with
  | zero => rfl
  | succ n ih => simp only [allN]; rw [ih (fun i hi => h i (by omega)), h n (by omega)]
theorem brL_allN : ∀ l : List Att2, brL l = allN (brI l) l.length
  | [] => rfl
  | [x] => by simp [brL, allN, brI]
  | x :: y :: r => by
    have ih := brL_allN r
    simp only [brL, List.length_cons]
    rw [allN_shift, allN_shift, ih]
    have e0 : brI (x :: y :: r) 0 = x.exp := by simp [brI]
    have e1 : brI (x :: y :: r) (0 + 1) = y.stmts := by simp [brI]
    rw [e0, e1]
    rw [allN_congr r.length (q := fun i => brI (x :: y :: r) (i + 1 + 1)) (q' := brI r) (fun i _ => by
      unfold brI
      have h1 : (i + 1 + 1) % 2 = i % 2 := by omega
      rw [h1]
      simp)]
def brT (f : F) : Bool := brL f.atts2
set_option maxHeartbeats 1000000 in
theorem branches_c (f : F) (he : f.All (MayC 28 expT)) (hs : f.All (MayC 29 stmtsT)) (A : Option Addr) (n c : Nat) (hle : n ≤ c) (hn : c ≤ maxLen) (w : World) (hv : Var0 w) (hl : IsL w A n f) :
    Calls Try.prog 58 #[.slice A n c] w fun e w' => e = .returned (.bool (brT f)) ∧ Chg NoB w w' := by
  have hlen := hl.len
  have Heq : Hid (brT f = allN (brI f.atts2) n) := Go.Lib.hid (by unfold brT; rw [brL_allN, F.atts2_len, hlen])
  have Hlen := Go.Lib.hid hlen
  have HE := Go.Lib.hid he
  have HS := Go.Lib.hid hs
  have HL := Go.Lib.hid hl
  have HV := Go.Lib.hid hv
  unfold maxLen at hn
  clear hlen he hs hl hv
  go_enter Try.func58, Try.ntmps58
  go_wp2_with fail
  go_loopw [7] (fun i W => ∃ k : Nat, k ≤ n ∧ i = .int .i64 k ∧ allN (brI f.atts2) k = true ∧ Chg NoB w W) (fun i _ => n - (intOf i).toNat)
  case atStart => exact ⟨0, Nat.zero_le _, rfl, rfl, Chg.refl _ _⟩
  case round =>
    obtain ⟨k, hk, rfl, hall, hch⟩ := hrel
    have Hall := Go.Lib.hid hall
    have Hch := Go.Lib.hid hch
    clear hall hch
    by_cases hlt : k < n
    · have hl := HL.out.chg Hch.out
      obtain ⟨b, o, d, ks, r, kA, kn, kc, rfl, hd, ok, h1, h2, c0, c1, c2, c3, c4, hks⟩ := hl.at_ hlt
      have ha := F.at_drop f k hd
      have hg := F.at_att2 f k ha
      have hcb : Chg NoB wr (wr.alloc (.cells #[.int .i64 d.kind, .string d.nm, .int .u32 d.val, .bool d.mark, .slice kA kn kc] 28)) := (Chg.refl _ _).alloc _
      have Hcb := Go.Lib.hid (Hch.out.trans hcb)
      have hE := F.All.at_ HE.out ha kA kn kc _ (HV.out.chg Hcb.out) ⟨ok, h1, h2, hks.chg hcb⟩
      have hS := F.All.at_ HS.out ha kA kn kc _ (HV.out.chg Hcb.out) ⟨ok, h1, h2, hks.chg hcb⟩
      unfold nodeV at hE hS
      have CE := Go.Lib.hid hE
      have CS := Go.Lib.hid hS
      clear hl hd ok h1 h2 hks ha hcb hE hS
      by_cases hev : k % 2 = 0 ∧ k + 1 < n
      · have hq : brI f.atts2 k = expT d ks := by
          unfold brI
          rw [hg, F.atts2_len, ← Hlen.out]
          have : (k % 2 == 0 && decide (k + 1 < n)) = true := by simp [hev.1, hev.2]
          rw [this]; rfl
        have Hq := Go.Lib.hid hq
        have hm : (((k : Int) % 2) == 0) = true := by simp; omega
        have hlt2 : (k : Int) < n - 1 := by omega
        clear hq hev hg
        go_wp2_with fail
        refine CE.out.mono ?_
        rintro e w1 ⟨rfl, hc⟩
        have HC := Go.Lib.hid (Hcb.out.trans hc)
        clear hc
        cases hp : expT d ks with
        | true =>
          have HN : Hid (allN (brI f.atts2) (k + 1) = true) := Go.Lib.hid (by simp only [allN]; rw [Hall.out, Hq.out, hp]; rfl)
          clear hp
          go_wp2_with fail
          go_roundw
          case rel => exact ⟨k + 1, by omega, by go_num, HN.out, HC.out⟩
          case measure => simp [intOf]; omega
        | false =>
          have HF : Hid (brT f = false) := Go.Lib.hid (by rw [Heq.out]; exact allN_false _ (k + 1) n (by simp only [allN]; rw [Hq.out, hp]; simp) (by omega))
          clear hp
          go_wp2_with fail
          go_ret
          exact ⟨congrArg (fun b => Ending.returned (.bool b)) HF.out.symm, HC.out⟩
      · have hq : brI f.atts2 k = stmtsT d ks := by
          unfold brI
          rw [hg, F.atts2_len, ← Hlen.out]
          have : (k % 2 == 0 && decide (k + 1 < n)) = false := by
            rw [Bool.eq_false_iff]
            intro h
            simp at h
            exact hev h
          rw [this]; rfl
        have Hq := Go.Lib.hid hq
        have hcs : ((((k : Int) % 2) == 0) = false) ∨ ((((k : Int) % 2) == 0) = true ∧ ¬ (k : Int) < n - 1) := by
          by_cases h2 : k % 2 = 0
          · exact .inr ⟨by simp; omega, by omega⟩
          · exact .inl (by simp; omega)
        clear hq hev hg
        rcases hcs with hm | ⟨hm, hlt2⟩
        all_goals
          go_wp2_with fail
          refine CS.out.mono ?_
          rintro e w1 ⟨rfl, hc⟩
          have HC := Go.Lib.hid (Hcb.out.trans hc)
          clear hc
          cases hp : stmtsT d ks with
          | true =>
            have HN : Hid (allN (brI f.atts2) (k + 1) = true) := Go.Lib.hid (by simp only [allN]; rw [Hall.out, Hq.out, hp]; rfl)
            clear hp
            go_wp2_with fail
            go_roundw
            case rel => exact ⟨k + 1, by omega, by go_num, HN.out, HC.out⟩
            case measure => simp [intOf]; omega
          | false =>
            have HF : Hid (brT f = false) := Go.Lib.hid (by rw [Heq.out]; exact allN_false _ (k + 1) n (by simp only [allN]; rw [Hq.out, hp]; simp) (by omega))
            clear hp
            go_wp2_with fail
            go_ret
            exact ⟨congrArg (fun b => Ending.returned (.bool b)) HF.out.symm, HC.out⟩
    · obtain rfl : k = n := by omega
      go_wp2_with fail
      go_ret
      exact ⟨congrArg (fun b => Ending.returned (.bool b)) (by rw [Heq.out, Hall.out]), Hch.out⟩
end Go.Proofs.Ytnihjkcniddepaa
