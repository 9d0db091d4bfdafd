/- What is proved: the contract of tree's all, over whatever function is handed in. Conditions: that function's own contract. -/
import Derived.Test.YtnihjkcniddepaaIs
import Derived.WalkMore
namespace Go.Proofs.Ytnihjkcniddepaa
open Go.RowKit
def allN (q : Nat → Bool) : Nat → Bool
  | 0 => true
  | n + 1 => allN q n && q n
theorem allN_false (q : Nat → Bool) (k n : Nat) (h : allN q k = false) (hk : k ≤ n) : allN q n = false := by
  induction n with
  | zero => obtain rfl : k = 0 := by omega
            exact h
  | succ n ih =>
    by_cases e : k = n + 1
    · subst e; exact h
    · simp [allN, ih (by omega)]
set_option maxHeartbeats 1000000 in
theorem all_any (g : FuncId) (caps : Array Value) (q : Nat → Bool) (G : Nat → Prop) (X : Nat → World → Prop) (w : World) (A : Option Addr) (n c : Nat) (f : F) (hn : n ≤ maxLen)
    (hg : ∀ args w, (callFunc g args).run Try.prog w = .ok (.enter g args) w) (hX : ∀ k W W', X k W → Chg NoB W W' → X k W') (hL : ∀ W, Chg G w W → IsL W A n f) (hX0 : X 0 w)
    (hcall : ∀ k d ks r, f.drop k = .cons d ks r → k < n → ∀ W kA kn kc, Chg G w W → X k W → IsN W d ks kA kn kc →
      Calls Try.prog g (#[nodeV d kA kn kc] ++ caps) W fun e W' => e = .returned (.bool (q k)) ∧ Chg G w W' ∧ (q k = true → X (k + 1) W')) :
    Calls Try.prog 44 #[.slice A n c, .func (.func g) #[] caps] w fun e W' => e = .returned (.bool (allN q n)) ∧ Chg G w W' ∧ (allN q n = true → X n W') := by
  unfold maxLen at hn
  have HX := Go.Lib.hid hX


  have HL := Go.Lib.hid hL
  have HX0 := Go.Lib.hid hX0
  have HC := Go.Lib.hid hcall
  clear hX hL hX0 hcall
  go_enter Try.func44, Try.ntmps44
  go_wp2_with fail
  go_step3
  go_wp2_with fail
  go_step3
  go_wp2_with fail
  go_loopw [5, 10] (fun v i W => ∃ k : Nat, k ≤ n ∧ i = .int .i64 k ∧ v = .bool true ∧ allN q k = true ∧ Chg G w W ∧ X k W) (fun _ i _ => n - (intOf i).toNat)
  case atStart => exact ⟨0, Nat.zero_le _, rfl, rfl, rfl, Chg.refl _ _, HX0.out⟩
  case round =>
    obtain ⟨k, hk, rfl, rfl, hall, hch, hx⟩ := hrel
    have Hall := Go.Lib.hid hall
    have Hch := Go.Lib.hid hch
    have Hx := Go.Lib.hid hx
    clear hall hch hx
    by_cases hlt : k < n
    · have hl := HL.out wr Hch.out
      obtain ⟨b, o, d, ks, r, kA, kn, kc, rfl, hd, ok, h1, h2, c0, c1, c2, c3, c4, hks⟩ := hl.at_ hlt
      have HD := Go.Lib.hid hd
      have Hok := Go.Lib.hid ok
      have Hks := Go.Lib.hid hks
      clear hl hd ok hks
      go_wp2_with fail

      have hcb : Chg NoB wr (wr.alloc (.cells #[.int .i64 d.kind, .string d.nm, .int .u32 d.val, .bool d.mark, .slice kA kn kc] 28)) := (Chg.refl _ _).alloc _
      refine (HC.out k d ks r HD.out hlt _ kA kn kc (Hch.out.alloc _) (HX.out _ _ _ Hx.out hcb) ⟨Hok.out, h1, h2, Hks.out.chg hcb⟩).mono ?_
      rintro e w1 ⟨rfl, hch1, hx1⟩
      have HC1 := Go.Lib.hid hch1
      have HX1 := Go.Lib.hid hx1
      clear hch1 hx1 hcb
      cases hq : q k with
      | true =>
        have Hq := Go.Lib.hid hq
        clear hq
        go_wp2_with fail
        go_roundw
        case rel => exact ⟨k + 1, by omega, by go_num, rfl, by simp [allN, Hall.out, Hq.out], HC1.out, HX1.out Hq.out⟩
        case measure => simp [intOf]; omega
      | false =>
        have Hq := Go.Lib.hid hq
        clear hq
        go_wp2_with fail
        have hfin : allN q n = false := allN_false q (k + 1) n (by simp [allN, Hq.out]) (by omega)
        rw [Exit.noGoto_ret]
        go_ret
        exact ⟨congrArg (fun b => Ending.returned (.bool b)) hfin.symm, HC1.out, by rw [hfin]; exact fun h => by cases h⟩
    · obtain rfl : k = n := by omega
      go_wp2_with fail
      rw [Exit.noGoto_ret]
      go_ret
      exact ⟨congrArg (fun b => Ending.returned (.bool b)) Hall.out.symm, Hch.out, fun _ => Hx.out⟩
end Go.Proofs.Ytnihjkcniddepaa
