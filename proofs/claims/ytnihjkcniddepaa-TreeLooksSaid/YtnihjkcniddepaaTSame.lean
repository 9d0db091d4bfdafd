/- What is proved: the contract of tree's Same at any two nodes. Conditions: none. -/
import Derived.Test.YtnihjkcniddepaaSame
namespace Go.Proofs.Ytnihjkcniddepaa
open Go.RowKit
def TSameC (d : Own) (ks : F) : Prop :=
  ∀ (kA : Option Addr) (kn kc : Nat) (d' : Own) (ks' : F) (kA' : Option Addr) (kn' kc' : Nat) (W : World), IsN W d ks kA kn kc → IsN W d' ks' kA' kn' kc' →
    Calls Try.prog 25 #[nodeV d kA kn kc, nodeV d' kA' kn' kc'] W fun e w' => e = .returned (.bool (sameT d ks d' ks')) ∧ Chg NoB W w'
section
variable (d d' : Own) (ks ks' : F) (kA kA' : Option Addr) (kn kc kn' kc' : Nat) (w : World)
set_option maxHeartbeats 1000000 in
theorem eqf_len (hN : IsN w d ks kA kn kc) (hN' : IsN w d' ks' kA' kn' kc') (h : kn ≠ kn') :
    Calls Try.prog 42 #[.slice kA kn kc, .slice kA' kn' kc', .func (.func 25) #[] #[]] w fun e w' => e = .returned (.bool (ks.same ks')) ∧ Chg NoB w w' := by
  have Heq : Hid (ks.same ks' = false) := Go.Lib.hid (by
    cases hs : ks.same ks' with
    | false => rfl
    | true =>
      have := F.same_len ks ks' hs
      rw [← hN.kids.len, ← hN'.kids.len] at this
      exact absurd this h)
  have hn : ((kn : Int) != kn') = true := by simp; omega
  clear hN hN' h
  go_enter Try.func42, Try.ntmps42
  go_wp2_with fail
  go_ret
  exact ⟨congrArg (fun b => Ending.returned (.bool b)) Heq.out.symm, Chg.refl _ _⟩
set_option maxHeartbeats 2000000 in
theorem eqf_c (hks : ks.All TSameC) (hN : IsN w d ks kA kn kc) (hN' : IsN w d' ks' kA' kn kc') :
    Calls Try.prog 42 #[.slice kA kn kc, .slice kA' kn kc', .func (.func 25) #[] #[]] w fun e w' => e = .returned (.bool (ks.same ks')) ∧ Chg NoB w w' := by
  have hle := hN.le
  have hmo := hN.most
  unfold maxLen at hmo
  have hle' := hN'.le
  have hmo' := hN'.most
  unfold maxLen at hmo'
  have Hl := Go.Lib.hid hN.kids.len
  have Hl' := Go.Lib.hid hN'.kids.len
  have HN := Go.Lib.hid hN
  have HN' := Go.Lib.hid hN'
  have Hks := Go.Lib.hid hks
  have h5 : ((kn : Int) != kn) = false := by simp
  clear hN hN' hks
  go_enter Try.func42, Try.ntmps42
  go_wp2_with fail
  clear h5
  go_loopw [17] (fun i W => ∃ k : Nat, k ≤ kn ∧ i = .int .i64 k ∧ (ks.take k).same (ks'.take k) = true ∧ Chg NoB w W) (fun i _ => kn - (intOf i).toNat)
  case atStart => exact ⟨0, Nat.zero_le _, rfl, by cases ks <;> cases ks' <;> rfl, Chg.refl _ _⟩
  case round =>
    obtain ⟨k, hk, rfl, hsame, hch⟩ := hrel
    have Hch := Go.Lib.hid hch
    have Hsame := Go.Lib.hid hsame
    clear hch hsame
    by_cases hlt : k < kn
    · have hl := HN.out.kids.chg Hch.out
      have hl' := HN'.out.kids.chg Hch.out
      obtain ⟨b, o, d1, k1, r1, kA1, kn1, kc1, rfl, hd1, ok1, l1, m1, c0, c1, c2, c3, c4, hk1⟩ := hl.at_ hlt
      obtain ⟨b', o', d2, k2, r2, kA2, kn2, kc2, rfl, hd2, ok2, l2, m2, e0, e1, e2, e3, e4, hk2⟩ := hl'.at_ hlt
      have hca : ∀ o1 o2, Chg NoB wr ((wr.alloc o1).alloc o2) := fun o1 o2 => ((Chg.refl _ _).alloc _).alloc _
      have g0 := fun o1 => ((Chg.refl NoB wr).alloc o1).cell e0 id
      have g1 := fun o1 => ((Chg.refl NoB wr).alloc o1).cell e1 id
      have g2 := fun o1 => ((Chg.refl NoB wr).alloc o1).cell e2 id
      have g3 := fun o1 => ((Chg.refl NoB wr).alloc o1).cell e3 id
      have g4 := fun o1 => ((Chg.refl NoB wr).alloc o1).cell e4 id
      have Hc := Go.Lib.hid (fun o1 o2 => F.All.at_ Hks.out (F.at_drop ks k hd1) kA1 kn1 kc1 d2 k2 kA2 kn2 kc2 _ ⟨ok1, l1, m1, hk1.chg (hca o1 o2)⟩ ⟨ok2, l2, m2, hk2.chg (hca o1 o2)⟩)
      have Hst := Go.Lib.hid (F.same_take ks ks' k hd1 hd2)
      have Hca := Go.Lib.hid hca
      have hi1 : (0 : Int) ≤ k := by omega
      have hi2 : (k : Int) < kn := by omega
      clear hl hl' hd1 hd2 ok1 ok2 l1 l2 m1 m2 hk1 hk2 hca e0 e1 e2 e3 e4
      go_wp2_with fail
      refine (Hc.out _ _).mono ?_
      rintro e w1 ⟨rfl, hc1⟩
      have Hc1 := Go.Lib.hid (Hch.out.trans ((Hca.out _ _).trans hc1))
      clear hc1 c0 c1 c2 c3 c4 g0 g1 g2 g3 g4
      cases hs : sameT d1 k1 d2 k2 with
      | true =>
        have HSt : Hid ((ks.take (k + 1)).same (ks'.take (k + 1)) = true) := Go.Lib.hid (by
          rw [Hst.out, Hsame.out]; exact hs)
        clear hs
        go_wp2_with fail
        go_roundw
        case rel => exact ⟨k + 1, by omega, by go_num, HSt.out, Hc1.out⟩
        case measure => simp [intOf]; omega
      | false =>
        have HF : Hid (ks.same ks' = false) := Go.Lib.hid (by
          refine F.same_false ks ks' (k + 1) ?_ (by rw [← Hl.out, ← Hl'.out])
          rw [Hst.out]
          have : (ownB d1 d2 && k1.same k2) = false := hs
          rw [this]; simp)
        clear hs
        go_wp2_with fail
        go_ret
        exact ⟨congrArg (fun b => Ending.returned (.bool b)) HF.out.symm, Hc1.out⟩
    · obtain rfl : k = kn := by omega
      have HT : Hid (ks.same ks' = true) := Go.Lib.hid (by
        have := Hsame.out
        rw [show k = ks.len from Hl.out, F.take_len] at this
        rwa [show ks.len = ks'.len from by rw [← Hl.out, ← Hl'.out], F.take_len] at this)
      go_wp2_with fail
      go_ret
      exact ⟨congrArg (fun b => Ending.returned (.bool b)) HT.out.symm, Hch.out⟩
set_option maxHeartbeats 1000000 in
theorem tsame_own (hN : IsN w d ks kA kn kc) (hN' : IsN w d' ks' kA' kn' kc') (h : ownB d d' = false) :
    Calls Try.prog 25 #[nodeV d kA kn kc, nodeV d' kA' kn' kc'] w fun e w' => e = .returned (.bool (sameT d ks d' ks')) ∧ Chg NoB w w' := by
  have Heq : Hid (sameT d ks d' ks' = false) := Go.Lib.hid (by unfold sameT; rw [h]; rfl)
  have H0 : Hid (∀ o o', Chg NoB w ((w.alloc o).alloc o')) := Go.Lib.hid fun o o' => ((Chg.refl _ _).alloc _).alloc _
  have hcs : ((d.kind == d'.kind) = false) ∨ ((d.kind == d'.kind) = true ∧ (d.nm.toList == d'.nm.toList) = false) ∨ ((d.kind == d'.kind) = true ∧ (d.nm.toList == d'.nm.toList) = true ∧ (d.val == d'.val) = false) ∨
      ((d.kind == d'.kind) = true ∧ (d.nm.toList == d'.nm.toList) = true ∧ (d.val == d'.val) = true ∧ (d.mark == d'.mark) = false) := by
    unfold ownB at h
    by_cases h1 : d.kind = d'.kind <;> by_cases h2 : d.nm.toList = d'.nm.toList <;> by_cases h3 : d.val = d'.val <;> by_cases h4 : d.mark = d'.mark <;> simp_all
  clear hN hN' h
  unfold nodeV
  rcases hcs with h1 | ⟨h1, h2⟩ | ⟨h1, h2, h3⟩ | ⟨h1, h2, h3, h4⟩
  all_goals
    go_enter Try.func25, Try.ntmps25
    go_wp2_with fail
    go_ret
    exact ⟨by rw [Heq.out]; rfl, H0.out _ _⟩
set_option maxHeartbeats 1000000 in
theorem tsame_c (hks : ks.All TSameC) (hN : IsN w d ks kA kn kc) (hN' : IsN w d' ks' kA' kn' kc') (h : ownB d d' = true) :
    Calls Try.prog 25 #[nodeV d kA kn kc, nodeV d' kA' kn' kc'] w fun e w' => e = .returned (.bool (sameT d ks d' ks')) ∧ Chg NoB w w' := by
  have Heq : Hid (sameT d ks d' ks' = ks.same ks') := Go.Lib.hid (by unfold sameT; rw [h]; rfl)
  have h1 : (d.kind == d'.kind) = true := by unfold ownB at h; simp at h; simp [h.1.1.1]
  have h2 : (d.nm.toList == d'.nm.toList) = true := by unfold ownB at h; simp at h; simp [h.1.1.2]
  have h3 : (d.val == d'.val) = true := by unfold ownB at h; simp at h; simp [h.1.2]
  have h4 : (d.mark == d'.mark) = true := by unfold ownB at h; simp at h; simp [h.2]
  have hca : ∀ o1 o2, Chg NoB w ((w.alloc o1).alloc o2) := fun o1 o2 => ((Chg.refl _ _).alloc _).alloc _
  have Hca := Go.Lib.hid hca
  have Hc : Hid (∀ o1 o2, Calls Try.prog 42 #[.slice kA kn kc, .slice kA' kn' kc', .func (.func 25) #[] #[]] ((w.alloc o1).alloc o2) fun e w' => e = .returned (.bool (ks.same ks')) ∧ Chg NoB ((w.alloc o1).alloc o2) w') := Go.Lib.hid fun o1 o2 => by
    by_cases hk : kn = kn'
    · subst hk
      exact eqf_c d d' ks ks' kA kA' kn kc kc' _ hks (hN.chg (hca o1 o2)) (hN'.chg (hca o1 o2))
    · exact eqf_len d d' ks ks' kA kA' kn kc kn' kc' _ (hN.chg (hca o1 o2)) (hN'.chg (hca o1 o2)) hk
  clear hN hN' h hks hca
  unfold nodeV
  go_enter Try.func25, Try.ntmps25
  go_wp2_with fail
  refine (Hc.out _ _).mono ?_
  rintro e w1 ⟨rfl, hc⟩
  go_wp2_with fail
  go_ret
  exact ⟨congrArg (fun b => Ending.returned (.bool b)) Heq.out.symm, (Hca.out _ _).trans hc⟩
end
theorem tsame_step (d : Own) (ks : F) (hks : ks.All TSameC) : TSameC d ks := by
  intro kA kn kc d' ks' kA' kn' kc' W hN hN'
  cases h : ownB d d' with
  | false => exact tsame_own d d' ks ks' kA kA' kn kc kn' kc' W hN hN' h
  | true => exact tsame_c d d' ks ks' kA kA' kn kc kn' kc' W hks hN hN' h
theorem TSame_c (d : Own) (ks : F) : TSameC d ks := (F.each tsame_step (.cons d ks .nil)).1
end Go.Proofs.Ytnihjkcniddepaa
