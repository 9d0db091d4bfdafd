/- What is proved: the contract of the reference's Same. Conditions: none. -/
import Derived.Test.YtnihjkcniddepaaCopy
namespace Go.Proofs.Ytnihjkcniddepaa
open Go.RowKit
def ownB (a b : Own) : Bool := (a.kind == b.kind) && (a.nm.toList == b.nm.toList) && (a.val == b.val) && (a.mark == b.mark)
namespace F
def same : F → F → Bool
  | .nil, .nil => true
  | .cons d ks r, .cons d' ks' r' => ownB d d' && ks.same ks' && r.same r'
  | _, _ => false
theorem same_len (f : F) : ∀ g, f.same g = true → f.len = g.len := by
  induction f with
  | nil => intro g h; cases g with
    | nil => rfl
    | cons => simp [same] at h
  | cons d ks r _ ih => intro g h; cases g with
    | nil => simp [same] at h
    | cons d' ks' r' =>
      simp only [same, Bool.and_eq_true] at h
      simp [len, ih r' h.2]
theorem same_take (f : F) : ∀ (g : F) (k : Nat) {d ks r d' ks' r'}, f.drop k = .cons d ks r → g.drop k = .cons d' ks' r' → (f.take (k + 1)).same (g.take (k + 1)) = ((f.take k).same (g.take k) && (ownB d d' && ks.same ks')) := by
  induction f with
  | nil => intro g k d ks r d' ks' r' h; rw [drop_nil] at h; cases h
  | cons d0 k0 r0 _ ih =>
    intro g k d ks r d' ks' r' h h'
    cases g with
    | nil => rw [drop_nil] at h'; cases h'
    | cons e0 l0 s0 =>
      cases k with
      | zero => simp only [drop] at h h'; injection h with h1 h2 _; injection h' with h3 h4 _; subst h1; subst h2; subst h3; subst h4; simp [take, same]
      | succ k => simp only [take, same]; rw [ih s0 k h h']; simp only [Bool.and_assoc]
theorem same_false (f : F) : ∀ (g : F) (k : Nat), (f.take k).same (g.take k) = false → f.len = g.len → f.same g = false := by
  induction f with
  | nil => intro g k h hl; cases g with
    | nil => cases k <;> simp [take, same] at h
    | cons => simp [len] at hl
  | cons d ks r _ ih => intro g k h hl; cases g with
    | nil => simp [len] at hl
    | cons d' ks' r' =>
      cases k with
      | zero => simp [take, same] at h
      | succ k =>
        simp only [take, same, Bool.and_eq_false_iff] at h ⊢
        simp only [len] at hl
        rcases h with h | h
        · exact .inl h
        · exact .inr (ih r' k h (by omega))
theorem same_refl (f : F) : f.same f = true := by
  induction f with
  | nil => rfl
  | cons d ks r h1 h2 => simp [same, ownB, h1, h2]
end F
def sameT (d : Own) (ks : F) (d' : Own) (ks' : F) : Bool := ownB d d' && ks.same ks'
def SameC (d : Own) (ks : F) : Prop :=
  ∀ (kA : Option Addr) (kn kc : Nat) (d' : Own) (ks' : F) (kA' : Option Addr) (kn' kc' : Nat) (W : World), IsN W d ks kA kn kc → IsN W d' ks' kA' kn' kc' →
    Calls Try.prog 21 #[nodeV d kA kn kc, nodeV d' kA' kn' kc'] W fun e w' => e = .returned (.bool (sameT d ks d' ks')) ∧ Chg NoB W w'
section
variable (d d' : Own) (ks ks' : F) (kA kA' : Option Addr) (kn kc kn' kc' : Nat) (w : World)
set_option maxHeartbeats 1000000 in
theorem same_own (hN : IsN w d ks kA kn kc) (hN' : IsN w d' ks' kA' kn' kc') (h : ownB d d' = false ∨ kn ≠ kn') :
    Calls Try.prog 21 #[nodeV d kA kn kc, nodeV d' kA' kn' kc'] w fun e w' => e = .returned (.bool (sameT d ks d' ks')) ∧ Chg NoB w w' := by
  have Heq : Hid (sameT d ks d' ks' = false) := Go.Lib.hid (by
    unfold sameT
    rcases h with h | h
    · rw [h]; rfl
    · cases hs : ks.same ks' with
      | false => simp
      | true =>
        have := F.same_len ks ks' hs
        rw [← hN.kids.len, ← hN'.kids.len] at this
        exact absurd this h)
  have H0 : Hid (∀ o o', Chg NoB w ((w.alloc o).alloc o')) := Go.Lib.hid fun o o' => ((Chg.refl _ _).alloc _).alloc _
  have hcs : ((d.kind != d'.kind) = true) ∨ ((d.kind != d'.kind) = false ∧ (d.nm.toList == d'.nm.toList) = false) ∨ ((d.kind != d'.kind) = false ∧ (d.nm.toList == d'.nm.toList) = true ∧ (d.val != d'.val) = true) ∨
      ((d.kind != d'.kind) = false ∧ (d.nm.toList == d'.nm.toList) = true ∧ (d.val != d'.val) = false ∧ ¬ d.mark = d'.mark) ∨
      ((d.kind != d'.kind) = false ∧ (d.nm.toList == d'.nm.toList) = true ∧ (d.val != d'.val) = false ∧ d.mark = d'.mark ∧ ((kn : Int) != kn') = true) := by
    unfold ownB at h
    by_cases h1 : d.kind = d'.kind <;> by_cases h2 : d.nm.toList = d'.nm.toList <;> by_cases h3 : d.val = d'.val <;> by_cases h4 : d.mark = d'.mark <;> simp_all <;> omega
  clear hN hN' h
  unfold nodeV
  rcases hcs with h1 | ⟨h1, h2⟩ | ⟨h1, h2, h3⟩ | ⟨h1, h2, h3, h4⟩ | ⟨h1, h2, h3, h4, h5⟩
  all_goals
    go_enter Try.func21, Try.ntmps21
    go_wp2_with fail
    go_ret
    exact ⟨by rw [Heq.out]; rfl, H0.out _ _⟩
set_option maxHeartbeats 2000000 in
theorem same_c (hks : ks.All SameC) (hN : IsN w d ks kA kn kc) (hN' : IsN w d' ks' kA' kn' kc') (h : ownB d d' = true) (hkn : kn = kn') :
    Calls Try.prog 21 #[nodeV d kA kn kc, nodeV d' kA' kn' kc'] w fun e w' => e = .returned (.bool (sameT d ks d' ks')) ∧ Chg NoB w w' := by
  subst hkn
  have Heq : Hid (sameT d ks d' ks' = ks.same ks') := Go.Lib.hid (by unfold sameT; rw [h]; rfl)
  have hle := hN.le
  have hmo := hN.most
  unfold maxLen at hmo
  have hle' := hN'.le
  have hmo' := hN'.most
  unfold maxLen at hmo'
  have Hl := Go.Lib.hid hN.kids.len
  have Hl' := Go.Lib.hid hN'.kids.len
  have HN := Go.Lib.hid hN
  have HN' := Go.Lib.hid hN'
  have Hks := Go.Lib.hid hks
  have h1 : (d.kind != d'.kind) = false := by unfold ownB at h; simp at h; simp [h.1.1.1]
  have h2 : (d.nm.toList == d'.nm.toList) = true := by unfold ownB at h; simp at h; simp [h.1.1.2]
  have h3 : (d.val != d'.val) = false := by unfold ownB at h; simp at h; simp [h.1.2]
  have h4 : d.mark = d'.mark := by unfold ownB at h; simp at h; exact h.2
  have h5 : ((kn : Int) != kn) = false := by simp
  have H0 : Hid (Chg NoB w ((w.alloc (.cells #[.int .i64 d.kind, .string d.nm, .int .u32 d.val, .bool d'.mark, .slice kA kn kc] 28)).alloc (.cells #[.int .i64 d'.kind, .string d'.nm, .int .u32 d'.val, .bool d'.mark, .slice kA' kn kc'] 28))) := Go.Lib.hid (((Chg.refl _ _).alloc _).alloc _)
  clear hN hN' hks h
  unfold nodeV
  go_enter Try.func21, Try.ntmps21
  go_wp2_with fail
  generalize hW : ((w.alloc _).alloc _) = W0 at H0 ⊢
  have hb0 : Blk W0 w.heap.size 28 #[.int .i64 d.kind, .string d.nm, .int .u32 d.val, .bool d'.mark, .slice kA kn kc] := by
    rw [← hW]; exact (Blk.new _ _ _).alloc _
  have hb1 : Blk W0 (w.heap.size + 1) 28 #[.int .i64 d'.kind, .string d'.nm, .int .u32 d'.val, .bool d'.mark, .slice kA' kn kc'] := by
    rw [← hW]; exact Blk.at_ _ _ _ _ (by simp)
  have HB : Hid (∀ W, Chg NoB W0 W → W.cell? ⟨w.heap.size, 4, none⟩ = some (.slice kA kn kc) ∧ W.cell? ⟨w.heap.size + 1, 4, none⟩ = some (.slice kA' kn kc')) := Go.Lib.hid fun W hW => ⟨(hb0.chg hW id).cell 4, (hb1.chg hW id).cell 4⟩
  clear hW hb0 hb1 h1 h2 h3 h4 h5
  go_loopw [5] (fun i W => ∃ k : Nat, k ≤ kn ∧ i = .int .i64 k ∧ (ks.take k).same (ks'.take k) = true ∧ Chg NoB W0 W) (fun i _ => kn - (intOf i).toNat)
  case atStart => exact ⟨0, Nat.zero_le _, rfl, by cases ks <;> cases ks' <;> rfl, Chg.refl _ _⟩
  case round =>
    obtain ⟨k, hk, rfl, hsame, hch⟩ := hrel
    have Hch := Go.Lib.hid hch
    have Hsame := Go.Lib.hid hsame
    clear hch hsame
    by_cases hlt : k < kn
    · have hl := HN.out.kids.chg (H0.out.trans Hch.out)
      have hl' := HN'.out.kids.chg (H0.out.trans Hch.out)
      obtain ⟨b, o, d1, k1, r1, kA1, kn1, kc1, rfl, hd1, ok1, l1, m1, c0, c1, c2, c3, c4, hk1⟩ := hl.at_ hlt
      obtain ⟨b', o', d2, k2, r2, kA2, kn2, kc2, rfl, hd2, ok2, l2, m2, e0, e1, e2, e3, e4, hk2⟩ := hl'.at_ hlt
      have HS : Hid (∀ W, Chg NoB wr W → W.cell? ⟨w.heap.size, 4, none⟩ = some (.slice (some ⟨b, o, none⟩) kn kc) ∧ W.cell? ⟨w.heap.size + 1, 4, none⟩ = some (.slice (some ⟨b', o', none⟩) kn kc') ∧ W.cell? ⟨b, o + k * 5, none⟩ = some (.int .i64 d1.kind) ∧ W.cell? ⟨b, o + k * 5 + 1, none⟩ = some (.string d1.nm) ∧ W.cell? ⟨b, o + k * 5 + 2, none⟩ = some (.int .u32 d1.val) ∧ W.cell? ⟨b, o + k * 5 + 3, none⟩ = some (.bool d1.mark) ∧ W.cell? ⟨b, o + k * 5 + 4, none⟩ = some (.slice kA1 kn1 kc1) ∧ W.cell? ⟨b', o' + k * 5, none⟩ = some (.int .i64 d2.kind) ∧ W.cell? ⟨b', o' + k * 5 + 1, none⟩ = some (.string d2.nm) ∧ W.cell? ⟨b', o' + k * 5 + 2, none⟩ = some (.int .u32 d2.val) ∧ W.cell? ⟨b', o' + k * 5 + 3, none⟩ = some (.bool d2.mark) ∧ W.cell? ⟨b', o' + k * 5 + 4, none⟩ = some (.slice kA2 kn2 kc2)) := Go.Lib.hid fun W hW =>
        ⟨(HB.out _ (Hch.out.trans hW)).1, (HB.out _ (Hch.out.trans hW)).2, hW.cell c0 id, hW.cell c1 id, hW.cell c2 id, hW.cell c3 id, hW.cell c4 id, hW.cell e0 id, hW.cell e1 id, hW.cell e2 id, hW.cell e3 id, hW.cell e4 id⟩
      have Hc : Hid (∀ W, Chg NoB wr W → Calls Try.prog 21 #[nodeV d1 kA1 kn1 kc1, nodeV d2 kA2 kn2 kc2] W fun e w' => e = .returned (.bool (sameT d1 k1 d2 k2)) ∧ Chg NoB W w') := Go.Lib.hid fun W hW =>
        F.All.at_ Hks.out (F.at_drop ks k hd1) kA1 kn1 kc1 d2 k2 kA2 kn2 kc2 W ⟨ok1, l1, m1, hk1.chg hW⟩ ⟨ok2, l2, m2, hk2.chg hW⟩
      have Hst := Go.Lib.hid (F.same_take ks ks' k hd1 hd2)
      obtain ⟨hp4, hq4⟩ := HB.out _ Hch.out
      have hi1 : (0 : Int) ≤ k := by omega
      have hi2 : (k : Int) < kn := by omega
      clear hl hl' hd1 hd2 ok1 ok2 l1 l2 m1 m2 hk1 hk2
      unfold nodeV at Hc
      go_wp2_with fail
      set_option maxRecDepth 100000 in
      go_region_held3 (fun W => W.cell? ⟨w.heap.size, 4, none⟩ = some (.slice (some ⟨b, o, none⟩) kn kc) ∧ W.cell? ⟨w.heap.size + 1, 4, none⟩ = some (.slice (some ⟨b', o', none⟩) kn kc') ∧ W.cell? ⟨b, o + k * 5, none⟩ = some (.int .i64 d1.kind) ∧ W.cell? ⟨b, o + k * 5 + 1, none⟩ = some (.string d1.nm) ∧ W.cell? ⟨b, o + k * 5 + 2, none⟩ = some (.int .u32 d1.val) ∧ W.cell? ⟨b, o + k * 5 + 3, none⟩ = some (.bool d1.mark) ∧ W.cell? ⟨b, o + k * 5 + 4, none⟩ = some (.slice kA1 kn1 kc1) ∧ W.cell? ⟨b', o' + k * 5, none⟩ = some (.int .i64 d2.kind) ∧ W.cell? ⟨b', o' + k * 5 + 1, none⟩ = some (.string d2.nm) ∧ W.cell? ⟨b', o' + k * 5 + 2, none⟩ = some (.int .u32 d2.val) ∧ W.cell? ⟨b', o' + k * 5 + 3, none⟩ = some (.bool d2.mark) ∧ W.cell? ⟨b', o' + k * 5 + 4, none⟩ = some (.slice kA2 kn2 kc2))
        (first
          | exact HS.out _ ((Chg.refl _ _).drew)
          | exact HS.out _ (((Chg.refl _ _).drew).trans hc1))
        (first
          | (go_at_call 21; (with_reducible refine (Hc.out _ ((Chg.refl _ _).drew)).mono ?_); rintro e w1 ⟨rfl, hc1⟩))
      have Hc1 := Go.Lib.hid (Hch.out.trans (((Chg.refl _ _).drew).trans hc1))
      clear hc1
      cases hs : sameT d1 k1 d2 k2 with
      | true =>
        have HSt : Hid ((ks.take (k + 1)).same (ks'.take (k + 1)) = true) := Go.Lib.hid (by
          rw [Hst.out, Hsame.out]; exact hs)
        clear hs
        go_wp2_with fail
        go_roundw
        case rel => first | exact ⟨k + 1, by omega, by go_num, HSt.out, Hc1.out⟩ | ((repeat apply Exists.intro); exact ⟨⟨k + 1, by omega, by go_num, HSt.out, Hc1.out⟩, rfl⟩)
        case measure => simp [intOf]; omega
      | false =>
        have HF : Hid (sameT d ks d' ks' = false) := Go.Lib.hid (by
          rw [Heq.out]
          refine F.same_false ks ks' (k + 1) ?_ (by rw [← Hl.out, ← Hl'.out])
          rw [Hst.out]
          have : (ownB d1 d2 && k1.same k2) = false := hs
          rw [this]; simp)
        clear hs
        go_wp2_with fail
        go_ret
        exact ⟨congrArg (fun b => Ending.returned (.bool b)) HF.out.symm, H0.out.trans Hc1.out⟩
    · obtain rfl : k = kn := by omega
      have HT : Hid (sameT d ks d' ks' = true) := Go.Lib.hid (by
        rw [Heq.out]
        have := Hsame.out
        rw [show k = ks.len from Hl.out, F.take_len] at this
        rwa [show ks.len = ks'.len from by rw [← Hl.out, ← Hl'.out], F.take_len] at this)
      obtain ⟨hp4, hq4⟩ := HB.out _ Hch.out
      go_wp2_with fail
      go_ret
      exact ⟨congrArg (fun b => Ending.returned (.bool b)) HT.out.symm, H0.out.trans Hch.out⟩
end
theorem Same_c (d : Own) (ks : F) : SameC d ks :=
  (F.each (fun d ks hks => by
    intro kA kn kc d' ks' kA' kn' kc' w hN hN'
    cases ho : ownB d d' with
    | false => exact same_own d d' ks ks' kA kA' kn kc kn' kc' w hN hN' (.inl ho)
    | true =>
      by_cases hkn : kn = kn'
      · exact same_c d d' ks ks' kA kA' kn kc kn' kc' w hks hN hN' ho hkn
      · exact same_own d d' ks ks' kA kA' kn kc kn' kc' w hN hN' (.inr hkn)) (.cons d ks .nil)).1
end Go.Proofs.Ytnihjkcniddepaa
