/- What is proved: the contracts of tree's Size and Depth. Conditions: as many nodes as an int counts. -/
import Derived.Test.YtnihjkcniddepaaLev
namespace Go.Proofs.Ytnihjkcniddepaa
open Go.RowKit
namespace F
def size : F → Nat
  | .nil => 0
  | .cons _ ks r => 1 + ks.size + r.size
def deep : F → Nat
  | .nil => 0
  | .cons _ ks r => max (1 + ks.deep) r.deep
theorem take_size (f : F) (k : Nat) : ∀ {d ks r}, f.drop k = .cons d ks r → (f.take (k + 1)).size = (f.take k).size + (1 + ks.size) ∧ (f.take (k + 1)).deep = max (f.take k).deep (1 + ks.deep) := by
  induction f generalizing k with
  | nil => intro d ks r h; rw [drop_nil] at h; cases h
  | cons d0 k0 r0 _ ih =>
    intro d ks r h
    cases k with
    | zero => simp only [drop] at h; injection h with h1 h2 _; subst h1; subst h2; simp [take, size, deep]
    | succ k =>
      obtain ⟨h1, h2⟩ := ih k h
      simp only [take, size, deep] at h1 h2 ⊢
      rw [h1, h2]
      omega
theorem take_size_le (f : F) (k : Nat) : (f.take k).size ≤ f.size ∧ (f.take k).deep ≤ f.deep := by
  induction f generalizing k with
  | nil => cases k <;> simp [take, size, deep]
  | cons d ks r _ ih =>
    cases k with
    | zero => simp [take, size, deep]
    | succ k => have := ih k; simp only [take, size, deep]; omega
theorem deep_le (f : F) : f.deep ≤ f.size := by
  induction f with
  | nil => simp [deep, size]
  | cons d ks r h1 h2 => simp only [deep, size]; omega
end F
def SizeC (d : Own) (ks : F) : Prop :=
  ∀ (kA : Option Addr) (kn kc : Nat) (W : World), IsN W d ks kA kn kc → ks.size ≤ 1000000000 → Calls Try.prog 22 #[nodeV d kA kn kc] W fun e w' => e = .returned (.int .i64 (1 + (ks.size : Int))) ∧ Chg NoB W w'
def DeepC (d : Own) (ks : F) : Prop :=
  ∀ (kA : Option Addr) (kn kc : Nat) (W : World), IsN W d ks kA kn kc → ks.size ≤ 1000000000 → Calls Try.prog 24 #[nodeV d kA kn kc] W fun e w' => e = .returned (.int .i64 (1 + (ks.deep : Int))) ∧ Chg NoB W w'
set_option maxHeartbeats 400000 in
theorem size_c (d : Own) (ks : F) (hks : ks.All SizeC) : SizeC d ks := by
  intro kA kn kc w hN hsz
  have hlen := hN.kids.len
  have hle := hN.le
  have hmo := hN.most
  unfold maxLen at hmo
  have HN := Go.Lib.hid hN
  have Hlen := Go.Lib.hid hlen
  have Hks := Go.Lib.hid hks
  clear hN hlen hks
  have H0 : Hid (Chg NoB w (w.alloc (.cells #[.int .i64 d.kind, .string d.nm, .int .u32 d.val, .bool d.mark, .slice kA kn kc] 28))) := Go.Lib.hid ((Chg.refl _ _).alloc _)
  unfold nodeV
  go_enter Try.func22, Try.ntmps22
  go_wp2_with fail
  go_loopw [3, 9] (fun v i W => ∃ k : Nat, k ≤ kn ∧ i = .int .i64 k ∧ v = .int .i64 (1 + ((ks.take k).size : Int)) ∧ Chg NoB w W) (fun _ i _ => kn - (intOf i).toNat)
  case atStart => exact ⟨0, Nat.zero_le _, rfl, by cases ks <;> rfl, H0.out⟩
  case round =>
    obtain ⟨k, hk, rfl, rfl, hch⟩ := hrel
    have Hch := Go.Lib.hid hch
    clear hch
    by_cases hlt : k < kn
    · have hl := HN.out.kids.chg Hch.out
      obtain ⟨b, o, d1, k1, r, kA1, kn1, kc1, rfl, hd, ok, h1, h2, c0, c1, c2, c3, c4, hk1⟩ := hl.at_ hlt
      have hs := (F.take_size ks k hd).1
      have hs2 := (F.take_size_le ks (k + 1)).1
      have hb : (ks.take k).size + (1 + k1.size) ≤ 1000000000 := by omega
      have hcb : Chg NoB wr (wr.alloc (.cells #[.int .i64 d1.kind, .string d1.nm, .int .u32 d1.val, .bool d1.mark, .slice kA1 kn1 kc1] 28)) := (Chg.refl _ _).alloc _
      have Hc := Go.Lib.hid (F.All.at_ Hks.out (F.at_drop ks k hd) kA1 kn1 kc1 _ ⟨ok, h1, h2, hk1.chg hcb⟩ (by omega))
      have HS := Go.Lib.hid hs
      have Hcb := Go.Lib.hid hcb
      clear hl hd ok h1 h2 hk1 hs hs2 hcb
      go_wp2_with fail
      refine Hc.out.mono ?_
      rintro e w1 ⟨rfl, hc1⟩
      go_wp2_with fail
      go_roundw
      case rel => exact ⟨k + 1, by omega, by go_num, by rw [HS.out]; go_num, (Hch.out.trans Hcb.out).trans hc1⟩
      case measure => simp [intOf]; omega
    · obtain rfl : k = kn := by omega
      go_wp2_with fail
      go_ret
      exact ⟨congrArg (fun b => Ending.returned (.int .i64 b)) (by rw [Hlen.out, F.take_len]), Hch.out⟩
set_option maxHeartbeats 400000 in
theorem deep_c (d : Own) (ks : F) (hks : ks.All DeepC) : DeepC d ks := by
  intro kA kn kc w hN hsz
  have hlen := hN.kids.len
  have hle := hN.le
  have hmo := hN.most
  unfold maxLen at hmo
  have HN := Go.Lib.hid hN
  have Hlen := Go.Lib.hid hlen
  have Hks := Go.Lib.hid hks
  clear hN hlen hks
  have H0 : Hid (Chg NoB w (w.alloc (.cells #[.int .i64 d.kind, .string d.nm, .int .u32 d.val, .bool d.mark, .slice kA kn kc] 28))) := Go.Lib.hid ((Chg.refl _ _).alloc _)
  unfold nodeV
  go_enter Try.func24, Try.ntmps24
  go_wp2_with fail
  go_loopw [3, 9] (fun v i W => ∃ k : Nat, k ≤ kn ∧ i = .int .i64 k ∧ v = .int .i64 ((ks.take k).deep : Int) ∧ Chg NoB w W) (fun _ i _ => kn - (intOf i).toNat)
  case atStart => exact ⟨0, Nat.zero_le _, rfl, by cases ks <;> rfl, H0.out⟩
  case round =>
    obtain ⟨k, hk, rfl, rfl, hch⟩ := hrel
    have Hch := Go.Lib.hid hch
    clear hch
    have hdl := F.deep_le ks
    have hd2 := (F.take_size_le ks k).2
    by_cases hlt : k < kn
    · have hl := HN.out.kids.chg Hch.out
      obtain ⟨b, o, d1, k1, r, kA1, kn1, kc1, rfl, hd, ok, h1, h2, c0, c1, c2, c3, c4, hk1⟩ := hl.at_ hlt
      have hs := (F.take_size ks k hd).2
      have hs1 := (F.take_size ks k hd).1
      have hs2 := (F.take_size_le ks (k + 1)).1
      have hdk := F.deep_le k1
      have hcb : Chg NoB wr (wr.alloc (.cells #[.int .i64 d1.kind, .string d1.nm, .int .u32 d1.val, .bool d1.mark, .slice kA1 kn1 kc1] 28)) := (Chg.refl _ _).alloc _
      have Hc := Go.Lib.hid (F.All.at_ Hks.out (F.at_drop ks k hd) kA1 kn1 kc1 _ ⟨ok, h1, h2, hk1.chg hcb⟩ (by omega))
      have HS := Go.Lib.hid hs
      have Hcb := Go.Lib.hid hcb
      clear hl hd ok h1 h2 hk1 hs hs1 hs2 hcb
      go_wp2_with fail
      refine Hc.out.mono ?_
      rintro e w1 ⟨rfl, hc1⟩
      go_wp2_with fail
      go_roundw
      case rel => exact ⟨k + 1, by omega, by go_num, congrArg (Value.int .i64) (by rw [HS.out]; omega), (Hch.out.trans Hcb.out).trans hc1⟩
      case measure => simp [intOf]; omega
    · obtain rfl : k = kn := by omega
      go_wp2_with fail
      go_ret
      exact ⟨congrArg (fun b => Ending.returned (.int .i64 b)) (by rw [Hlen.out, F.take_len]; omega), Hch.out⟩
theorem Size_c (d : Own) (ks : F) : SizeC d ks := (F.each size_c (.cons d ks .nil)).1
theorem Depth_c (d : Own) (ks : F) : DeepC d ks := (F.each deep_c (.cons d ks .nil)).1
end Go.Proofs.Ytnihjkcniddepaa
