/- What is proved: the contract of tree's named, over whatever functions are handed in. Conditions: those functions' own contracts. -/
import Derived.Test.YtnihjkcniddepaaDefs2
namespace Go.Proofs.Ytnihjkcniddepaa
open Go.RowKit
def lastT (q : Own → F → Bool) (f : F) : Bool := ((f.at? (f.len - 1)).map fun x => q x.1 x.2).getD false
def namedT (p q : Own → F → Bool) (f : F) : Bool := decide (2 ≤ f.len) && ((f.take (f.len - 1)).all p && lastT q f)
theorem named_att2 (P Q : Att2 → Bool) (f : F) : namedL P Q f.atts2 = namedT (fun d ks => P (att2 d ks)) (fun d ks => Q (att2 d ks)) f := by
  unfold namedL namedT lastT
  rw [F.atts2_len, ← F.atts2_take, F.all_att2]
  rcases Nat.eq_zero_or_pos f.len with h0 | h0
  · rw [h0]; rfl
  · obtain ⟨d, ks, r, hd⟩ := f.drop_of_lt (f.len - 1) (by omega)
    have ha := F.at_drop f _ hd
    rw [F.at_att2 f _ ha, ha]; rfl
set_option maxHeartbeats 1000000 in
theorem named_c (g1 g2 : FuncId) (hg1 : ∀ args w, (callFunc g1 args).run Try.prog w = .ok (.enter g1 args) w) (hg2 : ∀ args w, (callFunc g2 args).run Try.prog w = .ok (.enter g2 args) w) (p q : Own → F → Bool) (f : F)
    (hf1 : f.All (MayC g1 p)) (hf2 : f.All (MayC g2 q)) (A : Option Addr) (n c : Nat) (hle : n ≤ c) (hn : c ≤ maxLen) (w : World) (hv : Var0 w) (hl : IsL w A n f) :
    Calls Try.prog 59 #[.slice A n c, .func (.func g1) #[] #[], .func (.func g2) #[] #[]] w fun e w' => e = .returned (.bool (namedT p q f)) ∧ Chg NoB w w' := by
  have hlen := hl.len
  by_cases h2 : 2 ≤ n
  · obtain ⟨b, o, d, ks, r, kA, kn, kc, rfl, hd, ok, l1, l2, c0, c1, c2, c3, c4, hks⟩ := hl.at_ (k := n - 1) (by omega)
    have hall := all_c g1 hg1 p (f.take (n - 1)) (hf1.take (n - 1)) (some ⟨b, o, none⟩) (n - 1) c (by omega) w hv (hl.take (by omega))
    have Heq : Hid (namedT p q f = ((f.take (n - 1)).all p && q d ks)) := Go.Lib.hid (by
      unfold namedT lastT
      rw [← hlen, decide_eq_true h2, F.at_drop f _ hd]; rfl)
    have Hc : Hid (∀ W, Chg NoB w W → Calls Try.prog g2 #[nodeV d kA kn kc] W fun e w' => e = .returned (.bool (q d ks)) ∧ Chg NoB W w') := Go.Lib.hid fun W hW => F.All.at_ hf2 (F.at_drop f _ hd) kA kn kc W (hv.chg hW) ⟨ok, l1, l2, hks.chg hW⟩
    have HK : Hid (∀ W, Chg NoB w W → W.cell? ⟨b, o + (n - 1) * 5, none⟩ = some (.int .i64 d.kind) ∧ W.cell? ⟨b, o + (n - 1) * 5 + 1, none⟩ = some (.string d.nm) ∧ W.cell? ⟨b, o + (n - 1) * 5 + 2, none⟩ = some (.int .u32 d.val) ∧ W.cell? ⟨b, o + (n - 1) * 5 + 3, none⟩ = some (.bool d.mark) ∧ W.cell? ⟨b, o + (n - 1) * 5 + 4, none⟩ = some (.slice kA kn kc)) :=
      Go.Lib.hid fun W hW => ⟨hW.cell c0 id, hW.cell c1 id, hW.cell c2 id, hW.cell c3 id, hW.cell c4 id⟩
    unfold maxLen at hn
    obtain ⟨m, rfl⟩ : ∃ m, n = m + 1 := ⟨n - 1, by omega⟩
    simp only [Nat.add_sub_cancel] at hall Heq HK
    have Hall := Go.Lib.hid hall
    clear hall hf1 hf2 hl hlen hd ok l1 l2 c0 c1 c2 c3 c4 hks hv hg1
    go_enter Try.func59, Try.ntmps59
    go_wp2_with fail
    refine Hall.out.mono ?_
    rintro e w1 ⟨rfl, h1⟩
    obtain ⟨c0, c1, c2, c3, c4⟩ := HK.out _ h1
    have H1 := Go.Lib.hid h1
    clear h1
    cases hp : (f.take m).all p with
    | false =>
      have HF : Hid (namedT p q f = false) := Go.Lib.hid (by rw [Heq.out, hp]; rfl)
      clear hp
      go_wp2_with fail
      go_ret
      exact ⟨by rw [HF.out]; rfl, H1.out⟩
    | true =>
      have HF : Hid (namedT p q f = q d ks) := Go.Lib.hid (by rw [Heq.out, hp]; rfl)
      clear hp
      go_wp2_with fail
      have hc2 := Hc.out _ H1.out
      unfold nodeV at hc2
      refine hc2.mono ?_
      rintro e w2 ⟨rfl, h2⟩
      go_wp2_with fail
      go_ret
      exact ⟨by rw [HF.out]; rfl, H1.out.trans h2⟩
  · have Heq : Hid (namedT p q f = false) := Go.Lib.hid (by
      unfold namedT
      rw [← hlen, decide_eq_false h2]; rfl)
    clear hf1 hf2 hl hlen hg1 hg2
    unfold maxLen at hn
    go_enter Try.func59, Try.ntmps59
    go_wp2_with fail
    go_ret
    exact ⟨by rw [Heq.out]; rfl, Chg.refl _ _⟩
end Go.Proofs.Ytnihjkcniddepaa
