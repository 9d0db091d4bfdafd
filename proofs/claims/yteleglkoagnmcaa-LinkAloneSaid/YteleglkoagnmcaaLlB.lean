/- What is proved: link.Link tells the image that the plain function says, or the error. Conditions: the memory holds a store. -/
import Derived.Test.YteleglkoagnmcaaLlA
import Derived.Test.YteleglkoagnmcaaGLwA
set_option linter.unusedSimpArgs false
set_option linter.unusedVariables false
namespace Go.Proofs.Yteleglkoagnmcaa
open Go Go.RowKit
def linkO (get : ByteArray → Option (List UInt8)) (nm : ByteArray) : Int ⊕ Img :=
  match loadedO get nm with
  | .inl e => .inl e
  | .inr d => imgP haltW d
theorem fit_nil (get : ByteArray → Option (List UInt8)) : Fit get [] [] := ⟨fun i o h => by simp at h, by simp, by simp⟩
theorem loaded_laid {v : V} {nm : ByteArray} {d : List Ob} (h : loadedO (getV v) nm = .inr d) (hn : ∀ o ∈ d, o.key < 4294967296 ∧ ∀ x ∈ o.code, x < 4294967296) : Laid d := by
  have hl := ldAll_fit 201 [] [] nm d (fit_nil _) (by simp) h
  exact ⟨fun o ho => by
    obtain ⟨i, hi⟩ := List.mem_iff_getElem?.1 ho
    exact mayO_iff.1 (ldO_ok (hl.fit.good i o hi).1).2.1, hn, fun i o hi => (hl.fit.good i o hi).2, hl.fit.nod⟩
theorem LayPost.from {B B2 : World} {r : Int ⊕ Img} {e : Ending} {w' : World} (h : LayPost B2 r e w') (hc : Chg NoB B B2) : LayPost B r e w' := by
  obtain ⟨h1, h2⟩ := h
  refine ⟨hc.trans h1, ?_⟩
  cases r with
  | inl er => exact h2
  | inr i =>
    obtain ⟨wv, mv, l, h3, h4, h5, h6, h7⟩ := h2
    exact ⟨wv, mv, l, h3, h4, own_base_ h5 hc.size, own_base_ h6 hc.size, h7⟩
set_option maxRecDepth 100000 in
set_option maxHeartbeats 16000000 in
theorem link_c {base : Nat} {w : World} {s : Nat} {v : V} {F : Nat → Prop} (h : StoreV base w s v F) {nm : ByteArray} (hn : nm.size + 2 ≤ maxLen) : Calls Try.prog 13 #[.pointer (some ⟨s, 0, none⟩), .string nm] w (LayPost w (linkO (getV v) nm)) := by
  obtain ⟨wA, hwA⟩ : ∃ wA, w.alloc (.cells #[.slice none 0 0, .slice none 0 0] IMT) = wA := ⟨_, rfl⟩
  have hcA : Chg NoB w wA := by rw [← hwA]; exact (Chg.refl NoB w).alloc _
  have hrb : Blk wA w.heap.size IMT #[.slice none 0 0, .slice none 0 0] := by rw [← hwA]; exact Blk.new w IMT _
  have HLD := Go.Lib.hid (loaded_c2 (h.quiet hcA) hn)
  have HR := Go.Lib.hid (And.intro hcA hrb)
  have HWA := Go.Lib.hid hwA
  clear h hn hwA hcA hrb
  go_enter Try.func13, Try.ntmps13
  go_wp2_with fail
  rw [HWA.out]
  clear HWA
  refine HLD.out.mono ?_
  rintro e w2 ⟨hc2, done, A, c, er, rfl, hres, hrow, hob, hlen, hnd⟩
  have HC2 := Go.Lib.hid (HR.out.1.trans hc2)
  have HRB := Go.Lib.hid (HR.out.2.chg hc2 id)
  have hsz : w.heap.size < w2.heap.size := HRB.out.lt
  rcases hres with ⟨h1, h2, rfl⟩ | ⟨h1, rfl⟩
  · have h2b : decide (er = 0) = false := decide_eq_false h2
    have H1 := Go.Lib.hid h1
    clear hc2 hrow hob hlen hnd h1 HLD HR
    go_wp2_with (refine wpList_store_row rfl IMT (.tmp 4) (.tmp 16) rfl w.heap.size #[.slice none 0 0, .slice none 0 0] rfl rfl IMT #[.slice none 0 0, .slice none 0 0] HRB.out (by kernel_rfl) (by rfl) (by kernel_rfl) ?_)
    refine bodyPost_ret (results_cellTmp rfl _ _ rfl rfl (HRB.out.rowSet #[.slice none 0 0, .slice none 0 0]) Try.underlying36 rfl (by kernel_rfl)) rfl ?_
    refine ⟨HC2.out.rowSet (fun h => absurd h (by omega)) _, ?_⟩
    unfold linkO
    rw [H1.out]
    rfl
  · have hlay := lay_c (own_cells_ hrow) (fun x hx => (hob x hx).is_) (loaded_laid h1 (fun o ho => by
      obtain ⟨x, hx, rfl⟩ := List.mem_map.1 ho
      exact ⟨(hob x hx).is_.key, (hob x hx).is_.cn⟩)) (by omega) (c := c)
    have HLY := Go.Lib.hid hlay
    have H1 := Go.Lib.hid h1
    obtain ⟨n, hdn⟩ : ∃ n, done.length = n := ⟨_, rfl⟩
    rw [hdn] at HLY ⊢
    clear hc2 hrow hob hlen hnd h1 HLD HR hlay hdn
    go_wp2_with fail
    refine HLY.out.mono ?_
    rintro e w3 ⟨hc3, hp⟩
    have HC3 := Go.Lib.hid (HC2.out.trans hc3)
    have HRB3 := Go.Lib.hid (HRB.out.chg hc3 id)
    have hlo : linkO (getV v) nm = imgP haltW (done.map (·.1)) := by
      unfold linkO
      rw [H1.out]
    have HLO := Go.Lib.hid hlo
    clear hc3 hlo HLY
    cases hr : imgP haltW (done.map (·.1)) with
    | inl e2 =>
      rw [hr] at hp
      obtain rfl := hp
      have HR2 := Go.Lib.hid hr
      clear hr
      go_wp2_with (refine wpList_store_row rfl IMT (.tmp 4) (.tmp 20) rfl w.heap.size #[.slice none 0 0, .slice none 0 0] rfl rfl IMT #[.slice none 0 0, .slice none 0 0] HRB3.out (by kernel_rfl) (by rfl) (by kernel_rfl) ?_)
      refine bodyPost_ret (results_cellTmp rfl _ _ rfl rfl (HRB3.out.rowSet #[.slice none 0 0, .slice none 0 0]) Try.underlying36 rfl (by kernel_rfl)) rfl ?_
      refine ⟨HC3.out.rowSet (fun h => absurd h (by omega)) _, ?_⟩
      rw [HLO.out, HR2.out]
      rfl
    | inr i =>
      rw [hr] at hp
      obtain ⟨wv, mv, l, hm, rfl, hw1, hw2, hw3⟩ := hp
      have HR2 := Go.Lib.hid hr
      obtain ⟨wA2, wc2, rfl⟩ := own_slice hw1
      obtain ⟨mA2, mc2, rfl⟩ := own_slice hw2
      have HP := Go.Lib.hid (And.intro hm (And.intro hw1 (And.intro hw2 hw3)))
      obtain ⟨wl, hwl⟩ : ∃ k, i.words.length = k := ⟨_, rfl⟩
      obtain ⟨ml, hml⟩ : ∃ k, l.length = k := ⟨_, rfl⟩
      have HL := Go.Lib.hid (And.intro hwl hml)
      rw [hwl] at HP ⊢
      rw [hml] at HP ⊢
      clear hr hm hw1 hw2 hw3 hwl hml
      go_wp2_with (refine wpList_store_row rfl IMT (.tmp 4) (.tmp 20) rfl w.heap.size #[.slice wA2 wl wc2, .slice mA2 ml mc2] rfl rfl IMT #[.slice none 0 0, .slice none 0 0] HRB3.out (by kernel_rfl) (by rfl) (by kernel_rfl) ?_)
      refine bodyPost_ret (results_cellTmp rfl _ _ rfl rfl (HRB3.out.rowSet #[.slice wA2 wl wc2, .slice mA2 ml mc2]) Try.underlying36 rfl (by kernel_rfl)) rfl ?_
      have hcr : Chg (fun k => k = w.heap.size) w3 (w3.setRow w.heap.size #[.slice wA2 wl wc2, .slice mA2 ml mc2]) := (Chg.refl (fun k => k = w.heap.size) w3).rowSet (fun _ => rfl) _
      refine ⟨HC3.out.rowSet (fun h => absurd h (by omega)) _, ?_⟩
      rw [HLO.out, HR2.out]
      obtain ⟨hm, hw1, hw2, hw3⟩ := HP.out
      refine ⟨.slice wA2 wl wc2, .slice mA2 ml mc2, l, hm, rfl, ?_, ?_, fun x hx => ?_⟩
      · rw [HL.out.1]
        exact own_base_ (own_chg hw1 hcr fun k hk e => own_blk_ne hw1 HRB3.out (by decide) (by rw [← e]; exact hk)) (by omega)
      · rw [HL.out.2]
        exact own_base_ (own_chg hw2 hcr fun k hk e => own_blk_ne hw2 HRB3.out (by decide) (by rw [← e]; exact hk)) (by omega)
      · exact (hw3 x hx).off hcr (off_blk HRB3.out (by decide))
end Go.Proofs.Yteleglkoagnmcaa
