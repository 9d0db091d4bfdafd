/- What is proved: the walk of the law TreeCopies. Conditions: the library's variable holds a number. -/
import Derived.Test.YtnihjkcniddepaaSpoil
import Derived.Test.YtnihjkcniddepaaBig
namespace Go.Proofs.Ytnihjkcniddepaa
open Go.RowKit
section
variable {w W W' : World} {ks : F} {A : Option Addr} {c : Nat} {g : G} {d : Own}
/-- a copy is a node -/
theorem CopyIs.isN (h : CopyIs ks W W' A c g) (hd : OwnOk d) : IsN W' d ks A ks.len c := by
  refine ⟨hd, h.le, h.most, ?_⟩
  have hn : ks.len = g.len := by rw [← h.er, G.len_erase]
  have := isL_own h.sub hn h.row
  rwa [h.er] at this
/-- what a spoilt copy leaves -/
structure Spoilt (d : Own) (ks : F) (W W1 W2 W3 W4 : World) (A A' : Option Addr) (c c' : Nat) (left : Int) : Prop where
  old : ∀ (W0 : World), Chg NoB W0 W → Chg NoB W0 W4
  cbox : W4.heap[W1.heap.size]? = W3.heap[W1.heap.size]?
  dbox : W4.heap[W2.heap.size]? = W3.heap[W2.heap.size]?
  isC : ∃ ks', IsN W4 d ks' A ks.len c ∧ (0 < ks.len → sameT d ks' d ks = false)
  isD : IsN W4 d ks A' ks.len c'
theorem spoilt {W1 W2 W3 W4 : World} {A' : Option Addr} {c' : Nat} {g' : G} {o o' : Obj} {left : Int} (hd : OwnOk d) (h1 : CopyIs ks W W1 A c g) (h2 : CopyIs ks (W1.alloc o) W2 A' c' g') (h3 : W3 = W2.alloc o')
    (hl : 0 < left) (hs : SubG W4 NT (g.spoil left)) (hr : 0 < ks.len → RowAt W4 NT A (g.spoil left)) (hc : Chg (fun q => q ∈ rowOf A ks.len ++ g.rows) W3 W4) : Spoilt d ks W W1 W2 W3 W4 A A' c c' left := by
  have hs1 := h1.chg.size
  have hs2 : W1.heap.size + 1 ≤ W2.heap.size := by have := h2.chg.size; simpa using this
  have hs3 : W3.heap.size = W2.heap.size + 1 := by rw [h3]; simp
  have hlen : ks.len = g.len := by rw [← h1.er, G.len_erase]
  refine ⟨fun W0 h0 => ?_, ?_, ?_, ?_, ?_⟩
  · have hx : Chg NoB W0 W3 := by
      rw [h3]
      exact (((h0.trans h1.chg).alloc o).trans h2.chg).alloc o'
    exact hx.step hc fun i hi hg => by
      have := (h1.new i hg).1
      have := h0.size
      omega
  · exact hc.block _ (by omega) fun hg => by have := (h1.new _ hg).2; omega
  · exact hc.block _ (by omega) fun hg => by have := (h1.new _ hg).2; omega
  · refine ⟨(g.spoil left).erase, ⟨hd, h1.le, h1.most, isL_own hs (by rw [G.spoil_len]; exact hlen) hr⟩, fun hn => ?_⟩
    have hx := G.spoil_same g left hl (by omega) (fun d1 kA kn kc k1 r e => by
      have := h1.sub
      rw [e] at this
      exact this.1.2.2)
    rw [h1.er] at hx
    unfold sameT
    rw [hx]; simp
  · have hy : CopyIs ks (W1.alloc o) W2 A' c' g' := h2
    have hk : ∀ b ∈ rowOf A' ks.len ++ g'.rows, W4.heap[b]? = W2.heap[b]? := fun b hb => by
      have hb2 := h2.new b hb
      simp at hb2
      rw [hc.block b (by omega) fun hg => by have := (h1.new b hg).2; omega, h3]
      exact Below.heap_alloc W2 o' b hb2.2
    refine ⟨hd, h2.le, h2.most, ?_⟩
    have hn : ks.len = g'.len := by rw [← h2.er, G.len_erase]
    have := isL_own (h2.sub.keep fun b hb => hk b (List.mem_append.2 (.inr hb))) hn fun h0 => (h2.row h0).keep h0 fun b hb => hk b (List.mem_append.2 (.inl hb))
    rwa [h2.er] at this
end
theorem size_len (f : F) : f.len ≤ f.size := by
  induction f with
  | nil => simp [F.len, F.size]
  | cons _ _ _ _ ih => simp only [F.len, F.size]; omega
theorem size_zero (f : F) (h : f.len = 0) : f.size = 0 := by
  cases f with
  | nil => rfl
  | cons => simp [F.len] at h
section
variable (d : Own) (ks : F) (kA : Option Addr) (kn kc : Nat) (w : World)
set_option maxHeartbeats 400000 in
theorem copies_many (hN : IsN w d ks kA kn kc) (hv : Var0 w) (hb : ¬ 0 ≤ bigT d ks 400) :
    Calls Try.prog 5 #[nodeV d kA kn kc] w fun e w' => e = .returned (.bool true) ∧ Chg NoB w w' := by
  have hw0 : Chg NoB w (w.alloc (.cells #[.int .i64 d.kind, .string d.nm, .int .u32 d.val, .bool d.mark, .slice kA kn kc] 28)) := (Chg.refl _ _).alloc _
  have h1 := few_c d ks kA kn kc _ (hN.chg hw0)
  rw [decide_eq_false hb] at h1
  unfold nodeV at h1
  have H1 := Go.Lib.hid h1
  have H0 := Go.Lib.hid hw0
  have HK : Hid (∀ W, Chg NoB w W → Calls Try.prog 9 #[] W fun e w' => e = .returned (.bool true) ∧ Chg NoB W w') := Go.Lib.hid fun W hW => known_c W (hv.chg hW)
  clear h1 hw0 hv hN hb
  unfold nodeV
  go_enter Try.func5, Try.ntmps5
  go_wp2_with fail
  refine H1.out.mono ?_
  rintro e w1 ⟨rfl, hc⟩
  go_wp2_with fail
  refine (HK.out _ (H0.out.trans hc)).mono ?_
  rintro e w2 ⟨rfl, hc2⟩
  go_wp2_with fail
  go_ret
  exact ⟨rfl, (H0.out.trans hc).trans hc2⟩
set_option maxHeartbeats 2000000 in
theorem copies_few (hN : IsN w d ks kA kn kc) (hv : Var0 w) (hb : 0 ≤ bigT d ks 400) :
    Calls Try.prog 5 #[nodeV d kA kn kc] w fun e w' => e = .returned (.bool true) ∧ Chg NoB w w' := by
  have hsz := bigT_size d ks 400 hb
  have hlen := hN.kids.len
  have hd := hN.ok
  have hw0 : Chg NoB w (w.alloc (.cells #[.int .i64 d.kind, .string d.nm, .int .u32 d.val, .bool d.mark, .slice kA kn kc] 28)) := (Chg.refl _ _).alloc _
  have h1 := few_c d ks kA kn kc _ (hN.chg hw0)
  rw [decide_eq_true hb] at h1
  unfold nodeV at h1
  have H1 := Go.Lib.hid h1
  have H0 := Go.Lib.hid hw0
  have HV := Go.Lib.hid hv
  have HN := Go.Lib.hid hN
  have Hd := Go.Lib.hid hd
  have Hlen := Go.Lib.hid hlen
  have hsn : ks.size ≤ 399 := by omega
  clear h1 hw0 hv hN hb hlen hd hsz
  unfold nodeV
  go_enter Try.func5, Try.ntmps5
  go_wp2_with fail
  refine H1.out.mono ?_
  rintro e w1 ⟨rfl, hc⟩
  obtain ⟨b0, b1, b2, b3, b4⟩ := box5 hc
  have HC := Go.Lib.hid hc
  clear hc
  go_wp2_with fail
  refine (Flat_c d ks kA kn kc w w1 0 HN.out (H0.out.trans HC.out) (by omega)).mono ?_
  rintro e w2 ⟨F1, F2, m1, m2, rfl, hf⟩
  obtain ⟨b0, b1, b2, b3, b4⟩ := box5 (HC.out.trans hf.chg)
  have HC := Go.Lib.hid (HC.out.trans hf.chg)
  clear hf
  go_wp2_with fail
  refine (Copy_c d ks kA kn kc w2 (HN.out.chg (H0.out.trans HC.out)) (by omega)).mono ?_
  rintro e w3 ⟨A1, c1, g1, rfl, hcp1⟩
  obtain ⟨b0, b1, b2, b3, b4⟩ := box5 (HC.out.trans hcp1.chg)
  have HC3 := Go.Lib.hid (HC.out.trans hcp1.chg)
  have HP1 := Go.Lib.hid hcp1
  clear hcp1
  have q0 := fun o => (box5 (HC3.out.alloc o)).1
  have q1 := fun o => (box5 (HC3.out.alloc o)).2.1
  have q2 := fun o => (box5 (HC3.out.alloc o)).2.2.1
  have q3 := fun o => (box5 (HC3.out.alloc o)).2.2.2.1
  have q4 := fun o => (box5 (HC3.out.alloc o)).2.2.2.2
  clear b0 b1 b2 b3 b4
  go_wp2_with fail
  refine (Copy_c d ks kA kn kc _ (HN.out.chg (H0.out.trans (HC3.out.alloc _))) (by omega)).mono ?_
  rintro e w4 ⟨A2, c2, g2, rfl, hcp2⟩
  have HP2 := Go.Lib.hid hcp2
  clear hcp2 q0 q1 q2 q3 q4
  go_wp2_with fail
  have hBc : Blk w4 w3.heap.size NT #[.int .i64 d.kind, .string d.nm, .int .u32 d.val, .bool d.mark,  .slice A1 ks.len c1] := (Blk.new w3 NT _).chg HP2.out.chg id
  have hBc2 := hBc.alloc (Obj.cells #[.int .i64 d.kind, .string d.nm, .int .u32 d.val, .bool d.mark,  .slice A2 ks.len c2] NT)
  have hg1 : ks.len = g1.len := by rw [← HP1.out.er, G.len_erase]
  have hk1 : ∀ q ∈ rowOf A1 ks.len ++ g1.rows, (w4.alloc (Obj.cells #[.int .i64 d.kind, .string d.nm, .int .u32 d.val, .bool d.mark,  .slice A2 ks.len c2] NT)).heap[q]? = w3.heap[q]? := fun q hq => by
    have h3 := (HP1.out.new q hq).2
    have h4 : w3.heap.size + 1 ≤ w4.heap.size := by have := HP2.out.chg.size; simpa using this
    rw [Below.heap_alloc w4 _ q (by omega), HP2.out.chg.block q (by simp; omega) id]
    exact Below.heap_alloc w3 _ q h3
  refine ((spoil_all g1).1 w3.heap.size 0 ks.len c1 A1 (1 + ks.size) _ hg1 HP1.out.le HP1.out.most (hBc2.cell 4) (fun hm => by have := (HP1.out.new _ hm).2; omega) (HP1.out.sub.keep fun q hq => hk1 q (List.mem_append.2 (.inr hq))) (fun h0 => (HP1.out.row h0).keep h0 fun q hq => hk1 q (List.mem_append.2 (.inl hq))) HP1.out.nd (by omega)).mono ?_
  rintro e w5 ⟨rfl, hs, hr, hcg⟩
  have hSP := spoilt Hd.out HP1.out HP2.out rfl (by omega) hs hr hcg
  have hBd : Blk w5 w4.heap.size NT #[.int .i64 d.kind, .string d.nm, .int .u32 d.val, .bool d.mark,  .slice A2 ks.len c2] := by
    unfold Blk
    rw [hSP.dbox]
    exact heap_alloc_new w4 _
  have hBc5 : Blk w5 w3.heap.size NT #[.int .i64 d.kind, .string d.nm, .int .u32 d.val, .bool d.mark,  .slice A1 ks.len c1] := by
    unfold Blk
    rw [hSP.cbox]
    exact hBc2
  have SP := Go.Lib.hid hSP
  have BD := Go.Lib.hid hBd
  have BC := Go.Lib.hid hBc5
  have HC5 := Go.Lib.hid (hSP.old _ HC.out)
  clear hs hr hcg hSP hBd hBc5 hBc hBc2 hk1 hg1
  have H05 : Hid (Chg NoB w w5) := Go.Lib.hid (H0.out.trans HC5.out)
  obtain ⟨b0, b1, b2, b3, b4⟩ := box5 HC5.out
  obtain ⟨d0, d1, d2, d3, d4⟩ := blk5 BD.out (Chg.refl _ _)
  go_wp2_with fail
  refine (Same_c d ks kA kn kc d ks A2 ks.len c2 w5 (HN.out.chg H05.out) SP.out.isD).mono ?_
  rw [show sameT d ks d ks = true from by unfold sameT; rw [F.same_refl]; simp [ownB]]
  rintro e w6 ⟨rfl, h6⟩
  clear b0 b1 b2 b3 b4 d0 d1 d2 d3 d4
  obtain ⟨b0, b1, b2, b3, b4⟩ := box5 (HC5.out.trans h6)
  have H6 := Go.Lib.hid h6
  clear h6
  go_wp2_with fail
  refine (Size_c d ks kA kn kc w6 (HN.out.chg (H05.out.trans H6.out)) (by omega)).mono ?_
  rintro e w7 ⟨rfl, h7⟩
  have H7 := Go.Lib.hid (H6.out.trans h7)
  clear h7 b0 b1 b2 b3 b4
  rcases Nat.eq_zero_or_pos ks.len with h0 | h0
  · have hz : (ks.size : Int) = 0 := by have := size_zero ks h0; omega
    have hz1 : ((1 + (ks.size : Int)) == 1) = true := by simp [hz]
    clear hz
    go_wp2_with fail
    refine (known_c w7 (HV.out.chg (H05.out.trans H7.out))).mono ?_
    rintro e w8 ⟨rfl, h8⟩
    go_wp2_with fail
    go_ret
    exact ⟨rfl, (H05.out.trans H7.out).trans h8⟩
  · have hz1 : ((1 + (ks.size : Int)) == 1) = false := by have := size_len ks; simp; omega
    obtain ⟨b0, b1, b2, b3, b4⟩ := box5 (HC5.out.trans H7.out)
    obtain ⟨d0, d1, d2, d3, d4⟩ := blk5 BC.out H7.out
    obtain ⟨ks', hisC, hne⟩ := SP.out.isC
    have Hne := Go.Lib.hid (hne h0)
    have HIC := Go.Lib.hid hisC
    clear hne hisC
    go_wp2_with fail
    refine (Same_c d ks' A1 ks.len c1 d ks kA kn kc w7 (HIC.out.chg H7.out) (HN.out.chg (H05.out.trans H7.out))).mono ?_
    rw [Hne.out]
    rintro e w8 ⟨rfl, h8⟩
    have H8 := Go.Lib.hid ((H05.out.trans H7.out).trans h8)
    clear h8 b0 b1 b2 b3 b4 d0 d1 d2 d3 d4
    go_wp2_with fail
    refine (known_c w8 (HV.out.chg H8.out)).mono ?_
    rintro e w9 ⟨rfl, h9⟩
    go_wp2_with fail
    go_ret
    exact ⟨rfl, H8.out.trans h9⟩
end
theorem treeCopies_walk (d : Own) (ks : F) (kA : Option Addr) (kn kc : Nat) {w : World} (hN : IsN w d ks kA kn kc) (_ : World) (hv : Var0 w) :
    Calls Try.prog 5 #[nodeV d kA kn kc] w fun e w' => e = .returned (.bool true) ∧ Chg NoB w w' := by
  by_cases hb : 0 ≤ bigT d ks 400
  · exact copies_few d ks kA kn kc w hN hv hb
  · exact copies_many d ks kA kn kc w hN hv hb
end Go.Proofs.Ytnihjkcniddepaa
