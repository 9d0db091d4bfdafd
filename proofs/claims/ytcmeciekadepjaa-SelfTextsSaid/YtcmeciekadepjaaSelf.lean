/- What is proved: the walk of SelfTexts: whatever the text, true. Conditions: the text's size. -/
import Derived.Test.YtcmeciekadepjaaSrcC
import Derived.Deep.QuietTactic
import Derived.BigQuiet
import Derived.Lib.ConvBytes
import Derived.Outline
namespace Go.Proofs.Ytcmeciekadepjaa
open Go.RowKit
theorem known_c (w : World) : Calls Try.prog 4 #[] w fun e w' => e = .returned (.bool true) ∧ Chg NoB w w' := by
  have h0 : ∀ o, Chg NoB w (w.alloc o) := fun o => (Chg.refl NoB w).alloc o
  have H0 := Go.Lib.hid h0
  clear h0
  have hc : ∀ k, (w.alloc (.cells (nmB.map Value.string).toArray 9)).cell? ⟨w.heap.size, k, none⟩ = (nmB.map Value.string).toArray[k]? := fun k => (Blk.new w 9 _).cell k
  have hm : (w.alloc (.cells (nmB.map Value.string).toArray 9)).cell? ⟨w.heap.size, 4, none⟩ = some (.string ⟨#[77, 97, 105, 110]⟩) := hc 4
  have Hm := Go.Lib.hid hm
  clear hc hm
  go_enter Try.func4, Try.ntmps4
  go_wp2_with fail
  refine (mods_c _).mono ?_
  rintro e w' ⟨rfl, hw⟩
  obtain rfl := hw.symm
  obtain ⟨W, hW⟩ : ∃ W, w.alloc (.cells (nmB.map Value.string).toArray 9) = W := ⟨_, rfl⟩
  have hC := H0.out (.cells (nmB.map Value.string).toArray 9)
  rw [hW] at Hm hC ⊢
  have hm := Hm.out
  have HC := Go.Lib.hid hC
  clear hW hC
  go_wp2_with fail
  go_ret
  exact ⟨rfl, HC.out⟩
theorem bytesWorld_chg (w : World) (e : TypeId) (s : ByteArray) : Chg NoB w (Lib.bytesWorld w e s) :=
  ⟨rfl, rfl, rfl, by rw [Lib.bytesWorld_size]; omega, fun k hk _ => Lib.bytesWorld_at_old w e s k hk⟩
theorem text_bw (W : World) (t : ByteArray) : TextAt (Lib.bytesWorld W 5 t) W.heap.size t := fun i hi => by
  rw [Lib.bytesWorld_cell _ _ _ _ hi]
  unfold bt
  rw [if_pos (by omega)]
  simp [List.getD, hi]
def ScanSaid : Prop := ∀ (t nm : ByteArray) (g c : Nat) (w : World), Pre t nm → t.size ≤ c → c ≤ maxLen → TextAt w g t → Calls Try.prog 7 #[.slice (some ⟨g, 0, none⟩) t.size c] w (ScanPost nm w)
def LawPost (w : World) (e : Ending) (w' : World) : Prop := e = .returned (.bool true) ∧ Chg NoB w w'
set_option maxRecDepth 100000 in
set_option maxHeartbeats 4000000 in
theorem self_walk (hscan : ScanSaid) (s : ByteArray) (hs : s.size ≤ maxLen) (w : World) : Calls Try.prog 3 #[.string s] w (LawPost w) := by
  unfold maxLen at hs
  by_cases h100 : 100 < s.size
  · have h1 : (100 : Int) < s.size := by omega
    have H := Go.Lib.hid (known_c w)
    go_enter Try.func3, Try.ntmps3
    go_wp2_with (go_at_call 4; (with_reducible refine H.out.mono ?_); rintro e w' ⟨rfl, hc⟩; have HC := Go.Lib.hid hc; clear hc)
    go_ret
    exact ⟨rfl, HC.out⟩
  · have h1 : ¬ (100 : Int) < s.size := by omega
    have hcv := fun (W : World) (t : ByteArray) => Lib.run_convert_string_bytes (P := Try.prog) W 9 31 5 t Try.underlying9 Try.underlying31 Try.underlying5
    clear h100
    go_enter Try.func3, Try.ntmps3
    go_wp2_with fail
    refine (mods_c _).mono ?_
    rintro e w' ⟨rfl, hw⟩
    obtain rfl := hw.symm
    obtain ⟨W1, hW⟩ : ∃ W, w.alloc (.cells (nmB.map Value.string).toArray 9) = W := ⟨_, rfl⟩
    have hC : Chg NoB w W1 := by rw [← hW]; exact (Chg.refl NoB w).alloc _
    have hB : Blk W1 w.heap.size 9 (nmB.map Value.string).toArray := by rw [← hW]; exact Blk.new _ _ _
    rw [hW]
    have HC := Go.Lib.hid hC
    have HB := Go.Lib.hid hB
    clear hW hC hB
    go_wp2_with fail
    go_loopw [4, 5] (fun v4 v5 W => ∃ k : Nat, v5 = .int .i64 k ∧ k ≤ 5 ∧ v4 = .bool (hit s k) ∧ Chg NoB W1 W) (fun _ v5 _ => 5 - (intOf v5).toNat)
    case atStart => exact ⟨0, rfl, by omega, rfl, Chg.refl _ _⟩
    case round =>
      obtain ⟨i, rfl, hi, rfl, hcw⟩ := hrel
      have HCW := Go.Lib.hid hcw
      clear hcw
      by_cases hlt : i < 5
      · have hlt2 : (i : Int) < 5 := by omega
        obtain ⟨hp, h10⟩ := pre_at i hlt
        have hsz := hp.size
        have HP := Go.Lib.hid hp
        have HY := Go.Lib.hid (src_yes i hlt wr)
        have HNE := Go.Lib.hid (fun k (hk : k < i) => nm_ne_at i k hlt hk)
        have HH := Go.Lib.hid (hit_succ s i)
        have hcell : ∀ W, Chg NoB W1 W → ∀ k, k < 5 → W.cell? ⟨w.heap.size, k, none⟩ = some (.string (nm k)) := fun W hW k hk => by
          rw [(HB.out.chg hW id).cell k]
          have : k = 0 ∨ k = 1 ∨ k = 2 ∨ k = 3 ∨ k = 4 := by omega
          rcases this with rfl | rfl | rfl | rfl | rfl <;> rfl
        have HCl := Go.Lib.hid hcell
        have hci := hcell wr HCW.out i hlt
        clear hcell hp
        have e : nmB.getD i ⟨#[]⟩ = nm i := rfl
        rw [e] at HY HP
        clear e
        obtain ⟨t, ht⟩ : ∃ t, src i = t := ⟨_, rfl⟩
        rw [ht] at HY HP h10 hsz
        clear ht
        have d1 : ¬ (t.size : Int) < 10 := by omega
        have d2 : ¬ (65535 : Int) < t.size := by omega
        have d3 : (t.size : Int) ≤ 65535 := by omega
        clear h10
        go_wp2_with (go_at_call 6; (with_reducible refine HY.out.mono ?_); rintro e w' ⟨rfl, rfl⟩)
        clear HY
        obtain ⟨wo, rfl⟩ : ∃ wo : World, wo = wr := ⟨_, rfl⟩
        go_loopw [8] (fun v8 W => ∃ k : Nat, v8 = .int .i64 k ∧ k ≤ i ∧ Chg NoB W1 W) (fun v8 _ => i - (intOf v8).toNat)
        case atStart => exact ⟨0, rfl, Nat.zero_le _, HCW.out⟩
        case round =>
          obtain ⟨k, rfl, hk, hck⟩ := hrel
          have hc1 := HCl.out wr hck i hlt
          by_cases hki : k < i
          · have hki2 : (k : Int) < i := by omega
            have hk5 : (k : Int) < 5 := by omega
            have hc2 := HCl.out wr hck k (by omega)
            have hne := HNE.out k hki
            have HCK := Go.Lib.hid hck
            clear hck
            go_wp2_with fail
            go_quiet (fail)
            go_wp2_with fail
            go_roundw
            case rel => exact ⟨k + 1, by go_num, by omega, HCK.out.drewN _⟩
            case measure => simp [intOf]; omega
          · obtain rfl : k = i := by omega
            have HCK := Go.Lib.hid hck
            clear hck hki hk
            cases hh : hit s k with
            | true =>
              go_wp2_with fail
              refine (hscan t (nm k) wr.heap.size _ _ HP.out (grownCap_ge _ _ _ _) (grownCap_le_maxLen _ _ _ _ (by unfold maxLen; omega)) (text_bw wr t)).mono ?_
              rintro e w2 ⟨g1, g2, n, nl, c1, c2, err, pos, rfl, hn3, hnc, hc1m, hnl, hnc2, hc2m, a0, a5, a8, b57, hch⟩
              unfold maxLen at hc1m hc2m
              have HC2 := Go.Lib.hid ((HCK.out.trans (bytesWorld_chg wr 5 t)).trans hch)
              have HA := Go.Lib.hid (And.intro a0 (And.intro a5 (And.intro a8 b57)))
              have e1 : ¬ (n : Int) < 3 := by omega
              have e2 : (1 : Int) < n := by omega
              have e3 : (57 : Int) < nl := by omega
              have e4 : (n : Int) ≤ c1 := by omega
              have e5 : (nl : Int) ≤ c2 := by omega
              have e6 : (0 : Int) < n := by omega
              have e7 : 0 < n := by omega
              have e8 : 1 < n := by omega
              clear hch a0 a5 a8 b57 hc1
              go_wp2_with fail
              have hc3 : Chg NoB w2 (w2.alloc (.cells #[.slice (some ⟨g1, 0, none⟩) n c1, .slice (some ⟨g2, 0, none⟩) nl c2, .int .i64 err, .int .i64 pos] 29)) := (Chg.refl _ _).alloc _
              have hb3 : Blk (w2.alloc (.cells #[.slice (some ⟨g1, 0, none⟩) n c1, .slice (some ⟨g2, 0, none⟩) nl c2, .int .i64 err, .int .i64 pos] 29)) w2.heap.size 29 #[.slice (some ⟨g1, 0, none⟩) n c1, .slice (some ⟨g2, 0, none⟩) nl c2, .int .i64 err, .int .i64 pos] := Blk.new _ _ _
              obtain ⟨W3, hW3⟩ : ∃ W', w2.alloc (.cells #[.slice (some ⟨g1, 0, none⟩) n c1, .slice (some ⟨g2, 0, none⟩) nl c2, .int .i64 err, .int .i64 pos] 29) = W' := ⟨_, rfl⟩
              rw [hW3] at hc3 hb3 ⊢
              obtain ⟨B3, hB3⟩ : ∃ b, w2.heap.size = b := ⟨_, rfl⟩
              rw [hB3] at hb3 ⊢
              clear hW3 hB3
              have HC3 := Go.Lib.hid (HC2.out.trans hc3)
              obtain ⟨a0, a5, a8, b57⟩ := HA.out
              have a0 := hc3.cell_ a0 id
              have a5 := hc3.cell_ a5 id
              have a8 := hc3.cell_ a8 id
              have b57 := hc3.cell_ b57 id
              have r0 := hb3.cell 0
              have r1 := hb3.cell 1
              simp only [List.getElem?_toArray, List.getElem?_cons_zero, List.getElem?_cons_succ] at r0 r1
              have hk3 := HCl.out W3 HC3.out k hlt
              have hself : ((nm k).toList == (nm k).toList) = true := by simp
              clear HA hc3 hb3
              go_quiet (fail)
              go_wp2_with fail
              go_roundw
              case rel => exact ⟨k + 1, by go_num, by omega, by rw [HH.out, hh]; rfl, HC3.out.drewN _⟩
              case measure => simp [intOf]; omega
            | false =>
              cases hq : ((nm k).toList == s.toList) with
              | true =>
                go_wp2_with fail
                refine (hscan t (nm k) wr.heap.size _ _ HP.out (grownCap_ge _ _ _ _) (grownCap_le_maxLen _ _ _ _ (by unfold maxLen; omega)) (text_bw wr t)).mono ?_
                rintro e w2 ⟨g1, g2, n, nl, c1, c2, err, pos, rfl, hn3, hnc, hc1m, hnl, hnc2, hc2m, a0, a5, a8, b57, hch⟩
                unfold maxLen at hc1m hc2m
                have HC2 := Go.Lib.hid ((HCK.out.trans (bytesWorld_chg wr 5 t)).trans hch)
                have HA := Go.Lib.hid (And.intro a0 (And.intro a5 (And.intro a8 b57)))
                have e1 : ¬ (n : Int) < 3 := by omega
                have e2 : (1 : Int) < n := by omega
                have e3 : (57 : Int) < nl := by omega
                have e4 : (n : Int) ≤ c1 := by omega
                have e5 : (nl : Int) ≤ c2 := by omega
                have e6 : (0 : Int) < n := by omega
                have e7 : 0 < n := by omega
                have e8 : 1 < n := by omega
                clear hch a0 a5 a8 b57 hc1
                go_wp2_with fail
                have hc3 : Chg NoB w2 (w2.alloc (.cells #[.slice (some ⟨g1, 0, none⟩) n c1, .slice (some ⟨g2, 0, none⟩) nl c2, .int .i64 err, .int .i64 pos] 29)) := (Chg.refl _ _).alloc _
                have hb3 : Blk (w2.alloc (.cells #[.slice (some ⟨g1, 0, none⟩) n c1, .slice (some ⟨g2, 0, none⟩) nl c2, .int .i64 err, .int .i64 pos] 29)) w2.heap.size 29 #[.slice (some ⟨g1, 0, none⟩) n c1, .slice (some ⟨g2, 0, none⟩) nl c2, .int .i64 err, .int .i64 pos] := Blk.new _ _ _
                obtain ⟨W3, hW3⟩ : ∃ W', w2.alloc (.cells #[.slice (some ⟨g1, 0, none⟩) n c1, .slice (some ⟨g2, 0, none⟩) nl c2, .int .i64 err, .int .i64 pos] 29) = W' := ⟨_, rfl⟩
                rw [hW3] at hc3 hb3 ⊢
                obtain ⟨B3, hB3⟩ : ∃ b, w2.heap.size = b := ⟨_, rfl⟩
                rw [hB3] at hb3 ⊢
                clear hW3 hB3
                have HC3 := Go.Lib.hid (HC2.out.trans hc3)
                obtain ⟨a0, a5, a8, b57⟩ := HA.out
                have a0 := hc3.cell_ a0 id
                have a5 := hc3.cell_ a5 id
                have a8 := hc3.cell_ a8 id
                have b57 := hc3.cell_ b57 id
                have r0 := hb3.cell 0
                have r1 := hb3.cell 1
                simp only [List.getElem?_toArray, List.getElem?_cons_zero, List.getElem?_cons_succ] at r0 r1
                have hk3 := HCl.out W3 HC3.out k hlt
                have hself : ((nm k).toList == (nm k).toList) = true := by simp
                clear HA hc3 hb3
                go_quiet (fail)
                go_wp2_with fail
                go_roundw
                case rel => exact ⟨k + 1, by go_num, by omega, by rw [HH.out, hh, hq]; rfl, HC3.out.drewN _⟩
                case measure => simp [intOf]; omega
              | false =>
                go_wp2_with fail
                refine (hscan t (nm k) wr.heap.size _ _ HP.out (grownCap_ge _ _ _ _) (grownCap_le_maxLen _ _ _ _ (by unfold maxLen; omega)) (text_bw wr t)).mono ?_
                rintro e w2 ⟨g1, g2, n, nl, c1, c2, err, pos, rfl, hn3, hnc, hc1m, hnl, hnc2, hc2m, a0, a5, a8, b57, hch⟩
                unfold maxLen at hc1m hc2m
                have HC2 := Go.Lib.hid ((HCK.out.trans (bytesWorld_chg wr 5 t)).trans hch)
                have HA := Go.Lib.hid (And.intro a0 (And.intro a5 (And.intro a8 b57)))
                have e1 : ¬ (n : Int) < 3 := by omega
                have e2 : (1 : Int) < n := by omega
                have e3 : (57 : Int) < nl := by omega
                have e4 : (n : Int) ≤ c1 := by omega
                have e5 : (nl : Int) ≤ c2 := by omega
                have e6 : (0 : Int) < n := by omega
                have e7 : 0 < n := by omega
                have e8 : 1 < n := by omega
                clear hch a0 a5 a8 b57 hc1
                go_wp2_with fail
                have hc3 : Chg NoB w2 (w2.alloc (.cells #[.slice (some ⟨g1, 0, none⟩) n c1, .slice (some ⟨g2, 0, none⟩) nl c2, .int .i64 err, .int .i64 pos] 29)) := (Chg.refl _ _).alloc _
                have hb3 : Blk (w2.alloc (.cells #[.slice (some ⟨g1, 0, none⟩) n c1, .slice (some ⟨g2, 0, none⟩) nl c2, .int .i64 err, .int .i64 pos] 29)) w2.heap.size 29 #[.slice (some ⟨g1, 0, none⟩) n c1, .slice (some ⟨g2, 0, none⟩) nl c2, .int .i64 err, .int .i64 pos] := Blk.new _ _ _
                obtain ⟨W3, hW3⟩ : ∃ W', w2.alloc (.cells #[.slice (some ⟨g1, 0, none⟩) n c1, .slice (some ⟨g2, 0, none⟩) nl c2, .int .i64 err, .int .i64 pos] 29) = W' := ⟨_, rfl⟩
                rw [hW3] at hc3 hb3 ⊢
                obtain ⟨B3, hB3⟩ : ∃ b, w2.heap.size = b := ⟨_, rfl⟩
                rw [hB3] at hb3 ⊢
                clear hW3 hB3
                have HC3 := Go.Lib.hid (HC2.out.trans hc3)
                obtain ⟨a0, a5, a8, b57⟩ := HA.out
                have a0 := hc3.cell_ a0 id
                have a5 := hc3.cell_ a5 id
                have a8 := hc3.cell_ a8 id
                have b57 := hc3.cell_ b57 id
                have r0 := hb3.cell 0
                have r1 := hb3.cell 1
                simp only [List.getElem?_toArray, List.getElem?_cons_zero, List.getElem?_cons_succ] at r0 r1
                have hk3 := HCl.out W3 HC3.out k hlt
                have hself : ((nm k).toList == (nm k).toList) = true := by simp
                clear HA hc3 hb3
                go_quiet (fail)
                go_wp2_with fail
                go_roundw
                case rel => exact ⟨k + 1, by go_num, by omega, by rw [HH.out, hh, hq]; rfl, HC3.out.drewN _⟩
                case measure => simp [intOf]; omega
      · obtain rfl : i = 5 := by omega
        have H1 := Go.Lib.hid (src_any s wr)
        have H2 := Go.Lib.hid (known_c wr)
        have HI := Go.Lib.hid (hit_all s)
        cases hh : hit s 5 with
        | true =>
          go_wp2_with fail
          refine H1.out.mono ?_
          rintro e w2 ⟨⟨t, rfl, ht⟩, rfl⟩
          rw [← HI.out, hh]
          clear ht
          go_wp2_with (go_at_call 4; (with_reducible refine H2.out.mono ?_); rintro e w' ⟨rfl, hc⟩; have HE := Go.Lib.hid hc; clear hc)
          go_ret
          exact ⟨rfl, (HC.out.trans HCW.out).trans HE.out⟩
        | false =>
          go_wp2_with fail
          refine H1.out.mono ?_
          rintro e w2 ⟨⟨t, rfl, ht⟩, rfl⟩
          rw [← HI.out, hh] at ht ⊢
          obtain rfl := (ht rfl)
          clear ht
          go_wp2_with (go_at_call 4; (with_reducible refine H2.out.mono ?_); rintro e w' ⟨rfl, hc⟩; have HE := Go.Lib.hid hc; clear hc)
          go_ret
          exact ⟨rfl, (HC.out.trans HCW.out).trans HE.out⟩
end Go.Proofs.Ytcmeciekadepjaa
