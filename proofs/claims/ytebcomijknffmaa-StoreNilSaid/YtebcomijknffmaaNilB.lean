/- What is proved: the walk of the law StoreNil. Conditions: none. -/
import Derived.Test.YtebcomijknffmaaNilA
import Derived.Test.YtebcomijknffmaaStoreY
import Derived.Test.YtebcomijknffmaaLawText
namespace Go.Proofs.Ytebcomijknffmaa
open Go.RowKit
section
variable {w0 w : World} {s : Nat} {v : V}
theorem drop_k (h : K w0 s v w) (nm : ByteArray) (hsz : nm.size ≤ maxLen) : Calls Try.prog 36 #[ptr s, .string nm] w (KPost w0 s (.int .i64 (v.drop nm).1) (v.drop nm).2) := h.of fun _ h => drop_v h nm hsz
theorem riders_k (h : K w0 s v w) : Calls Try.prog 37 #[ptr s] w (KPost w0 s (.int .i64 v.rd.length) v) := h.of fun _ h => riders_v h
theorem mk11 (w : World) : (Instr.makeSlice 22 (.int .i64 11) (.int .i64 11)).run Try.prog w = .ok (.slice (some ⟨w.heap.size, 0, none⟩) 11 11) (w.alloc (.cells #[.int .u8 0, .int .u8 0, .int .u8 0, .int .u8 0, .int .u8 0, .int .u8 0, .int .u8 0, .int .u8 0, .int .u8 0, .int .u8 0, .int .u8 0] 5)) := by kernel_rfl
theorem mk10 (w : World) : (Instr.makeSlice 22 (.int .i64 10) (.int .i64 10)).run Try.prog w = .ok (.slice (some ⟨w.heap.size, 0, none⟩) 10 10) (w.alloc (.cells #[.int .u8 0, .int .u8 0, .int .u8 0, .int .u8 0, .int .u8 0, .int .u8 0, .int .u8 0, .int .u8 0, .int .u8 0, .int .u8 0] 5)) := by kernel_rfl
theorem put11 (h : K w0 s nv0 w) : Calls Try.prog 12 #[ptr s, .string nmA, .slice (some ⟨w.heap.size, 0, none⟩) 11 11] (w.alloc (.cells #[.int .u8 0, .int .u8 0, .int .u8 0, .int .u8 0, .int .u8 0, .int .u8 0, .int .u8 0, .int .u8 0, .int .u8 0, .int .u8 0, .int .u8 0] 5)) (KPost w0 s (.int .i64 5) nv0) :=
  by
  have := put_k (h.quiet ((Chg.refl NoB w).alloc (.cells #[.int .u8 0, .int .u8 0, .int .u8 0, .int .u8 0, .int .u8 0, .int .u8 0, .int .u8 0, .int .u8 0, .int .u8 0, .int .u8 0, .int .u8 0] 5))) nmA (by decide) (A := some ⟨w.heap.size, 0, none⟩) (c := 11) (l := zs 11) (fun h => by cases h) (cells_of_blk (Blk.new w 5 #[.int .u8 0, .int .u8 0, .int .u8 0, .int .u8 0, .int .u8 0, .int .u8 0, .int .u8 0, .int .u8 0, .int .u8 0, .int .u8 0, .int .u8 0]))
  rw [nil_1] at this
  exact this
theorem put10 (h : K w0 s nv0 w) : Calls Try.prog 12 #[ptr s, .string nmA, .slice (some ⟨w.heap.size, 0, none⟩) 10 10] (w.alloc (.cells #[.int .u8 0, .int .u8 0, .int .u8 0, .int .u8 0, .int .u8 0, .int .u8 0, .int .u8 0, .int .u8 0, .int .u8 0, .int .u8 0] 5)) (KPost w0 s (.int .i64 0) nv1) :=
  by
  have := put_k (h.quiet ((Chg.refl NoB w).alloc (.cells #[.int .u8 0, .int .u8 0, .int .u8 0, .int .u8 0, .int .u8 0, .int .u8 0, .int .u8 0, .int .u8 0, .int .u8 0, .int .u8 0] 5))) nmA (by decide) (A := some ⟨w.heap.size, 0, none⟩) (c := 10) (l := zs 10) (fun h => by cases h) (cells_of_blk (Blk.new w 5 #[.int .u8 0, .int .u8 0, .int .u8 0, .int .u8 0, .int .u8 0, .int .u8 0, .int .u8 0, .int .u8 0, .int .u8 0, .int .u8 0]))
  rw [nil_2] at this
  exact this
theorem put10b (h : K w0 s nv1 w) : Calls Try.prog 12 #[ptr s, .string nmA, .slice (some ⟨w.heap.size, 0, none⟩) 10 10] (w.alloc (.cells #[.int .u8 0, .int .u8 0, .int .u8 0, .int .u8 0, .int .u8 0, .int .u8 0, .int .u8 0, .int .u8 0, .int .u8 0, .int .u8 0] 5)) (KPost w0 s (.int .i64 0) nv2) :=
  by
  have := put_k (h.quiet ((Chg.refl NoB w).alloc (.cells #[.int .u8 0, .int .u8 0, .int .u8 0, .int .u8 0, .int .u8 0, .int .u8 0, .int .u8 0, .int .u8 0, .int .u8 0, .int .u8 0] 5))) nmA (by decide) (A := some ⟨w.heap.size, 0, none⟩) (c := 10) (l := zs 10) (fun h => by cases h) (cells_of_blk (Blk.new w 5 #[.int .u8 0, .int .u8 0, .int .u8 0, .int .u8 0, .int .u8 0, .int .u8 0, .int .u8 0, .int .u8 0, .int .u8 0, .int .u8 0]))
  rw [nil_3] at this
  exact this
theorem putNil (h : K w0 s v w) (nm : ByteArray) (hsz : nm.size ≤ maxLen) : Calls Try.prog 12 #[ptr s, .string nm, .slice none 0 0] w (KPost w0 s (.int .i64 (v.put nm []).1) (v.put nm []).2) :=
  put_k h nm hsz (A := none) (c := 0) (l := []) (fun _ => ⟨rfl, rfl⟩) (fun h => by cases h)
end
/-- the world holds the store, and beside it one that is not there -/
structure NB (w0 : World) (s b : Nat) (v : V) (W : World) : Prop where
  st : ∃ base F, StoreV base W s v F ∧ ∀ k, F k → w0.heap.size ≤ k ∧ k ≠ b
  bl : Blk W b 74 #[.map none, .slice none 0 0, .int .i64 0]
  ch : Chg NoB w0 W
section
variable {w0 w w' : World} {s b : Nat} {v : V}
theorem K.nb (h : K w0 s v w) : NB w0 s w.heap.size v (w.alloc (.cells #[.map none, .slice none 0 0, .int .i64 0] 74)) := by
  obtain ⟨F, h1, h2⟩ := h
  exact ⟨⟨_, F, h1.quiet ((Chg.refl _ _).alloc _), fun k hk => ⟨h1.low hk, by have := h1.lt hk; omega⟩⟩, Blk.new _ _ _, h2.alloc _⟩
theorem NB.quiet (h : NB w0 s b v w) (hc : Chg NoB w w') : NB w0 s b v w' := by
  obtain ⟨⟨base, F, h1, h2⟩, h3, h4⟩ := h
  exact ⟨⟨base, F, h1.quiet hc, h2⟩, h3.chg hc id, h4.trans hc⟩
theorem NB.gone (h : NB w0 s b v w) : Gone w (ptr b) := .inr ⟨b, rfl, h.bl⟩
theorem NB.put (h : NB w0 s b v w) (nm : ByteArray) (hsz : nm.size ≤ maxLen) : Calls Try.prog 12 #[ptr s, .string nm, .slice none 0 0] w fun e w' => e = .returned (.int .i64 (v.put nm []).1) ∧ NB w0 s b (v.put nm []).2 w' := by
  obtain ⟨⟨base, F, h1, h2⟩, h3, h4⟩ := h
  refine (put_v h1 nm hsz (A := none) (c := 0) (l := []) (fun _ => ⟨rfl, rfl⟩) (fun h => by cases h)).mono fun e w' hp => ?_
  obtain ⟨he, F', h5, h6, h7⟩ := hp
  have hb := h3.lt
  have h0 := h4.size
  refine ⟨he, ⟨_, F', h5, fun k hk => ?_⟩, h3.chg h6 (fun hF => (h2 _ hF).2 rfl), h4.step h6 fun k hk hF => absurd (h2 k hF).1 (by omega)⟩
  rcases Nat.lt_or_ge k w.heap.size with hlt | hge
  · exact h2 k (h7 k hk hlt)
  · omega
theorem NB.sameR (h : NB w0 s b v w) : Calls Try.prog 33 #[ptr s, ptr b] w (Quiet (.bool false) w) := by
  have hg := h.gone
  obtain ⟨⟨base, F, ⟨S, φ, h1, _, _⟩, _⟩, _, _⟩ := h
  exact no_Same_r hg h1
theorem NB.sameL (h : NB w0 s b v w) : Calls Try.prog 33 #[ptr b, ptr s] w (Quiet (.bool false) w) := by
  have hg := h.gone
  obtain ⟨⟨base, F, ⟨S, φ, h1, _, _⟩, _⟩, _, _⟩ := h
  exact no_Same_l hg h1
end
theorem nvp_look : lookD nmB (nvp 199).dir = some 2 := by
  show lookD nmB ((nmB, 2) :: (List.range 199).map (fun i => (fname (i + 1), 3 + i))) = some 2
  unfold lookD
  rw [if_pos ((MapKept.bytes_beq _ _).2 rfl)]
theorem fname_conv (w : World) (j : Nat) (hj : j < 199) : (convert 22 9 (.slice (some ⟨w.heap.size, 0, none⟩) 2 2)).run Try.prog (w.alloc (.cells #[.int .u8 (97 + ((j : Int) + 1) / 26), .int .u8 (97 + ((j : Int) + 1) % 26)] 5)) = .ok (.string ⟨#[UInt8.ofNat (97 + (j + 1) / 26), UInt8.ofNat (97 + (j + 1) % 26)]⟩) (w.alloc (.cells #[.int .u8 (97 + ((j : Int) + 1) / 26), .int .u8 (97 + ((j : Int) + 1) % 26)] 5)) := by
  have h1 : 97 + ((j : Int) + 1) / 26 = ((UInt8.ofNat (97 + (j + 1) / 26)).toNat : Int) := by
    rw [UInt8.toNat_ofNat']
    omega
  have h2 : 97 + ((j : Int) + 1) % 26 = ((UInt8.ofNat (97 + (j + 1) % 26)).toNat : Int) := by
    rw [UInt8.toNat_ofNat']
    omega
  rw [h1, h2]
  exact run_text (l := [UInt8.ofNat (97 + (j + 1) / 26), UInt8.ofNat (97 + (j + 1) % 26)]) rfl (cells_of_blk (Blk.new w 5 _))
theorem fname_app (j : Nat) : (⟨#[102]⟩ : ByteArray) ++ ⟨#[UInt8.ofNat (97 + (j + 1) / 26), UInt8.ofNat (97 + (j + 1) % 26)]⟩ = fname (j + 1) := by
  apply ByteArray.ext
  simp [fname]
theorem fname_lay (w : World) (j : Nat) (hj : j < 199) : ∃ s2 : ByteArray, (convert 22 9 (.slice (some ⟨w.heap.size, 0, none⟩) 2 2)).run Try.prog (w.alloc (.cells #[.int .u8 (97 + ((j : Int) + 1) / 26), .int .u8 (97 + ((j : Int) + 1) % 26)] 5)) = .ok (.string s2) (w.alloc (.cells #[.int .u8 (97 + ((j : Int) + 1) / 26), .int .u8 (97 + ((j : Int) + 1) % 26)] 5)) ∧ s2.size = 2 ∧ (⟨#[102]⟩ : ByteArray) ++ s2 = fname (j + 1) :=
  ⟨_, fname_conv w j hj, rfl, fname_app j⟩
set_option maxRecDepth 100000 in
set_option maxHeartbeats 4000000 in
theorem storeNil_walk (w0 : World) : Calls Try.prog 7 #[] w0 (Yes w0) := by
  have N := Go.Lib.hid num_c
  go_enter Try.func7, Try.ntmps7
  have H0 := Go.Lib.hid (new_k 10 (by decide) w0)
  go_wp2_with fail
  refine H0.out.mono ?_
  rintro e w1 ⟨s, rfl, h⟩
  clear H0
  unfold ptr
  go_wp2_with fail
  refine (N.out _ _).mono ?_
  rintro e wn ⟨rfl, he⟩
  obtain rfl := he.symm
  clear he
  have H := Go.Lib.hid (show Calls _ _ _ _ (KPost w0 s (.int .i64 5) (nv0)) from put11 h)
  clear h
  unfold ptr nmA at H
  have hmk := mk11
  go_wp2_with fail
  refine H.out.mono ?_
  rintro e w2 ⟨rfl, h⟩
  clear H
  clear hmk
  go_wp2_with fail
  refine (N.out _ _).mono ?_
  rintro e wn ⟨rfl, he⟩
  obtain rfl := he.symm
  clear he
  have H := Go.Lib.hid (show Calls _ _ _ _ (KPost w0 s (.int .i64 0) (nv1)) from put10 h)
  clear h
  unfold ptr nmA at H
  have hmk := mk10
  go_wp2_with fail
  refine H.out.mono ?_
  rintro e w3 ⟨rfl, h⟩
  clear H
  clear hmk
  go_wp2_with fail
  refine (N.out _ _).mono ?_
  rintro e wn ⟨rfl, he⟩
  obtain rfl := he.symm
  clear he
  have H := Go.Lib.hid (show Calls _ _ _ _ (KPost w0 s (.int .i64 0) (nv2)) from put10b h)
  clear h
  unfold ptr nmA at H
  have hmk := mk10
  go_wp2_with fail
  refine H.out.mono ?_
  rintro e w4 ⟨rfl, h⟩
  clear H
  clear hmk
  go_wp2_with fail
  refine (N.out _ _).mono ?_
  rintro e wn ⟨rfl, he⟩
  obtain rfl := he.symm
  clear he
  have H := Go.Lib.hid (show Calls _ _ _ _ (KPost w0 s (.int .i64 0) (nv2)) from nil_4 ▸ room_k h)
  clear h
  unfold ptr at H
  go_wp2_with fail
  refine H.out.mono ?_
  rintro e w5 ⟨rfl, h⟩
  clear H
  have H := Go.Lib.hid (show Calls _ _ _ _ (KPost w0 s (.int .i64 1) (nv3)) from nil_5 ▸ fresh_k h nmB (by decide))
  clear h
  unfold ptr nmB at H
  go_wp2_with fail
  refine H.out.mono ?_
  rintro e w6 ⟨rfl, h⟩
  clear H
  have H := Go.Lib.hid (show Calls _ _ _ _ (KPost w0 s (.int .i64 5) (nv3)) from nil_6 ▸ write_k h 1 1)
  clear h
  unfold ptr at H
  go_wp2_with fail
  refine H.out.mono ?_
  rintro e w7 ⟨rfl, h⟩
  clear H
  go_wp2_with fail
  refine (N.out _ _).mono ?_
  rintro e wn ⟨rfl, he⟩
  obtain rfl := he.symm
  clear he
  have H := Go.Lib.hid (show Calls _ _ _ _ (KPost w0 s (.int .i64 5) (nv3)) from nil_7 ▸ writeWord_k h 1 1 (by decide))
  clear h
  unfold ptr at H
  go_wp2_with fail
  refine H.out.mono ?_
  rintro e w8 ⟨rfl, h⟩
  clear H
  go_wp2_with fail
  refine (N.out _ _).mono ?_
  rintro e wn ⟨rfl, he⟩
  obtain rfl := he.symm
  clear he
  have H := Go.Lib.hid (show Calls _ _ _ _ (KPost w0 s (.int .i64 0) (nv4)) from nil_8 ▸ register_k h 1)
  clear h
  unfold ptr at H
  go_wp2_with fail
  refine H.out.mono ?_
  rintro e w9 ⟨rfl, h⟩
  clear H
  go_wp2_with fail
  refine (N.out _ _).mono ?_
  rintro e wn ⟨rfl, he⟩
  obtain rfl := he.symm
  clear he
  have H := Go.Lib.hid (show Calls _ _ _ _ (KPost w0 s (.int .i64 0) (nv5)) from nil_9 ▸ drop_k h nmA (by decide))
  clear h
  unfold ptr nmA at H
  go_wp2_with fail
  refine H.out.mono ?_
  rintro e w10 ⟨rfl, h⟩
  clear H
  go_wp2_with fail
  refine (N.out _ _).mono ?_
  rintro e wn ⟨rfl, he⟩
  obtain rfl := he.symm
  clear he
  have H := Go.Lib.hid (show Calls _ _ _ _ (KPost w0 s (.int .i64 0) (nvr 0)) from show Calls _ _ _ _ (KPost w0 s (.int .i64 0) nv6) from nil_10 ▸ writeWord_k h 1 1 (by decide))
  clear h
  unfold ptr at H
  go_wp2_with fail
  refine H.out.mono ?_
  rintro e w11 ⟨rfl, h⟩
  clear H
  go_wp2_with fail
  refine (N.out _ _).mono ?_
  rintro e wn ⟨rfl, he⟩
  obtain rfl := he.symm
  clear he
  have H := Go.Lib.hid (show Calls _ _ _ _ (KPost w0 s (.int .i64 6) (nvr 0)) from show Calls _ _ _ _ (KPost w0 s (.int .i64 6) nv6) from nil_11 ▸ room_k (v := nv6) h)
  clear h
  unfold ptr at H
  go_wp2_with fail
  refine H.out.mono ?_
  rintro e w12 ⟨rfl, h⟩
  clear H
  have HK := Go.Lib.hid h
  clear h
  go_wp2_with fail
  go_loopw [4] (fun i wr => ∃ j : Nat, j ≤ 254 ∧ i = .int .i64 ((j : Int) + 2) ∧ K w0 s (nvr j) wr) (fun i _ => 300 - (intOf i).toNat)
  case atStart => exact ⟨0, Nat.zero_le _, rfl, HK.out⟩
  case round =>
    clear HK
    obtain ⟨j, hj, rfl, h⟩ := hrel
    by_cases hlt : j < 254
    · have H := Go.Lib.hid (show Calls _ _ _ _ (KPost w0 s (.int .i64 ((j : Int) + 2)) (nvr (j + 1))) from by
        have := old_k h nmB (by decide)
        rw [nil_12 j hlt] at this
        simpa using this)
      clear h
      unfold ptr nmB at H
      go_wp2_with fail
      refine H.out.mono ?_
      rintro e wx ⟨rfl, h⟩
      clear H
      have HK := Go.Lib.hid h
      clear h
      go_wp2_with fail
      go_roundw
      case rel => exact ⟨j + 1, by omega, by go_num, HK.out⟩
      case measure => simp [intOf]; omega
    · obtain rfl : j = 254 := by omega
      have d1 : decide (((254 : Nat) : Int) + 2 ≤ 255) = false := by decide
      have H := Go.Lib.hid (show Calls _ _ _ _ (KPost w0 s (.int .i64 0) (nvr 254)) from nil_13 ▸ old_k h nmB (by decide))
      clear h hj hlt
      unfold ptr nmB at H
      go_wp2_with fail
      refine H.out.mono ?_
      rintro e w20 ⟨rfl, h⟩
      clear H d1
      have H := Go.Lib.hid (show Calls _ _ _ _ (KPost w0 s (.int .i64 0) (nvr 254)) from nil_14 ▸ fresh_k h nmC (by decide))
      clear h
      unfold ptr nmC at H
      go_wp2_with fail
      refine H.out.mono ?_
      rintro e w21 ⟨rfl, h⟩
      clear H
      have H := Go.Lib.hid (show Calls _ _ _ _ (KPost w0 s (.int .i64 255) (nvp 0)) from by
        have := riders_k h
        have hl : (nvr 254).rd.length = 255 := by unfold nvr; rw [List.length_cons, List.length_replicate]
        rw [hl] at this
        exact this)
      clear h
      unfold ptr at H
      go_wp2_with fail
      refine H.out.mono ?_
      rintro e w22 ⟨rfl, h⟩
      clear H
      have HK := Go.Lib.hid h
      clear h
      go_wp2_with fail
      go_loopw [5] (fun i wr => ∃ j : Nat, j ≤ 199 ∧ i = .int .i64 ((j : Int) + 1) ∧ K w0 s (nvp j) wr) (fun i _ => 300 - (intOf i).toNat)
      case atStart => exact ⟨0, Nat.zero_le _, rfl, HK.out⟩
      case round =>
        clear HK
        obtain ⟨j, hj, rfl, h⟩ := hrel
        by_cases hlt : j < 199
        · obtain ⟨s2, hcv, hs2, hs3⟩ := fname_lay wr j hlt
          have H := Go.Lib.hid (show Calls _ _ _ _ (KPost w0 s (.int .i64 0) (nvp (j + 1))) from nil_15 j hlt ▸ putNil (h.quiet ((Chg.refl NoB wr).alloc (.cells #[.int .u8 (97 + ((j : Int) + 1) / 26), .int .u8 (97 + ((j : Int) + 1) % 26)] 5))) (fname (j + 1)) (by rw [show (fname (j + 1)).size = 3 from rfl]; decide))
          rw [← hs3] at H
          clear hs3
          clear h
          unfold ptr at H
          go_wp2_with fail
          refine H.out.mono ?_
          rintro e wx ⟨rfl, h⟩
          clear H
          have HK := Go.Lib.hid h
          clear h
          go_wp2_with fail
          refine (N.out _ _).mono ?_
          rintro e wn ⟨rfl, he⟩
          obtain rfl := he.symm
          clear he hcv hs2
          go_wp2_with fail
          go_roundw
          case rel => exact ⟨j + 1, by omega, by go_num, HK.out⟩
          case measure => simp [intOf]; omega
        · obtain rfl : j = 199 := by omega
          have HK := Go.Lib.hid h
          clear h hj hlt
          go_wp2_with fail
          have HB := Go.Lib.hid HK.out.nb
          clear HK
          have H := Go.Lib.hid (show Calls _ _ _ _ (fun e w' => e = .returned (.int .i64 5) ∧ NB w0 s wr.heap.size (nvp 199) w') from nil_16 ▸ HB.out.put nmZ (by decide))
          unfold ptr nmZ at H
          refine H.out.mono ?_
          rintro e w41 ⟨rfl, h⟩
          clear H HB
          have HB := Go.Lib.hid h
          clear h
          go_wp2_with fail
          refine (N.out _ _).mono ?_
          rintro e wn ⟨rfl, he⟩
          obtain rfl := he.symm
          clear he
          go_wp2_with fail
          obtain ⟨v9, H9⟩ : ∃ v9, Hid (((nvp 199).put nmB []).2 = v9) := ⟨_, Go.Lib.hid rfl⟩
          have H := Go.Lib.hid (show Calls _ _ _ _ (fun e w' => e = .returned (.int .i64 0) ∧ NB w0 s wr.heap.size v9 w') from (by have := HB.out.put nmB (by decide); rw [H9.out, nil_17 (nvp 199) (by rw [nvp_look]; simp)] at this; exact this))
          unfold ptr nmB at H
          refine H.out.mono ?_
          rintro e w42 ⟨rfl, h⟩
          clear H HB
          have HB := Go.Lib.hid h
          clear h
          go_wp2_with fail
          refine (N.out _ _).mono ?_
          rintro e wn ⟨rfl, he⟩
          obtain rfl := he.symm
          clear he
          go_wp2_with fail
          have H := Go.Lib.hid (show Calls _ _ _ _ (fun e w' => e = .returned (.int .i64 2) ∧ NB w0 s wr.heap.size v9 w') from (by have := HB.out.put ⟨#[]⟩ (by decide); rw [nil_18 v9] at this; exact this))
          unfold ptr at H
          refine H.out.mono ?_
          rintro e w43 ⟨rfl, h⟩
          clear H HB
          have HB := Go.Lib.hid h
          clear h
          go_wp2_with fail
          refine (N.out _ _).mono ?_
          rintro e wn ⟨rfl, he⟩
          obtain rfl := he.symm
          clear he
          go_wp2_with fail
          have H := Go.Lib.hid (nothing_c (Gone.nil w43))
          try unfold ptr at H
          refine H.out.mono ?_
          rintro e w44 ⟨rfl, h⟩
          clear H
          have HB2 := Go.Lib.hid (HB.out.quiet h)
          clear h HB
          have HB := HB2
          clear HB2
          go_wp2_with fail
          have H := Go.Lib.hid (nothing_c HB.out.gone)
          try unfold ptr at H
          refine H.out.mono ?_
          rintro e w45 ⟨rfl, h⟩
          clear H
          have HB2 := Go.Lib.hid (HB.out.quiet h)
          clear h HB
          have HB := HB2
          clear HB2
          go_wp2_with fail
          have H := Go.Lib.hid (no_Same HB.out.gone (Gone.nil w45))
          try unfold ptr at H
          refine H.out.mono ?_
          rintro e w46 ⟨rfl, h⟩
          clear H
          have HB2 := Go.Lib.hid (HB.out.quiet h)
          clear h HB
          have HB := HB2
          clear HB2
          go_wp2_with fail
          have H := Go.Lib.hid (HB.out.sameL)
          try unfold ptr at H
          refine H.out.mono ?_
          rintro e w47 ⟨rfl, h⟩
          clear H
          have HB2 := Go.Lib.hid (HB.out.quiet h)
          clear h HB
          have HB := HB2
          clear HB2
          go_wp2_with fail
          have H := Go.Lib.hid (HB.out.sameR)
          try unfold ptr at H
          refine H.out.mono ?_
          rintro e w48 ⟨rfl, h⟩
          clear H
          have HB2 := Go.Lib.hid (HB.out.quiet h)
          clear h HB
          have HB := HB2
          clear HB2
          go_wp2_with fail
          refine (known_c _).mono ?_
          rintro e w49 ⟨rfl, h⟩
          have HE := Go.Lib.hid (HB.out.ch.trans h)
          clear h HB
          go_wp2_with fail
          go_ret
          exact ⟨rfl, HE.out⟩
end Go.Proofs.Ytebcomijknffmaa
