/- What is proved: the walk of the law TreeLooks. Conditions: the library's variable holds a number. -/
import Derived.Test.YtnihjkcniddepaaTSame
import Derived.Test.YtnihjkcniddepaaNames
namespace Go.Proofs.Ytnihjkcniddepaa
open Go.RowKit Go.Shelf
theorem flat_rows {w0 W w' : World} {d : Own} {ks : F} {A1 A2 A : Option Addr} {c1 c2 n c : Nat} (h : FlatIs w0 d ks 0 W w' A1 A2 c1 c2) (hN : IsN w0 d ks A n c) (hc : Chg NoB w0 w') : ∃ gl gd, A1 = some ⟨gl, 0, none⟩ ∧ A2 = some ⟨gd, 0, none⟩ ∧ IsL w' (some ⟨gl, 0, none⟩) (1 + ks.size) (F.flat (.cons d ks .nil)) ∧
    (∀ (i : Nat) (h : i < (visN w0 d ks A n c).length), w'.cell? ⟨gd, i, none⟩ = some (.int .i64 (visN w0 d ks A n c)[i].e)) ∧ 1 + ks.size ≤ c1 ∧ c1 ≤ maxLen ∧ 1 + ks.size ≤ c2 ∧ c2 ≤ maxLen := by
  obtain ⟨cs, h1, h2⟩ := h.cells
  have h3 := h.deps
  obtain ⟨gl, rfl⟩ := own_slice1 h2 (by omega)
  obtain ⟨gd, rfl⟩ := own_slice1 h3 (by omega)
  have hlen : (F.flat (.cons d ks .nil)).len = 1 + ks.size := by rw [F.flat_len]; simp [F.size]
  refine ⟨gl, gd, rfl, rfl, ?_, ?_, ?_⟩
  · have := (h1.chg hc).isL (b := gl) (o := 0) fun j u hu => by
      rw [Nat.zero_add, h2.cellAt j (by have := (List.getElem?_eq_some_iff.1 hu).1; have := h2.1; omega)]
      exact hu
    rwa [hlen] at this
  · intro i hi
    rw [visN_len] at hi
    rw [h3.cellAt i (by omega)]
    have he : F.depths (.cons d ks .nil) 0 = (visN w0 d ks A n c).map (·.e) := by
      simp only [F.depths, List.append_nil, visN, List.map_cons, visL_deps, Int.zero_add]
    rw [he]
    simp only [ints, List.map_map]
    rw [List.getElem?_map, List.getElem?_eq_getElem (by rw [visN_len]; omega)]
    rfl
  · rcases h2.2 with ⟨hv, _⟩ | ⟨g, cap, cur, hv, _, _, a1, a2, _⟩
    · cases hv
    · rcases h3.2 with ⟨hv', _⟩ | ⟨g', cap', cur', hv', _, _, b1, b2, _⟩
      · cases hv'
      · injection hv with _ _ hv
        injection hv' with _ _ hv'
        subst hv
        subst hv'
        exact ⟨a1, a2, b1, b2⟩
theorem own_form {W : World} {base : Nat} {t : TypeId} {size n : Nat} {v : Value} {xs : List Value} (h : W.ownsRow base t size v n xs) : ∃ A c, v = .slice A n c := by
  rcases h.2 with ⟨rfl, rfl⟩ | ⟨g, cap, cur, rfl, _⟩
  · exact ⟨none, 0, rfl⟩
  · exact ⟨_, _, rfl⟩
theorem own_cap {W : World} {base : Nat} {t : TypeId} {size n c : Nat} {A : Option Addr} {xs : List Value} (h : W.ownsRow base t size (.slice A n c) n xs) : n ≤ c ∧ c ≤ 9223372036854775807 := by
  rcases h.2 with ⟨hv, h0⟩ | ⟨g, cap, cur, hv, _, _, a1, a2, _⟩
  · injection hv with _ h1 h2
    subst h1; subst h2
    exact ⟨Nat.le_refl _, by omega⟩
  · injection hv with _ _ h2
    subst h2
    unfold maxLen at a2
    exact ⟨a1, by omega⟩
section
variable (d d1 : Own) (ks k1 : F) (A A1 : Option Addr) (n n1 c c1 : Nat) (a : Int) (w : World)
@[reducible] def L0 : World := (w.alloc (.cells #[.int .i64 d.kind, .string d.nm, .int .u32 d.val, .bool d.mark, .slice A n c] NT)).alloc (.cells #[.int .i64 d1.kind, .string d1.nm, .int .u32 d1.val, .bool d1.mark, .slice A1 n1 c1] NT)
theorem L0_chg : Chg NoB w (L0 d d1 A A1 n n1 c c1 w) := ((Chg.refl _ _).alloc _).alloc _
variable {d d1 A A1 n n1 c c1 w} in
theorem l_box {W : World} (hc : Chg NoB (L0 d d1 A A1 n n1 c c1 w) W) : (W.cell? ⟨w.heap.size, 0, none⟩ = some (.int .i64 d.kind) ∧ W.cell? ⟨w.heap.size, 1, none⟩ = some (.string d.nm) ∧ W.cell? ⟨w.heap.size, 2, none⟩ = some (.int .u32 d.val) ∧ W.cell? ⟨w.heap.size, 3, none⟩ = some (.bool d.mark) ∧ W.cell? ⟨w.heap.size, 4, none⟩ = some (.slice A n c)) ∧ (W.cell? ⟨w.heap.size + 1, 0, none⟩ = some (.int .i64 d1.kind) ∧ W.cell? ⟨w.heap.size + 1, 1, none⟩ = some (.string d1.nm) ∧ W.cell? ⟨w.heap.size + 1, 2, none⟩ = some (.int .u32 d1.val) ∧ W.cell? ⟨w.heap.size + 1, 3, none⟩ = some (.bool d1.mark) ∧ W.cell? ⟨w.heap.size + 1, 4, none⟩ = some (.slice A1 n1 c1)) := ⟨blk5 ((Blk.new _ _ _).alloc _) hc, blk5 (Blk.at_ _ _ _ _ (by simp)) hc⟩
set_option maxRecDepth 100000 in
set_option maxHeartbeats 1000000 in
theorem looks_0 (hN : IsN w d ks A n c) (hN1 : IsN w d1 k1 A1 n1 c1) (hv : Var0 w) (hb : ¬ 0 ≤ bigT d ks 400) :
    Calls Try.prog 6 #[nodeV d A n c, nodeV d1 A1 n1 c1, .int .i64 a] w fun e w' => e = .returned (.bool true) ∧ Chg NoB w w' := by
  have hw := L0_chg d d1 A A1 n n1 c c1 w
  have HK : Hid (∀ W, Chg NoB (L0 d d1 A A1 n n1 c c1 w) W → Calls Try.prog 9 #[] W fun e w' => e = .returned (.bool true) ∧ Chg NoB W w') := Go.Lib.hid fun W hW => known_c W (hv.chg (hw.trans hW))
  have HF0 : Hid (∀ W, Chg NoB (L0 d d1 A A1 n n1 c c1 w) W → Calls Try.prog 17 #[nodeV d A n c] W fun e w' => e = .returned (.bool (decide (0 ≤ bigT d ks 400))) ∧ Chg NoB W w') := Go.Lib.hid fun W hW => few_c d ks A n c W (hN.chg (hw.trans hW))
  have HF1 : Hid (∀ W, Chg NoB (L0 d d1 A A1 n n1 c c1 w) W → Calls Try.prog 17 #[nodeV d1 A1 n1 c1] W fun e w' => e = .returned (.bool (decide (0 ≤ bigT d1 k1 400))) ∧ Chg NoB W w') := Go.Lib.hid fun W hW => few_c d1 k1 A1 n1 c1 W (hN1.chg (hw.trans hW))
  have H0 := Go.Lib.hid hw
  rw [decide_eq_false hb] at HF0
  clear hN hN1 hv hb hw
  have HC : Hid (Chg NoB (L0 d d1 A A1 n n1 c c1 w) (L0 d d1 A A1 n n1 c c1 w)) := Go.Lib.hid (Chg.refl _ _)
  go_enter Try.func6, Try.ntmps6
  obtain ⟨⟨a0, a1, a2, a3, a4⟩, b0, b1, b2, b3, b4⟩ := l_box HC.out
  go_wp2_with fail
  refine (HF0.out _ HC.out).mono ?_
  rintro e wN ⟨rfl, hc⟩
  clear a0 a1 a2 a3 a4 b0 b1 b2 b3 b4
  have HC := Go.Lib.hid (HC.out.trans hc)
  clear hc
  obtain ⟨⟨a0, a1, a2, a3, a4⟩, b0, b1, b2, b3, b4⟩ := l_box HC.out
  go_wp2_with fail
  refine (HK.out _ HC.out).mono ?_
  rintro e wN ⟨rfl, hc⟩
  go_wp2_with fail
  go_ret
  exact ⟨rfl, H0.out.trans (HC.out.trans hc)⟩
set_option maxRecDepth 100000 in
set_option maxHeartbeats 1000000 in
theorem looks_1 (hN : IsN w d ks A n c) (hN1 : IsN w d1 k1 A1 n1 c1) (hv : Var0 w) (hb : 0 ≤ bigT d ks 400) (hb1 : ¬ 0 ≤ bigT d1 k1 400) :
    Calls Try.prog 6 #[nodeV d A n c, nodeV d1 A1 n1 c1, .int .i64 a] w fun e w' => e = .returned (.bool true) ∧ Chg NoB w w' := by
  have hw := L0_chg d d1 A A1 n n1 c c1 w
  have HK : Hid (∀ W, Chg NoB (L0 d d1 A A1 n n1 c c1 w) W → Calls Try.prog 9 #[] W fun e w' => e = .returned (.bool true) ∧ Chg NoB W w') := Go.Lib.hid fun W hW => known_c W (hv.chg (hw.trans hW))
  have HF0 : Hid (∀ W, Chg NoB (L0 d d1 A A1 n n1 c c1 w) W → Calls Try.prog 17 #[nodeV d A n c] W fun e w' => e = .returned (.bool (decide (0 ≤ bigT d ks 400))) ∧ Chg NoB W w') := Go.Lib.hid fun W hW => few_c d ks A n c W (hN.chg (hw.trans hW))
  have HF1 : Hid (∀ W, Chg NoB (L0 d d1 A A1 n n1 c c1 w) W → Calls Try.prog 17 #[nodeV d1 A1 n1 c1] W fun e w' => e = .returned (.bool (decide (0 ≤ bigT d1 k1 400))) ∧ Chg NoB W w') := Go.Lib.hid fun W hW => few_c d1 k1 A1 n1 c1 W (hN1.chg (hw.trans hW))
  have H0 := Go.Lib.hid hw
  rw [decide_eq_true hb] at HF0
  rw [decide_eq_false hb1] at HF1
  clear hN hN1 hv hb hb1 hw
  have HC : Hid (Chg NoB (L0 d d1 A A1 n n1 c c1 w) (L0 d d1 A A1 n n1 c c1 w)) := Go.Lib.hid (Chg.refl _ _)
  go_enter Try.func6, Try.ntmps6
  obtain ⟨⟨a0, a1, a2, a3, a4⟩, b0, b1, b2, b3, b4⟩ := l_box HC.out
  go_wp2_with fail
  refine (HF0.out _ HC.out).mono ?_
  rintro e wN ⟨rfl, hc⟩
  clear a0 a1 a2 a3 a4 b0 b1 b2 b3 b4
  have HC := Go.Lib.hid (HC.out.trans hc)
  clear hc
  obtain ⟨⟨a0, a1, a2, a3, a4⟩, b0, b1, b2, b3, b4⟩ := l_box HC.out
  go_wp2_with fail
  refine (HF1.out _ HC.out).mono ?_
  rintro e wN ⟨rfl, hc⟩
  clear a0 a1 a2 a3 a4 b0 b1 b2 b3 b4
  have HC := Go.Lib.hid (HC.out.trans hc)
  clear hc
  obtain ⟨⟨a0, a1, a2, a3, a4⟩, b0, b1, b2, b3, b4⟩ := l_box HC.out
  go_wp2_with fail
  refine (HK.out _ HC.out).mono ?_
  rintro e wN ⟨rfl, hc⟩
  go_wp2_with fail
  go_ret
  exact ⟨rfl, H0.out.trans (HC.out.trans hc)⟩
set_option maxRecDepth 100000 in
set_option maxHeartbeats 8000000 in
theorem looks_main (hN : IsN w d ks A n c) (hN1 : IsN w d1 k1 A1 n1 c1) (hv : Var0 w) (ha : -9223372036854775808 ≤ a ∧ a ≤ 9223372036854775807) (hb : 0 ≤ bigT d ks 400) (hb1 : 0 ≤ bigT d1 k1 400) :
    Calls Try.prog 6 #[nodeV d A n c, nodeV d1 A1 n1 c1, .int .i64 a] w fun e w' => e = .returned (.bool true) ∧ Chg NoB w w' := by
  have hw := L0_chg d d1 A A1 n n1 c c1 w
  have HK : Hid (∀ W, Chg NoB (L0 d d1 A A1 n n1 c c1 w) W → Calls Try.prog 9 #[] W fun e w' => e = .returned (.bool true) ∧ Chg NoB W w') := Go.Lib.hid fun W hW => known_c W (hv.chg (hw.trans hW))
  have HF0 : Hid (∀ W, Chg NoB (L0 d d1 A A1 n n1 c c1 w) W → Calls Try.prog 17 #[nodeV d A n c] W fun e w' => e = .returned (.bool (decide (0 ≤ bigT d ks 400))) ∧ Chg NoB W w') := Go.Lib.hid fun W hW => few_c d ks A n c W (hN.chg (hw.trans hW))
  have HF1 : Hid (∀ W, Chg NoB (L0 d d1 A A1 n n1 c c1 w) W → Calls Try.prog 17 #[nodeV d1 A1 n1 c1] W fun e w' => e = .returned (.bool (decide (0 ≤ bigT d1 k1 400))) ∧ Chg NoB W w') := Go.Lib.hid fun W hW => few_c d1 k1 A1 n1 c1 W (hN1.chg (hw.trans hW))
  have H0 := Go.Lib.hid hw
  rw [decide_eq_true hb] at HF0
  rw [decide_eq_true hb1] at HF1
  have hsz := bigT_size d ks 400 hb
  have HN := Go.Lib.hid hN
  have HN1 := Go.Lib.hid hN1
  have Ha := Go.Lib.hid ha
  clear hN hN1 hv hb hb1 hw ha
  have HC : Hid (Chg NoB (L0 d d1 A A1 n n1 c c1 w) (L0 d d1 A A1 n n1 c c1 w)) := Go.Lib.hid (Chg.refl _ _)
  go_enter Try.func6, Try.ntmps6
  obtain ⟨⟨a0, a1, a2, a3, a4⟩, b0, b1, b2, b3, b4⟩ := l_box HC.out
  go_wp2_with fail
  refine (HF0.out _ HC.out).mono ?_
  rintro e wN ⟨rfl, hc⟩
  clear a0 a1 a2 a3 a4 b0 b1 b2 b3 b4
  have HC := Go.Lib.hid (HC.out.trans hc)
  clear hc
  obtain ⟨⟨a0, a1, a2, a3, a4⟩, b0, b1, b2, b3, b4⟩ := l_box HC.out
  go_wp2_with fail
  refine (HF1.out _ HC.out).mono ?_
  rintro e wN ⟨rfl, hc⟩
  clear a0 a1 a2 a3 a4 b0 b1 b2 b3 b4
  have HC := Go.Lib.hid (HC.out.trans hc)
  clear hc
  obtain ⟨⟨a0, a1, a2, a3, a4⟩, b0, b1, b2, b3, b4⟩ := l_box HC.out
  go_wp2_with fail
  refine (Flat_c d ks A n c w _ 0 HN.out (H0.out.trans HC.out) (by omega)).mono ?_
  rintro e w2 ⟨F1, F2, m1, m2, rfl, hf⟩
  clear a0 a1 a2 a3 a4 b0 b1 b2 b3 b4
  obtain ⟨gl, gd, rfl, rfl, hl, hdp, hm1, hm2, hm3, hm4⟩ := flat_rows hf HN.out (H0.out.trans (HC.out.trans hf.chg))
  have HC2 := Go.Lib.hid (HC.out.trans hf.chg)
  clear hf
  unfold maxLen at hm2 hm4
  obtain ⟨N, hN0⟩ : ∃ N, N = 1 + ks.size := ⟨_, rfl⟩
  rw [← hN0] at hl hm1 hm3 ⊢
  have hNi : (N : Int) = 1 + ks.size := by rw [hN0]; simp
  have HNi := Go.Lib.hid hNi
  have HN0 := Go.Lib.hid hN0
  have hN1 : 1 ≤ N ∧ N ≤ 401 := by omega
  obtain ⟨vl, hvl⟩ : ∃ vl, vl = visN w d ks A n c := ⟨_, rfl⟩
  have hlen : vl.length = N := by rw [hvl, visN_len, hN0]
  have HD : Hid (∀ (i : Nat) (h : i < vl.length), w2.cell? ⟨gd, i, none⟩ = some (.int .i64 vl[i].e)) := Go.Lib.hid (by subst hvl; exact hdp)
  have HL : Hid (IsL w2 (some ⟨gl, 0, none⟩) N (F.flat (.cons d ks .nil)) ∧ ∀ (i : Nat) (h : i < vl.length), ∃ r, (F.flat (.cons d ks .nil)).drop i = .cons vl[i].d vl[i].ks r) := Go.Lib.hid ⟨hl, fun i h => by
    have h1 := visF_drop vl i h
    have h2 : visF vl = F.flat (.cons d ks .nil) := by
      rw [hvl]
      show F.cons d ks (visF (visL w ks A 1)) = _
      rw [visL_flat]
      simp only [F.flat, F.app_nil]
    rwa [h2] at h1⟩
  have HE : Hid (∀ v ∈ vl, 0 ≤ v.e ∧ v.e ≤ 1000000) := Go.Lib.hid (fun v hv => by rw [hvl] at hv; have := visN_e v hv; omega)
  have Hvl := Go.Lib.hid hvl
  clear hvl hl hdp hNi hN0
  go_wp2_with fail
  go_loopw [9, 10, 11] (fun v9 v10 v11 W => ∃ (i : Nat) (An : Option Addr) (cn : Nat), i ≤ N ∧ v11 = .int .i64 i ∧ v9 = .int .i64 (maxE (vl.take i) 0) ∧ v10 = .slice An (nmsL ((vl.take i).map (·.d)) []).length cn ∧ W.ownsRow w2.heap.size CT 1 (.slice An (nmsL ((vl.take i).map (·.d)) []).length cn) (nmsL ((vl.take i).map (·.d)) []).length ((nmsL ((vl.take i).map (·.d)) []).map Value.string) ∧ Chg NoB w2 W) (fun _ _ v11 _ => N - (intOf v11).toNat)
  case atStart => exact ⟨0, none, 0, Nat.zero_le _, rfl, rfl, rfl, ⟨rfl, .inl ⟨rfl, rfl⟩⟩, Chg.refl _ _⟩
  case round =>
    obtain ⟨i, An, cn, hi, rfl, rfl, rfl, hown, hch⟩ := hrel
    have Hown := Go.Lib.hid hown
    have Hch := Go.Lib.hid hch
    clear hown hch
    by_cases hlt : i < N
    · have hlt' : i < vl.length := by omega
      have hd1 := Hch.out.cell (HD.out i hlt') id
      obtain ⟨ur, hl1⟩ := HL.out.2 i hlt'
      have hsnoc : vl.take (i + 1) = vl.take i ++ [vl[i]] := by rw [List.take_add_one, List.getElem?_eq_getElem hlt']; rfl
      have hee := HE.out vl[i] (List.getElem_mem _)
      have HX : Hid (∀ W An' cn', W.ownsRow w2.heap.size CT 1 (.slice An' (nmStep (nmsL ((vl.take i).map (·.d)) []) vl[i].d).length cn') (nmStep (nmsL ((vl.take i).map (·.d)) []) vl[i].d).length ((nmStep (nmsL ((vl.take i).map (·.d)) []) vl[i].d).map Value.string) → Chg NoB w2 W → ∃ (j : Nat) (An : Option Addr) (cn : Nat), j ≤ N ∧ Value.int .i64 ((i : Int) + 1) = .int .i64 j ∧ Value.int .i64 (max (maxE (vl.take i) 0) vl[i].e) = .int .i64 (maxE (vl.take j) 0) ∧ Value.slice An' (nmStep (nmsL ((vl.take i).map (·.d)) []) vl[i].d).length cn' = .slice An (nmsL ((vl.take j).map (·.d)) []).length cn ∧ W.ownsRow w2.heap.size CT 1 (.slice An (nmsL ((vl.take j).map (·.d)) []).length cn) (nmsL ((vl.take j).map (·.d)) []).length ((nmsL ((vl.take j).map (·.d)) []).map Value.string) ∧ Chg NoB w2 W) := Go.Lib.hid (fun W An' cn' h1 h2 => by
        refine ⟨i + 1, An', cn', by omega, by simp, ?_, ?_, ?_, h2⟩
        · rw [hsnoc, maxE_snoc]
        · rw [hsnoc, List.map_append, List.map_cons, List.map_nil, nmsL_snoc]
        · rw [hsnoc, List.map_append, List.map_cons, List.map_nil, nmsL_snoc]; exact h1)
      have hal : (nmsL ((vl.take i).map (·.d)) []).length ≤ 401 := by
        have h1 := nmsL_len ((vl.take i).map (·.d)) []
        rw [List.length_map, List.length_take, List.length_nil] at h1
        omega
      clear hsnoc
      generalize nmsL ((vl.take i).map (·.d)) [] = acc at *
      generalize maxE (vl.take i) 0 = mx at *
      generalize vl[i] = u at *
      obtain ⟨qb, qo, qd, qk, qr, uA, un, uc, hq, hq1, ok, le, mo, c0, c1', c2, c3, c4, hk1⟩ := (HL.out.1.chg Hch.out).at_ (k := i) (by omega)
      injection hq with hq
      injection hq with hq2 hq3
      subst hq2
      subst hq3
      rw [hl1] at hq1
      injection hq1 with hq4 hq5 _
      subst hq4
      subst hq5
      rw [Nat.zero_add] at c0 c1'
      have HCN : Hid (∀ W, Chg NoB wr W → W.cell? ⟨gl, i * 5 + 1, none⟩ = some (.string u.d.nm)) := Go.Lib.hid fun W h => h.cell c1' id
      have hi1 : (0 : Int) ≤ i := by omega
      have hi2 : (i : Int) < N := by omega
      have hcls : (u.d.kind != 27) = false ∨ ((u.d.kind != 27) = true ∧ (u.d.kind != 34) = false) ∨ ((u.d.kind != 27) = true ∧ (u.d.kind != 34) = true ∧ (u.d.kind != 35) = false) ∨ ((u.d.kind != 27) = true ∧ (u.d.kind != 34) = true ∧ (u.d.kind != 35) = true) := by
        cases (u.d.kind != 27) <;> cases (u.d.kind != 34) <;> cases (u.d.kind != 35) <;> simp
      clear hl1 ok le mo c2 c3 c4 hk1
      rcases hcls with q1 | ⟨q1, q2⟩ | ⟨q1, q2, q3⟩ | ⟨q1, q2, q3⟩
      · have hpl : nmStep acc u.d = acc := by unfold nmStep plainB; rw [q1]; rfl
        have Hpl := Go.Lib.hid hpl
        clear hpl
        go_wp2_with fail
        go_loopw [13, 14] (fun v13 v14 W => ∃ k : Nat, k ≤ acc.length ∧ v14 = .int .i64 k ∧ v13 = .bool ((acc.take k).any fun s => s.toList == u.d.nm.toList) ∧ Chg NoB wr W) (fun _ v14 _ => acc.length - (intOf v14).toNat)
        case atStart => exact ⟨0, Nat.zero_le _, rfl, rfl, Chg.refl _ _⟩
        case round =>
          obtain ⟨k, hk, rfl, rfl, hch2⟩ := hrel
          have Hch2 := Go.Lib.hid hch2
          have hnm := HCN.out _ hch2
          clear hch2
          by_cases hk2 : k < acc.length
          · obtain ⟨gn, rfl⟩ := own_slice1 Hown.out (by omega)
            have hcell := (own_chg (F := NoB) Hown.out Hch2.out (fun _ _ => id)).cellAt k (by omega)
            rw [List.getElem?_map, List.getElem?_eq_getElem hk2] at hcell
            have HS := Go.Lib.hid (fun W (h : Chg NoB wr W) => And.intro (h.cell (p := ⟨gn, k, none⟩) (v := .string acc[k]) hcell id) (h.cell hnm id))
            have hke : (acc.take (k + 1)).any (fun s => s.toList == u.d.nm.toList) = ((acc.take k).any (fun s => s.toList == u.d.nm.toList) || (acc[k].toList == u.d.nm.toList)) := by
              rw [List.take_add_one, List.getElem?_eq_getElem hk2, List.any_append]; simp
            have hk3 : (0 : Int) ≤ k := by omega
            have hk4 : (k : Int) < acc.length := by omega
            have hcn : acc.length ≤ cn ∧ cn ≤ 9223372036854775807 := own_cap Hown.out
            have hcn1 := hcn.1
            have hcn2 := hcn.2
            clear hcell hcn
            generalize acc[k] = sk at *
            cases hsn : (acc.take k).any (fun s => s.toList == u.d.nm.toList) with
            | true =>
              rw [hsn] at hke
              have Hke := Go.Lib.hid hke
              clear hke hsn
              go_wp2_with fail
              refine wp_region_held_drew (S := fun _ => True) (by kernel_rfl) trivial (fun _ => ?_)
              refine takeH (i := 0) (t := 71) (v := ?vq15) rfl (by kernel_rfl) (by kernel_rfl) (by kernel_rfl) (fun _ _ _ h => h) rfl (Or.inl ⟨by rfl, ?hq15⟩) trivial ?rq15
              case hq15 => (intro w hSw; (try dsimp only at hSw); go_simp; try with_reducible rfl)
              simp only [List.setIfInBounds_toArray, List.set_cons_zero, List.set_cons_succ]
              refine takeH (i := 1) (t := 72) (v := ?vq16) rfl (by kernel_rfl) (by kernel_rfl) (by kernel_rfl) (fun _ _ _ h => h) rfl (Or.inl ⟨by rfl, ?hq16⟩) trivial ?rq16
              case hq16 => (intro w hSw; (try dsimp only at hSw); go_simp; try with_reducible rfl)
              simp only [List.setIfInBounds_toArray, List.set_cons_zero, List.set_cons_succ]
              refine takeH (i := 2) (t := 73) (v := undef) rfl (by kernel_rfl) (by kernel_rfl) (by kernel_rfl) (fun _ _ _ h => h) rfl (Or.inr ⟨by rfl, rfl⟩) trivial ?_
              simp only [List.setIfInBounds_toArray, List.set_cons_zero, List.set_cons_succ]
              refine takeH (i := 3) (t := 74) (v := undef) rfl (by kernel_rfl) (by kernel_rfl) (by kernel_rfl) (fun _ _ _ h => h) rfl (Or.inr ⟨by rfl, rfl⟩) trivial ?_
              simp only [List.setIfInBounds_toArray, List.set_cons_zero, List.set_cons_succ]
              refine takeH (i := 4) (t := 75) (v := undef) rfl (by kernel_rfl) (by kernel_rfl) (by kernel_rfl) (fun _ _ _ h => h) rfl (Or.inr ⟨by rfl, rfl⟩) trivial ?_
              simp only [List.setIfInBounds_toArray, List.set_cons_zero, List.set_cons_succ]
              refine takeH (i := 5) (t := 76) (v := undef) rfl (by kernel_rfl) (by kernel_rfl) (by kernel_rfl) (fun _ _ _ h => h) rfl (Or.inr ⟨by rfl, rfl⟩) trivial ?_
              simp only [List.setIfInBounds_toArray, List.set_cons_zero, List.set_cons_succ]
              refine takeH (i := 6) (t := 77) (v := undef) rfl (by kernel_rfl) (by kernel_rfl) (by kernel_rfl) (fun _ _ _ h => h) rfl (Or.inr ⟨by rfl, rfl⟩) trivial ?_
              simp only [List.setIfInBounds_toArray, List.set_cons_zero, List.set_cons_succ]
              refine takeH (i := 7) (t := 78) (v := undef) rfl (by kernel_rfl) (by kernel_rfl) (by kernel_rfl) (fun _ _ _ h => h) rfl (Or.inr ⟨by rfl, rfl⟩) trivial ?_
              simp only [List.setIfInBounds_toArray, List.set_cons_zero, List.set_cons_succ]
              refine takeH (i := 8) (t := 79) (v := undef) rfl (by kernel_rfl) (by kernel_rfl) (by kernel_rfl) (fun _ _ _ h => h) rfl (Or.inr ⟨by rfl, rfl⟩) trivial ?_
              simp only [List.setIfInBounds_toArray, List.set_cons_zero, List.set_cons_succ]
              refine takeH (i := 9) (t := 80) (v := undef) rfl (by kernel_rfl) (by kernel_rfl) (by kernel_rfl) (fun _ _ _ h => h) rfl (Or.inr ⟨by rfl, rfl⟩) trivial ?_
              simp only [List.setIfInBounds_toArray, List.set_cons_zero, List.set_cons_succ]
              refine takeH (i := 10) (t := 81) (v := undef) rfl (by kernel_rfl) (by kernel_rfl) (by kernel_rfl) (fun _ _ _ h => h) rfl (Or.inr ⟨by rfl, rfl⟩) trivial ?_
              simp only [List.setIfInBounds_toArray, List.set_cons_zero, List.set_cons_succ]
              refine takeH (i := 11) (t := 82) (v := undef) rfl (by kernel_rfl) (by kernel_rfl) (by kernel_rfl) (fun _ _ _ h => h) rfl (Or.inr ⟨by rfl, rfl⟩) trivial ?_
              simp only [List.setIfInBounds_toArray, List.set_cons_zero, List.set_cons_succ]
              refine takeH (i := 12) (t := 83) (v := ?vq27) rfl (by kernel_rfl) (by kernel_rfl) (by kernel_rfl) (fun _ _ _ h => h) rfl (Or.inl ⟨by rfl, ?hq27⟩) trivial ?rq27
              case hq27 => (intro w hSw; (try dsimp only at hSw); go_simp; try with_reducible rfl)
              simp only [List.setIfInBounds_toArray, List.set_cons_zero, List.set_cons_succ]
              refine takeH (i := 13) (t := 13) (v := ?vq28) rfl (by kernel_rfl) (by kernel_rfl) (by kernel_rfl) (fun _ _ _ h => h) rfl (Or.inl ⟨by rfl, ?hq28⟩) trivial ?rq28
              case hq28 => (intro w hSw; (try dsimp only at hSw); go_simp; try with_reducible rfl)
              simp only [List.setIfInBounds_toArray, List.set_cons_zero, List.set_cons_succ]
              refine wpAnyH_done (by kernel_rfl) ?_ _
              go_wp2_with fail
              go_roundw
              case rel => exact ⟨k + 1, by omega, by go_num, by rw [Hke.out]; rfl, Hch2.out.drew⟩
              case measure => simp [intOf]; omega
            | false =>
              rw [hsn] at hke
              have Hke := Go.Lib.hid hke
              clear hke hsn
              go_wp2_with fail
              set_option maxRecDepth 100000 in
              go_region_held3 (fun W => W.cell? ⟨gn, k, none⟩ = some (.string sk) ∧ W.cell? ⟨gl, i * 5 + 1, none⟩ = some (.string u.d.nm)) (exact HS.out _ (Chg.refl _ _).drew) (fail)
              go_wp2_with fail
              go_roundw
              case rel => exact ⟨k + 1, by omega, by go_num, by rw [Hke.out]; rfl, Hch2.out.drew⟩
              case measure => simp [intOf]; omega
          · obtain rfl : k = acc.length := by omega
            rw [List.take_of_length_le (Nat.le_refl _)]
            rw [Hpl.out] at HX
            have HR := Go.Lib.hid (HX.out wr An cn (own_chg (F := NoB) Hown.out Hch2.out (fun _ _ => id)) (Hch.out.trans Hch2.out))
            go_wp2_with fail
            go_roundw
            case rel => exact HR.out
            case measure => simp [intOf]; omega
      · have hpl : nmStep acc u.d = acc := by unfold nmStep plainB; rw [q1, q2]; rfl
        have Hpl := Go.Lib.hid hpl
        clear hpl
        go_wp2_with fail
        go_loopw [13, 14] (fun v13 v14 W => ∃ k : Nat, k ≤ acc.length ∧ v14 = .int .i64 k ∧ v13 = .bool ((acc.take k).any fun s => s.toList == u.d.nm.toList) ∧ Chg NoB wr W) (fun _ v14 _ => acc.length - (intOf v14).toNat)
        case atStart => exact ⟨0, Nat.zero_le _, rfl, rfl, Chg.refl _ _⟩
        case round =>
          obtain ⟨k, hk, rfl, rfl, hch2⟩ := hrel
          have Hch2 := Go.Lib.hid hch2
          have hnm := HCN.out _ hch2
          clear hch2
          by_cases hk2 : k < acc.length
          · obtain ⟨gn, rfl⟩ := own_slice1 Hown.out (by omega)
            have hcell := (own_chg (F := NoB) Hown.out Hch2.out (fun _ _ => id)).cellAt k (by omega)
            rw [List.getElem?_map, List.getElem?_eq_getElem hk2] at hcell
            have HS := Go.Lib.hid (fun W (h : Chg NoB wr W) => And.intro (h.cell (p := ⟨gn, k, none⟩) (v := .string acc[k]) hcell id) (h.cell hnm id))
            have hke : (acc.take (k + 1)).any (fun s => s.toList == u.d.nm.toList) = ((acc.take k).any (fun s => s.toList == u.d.nm.toList) || (acc[k].toList == u.d.nm.toList)) := by
              rw [List.take_add_one, List.getElem?_eq_getElem hk2, List.any_append]; simp
            have hk3 : (0 : Int) ≤ k := by omega
            have hk4 : (k : Int) < acc.length := by omega
            have hcn : acc.length ≤ cn ∧ cn ≤ 9223372036854775807 := own_cap Hown.out
            have hcn1 := hcn.1
            have hcn2 := hcn.2
            clear hcell hcn
            generalize acc[k] = sk at *
            cases hsn : (acc.take k).any (fun s => s.toList == u.d.nm.toList) with
            | true =>
              rw [hsn] at hke
              have Hke := Go.Lib.hid hke
              clear hke hsn
              go_wp2_with fail
              refine wp_region_held_drew (S := fun _ => True) (by kernel_rfl) trivial (fun _ => ?_)
              refine takeH (i := 0) (t := 71) (v := ?vq29) rfl (by kernel_rfl) (by kernel_rfl) (by kernel_rfl) (fun _ _ _ h => h) rfl (Or.inl ⟨by rfl, ?hq29⟩) trivial ?rq29
              case hq29 => (intro w hSw; (try dsimp only at hSw); go_simp; try with_reducible rfl)
              simp only [List.setIfInBounds_toArray, List.set_cons_zero, List.set_cons_succ]
              refine takeH (i := 1) (t := 72) (v := ?vq30) rfl (by kernel_rfl) (by kernel_rfl) (by kernel_rfl) (fun _ _ _ h => h) rfl (Or.inl ⟨by rfl, ?hq30⟩) trivial ?rq30
              case hq30 => (intro w hSw; (try dsimp only at hSw); go_simp; try with_reducible rfl)
              simp only [List.setIfInBounds_toArray, List.set_cons_zero, List.set_cons_succ]
              refine takeH (i := 2) (t := 73) (v := undef) rfl (by kernel_rfl) (by kernel_rfl) (by kernel_rfl) (fun _ _ _ h => h) rfl (Or.inr ⟨by rfl, rfl⟩) trivial ?_
              simp only [List.setIfInBounds_toArray, List.set_cons_zero, List.set_cons_succ]
              refine takeH (i := 3) (t := 74) (v := undef) rfl (by kernel_rfl) (by kernel_rfl) (by kernel_rfl) (fun _ _ _ h => h) rfl (Or.inr ⟨by rfl, rfl⟩) trivial ?_
              simp only [List.setIfInBounds_toArray, List.set_cons_zero, List.set_cons_succ]
              refine takeH (i := 4) (t := 75) (v := undef) rfl (by kernel_rfl) (by kernel_rfl) (by kernel_rfl) (fun _ _ _ h => h) rfl (Or.inr ⟨by rfl, rfl⟩) trivial ?_
              simp only [List.setIfInBounds_toArray, List.set_cons_zero, List.set_cons_succ]
              refine takeH (i := 5) (t := 76) (v := undef) rfl (by kernel_rfl) (by kernel_rfl) (by kernel_rfl) (fun _ _ _ h => h) rfl (Or.inr ⟨by rfl, rfl⟩) trivial ?_
              simp only [List.setIfInBounds_toArray, List.set_cons_zero, List.set_cons_succ]
              refine takeH (i := 6) (t := 77) (v := undef) rfl (by kernel_rfl) (by kernel_rfl) (by kernel_rfl) (fun _ _ _ h => h) rfl (Or.inr ⟨by rfl, rfl⟩) trivial ?_
              simp only [List.setIfInBounds_toArray, List.set_cons_zero, List.set_cons_succ]
              refine takeH (i := 7) (t := 78) (v := undef) rfl (by kernel_rfl) (by kernel_rfl) (by kernel_rfl) (fun _ _ _ h => h) rfl (Or.inr ⟨by rfl, rfl⟩) trivial ?_
              simp only [List.setIfInBounds_toArray, List.set_cons_zero, List.set_cons_succ]
              refine takeH (i := 8) (t := 79) (v := undef) rfl (by kernel_rfl) (by kernel_rfl) (by kernel_rfl) (fun _ _ _ h => h) rfl (Or.inr ⟨by rfl, rfl⟩) trivial ?_
              simp only [List.setIfInBounds_toArray, List.set_cons_zero, List.set_cons_succ]
              refine takeH (i := 9) (t := 80) (v := undef) rfl (by kernel_rfl) (by kernel_rfl) (by kernel_rfl) (fun _ _ _ h => h) rfl (Or.inr ⟨by rfl, rfl⟩) trivial ?_
              simp only [List.setIfInBounds_toArray, List.set_cons_zero, List.set_cons_succ]
              refine takeH (i := 10) (t := 81) (v := undef) rfl (by kernel_rfl) (by kernel_rfl) (by kernel_rfl) (fun _ _ _ h => h) rfl (Or.inr ⟨by rfl, rfl⟩) trivial ?_
              simp only [List.setIfInBounds_toArray, List.set_cons_zero, List.set_cons_succ]
              refine takeH (i := 11) (t := 82) (v := undef) rfl (by kernel_rfl) (by kernel_rfl) (by kernel_rfl) (fun _ _ _ h => h) rfl (Or.inr ⟨by rfl, rfl⟩) trivial ?_
              simp only [List.setIfInBounds_toArray, List.set_cons_zero, List.set_cons_succ]
              refine takeH (i := 12) (t := 83) (v := ?vq41) rfl (by kernel_rfl) (by kernel_rfl) (by kernel_rfl) (fun _ _ _ h => h) rfl (Or.inl ⟨by rfl, ?hq41⟩) trivial ?rq41
              case hq41 => (intro w hSw; (try dsimp only at hSw); go_simp; try with_reducible rfl)
              simp only [List.setIfInBounds_toArray, List.set_cons_zero, List.set_cons_succ]
              refine takeH (i := 13) (t := 13) (v := ?vq42) rfl (by kernel_rfl) (by kernel_rfl) (by kernel_rfl) (fun _ _ _ h => h) rfl (Or.inl ⟨by rfl, ?hq42⟩) trivial ?rq42
              case hq42 => (intro w hSw; (try dsimp only at hSw); go_simp; try with_reducible rfl)
              simp only [List.setIfInBounds_toArray, List.set_cons_zero, List.set_cons_succ]
              refine wpAnyH_done (by kernel_rfl) ?_ _
              go_wp2_with fail
              go_roundw
              case rel => exact ⟨k + 1, by omega, by go_num, by rw [Hke.out]; rfl, Hch2.out.drew⟩
              case measure => simp [intOf]; omega
            | false =>
              rw [hsn] at hke
              have Hke := Go.Lib.hid hke
              clear hke hsn
              go_wp2_with fail
              set_option maxRecDepth 100000 in
              go_region_held3 (fun W => W.cell? ⟨gn, k, none⟩ = some (.string sk) ∧ W.cell? ⟨gl, i * 5 + 1, none⟩ = some (.string u.d.nm)) (exact HS.out _ (Chg.refl _ _).drew) (fail)
              go_wp2_with fail
              go_roundw
              case rel => exact ⟨k + 1, by omega, by go_num, by rw [Hke.out]; rfl, Hch2.out.drew⟩
              case measure => simp [intOf]; omega
          · obtain rfl : k = acc.length := by omega
            rw [List.take_of_length_le (Nat.le_refl _)]
            rw [Hpl.out] at HX
            have HR := Go.Lib.hid (HX.out wr An cn (own_chg (F := NoB) Hown.out Hch2.out (fun _ _ => id)) (Hch.out.trans Hch2.out))
            go_wp2_with fail
            go_roundw
            case rel => exact HR.out
            case measure => simp [intOf]; omega
      · have hpl : nmStep acc u.d = acc := by unfold nmStep plainB; rw [q1, q2, q3]; rfl
        have Hpl := Go.Lib.hid hpl
        clear hpl
        go_wp2_with fail
        go_loopw [13, 14] (fun v13 v14 W => ∃ k : Nat, k ≤ acc.length ∧ v14 = .int .i64 k ∧ v13 = .bool ((acc.take k).any fun s => s.toList == u.d.nm.toList) ∧ Chg NoB wr W) (fun _ v14 _ => acc.length - (intOf v14).toNat)
        case atStart => exact ⟨0, Nat.zero_le _, rfl, rfl, Chg.refl _ _⟩
        case round =>
          obtain ⟨k, hk, rfl, rfl, hch2⟩ := hrel
          have Hch2 := Go.Lib.hid hch2
          have hnm := HCN.out _ hch2
          clear hch2
          by_cases hk2 : k < acc.length
          · obtain ⟨gn, rfl⟩ := own_slice1 Hown.out (by omega)
            have hcell := (own_chg (F := NoB) Hown.out Hch2.out (fun _ _ => id)).cellAt k (by omega)
            rw [List.getElem?_map, List.getElem?_eq_getElem hk2] at hcell
            have HS := Go.Lib.hid (fun W (h : Chg NoB wr W) => And.intro (h.cell (p := ⟨gn, k, none⟩) (v := .string acc[k]) hcell id) (h.cell hnm id))
            have hke : (acc.take (k + 1)).any (fun s => s.toList == u.d.nm.toList) = ((acc.take k).any (fun s => s.toList == u.d.nm.toList) || (acc[k].toList == u.d.nm.toList)) := by
              rw [List.take_add_one, List.getElem?_eq_getElem hk2, List.any_append]; simp
            have hk3 : (0 : Int) ≤ k := by omega
            have hk4 : (k : Int) < acc.length := by omega
            have hcn : acc.length ≤ cn ∧ cn ≤ 9223372036854775807 := own_cap Hown.out
            have hcn1 := hcn.1
            have hcn2 := hcn.2
            clear hcell hcn
            generalize acc[k] = sk at *
            cases hsn : (acc.take k).any (fun s => s.toList == u.d.nm.toList) with
            | true =>
              rw [hsn] at hke
              have Hke := Go.Lib.hid hke
              clear hke hsn
              go_wp2_with fail
              refine wp_region_held_drew (S := fun _ => True) (by kernel_rfl) trivial (fun _ => ?_)
              refine takeH (i := 0) (t := 71) (v := ?vq43) rfl (by kernel_rfl) (by kernel_rfl) (by kernel_rfl) (fun _ _ _ h => h) rfl (Or.inl ⟨by rfl, ?hq43⟩) trivial ?rq43
              case hq43 => (intro w hSw; (try dsimp only at hSw); go_simp; try with_reducible rfl)
              simp only [List.setIfInBounds_toArray, List.set_cons_zero, List.set_cons_succ]
              refine takeH (i := 1) (t := 72) (v := ?vq44) rfl (by kernel_rfl) (by kernel_rfl) (by kernel_rfl) (fun _ _ _ h => h) rfl (Or.inl ⟨by rfl, ?hq44⟩) trivial ?rq44
              case hq44 => (intro w hSw; (try dsimp only at hSw); go_simp; try with_reducible rfl)
              simp only [List.setIfInBounds_toArray, List.set_cons_zero, List.set_cons_succ]
              refine takeH (i := 2) (t := 73) (v := undef) rfl (by kernel_rfl) (by kernel_rfl) (by kernel_rfl) (fun _ _ _ h => h) rfl (Or.inr ⟨by rfl, rfl⟩) trivial ?_
              simp only [List.setIfInBounds_toArray, List.set_cons_zero, List.set_cons_succ]
              refine takeH (i := 3) (t := 74) (v := undef) rfl (by kernel_rfl) (by kernel_rfl) (by kernel_rfl) (fun _ _ _ h => h) rfl (Or.inr ⟨by rfl, rfl⟩) trivial ?_
              simp only [List.setIfInBounds_toArray, List.set_cons_zero, List.set_cons_succ]
              refine takeH (i := 4) (t := 75) (v := undef) rfl (by kernel_rfl) (by kernel_rfl) (by kernel_rfl) (fun _ _ _ h => h) rfl (Or.inr ⟨by rfl, rfl⟩) trivial ?_
              simp only [List.setIfInBounds_toArray, List.set_cons_zero, List.set_cons_succ]
              refine takeH (i := 5) (t := 76) (v := undef) rfl (by kernel_rfl) (by kernel_rfl) (by kernel_rfl) (fun _ _ _ h => h) rfl (Or.inr ⟨by rfl, rfl⟩) trivial ?_
              simp only [List.setIfInBounds_toArray, List.set_cons_zero, List.set_cons_succ]
              refine takeH (i := 6) (t := 77) (v := undef) rfl (by kernel_rfl) (by kernel_rfl) (by kernel_rfl) (fun _ _ _ h => h) rfl (Or.inr ⟨by rfl, rfl⟩) trivial ?_
              simp only [List.setIfInBounds_toArray, List.set_cons_zero, List.set_cons_succ]
              refine takeH (i := 7) (t := 78) (v := undef) rfl (by kernel_rfl) (by kernel_rfl) (by kernel_rfl) (fun _ _ _ h => h) rfl (Or.inr ⟨by rfl, rfl⟩) trivial ?_
              simp only [List.setIfInBounds_toArray, List.set_cons_zero, List.set_cons_succ]
              refine takeH (i := 8) (t := 79) (v := undef) rfl (by kernel_rfl) (by kernel_rfl) (by kernel_rfl) (fun _ _ _ h => h) rfl (Or.inr ⟨by rfl, rfl⟩) trivial ?_
              simp only [List.setIfInBounds_toArray, List.set_cons_zero, List.set_cons_succ]
              refine takeH (i := 9) (t := 80) (v := undef) rfl (by kernel_rfl) (by kernel_rfl) (by kernel_rfl) (fun _ _ _ h => h) rfl (Or.inr ⟨by rfl, rfl⟩) trivial ?_
              simp only [List.setIfInBounds_toArray, List.set_cons_zero, List.set_cons_succ]
              refine takeH (i := 10) (t := 81) (v := undef) rfl (by kernel_rfl) (by kernel_rfl) (by kernel_rfl) (fun _ _ _ h => h) rfl (Or.inr ⟨by rfl, rfl⟩) trivial ?_
              simp only [List.setIfInBounds_toArray, List.set_cons_zero, List.set_cons_succ]
              refine takeH (i := 11) (t := 82) (v := undef) rfl (by kernel_rfl) (by kernel_rfl) (by kernel_rfl) (fun _ _ _ h => h) rfl (Or.inr ⟨by rfl, rfl⟩) trivial ?_
              simp only [List.setIfInBounds_toArray, List.set_cons_zero, List.set_cons_succ]
              refine takeH (i := 12) (t := 83) (v := ?vq55) rfl (by kernel_rfl) (by kernel_rfl) (by kernel_rfl) (fun _ _ _ h => h) rfl (Or.inl ⟨by rfl, ?hq55⟩) trivial ?rq55
              case hq55 => (intro w hSw; (try dsimp only at hSw); go_simp; try with_reducible rfl)
              simp only [List.setIfInBounds_toArray, List.set_cons_zero, List.set_cons_succ]
              refine takeH (i := 13) (t := 13) (v := ?vq56) rfl (by kernel_rfl) (by kernel_rfl) (by kernel_rfl) (fun _ _ _ h => h) rfl (Or.inl ⟨by rfl, ?hq56⟩) trivial ?rq56
              case hq56 => (intro w hSw; (try dsimp only at hSw); go_simp; try with_reducible rfl)
              simp only [List.setIfInBounds_toArray, List.set_cons_zero, List.set_cons_succ]
              refine wpAnyH_done (by kernel_rfl) ?_ _
              go_wp2_with fail
              go_roundw
              case rel => exact ⟨k + 1, by omega, by go_num, by rw [Hke.out]; rfl, Hch2.out.drew⟩
              case measure => simp [intOf]; omega
            | false =>
              rw [hsn] at hke
              have Hke := Go.Lib.hid hke
              clear hke hsn
              go_wp2_with fail
              set_option maxRecDepth 100000 in
              go_region_held3 (fun W => W.cell? ⟨gn, k, none⟩ = some (.string sk) ∧ W.cell? ⟨gl, i * 5 + 1, none⟩ = some (.string u.d.nm)) (exact HS.out _ (Chg.refl _ _).drew) (fail)
              go_wp2_with fail
              go_roundw
              case rel => exact ⟨k + 1, by omega, by go_num, by rw [Hke.out]; rfl, Hch2.out.drew⟩
              case measure => simp [intOf]; omega
          · obtain rfl : k = acc.length := by omega
            rw [List.take_of_length_le (Nat.le_refl _)]
            rw [Hpl.out] at HX
            have HR := Go.Lib.hid (HX.out wr An cn (own_chg (F := NoB) Hown.out Hch2.out (fun _ _ => id)) (Hch.out.trans Hch2.out))
            go_wp2_with fail
            go_roundw
            case rel => exact HR.out
            case measure => simp [intOf]; omega
      · skip
        go_wp2_with fail
        go_loopw [13, 14] (fun v13 v14 W => ∃ k : Nat, k ≤ acc.length ∧ v14 = .int .i64 k ∧ v13 = .bool ((acc.take k).any fun s => s.toList == u.d.nm.toList) ∧ Chg NoB wr W) (fun _ v14 _ => acc.length - (intOf v14).toNat)
        case atStart => exact ⟨0, Nat.zero_le _, rfl, rfl, Chg.refl _ _⟩
        case round =>
          obtain ⟨k, hk, rfl, rfl, hch2⟩ := hrel
          have Hch2 := Go.Lib.hid hch2
          have hnm := HCN.out _ hch2
          clear hch2
          by_cases hk2 : k < acc.length
          · obtain ⟨gn, rfl⟩ := own_slice1 Hown.out (by omega)
            have hcell := (own_chg (F := NoB) Hown.out Hch2.out (fun _ _ => id)).cellAt k (by omega)
            rw [List.getElem?_map, List.getElem?_eq_getElem hk2] at hcell
            have HS := Go.Lib.hid (fun W (h : Chg NoB wr W) => And.intro (h.cell (p := ⟨gn, k, none⟩) (v := .string acc[k]) hcell id) (h.cell hnm id))
            have hke : (acc.take (k + 1)).any (fun s => s.toList == u.d.nm.toList) = ((acc.take k).any (fun s => s.toList == u.d.nm.toList) || (acc[k].toList == u.d.nm.toList)) := by
              rw [List.take_add_one, List.getElem?_eq_getElem hk2, List.any_append]; simp
            have hk3 : (0 : Int) ≤ k := by omega
            have hk4 : (k : Int) < acc.length := by omega
            have hcn : acc.length ≤ cn ∧ cn ≤ 9223372036854775807 := own_cap Hown.out
            have hcn1 := hcn.1
            have hcn2 := hcn.2
            clear hcell hcn
            generalize acc[k] = sk at *
            cases hsn : (acc.take k).any (fun s => s.toList == u.d.nm.toList) with
            | true =>
              rw [hsn] at hke
              have Hke := Go.Lib.hid hke
              clear hke hsn
              go_wp2_with fail
              refine wp_region_held_drew (S := fun _ => True) (by kernel_rfl) trivial (fun _ => ?_)
              refine takeH (i := 0) (t := 71) (v := ?vq1) rfl (by kernel_rfl) (by kernel_rfl) (by kernel_rfl) (fun _ _ _ h => h) rfl (Or.inl ⟨by rfl, ?hq1⟩) trivial ?rq1
              case hq1 => (intro w hSw; (try dsimp only at hSw); go_simp; try with_reducible rfl)
              simp only [List.setIfInBounds_toArray, List.set_cons_zero, List.set_cons_succ]
              refine takeH (i := 1) (t := 72) (v := ?vq2) rfl (by kernel_rfl) (by kernel_rfl) (by kernel_rfl) (fun _ _ _ h => h) rfl (Or.inl ⟨by rfl, ?hq2⟩) trivial ?rq2
              case hq2 => (intro w hSw; (try dsimp only at hSw); go_simp; try with_reducible rfl)
              simp only [List.setIfInBounds_toArray, List.set_cons_zero, List.set_cons_succ]
              refine takeH (i := 2) (t := 73) (v := undef) rfl (by kernel_rfl) (by kernel_rfl) (by kernel_rfl) (fun _ _ _ h => h) rfl (Or.inr ⟨by rfl, rfl⟩) trivial ?_
              simp only [List.setIfInBounds_toArray, List.set_cons_zero, List.set_cons_succ]
              refine takeH (i := 3) (t := 74) (v := undef) rfl (by kernel_rfl) (by kernel_rfl) (by kernel_rfl) (fun _ _ _ h => h) rfl (Or.inr ⟨by rfl, rfl⟩) trivial ?_
              simp only [List.setIfInBounds_toArray, List.set_cons_zero, List.set_cons_succ]
              refine takeH (i := 4) (t := 75) (v := undef) rfl (by kernel_rfl) (by kernel_rfl) (by kernel_rfl) (fun _ _ _ h => h) rfl (Or.inr ⟨by rfl, rfl⟩) trivial ?_
              simp only [List.setIfInBounds_toArray, List.set_cons_zero, List.set_cons_succ]
              refine takeH (i := 5) (t := 76) (v := undef) rfl (by kernel_rfl) (by kernel_rfl) (by kernel_rfl) (fun _ _ _ h => h) rfl (Or.inr ⟨by rfl, rfl⟩) trivial ?_
              simp only [List.setIfInBounds_toArray, List.set_cons_zero, List.set_cons_succ]
              refine takeH (i := 6) (t := 77) (v := undef) rfl (by kernel_rfl) (by kernel_rfl) (by kernel_rfl) (fun _ _ _ h => h) rfl (Or.inr ⟨by rfl, rfl⟩) trivial ?_
              simp only [List.setIfInBounds_toArray, List.set_cons_zero, List.set_cons_succ]
              refine takeH (i := 7) (t := 78) (v := undef) rfl (by kernel_rfl) (by kernel_rfl) (by kernel_rfl) (fun _ _ _ h => h) rfl (Or.inr ⟨by rfl, rfl⟩) trivial ?_
              simp only [List.setIfInBounds_toArray, List.set_cons_zero, List.set_cons_succ]
              refine takeH (i := 8) (t := 79) (v := undef) rfl (by kernel_rfl) (by kernel_rfl) (by kernel_rfl) (fun _ _ _ h => h) rfl (Or.inr ⟨by rfl, rfl⟩) trivial ?_
              simp only [List.setIfInBounds_toArray, List.set_cons_zero, List.set_cons_succ]
              refine takeH (i := 9) (t := 80) (v := undef) rfl (by kernel_rfl) (by kernel_rfl) (by kernel_rfl) (fun _ _ _ h => h) rfl (Or.inr ⟨by rfl, rfl⟩) trivial ?_
              simp only [List.setIfInBounds_toArray, List.set_cons_zero, List.set_cons_succ]
              refine takeH (i := 10) (t := 81) (v := undef) rfl (by kernel_rfl) (by kernel_rfl) (by kernel_rfl) (fun _ _ _ h => h) rfl (Or.inr ⟨by rfl, rfl⟩) trivial ?_
              simp only [List.setIfInBounds_toArray, List.set_cons_zero, List.set_cons_succ]
              refine takeH (i := 11) (t := 82) (v := undef) rfl (by kernel_rfl) (by kernel_rfl) (by kernel_rfl) (fun _ _ _ h => h) rfl (Or.inr ⟨by rfl, rfl⟩) trivial ?_
              simp only [List.setIfInBounds_toArray, List.set_cons_zero, List.set_cons_succ]
              refine takeH (i := 12) (t := 83) (v := ?vq13) rfl (by kernel_rfl) (by kernel_rfl) (by kernel_rfl) (fun _ _ _ h => h) rfl (Or.inl ⟨by rfl, ?hq13⟩) trivial ?rq13
              case hq13 => (intro w hSw; (try dsimp only at hSw); go_simp; try with_reducible rfl)
              simp only [List.setIfInBounds_toArray, List.set_cons_zero, List.set_cons_succ]
              refine takeH (i := 13) (t := 13) (v := ?vq14) rfl (by kernel_rfl) (by kernel_rfl) (by kernel_rfl) (fun _ _ _ h => h) rfl (Or.inl ⟨by rfl, ?hq14⟩) trivial ?rq14
              case hq14 => (intro w hSw; (try dsimp only at hSw); go_simp; try with_reducible rfl)
              simp only [List.setIfInBounds_toArray, List.set_cons_zero, List.set_cons_succ]
              refine wpAnyH_done (by kernel_rfl) ?_ _
              go_wp2_with fail
              go_roundw
              case rel => exact ⟨k + 1, by omega, by go_num, by rw [Hke.out]; rfl, Hch2.out.drew⟩
              case measure => simp [intOf]; omega
            | false =>
              rw [hsn] at hke
              have Hke := Go.Lib.hid hke
              clear hke hsn
              go_wp2_with fail
              set_option maxRecDepth 100000 in
              go_region_held3 (fun W => W.cell? ⟨gn, k, none⟩ = some (.string sk) ∧ W.cell? ⟨gl, i * 5 + 1, none⟩ = some (.string u.d.nm)) (exact HS.out _ (Chg.refl _ _).drew) (fail)
              go_wp2_with fail
              go_roundw
              case rel => exact ⟨k + 1, by omega, by go_num, by rw [Hke.out]; rfl, Hch2.out.drew⟩
              case measure => simp [intOf]; omega
          · obtain rfl : k = acc.length := by omega
            rw [List.take_of_length_le (Nat.le_refl _)]
            cases hs : acc.any (fun s => s.toList == u.d.nm.toList) with
            | true =>
              have hpl : nmStep acc u.d = acc := by unfold nmStep; rw [hs]; simp
              rw [hpl] at HX
              have HR := Go.Lib.hid (HX.out wr An cn (own_chg (F := NoB) Hown.out Hch2.out (fun _ _ => id)) (Hch.out.trans Hch2.out))
              clear hpl
              go_wp2_with fail
              go_roundw
              case rel => exact HR.out
              case measure => simp [intOf]; omega
            | false =>
              cases hne : (u.d.nm.toList == []) with
              | true =>
                have hpl : nmStep acc u.d = acc := by unfold nmStep; rw [hne]; simp
                rw [hpl] at HX
                have HR := Go.Lib.hid (HX.out wr An cn (own_chg (F := NoB) Hown.out Hch2.out (fun _ _ => id)) (Hch.out.trans Hch2.out))
                clear hpl
                go_wp2_with fail
                go_roundw
                case rel => exact HR.out
                case measure => simp [intOf]; omega
              | false =>
                have hpl : nmStep acc u.d = acc ++ [u.d.nm] := by unfold nmStep plainB; rw [hs, hne, q1, q2, q3]; rfl
                rw [hpl] at HX
                obtain ⟨i0, ii, iz0, iz1, iz2⟩ := info_parts str_info
                have Hi := Go.Lib.hid ii
                have Hz0 := Go.Lib.hid iz0
                have Hz1 := Go.Lib.hid iz1
                have Hz2 := Go.Lib.hid iz2
                have HO : Hid (∀ tmp, (wr.alloc tmp).ownsRow w2.heap.size CT 1 (.slice An acc.length cn) acc.length (acc.map Value.string)) := Go.Lib.hid fun tmp => own_chg (F := NoB) Hown.out (Hch2.out.alloc tmp) (fun _ _ => id)
                have HW : Hid (∀ tmp, Chg NoB w2 (wr.alloc tmp)) := Go.Lib.hid fun tmp => (Hch.out.trans Hch2.out).alloc tmp
                clear hpl ii iz0 iz1 iz2
                go_wp2_with (at_builtin; refine wpList_append_own _ rfl _ _ ST rfl w2.heap.size CT i0 (.string ⟨#[]⟩) 1 16 Try.underlying41 Hi.out Hz0.out Hz1.out Hz2.out rfl (by decide) _ _ _ rfl (HO.out _) ⟨wr.heap.size, 0, none⟩ 1 1 [.string u.d.nm] rfl rfl (cell_one_new _ _ _) (by simp [Value.oneCell']) (by unfold maxLen; omega) (by omega) (HW.out _).size ?_; intro v' w5 hown' hgrow _; obtain ⟨g', cap', rfl⟩ := ownsRow_succ hown'; have HR := Go.Lib.hid (HX.out w5 (some ⟨g', 0, none⟩) cap' (by rw [List.length_append, List.map_append]; exact hown') (grown_chg (HO.out _) hgrow (Nat.le_refl _) (HW.out _))); clear hown' hgrow)
                go_roundw
                case rel => have := HR.out; rw [List.length_append] at this; exact this
                case measure => simp [intOf]; omega
    · obtain rfl : i = N := by omega
      have ht : vl.take i = vl := List.take_of_length_le (by omega)
      have hmx : maxE vl 0 = ks.deep := by rw [Hvl.out]; exact visN_max
      rw [ht] at Hown ⊢
      rw [hmx]
      have HNm0 : Hid (nmsL (vl.map (·.d)) [] = nmsL ((visN w d ks A n c).map (·.d)) []) := Go.Lib.hid (by rw [Hvl.out])
      obtain ⟨nms, hnms⟩ : ∃ nms, nms = nmsL (vl.map (·.d)) [] := ⟨_, rfl⟩
      have hnl : nms.length ≤ 401 := by
        have h1 := nmsL_len (vl.map (·.d)) []
        rw [List.length_map, List.length_nil] at h1
        rw [hnms]; omega
      have HNm : Hid (nms = nmsL ((visN w d ks A n c).map (·.d)) []) := Go.Lib.hid (by rw [hnms]; exact HNm0.out)
      rw [← hnms] at Hown ⊢
      clear hnms ht hmx HNm0
      obtain ⟨⟨a0, a1, a2, a3, a4⟩, _⟩ := l_box (HC2.out.trans Hch.out)
      go_wp2_with fail
      refine (names_c d ks A n c _ w HN.out (H0.out.trans (HC2.out.trans Hch.out)) (by omega)).mono ?_
      rintro e w3 ⟨vg, rfl, hog, hcg⟩
      rw [← HNm.out] at hog
      obtain ⟨Ag, cg, rfl⟩ := own_form hog
      have Hog := Go.Lib.hid hog
      have Hcg := Go.Lib.hid hcg
      have Hown3 := Go.Lib.hid (own_chg (F := NoB) Hown.out hcg (fun _ _ => id))
      have HC3 := Go.Lib.hid (HC2.out.trans (Hch.out.trans hcg))
      have HCw2 := Go.Lib.hid (Hch.out.trans hcg)
      have hcn := own_cap Hown.out
      have hcg2 := own_cap hog
      have hcn1 := hcn.1
      have hcn2 := hcn.2
      have hcg3 := hcg2.1
      have hcg4 := hcg2.2
      clear a0 a1 a2 a3 a4 hog hcg hcn hcg2
      go_wp2_with fail
      go_loopw [16] (fun v16 W => ∃ k : Nat, k ≤ nms.length ∧ v16 = .int .i64 k ∧ Chg NoB w3 W) (fun v16 _ => nms.length - (intOf v16).toNat)
      case atStart => exact ⟨0, Nat.zero_le _, rfl, Chg.refl _ _⟩
      case round =>
        obtain ⟨k, hk, rfl, hch3⟩ := hrel
        have Hch3 := Go.Lib.hid hch3
        clear hch3
        by_cases hk2 : k < nms.length
        · obtain ⟨gn, rfl⟩ := own_slice1 Hown3.out (by omega)
          obtain ⟨gg, rfl⟩ := own_slice1 Hog.out (by omega)
          have e1 := (own_chg (F := NoB) Hown3.out Hch3.out (fun _ _ => id)).cellAt k (by omega)
          have e2 := (own_chg (F := NoB) Hog.out Hch3.out (fun _ _ => id)).cellAt k (by omega)
          rw [List.getElem?_map, List.getElem?_eq_getElem hk2] at e1 e2
          have hk3 : (0 : Int) ≤ k := by omega
          have hk4 : (k : Int) < nms.length := by omega
          have HS := Go.Lib.hid (fun W (h : Chg NoB wr W) => And.intro (h.cell (p := ⟨gg, k, none⟩) (v := .string nms[k]) e2 id) (h.cell (p := ⟨gn, k, none⟩) (v := .string nms[k]) e1 id))
          clear e1 e2
          generalize nms[k] = sk at *
          go_wp2_with fail
          set_option maxRecDepth 100000 in
          go_region_held3 (fun W => W.cell? ⟨gg, k, none⟩ = some (.string sk) ∧ W.cell? ⟨gn, k, none⟩ = some (.string sk)) (exact HS.out _ (Chg.refl _ _).drew) (fail)
          go_wp2_with fail
          go_roundw
          case rel => exact ⟨k + 1, by omega, by go_num, Hch3.out.drew⟩
          case measure => simp [intOf]; omega
        · obtain rfl : k = nms.length := by omega
          have HW := Go.Lib.hid (HC3.out.trans Hch3.out)
          have HWw := Go.Lib.hid (H0.out.trans HW.out)
          have HS : Hid (∀ W, Chg NoB wr W → W.cell? ⟨w.heap.size, 0, none⟩ = some (.int .i64 d.kind) ∧ W.cell? ⟨w.heap.size, 1, none⟩ = some (.string d.nm) ∧ W.cell? ⟨w.heap.size, 2, none⟩ = some (.int .u32 d.val) ∧ W.cell? ⟨w.heap.size, 3, none⟩ = some (.bool d.mark) ∧ W.cell? ⟨w.heap.size, 4, none⟩ = some (.slice A n c) ∧ W.cell? ⟨w.heap.size + 1, 0, none⟩ = some (.int .i64 d1.kind) ∧ W.cell? ⟨w.heap.size + 1, 1, none⟩ = some (.string d1.nm) ∧ W.cell? ⟨w.heap.size + 1, 2, none⟩ = some (.int .u32 d1.val) ∧ W.cell? ⟨w.heap.size + 1, 3, none⟩ = some (.bool d1.mark) ∧ W.cell? ⟨w.heap.size + 1, 4, none⟩ = some (.slice A1 n1 c1)) := Go.Lib.hid (fun W h => by
            obtain ⟨⟨a0, a1, a2, a3, a4⟩, b0, b1, b2, b3, b4⟩ := l_box (HW.out.trans h)
            exact ⟨a0, a1, a2, a3, a4, b0, b1, b2, b3, b4⟩)
          obtain ⟨bb, hbb⟩ : ∃ bb, bb = sameT d ks d1 k1 := ⟨_, rfl⟩
          have HSz : Hid (∀ W, Chg NoB wr W → Calls Try.prog 22 #[nodeV d A n c] W fun e w' => e = .returned (.int .i64 (i : Nat)) ∧ Chg NoB W w') := Go.Lib.hid fun W h => by rw [HNi.out]; exact Size_c d ks A n c W (HN.out.chg (HWw.out.trans h)) (by omega)
          have HDp : Hid (∀ W, Chg NoB wr W → Calls Try.prog 24 #[nodeV d A n c] W fun e w' => e = .returned (.int .i64 (IntKind.i64.wrap ((ks.deep : Int) + 1))) ∧ Chg NoB W w') := Go.Lib.hid fun W h => by
            have h1 := Depth_c d ks A n c W (HN.out.chg (HWw.out.trans h)) (by omega)
            have hdl := F.deep_le ks
            rw [show IntKind.i64.wrap ((ks.deep : Int) + 1) = 1 + (ks.deep : Int) by rw [Int.add_comm]; exact IntWalk.i64_in _ (by omega)]
            exact h1
          have HTs : Hid (∀ W, Chg NoB wr W → Calls Try.prog 25 #[nodeV d A n c, nodeV d1 A1 n1 c1] W fun e w' => e = .returned (.bool bb) ∧ Chg NoB W w') := Go.Lib.hid fun W h => by rw [hbb]; exact TSame_c d ks A n c d1 k1 A1 n1 c1 W (HN.out.chg (HWw.out.trans h)) (HN1.out.chg (HWw.out.trans h))
          have HRs : Hid (∀ W, Chg NoB wr W → Calls Try.prog 21 #[nodeV d A n c, nodeV d1 A1 n1 c1] W fun e w' => e = .returned (.bool bb) ∧ Chg NoB W w') := Go.Lib.hid fun W h => by rw [hbb]; exact Same_c d ks A n c d1 k1 A1 n1 c1 W (HN.out.chg (HWw.out.trans h)) (HN1.out.chg (HWw.out.trans h))
          have HTn : Hid (∀ W, Chg NoB wr W → Calls Try.prog 25 #[nodeV d A n c, nodeV d A n c] W fun e w' => e = .returned (.bool true) ∧ Chg NoB W w') := Go.Lib.hid fun W h => by rw [← same_self d ks]; exact TSame_c d ks A n c d ks A n c W (HN.out.chg (HWw.out.trans h)) (HN.out.chg (HWw.out.trans h))
          have HOn : Hid (∀ (q : Int) W, Chg NoB wr W → Calls Try.prog 26 #[nodeV d A n c, .slice (some ⟨gl, 0, none⟩) i m1, .slice (some ⟨gd, 0, none⟩) i m2, .int .i64 q] W fun e w' => e = .returned (.bool true) ∧ Chg NoB W w') := Go.Lib.hid fun q W h => by
            have hW2 := HCw2.out.trans (Hch3.out.trans h)
            exact once_c d ks A n c gl gd m1 m2 i q W w HN.out (HWw.out.trans h) HN0.out (by omega) ⟨hm1, by unfold maxLen; omega⟩ ⟨hm3, by unfold maxLen; omega⟩ (HL.out.1.chg hW2) (fun j hj => by
              have hj' : j < vl.length := by rw [Hvl.out]; exact hj
              have h1 := hW2.cell (HD.out j hj') id
              rw [h1]
              congr 2
              simp only [Hvl.out])
          have HCp : Hid (∀ W, Chg NoB wr W → Calls Try.prog 19 #[nodeV d A n c] W fun e w' => ∃ A5 c5, e = .returned (nodeV d A5 ks.len c5) ∧ IsN w' d ks A5 ks.len c5 ∧ Chg NoB W w') := Go.Lib.hid fun W h => (Copy_c d ks A n c W (HN.out.chg (HWw.out.trans h)) (by omega)).mono fun e w' hp => by
            obtain ⟨A5, c5, g5, h1, h2⟩ := hp
            exact ⟨A5, c5, h1, h2.isN HN.out.ok, h2.chg⟩
          have HRc : Hid (∀ A5 c5 W, IsN W d ks A5 ks.len c5 → Chg NoB wr W → Calls Try.prog 21 #[nodeV d A5 ks.len c5, nodeV d A n c] W fun e w' => e = .returned (.bool true) ∧ Chg NoB W w') := Go.Lib.hid fun A5 c5 W hi h => by rw [← same_self d ks]; exact Same_c d ks A5 ks.len c5 d ks A n c W hi (HN.out.chg (HWw.out.trans h))
          have hbe : (bb == bb) = true := by simp
          have HCU : Chg NoB wr wr.drew := (Chg.refl _ _).drew
          unfold nodeV at HSz HDp HTs HRs HTn HOn HCp HRc
          clear hbb
          go_wp2_with fail
          set_option maxRecDepth 100000 in
          go_region_held3 (fun W => W.cell? ⟨w.heap.size, 0, none⟩ = some (.int .i64 d.kind) ∧ W.cell? ⟨w.heap.size, 1, none⟩ = some (.string d.nm) ∧ W.cell? ⟨w.heap.size, 2, none⟩ = some (.int .u32 d.val) ∧ W.cell? ⟨w.heap.size, 3, none⟩ = some (.bool d.mark) ∧ W.cell? ⟨w.heap.size, 4, none⟩ = some (.slice A n c) ∧ W.cell? ⟨w.heap.size + 1, 0, none⟩ = some (.int .i64 d1.kind) ∧ W.cell? ⟨w.heap.size + 1, 1, none⟩ = some (.string d1.nm) ∧ W.cell? ⟨w.heap.size + 1, 2, none⟩ = some (.int .u32 d1.val) ∧ W.cell? ⟨w.heap.size + 1, 3, none⟩ = some (.bool d1.mark) ∧ W.cell? ⟨w.heap.size + 1, 4, none⟩ = some (.slice A1 n1 c1))
            (exact HS.out _ HCU)
            (first
              | (go_at_call 22; (with_reducible refine (HSz.out _ HCU).mono ?_); rintro e wq ⟨rfl, hc⟩; replace HCU := HCU.trans hc; clear hc)
              | (go_at_call 24; (with_reducible refine (HDp.out _ HCU).mono ?_); rintro e wq ⟨rfl, hc⟩; replace HCU := HCU.trans hc; clear hc)
              | (go_at_call 25; (with_reducible refine (HTs.out _ HCU).mono ?_); rintro e wq ⟨rfl, hc⟩; replace HCU := HCU.trans hc; clear hc)
              | (go_at_call 21; (with_reducible refine (HRs.out _ HCU).mono ?_); rintro e wq ⟨rfl, hc⟩; replace HCU := HCU.trans hc; clear hc)
              | (go_at_call 25; (with_reducible refine (HTn.out _ HCU).mono ?_); rintro e wq ⟨rfl, hc⟩; replace HCU := HCU.trans hc; clear hc)
              | (go_at_call 26; (with_reducible refine (HOn.out _ _ HCU).mono ?_); rintro e wq ⟨rfl, hc⟩; replace HCU := HCU.trans hc; clear hc)
              | (go_at_call 19; (with_reducible refine (HCp.out _ HCU).mono ?_); rintro e wq ⟨A5, c5, rfl, hic, hc⟩; have HIC := Go.Lib.hid hic; replace HCU := HCU.trans hc; clear hc hic)
              | (go_at_call 21; (with_reducible refine (HRc.out _ _ _ HIC.out HCU).mono ?_); rintro e wq ⟨rfl, hc⟩; replace HCU := HCU.trans hc; clear hc)
              | (go_at_call 9; (with_reducible refine (HK.out _ (HW.out.trans HCU)).mono ?_); rintro e wq ⟨rfl, hc⟩; replace HCU := HCU.trans hc; clear hc))
          go_wp2_with fail
          go_ret
          exact ⟨rfl, HWw.out.trans HCU⟩
end
theorem treeLooks_walk (d : Own) (ks : F) (A : Option Addr) (n c : Nat) {w : World} (hN : IsN w d ks A n c) (d1 : Own) (k1 : F) (A1 : Option Addr) (n1 c1 : Nat) (hN1 : IsN w d1 k1 A1 n1 c1) (a : Int) (wa : (Lit.int .i64 a).wf = true) (_ : World) (hv : Var0 w) :
    Calls Try.prog 6 #[nodeV d A n c, nodeV d1 A1 n1 c1, .int .i64 a] w fun e w' => e = .returned (.bool true) ∧ Chg NoB w w' := by
  by_cases hb : 0 ≤ bigT d ks 400
  · by_cases hb1 : 0 ≤ bigT d1 k1 400
    · exact looks_main d d1 ks k1 A A1 n n1 c c1 a w hN hN1 hv (wf_i64 wa) hb hb1
    · exact looks_1 d d1 ks k1 A A1 n n1 c c1 a w hN hN1 hv hb hb1
  · exact looks_0 d d1 ks k1 A A1 n n1 c c1 a w hN hN1 hv hb
end Go.Proofs.Ytnihjkcniddepaa

