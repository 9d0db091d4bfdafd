/- What is proved: the reference's Size, of shapes whose parts may be. Conditions: the memory holds the shape. -/
import Derived.Test.YtholeloedihkoaaVaZ
import Derived.Test.YtholeloedihkoaaApp
import Derived.Test.YtholeloedihkoaaTail2
set_option linter.unusedSimpArgs false
set_option linter.unusedVariables false
namespace Go.Proofs.Ytholeloedihkoaa
open Go Go.RowKit
/-- where a record's next field may begin, unbounded -/
def refAt (l : List Nat) : Nat := l.foldl (fun a s => (if s ≠ 1 then (a + 3) / 4 * 4 else a) + s) 0
def sizeU (k n : Int) (l : List Nat) : Nat :=
  if k = 2 ∨ k = 3 ∨ k = 4 then 1 else if k = 7 then (n.toNat * l.headD 0 + 3) / 4 * 4 else if k = 8 then (if l.length = 0 then 4 else (refAt l + 3) / 4 * 4) else 4
theorem refAt_snoc (l : List Nat) (s : Nat) : refAt (l ++ [s]) = (if s ≠ 1 then (refAt l + 3) / 4 * 4 else refAt l) + s := by simp [refAt]
theorem recAtS_snoc (l : List Nat) (s : Nat) : recAtS (l ++ [s]) = min ((if s ≠ 1 then (recAtS l + 3) / 4 * 4 else recAtS l) + s) 262145 := by simp [recAtS]
theorem refAt_min (l : List Nat) (h : ∀ s ∈ l, 1 ≤ s) : recAtS l = min (refAt l) 262145 := by
  induction l using List.snocRec with
  | nil => rfl
  | snoc l s ih =>
    have h1 := ih fun x hx => h x (by simp [hx])
    have h2 := h s (by simp)
    rw [refAt_snoc, recAtS_snoc, h1]
    split <;> omega
theorem refAt_ge (l : List Nat) (h : ∀ s ∈ l, 1 ≤ s) : l.length ≤ refAt l := by
  induction l using List.snocRec with
  | nil => exact Nat.le_refl _
  | snoc l s ih =>
    have h1 := ih fun x hx => h x (by simp [hx])
    have h2 := h s (by simp)
    rw [refAt_snoc, List.length_append, List.length_singleton]
    split <;> omega
theorem refAt_le (l : List Nat) (h : ∀ s ∈ l, s ≤ 262144) : refAt l ≤ l.length * 262148 := by
  induction l using List.snocRec with
  | nil => exact Nat.le_refl _
  | snoc l s ih =>
    have h1 := ih fun x hx => h x (by simp [hx])
    have h2 := h s (by simp)
    rw [refAt_snoc, List.length_append, List.length_singleton, Nat.succ_mul]
    split <;> omega
/-- of a record: within the bound they are the same -/
theorem sizeU_rec (l : List Nat) (h : ∀ s ∈ l, 1 ≤ s) : (sizeU 8 0 l ≤ 262144 ↔ recSizeS l ≤ 262144) ∧ (recSizeS l ≤ 262144 → sizeU 8 0 l = recSizeS l) := by
  have h1 := refAt_min l h
  have h2 := refAt_ge l h
  unfold sizeU recSizeS
  rw [if_neg (by decide), if_neg (by decide), if_pos rfl, h1]
  split
  · rename_i h0
    obtain rfl : l = [] := List.eq_nil_of_length_eq_zero h0
    decide
  · omega
/-- shapes in a row that may be -/
def okF (f : SF) : Prop := (errsF f).find? (· ≠ 0) = none
theorem okF.cons {s : Sv} {ns : List ByteArray} {ks r : SF} (h : okF (.cons s ns ks r)) : errOf s ns ks = 0 ∧ okF r := by
  unfold okF at h ⊢
  simp only [errsF, List.find?_cons] at h
  split at h
  · cases h
  · rename_i h0
    exact ⟨by simpa [errOf] using h0, h⟩
theorem err_parts {s : Sv} {ns : List ByteArray} {ks : SF} (h : errOf s ns ks = 0) : okF ks ∧ errS s.k s.n ns (kindsF ks) (sizesF ks) = 0 := by
  unfold errOf at h
  split at h
  · rename_i e he
    have := List.find?_some he
    simp at this
    exact absurd h this
  · rename_i he
    exact ⟨he, h⟩
theorem okF.at_ : ∀ (f : SF) {i : Nat} {s : Sv} {ns : List ByteArray} {ks : SF}, okF f → f.at? i = some (s, ns, ks) → errOf s ns ks = 0
  | .nil, _, _, _, _, _, h => by simp [SF.at?] at h
  | .cons s ns ks r, 0, s', ns', ks', hk, h => by
    obtain ⟨rfl, rfl, rfl⟩ : s = s' ∧ ns = ns' ∧ ks = ks' := by simpa [SF.at?] using h
    exact hk.cons.1
  | .cons s ns ks r, i + 1, s', ns', ks', hk, h => okF.at_ r hk.cons.2 (by simpa [SF.at?] using h)
theorem SF.at_sizes : ∀ (f : SF) {i : Nat} {s : Sv} {ns : List ByteArray} {ks : SF}, f.at? i = some (s, ns, ks) → (sizesF f)[i]? = some (sizeS s.k s.n (sizesF ks))
  | .nil, _, _, _, _, h => by simp [SF.at?] at h
  | .cons s ns ks r, 0, s', ns', ks', h => by
    obtain ⟨rfl, rfl, rfl⟩ : s = s' ∧ ns = ns' ∧ ks = ks' := by simpa [SF.at?] using h
    rfl
  | .cons s ns ks r, i + 1, s', ns', ks', h => by
    have := SF.at_sizes r (show r.at? i = some (s', ns', ks') by simpa [SF.at?] using h)
    simpa [sizesF] using this
theorem err7 {n : Int} {ns : List ByteArray} {kk : List Int} {l : List Nat} (h : errS 7 n ns kk l = 0) : l.length = 1 ∧ 1 ≤ n ∧ n ≤ 65535 ∧ n.toNat * l.headD 0 ≤ 262144 := by
  unfold errS at h
  rw [if_pos rfl] at h
  split at h
  · cases h
  · split at h
    · cases h
    · split at h
      · cases h
      · omega
theorem err8 {n : Int} {ns : List ByteArray} {kk : List Int} {l : List Nat} (h : errS 8 n ns kk l = 0) : ns.length = l.length ∧ recGood ns = true ∧ recSizeS l ≤ 262144 := by
  unfold errS at h
  rw [if_neg (by decide), if_pos rfl] at h
  split at h
  · cases h
  · split at h
    · split at h
      · exact ⟨by omega, by assumption, by assumption⟩
      · cases h
    · cases h
theorem sizes_in : ∀ f : SF, okF f → ∀ z ∈ sizesF f, 1 ≤ z ∧ z ≤ 262144
  | .nil, _, z, h => by simp [sizesF] at h
  | .cons s ns ks r, hk, z, h => by
    simp only [sizesF, List.mem_cons] at h
    rcases h with rfl | h
    · obtain ⟨h1, h2⟩ := err_parts hk.cons.1
      have ih := sizes_in ks h1
      unfold sizeS
      split
      · omega
      · split
        · rename_i h7
          rw [h7] at h2
          obtain ⟨h3, h4, h5, h6⟩ := err7 h2
          have hh : 1 ≤ (sizesF ks).headD 0 := by
            match hs : sizesF ks, h3 with
            | [z], _ => exact (ih z (by rw [hs]; simp)).1
          have : 1 ≤ s.n.toNat * (sizesF ks).headD 0 := Nat.mul_pos (by omega) hh
          omega
        · split
          · rename_i h8
            rw [h8] at h2
            have := (err8 h2).2.2
            unfold recSizeS at this ⊢
            omega
          · omega
    · exact sizes_in r hk.cons.2 z h
/-- of a shape that may be: its size -/
theorem sizeU_ok {s : Sv} {ns : List ByteArray} {ks : SF} (h : errOf s ns ks = 0) : sizeU s.k s.n (sizesF ks) = sizeS s.k s.n (sizesF ks) := by
  obtain ⟨h1, h2⟩ := err_parts h
  by_cases h8 : s.k = 8
  · rw [h8] at h2 ⊢
    have := (sizeU_rec (sizesF ks) fun z hz => (sizes_in ks h1 z hz).1).2 (err8 h2).2.2
    have e1 : sizeU 8 s.n (sizesF ks) = sizeU 8 0 (sizesF ks) := by unfold sizeU; simp
    have e2 : sizeS 8 s.n (sizesF ks) = recSizeS (sizesF ks) := by unfold sizeS; simp
    rw [e1, e2, this]
  · unfold sizeU sizeS
    rw [if_neg h8, if_neg h8]
def SizesF (f : SF) : Prop := ∀ (i : Nat) (s : Sv) (ns : List ByteArray) (ks : SF), f.at? i = some (s, ns, ks) → ∀ (w : World), IsS w s ns ks → errOf s ns ks = 0 → Calls Try.prog 30 #[s.val] w (Quiet (.int .i64 (sizeS s.k s.n (sizesF ks) : Nat)) w)
set_option maxHeartbeats 2000000 in
set_option maxRecDepth 20000 in
theorem size_one (s : Sv) (ns : List ByteArray) (ks : SF) (ih : SizesF ks) (w : World) (h : IsS w s ns ks) (hok : okF ks) (hl : ks.len ≤ 1100000) (h7 : s.k = 7 → ks.len = 1 ∧ 1 ≤ s.n ∧ s.n ≤ 65535) :
    Calls Try.prog 30 #[s.val] w (Quiet (.int .i64 (sizeU s.k s.n (sizesF ks) : Nat)) w) := by
  have HS := Go.Lib.hid h
  have HI := Go.Lib.hid ih
  have HO := Go.Lib.hid hok
  have hpl := h.len
  have hpc := h.ok.pc
  unfold maxLen at hpc
  clear ih h hok
  obtain ⟨k, n, nA, nl, nc, pA, pl, pc⟩ := s
  unfold Sv.val
  simp only at hpl hpc h7 ⊢
  rw [← hpl] at hl h7
  have HPL := Go.Lib.hid hpl
  clear hpl
  have hbx := Blk.new w ShT #[.int .i64 k, .int .i64 n, .slice nA nl nc, .slice pA pl pc]
  have hal : Chg NoB w (w.alloc (Obj.cells #[.int .i64 k, .int .i64 n, .slice nA nl nc, .slice pA pl pc] ShT)) := (Chg.refl NoB w).alloc _
  have HB := Go.Lib.hid (And.intro hbx hal)
  clear hbx hal
  go_enter Try.func30, Try.ntmps30
  by_cases k7 : k = 7
  · subst k7
    obtain ⟨rfl, hn1, hn2⟩ := h7 rfl
    obtain ⟨pb, po, sv, ns', kk, rfl, ha, q0, q1, q2, q3, hIs⟩ := HS.out.part (i := 0) (by show 0 < 1; omega)
    have he := HO.out.at_ ks ha
    have hz := SF.at_sizes ks ha
    have hzin := sizes_in ks HO.out _ (List.mem_of_getElem? hz)
    have hhd : (sizesF ks).headD 0 = sizeS sv.k sv.n (sizesF kk) := by
      cases hs : sizesF ks with
      | nil => rw [hs] at hz; simp at hz
      | cons z r => rw [hs] at hz; simpa using hz
    have hres : sizeU 7 n (sizesF ks) = (n.toNat * sizeS sv.k sv.n (sizesF kk) + 3) / 4 * 4 := by
      unfold sizeU
      rw [if_neg (by decide), if_pos rfl, hhd]
    rw [hres]
    obtain ⟨z, hze⟩ : ∃ z, sizeS sv.k sv.n (sizesF kk) = z := ⟨_, rfl⟩
    obtain ⟨nn, rfl⟩ : ∃ nn : Nat, n = nn := ⟨n.toNat, by omega⟩
    rw [hze] at hzin ⊢
    rw [Int.toNat_natCast]
    have HC : Hid (∀ W, Chg NoB (w.alloc (Obj.cells #[.int .i64 7, .int .i64 nn, .slice nA nl nc, .slice (some ⟨pb, po, none⟩) 1 pc] ShT)) W → Calls Try.prog 30 #[sv.val] W (Quiet (.int .i64 (z : Int)) W)) := Go.Lib.hid fun W hW => by
      have := HI.out 0 sv ns' kk ha W (hIs.quiet (HB.out.2.trans hW)) he
      rw [hze] at this
      exact this
    have HZ : Hid (nn * z ≤ 1000000000000000) := Go.Lib.hid (by
      have : nn * z ≤ 65535 * 262144 := Nat.mul_le_mul (by omega) hzin.2
      omega)
    have hmul : IntKind.i64.wrap ((nn : Int) * (z : Int)) = ((nn * z : Nat) : Int) := by
      rw [← Int.natCast_mul]
      exact IntWalk.i64_in _ (by have := HZ.out; omega)
    have hmc : ((nn * z : Nat) : Int) = (nn : Int) * (z : Int) := Int.natCast_mul _ _
    unfold Sv.val at HC
    have q0 := keepC HB.out.2 q0
    have q1 := keepC HB.out.2 q1
    have q2 := keepC HB.out.2 q2
    have q3 := keepC HB.out.2 q3
    have b1 := HB.out.1.cell 1
    have b3 := HB.out.1.cell 3
    simp only [List.getElem?_toArray, List.getElem?_cons_succ, List.getElem?_cons_zero, Nat.zero_mul, Nat.add_zero] at b1 b3 q0 q1 q2 q3
    clear ha he hz hzin hhd hres hze hIs HS HI HO h7
    go_wp2_with fail
    generalize w.alloc (Obj.cells #[.int .i64 7, .int .i64 nn, .slice nA nl nc, .slice (some ⟨pb, po, none⟩) 1 pc] ShT) = wb at *
    generalize w.heap.size = bx at *
    refine regionT 9 (fun V' => Chg NoB (wb) V') (by kernel_rfl) (by decide) ((Chg.refl NoB wb).drew) (fun inv hHeld => ?_)
    refine takeT (i := 0) (t := 15) (v := ?v0y1) rfl (by kernel_rfl) (by kernel_rfl) (by kernel_rfl) (fun _ _ _ h => h) (by kernel_rfl) (by kernel_rfl) (by decide) (by decide) rfl (Or.inl ⟨by rfl, ?h0y1⟩) inv hHeld ?r0y1
    case h0y1 => (intro V' hSw; clear hSw; go_simp; try with_reducible rfl)
    clear inv
    intro inv
    try simp only [List.setIfInBounds_toArray, List.set_cons_zero, List.set_cons_succ]
    refine takeT (i := 1) (t := 16) (v := ?v1y2) rfl (by kernel_rfl) (by kernel_rfl) (by kernel_rfl) (fun _ _ _ h => h) (by kernel_rfl) (by kernel_rfl) (by decide) (by decide) rfl (Or.inl ⟨by rfl, ?h1y2⟩) inv hHeld ?r1y2
    case h1y2 => (intro V' hSw; have hq := keepC hSw b1; clear hSw; go_simp; try with_reducible rfl)
    clear inv
    intro inv
    try simp only [List.setIfInBounds_toArray, List.set_cons_zero, List.set_cons_succ]
    refine takeT (i := 2) (t := 17) (v := ?v2y3) rfl (by kernel_rfl) (by kernel_rfl) (by kernel_rfl) (fun _ _ _ h => h) (by kernel_rfl) (by kernel_rfl) (by decide) (by decide) rfl (Or.inl ⟨by rfl, ?h2y3⟩) inv hHeld ?r2y3
    case h2y3 => (intro V' hSw; clear hSw; go_simp; try with_reducible rfl)
    clear inv
    intro inv
    try simp only [List.setIfInBounds_toArray, List.set_cons_zero, List.set_cons_succ]
    refine takeT (i := 3) (t := 18) (v := ?v3y4) rfl (by kernel_rfl) (by kernel_rfl) (by kernel_rfl) (fun _ _ _ h => h) (by kernel_rfl) (by kernel_rfl) (by decide) (by decide) rfl (Or.inl ⟨by rfl, ?h3y4⟩) inv hHeld ?r3y4
    case h3y4 => (intro V' hSw; have hq := keepC hSw b3; clear hSw; go_simp; try with_reducible rfl)
    clear inv
    intro inv
    try simp only [List.setIfInBounds_toArray, List.set_cons_zero, List.set_cons_succ]
    refine takeT (i := 4) (t := 19) (v := ?v4y5) rfl (by kernel_rfl) (by kernel_rfl) (by kernel_rfl) (fun _ _ _ h => h) (by kernel_rfl) (by kernel_rfl) (by decide) (by decide) rfl (Or.inl ⟨by rfl, ?h4y5⟩) inv hHeld ?r4y5
    case h4y5 => (intro V' hSw; clear hSw; go_simp; try with_reducible rfl)
    clear inv
    intro inv
    try simp only [List.setIfInBounds_toArray, List.set_cons_zero, List.set_cons_succ]
    refine takeT (i := 5) (t := 20) (v := ?v5y6) rfl (by kernel_rfl) (by kernel_rfl) (by kernel_rfl) (fun _ _ _ h => h) (by kernel_rfl) (by kernel_rfl) (by decide) (by decide) rfl (Or.inl ⟨by rfl, ?h5y6⟩) inv hHeld ?r5y6
    case h5y6 => (intro V' hSw; have hq0 := keepC hSw q0; have hq1 := keepC hSw q1; have hq2 := keepC hSw q2; have hq3 := keepC hSw q3; clear hSw; go_simp; try with_reducible rfl)
    clear inv
    intro inv
    try simp only [List.setIfInBounds_toArray, List.set_cons_zero, List.set_cons_succ]
    refine callT (i := 6) (t := 21) (f := 30) (args := #[.agg #[.int .i64 sv.k, .int .i64 sv.n, .slice sv.nA sv.nl sv.nc, .slice sv.pA sv.pl sv.pc]]) rfl (by kernel_rfl) rfl (by rfl) ?hx7 inv (by decide) ?hc7
    case hx7 => (go_simp; try rfl)
    case hc7 =>
      refine (HC.out _ hHeld).mono ?_
      rintro e w1 ⟨rfl, hc⟩
      refine ⟨_, rfl, hHeld.trans hc, fun inv2 hHeld2 => ?_⟩
      clear inv hHeld
      have inv := inv2
      have hHeld := hHeld2
      clear inv2 hHeld2
      have hcw := Go.Lib.hid hHeld
      try simp only [List.setIfInBounds_toArray, List.set_cons_zero, List.set_cons_succ]
      refine takeT (i := 7) (t := 22) (v := ?v7y8) rfl (by kernel_rfl) (by kernel_rfl) (by kernel_rfl) (fun _ _ _ h => h) (by kernel_rfl) (by kernel_rfl) (by decide) (by decide) rfl (Or.inl ⟨by rfl, ?h7y8⟩) inv hHeld ?r7y8
      case h7y8 => (intro V' hSw; clear hSw; go_simp; try with_reducible rfl)
      clear inv
      intro inv
      try simp only [List.setIfInBounds_toArray, List.set_cons_zero, List.set_cons_succ]
      refine callT (i := 8) (t := 23) (f := 52) (args := #[.int .i64 ((nn * z : Nat) : Int)]) rfl (by kernel_rfl) rfl (by rfl) ?hx9 inv (by decide) ?hc9
      case hx9 => (go_simp; try rfl)
      case hc9 =>
        refine (refUp_c (w := w1) (nn * z) HZ.out).mono ?_
        rintro e w2 ⟨rfl, rfl⟩
        refine ⟨_, rfl, hHeld.trans (Chg.refl NoB w1), fun inv2 hHeld2 => ?_⟩
        clear inv hHeld
        have inv := inv2
        have hHeld := hHeld2
        clear inv2 hHeld2
        try simp only [List.setIfInBounds_toArray, List.set_cons_zero, List.set_cons_succ]
        refine lastV (i := 9) (t := 2) (v := ?vl10) (w' := w1) rfl (by kernel_rfl) rfl (by rfl) ?hx10 (by decide) (by kernel_rfl) ?_
        case hx10 => (go_simp; try with_reducible rfl)
        clear inv
        go_wp2_with fail
        go_ret
        exact ⟨rfl, HB.out.2.trans hcw.out⟩
  by_cases k8 : k = 8
  · subst k8
    clear h7
    by_cases hp0 : pl = 0
    · have hr : sizeU 8 n (sizesF ks) = 4 := by
        unfold sizeU
        rw [if_neg (by decide), if_neg (by decide), if_pos rfl, if_pos (by have := HPL.out; rw [sizesF_len]; omega)]
      rw [hr]
      subst hp0
      go_wp2_with fail
      go_ret
      exact ⟨rfl, HB.out.2⟩
    have hr : sizeU 8 n (sizesF ks) = (refAt (sizesF ks) + 3) / 4 * 4 := by
      unfold sizeU
      rw [if_neg (by decide), if_neg (by decide), if_pos rfl, if_neg (by have := HPL.out; rw [sizesF_len]; omega)]
    rw [hr]
    have hz : ((pl : Int) == 0) = false := by simp; omega
    have hbnd : ∀ i, refAt ((sizesF ks).take i) ≤ 1000000000000 := fun i => by
      have := refAt_le ((sizesF ks).take i) fun z hz => (sizes_in ks HO.out z (List.mem_of_mem_take hz)).2
      have h2 : ((sizesF ks).take i).length ≤ 1100000 := by have := HPL.out; rw [List.length_take, sizesF_len]; omega
      omega
    have HBD := Go.Lib.hid hbnd
    clear hbnd
    go_wp2_with fail
    go_loopw [4, 5, 6] (fun v4 v5 _ wr => ∃ i : Nat, i ≤ pl ∧ v5 = .int .i64 i ∧ v4 = .int .i64 (refAt ((sizesF ks).take i) : Nat) ∧ Chg NoB (w.alloc (Obj.cells #[.int .i64 8, .int .i64 n, .slice nA nl nc, .slice pA pl pc] ShT)) wr) (fun _ v5 _ _ => pl - (intOf v5).toNat)
    case atStart => exact ⟨0, Nat.zero_le _, rfl, rfl, Chg.refl _ _⟩
    case round =>
      obtain ⟨i, hi, rfl, rfl, hc⟩ := hrel
      have hb1 := HB.out.1.chg hc id
      have c3 : wr.cell? ⟨w.heap.size, 3, none⟩ = some (.slice pA pl pc) := hb1.cell 3
      have HC1 := Go.Lib.hid (HB.out.2.trans hc)
      have HC2 := Go.Lib.hid hc
      clear hc hb1
      by_cases hlt : i < pl
      · obtain ⟨pb, po, sv, ns', kk, rfl, ha, q0, q1, q2, q3, hIs⟩ := HS.out.part (i := i) hlt
        have q0' := keepC HC1.out q0
        have q1' := keepC HC1.out q1
        have q2' := keepC HC1.out q2
        have q3' := keepC HC1.out q3
        have he := HO.out.at_ ks ha
        have hzs := SF.at_sizes ks ha
        have hzin := sizes_in ks HO.out _ (List.mem_of_getElem? hzs)
        have hC := HI.out i sv ns' kk ha wr (hIs.quiet HC1.out) he
        obtain ⟨z, hze⟩ : ∃ z, sizeS sv.k sv.n (sizesF kk) = z := ⟨_, rfl⟩
        rw [hze] at hzs hzin hC
        have hsn : refAt ((sizesF ks).take (i + 1)) = (if z ≠ 1 then (refAt ((sizesF ks).take i) + 3) / 4 * 4 else refAt ((sizesF ks).take i)) + z := by
          obtain ⟨hk, he⟩ := List.getElem?_eq_some_iff.1 hzs
          rw [List.take_succ_eq_append_getElem hk, he, refAt_snoc]
        have HSN := Go.Lib.hid hsn
        have hb1 := HBD.out i
        have hb2 := HBD.out (i + 1)
        rw [hsn] at hb2
        obtain ⟨a, hae⟩ : ∃ a, refAt ((sizesF ks).take i) = a := ⟨_, rfl⟩
        rw [hae] at HSN hb1 hb2 ⊢
        have HC := Go.Lib.hid hC
        unfold Sv.val at HC
        clear q0 q1 q2 q3 ha hIs he hzs hsn hC hze
        by_cases hz1 : z = 1
        · subst hz1
          rw [if_neg (by simp)] at hb2
          go_wp2_with fail
          refine HC.out.mono ?_
          rintro e w1 ⟨rfl, hc⟩
          have HC3 := Go.Lib.hid (HC2.out.trans hc)
          clear hc
          go_wp2_with fail
          go_roundw
          case rel => exact ⟨i + 1, by omega, by go_num, by rw [HSN.out, if_neg (by simp)]; go_num, HC3.out⟩
          case measure => simp [intOf]; omega
        · have hz1' : ((z : Int) != 1) = true := by simp; omega
          rw [if_pos hz1] at hb2
          go_wp2_with fail
          refine HC.out.mono ?_
          rintro e w1 ⟨rfl, hc⟩
          have HC3 := Go.Lib.hid (HC2.out.trans hc)
          clear hc
          go_wp2_with fail
          refine (refUp_c (w := w1) a (by omega)).mono ?_
          rintro e w2 ⟨rfl, rfl⟩
          obtain ⟨u, hu⟩ : ∃ u, (a + 3) / 4 * 4 = u := ⟨_, rfl⟩
          rw [hu] at hb2 ⊢
          go_wp2_with fail
          go_roundw
          case rel => exact ⟨i + 1, by omega, by go_num, by rw [HSN.out, if_pos hz1, hu]; go_num, HC3.out⟩
          case measure => simp [intOf]; omega
      · obtain rfl : i = pl := by omega
        have hfull : (sizesF ks).take i = sizesF ks := List.take_of_length_le (by have := HPL.out; rw [sizesF_len]; omega)
        have hb1 := HBD.out i
        rw [hfull] at hb1 ⊢
        go_wp2_with fail
        refine (refUp_c (w := wr) (refAt (sizesF ks)) (by omega)).mono ?_
        rintro e w2 ⟨rfl, rfl⟩
        go_wp2_with fail
        go_ret
        exact ⟨rfl, HC1.out⟩
  have e7 : (k == 7) = false := by simpa using k7
  have e8 : (k == 8) = false := by simpa using k8
  by_cases k2 : k = 2
  · subst k2
    go_wp2_with fail
    go_ret
    exact ⟨rfl, HB.out.2⟩
  by_cases k3 : k = 3
  · subst k3
    go_wp2_with fail
    go_ret
    exact ⟨rfl, HB.out.2⟩
  by_cases k4 : k = 4
  · subst k4
    go_wp2_with fail
    go_ret
    exact ⟨rfl, HB.out.2⟩
  have e2 : (k == 2) = false := by simpa using k2
  have e3 : (k == 3) = false := by simpa using k3
  have e4 : (k == 4) = false := by simpa using k4
  have hr : sizeU k n (sizesF ks) = 4 := by
    unfold sizeU
    rw [if_neg (by omega), if_neg k7, if_neg k8]
  rw [hr]
  go_wp2_with fail
  go_ret
  exact ⟨rfl, HB.out.2⟩
/-- each row of parts is no longer than that -/
def SF.small : SF → Prop
  | .nil => True
  | .cons _ _ ks r => ks.len ≤ 209715 ∧ ks.small ∧ r.small
theorem SF.small.few : ∀ {f : SF}, f.small → f.few
  | .nil, _ => trivial
  | .cons _ _ ks r, ⟨h1, h2, h3⟩ => ⟨by omega, SF.small.few h2, SF.small.few h3⟩
theorem SF.small.at_ : ∀ (f : SF) {i : Nat} {s : Sv} {ns : List ByteArray} {ks : SF}, f.small → f.at? i = some (s, ns, ks) → ks.len ≤ 209715 ∧ ks.small
  | .nil, _, _, _, _, _, h => by simp [SF.at?] at h
  | .cons s ns ks r, 0, s', ns', ks', ⟨h1, h2, h3⟩, h => by
    obtain ⟨rfl, rfl, rfl⟩ : s = s' ∧ ns = ns' ∧ ks = ks' := by simpa [SF.at?] using h
    exact ⟨h1, h2⟩
  | .cons s ns ks r, i + 1, s', ns', ks', ⟨h1, h2, h3⟩, h => SF.small.at_ r h3 (by simpa [SF.at?] using h)
theorem size_ok1 (s : Sv) (ns : List ByteArray) (ks : SF) (ih : SizesF ks) (w : World) (h : IsS w s ns ks) (hl : ks.len ≤ 209715) (he : errOf s ns ks = 0) : Calls Try.prog 30 #[s.val] w (Quiet (.int .i64 (sizeS s.k s.n (sizesF ks) : Nat)) w) := by
  rw [← sizeU_ok he]
  refine size_one s ns ks ih w h (err_parts he).1 (by omega) fun h7 => ?_
  have := (err_parts he).2
  rw [h7] at this
  have := err7 this
  rw [sizesF_len] at this
  exact ⟨this.1, this.2.1, this.2.2.1⟩
theorem size_all : ∀ f : SF, f.small → SizesF f
  | .nil, _ => fun i s ns ks h => by simp [SF.at?] at h
  | .cons s ns ks r, ⟨h1, h2, h3⟩ => fun i s' ns' ks' h w hIs he => by
    cases i with
    | zero =>
      obtain ⟨rfl, rfl, rfl⟩ : s = s' ∧ ns = ns' ∧ ks = ks' := by simpa [SF.at?] using h
      exact size_ok1 s ns ks (size_all ks h2) w hIs h1 he
    | succ i => exact size_all r h3 i s' ns' ks' (by simpa [SF.at?] using h) w hIs he
/-- the size of a shape that may be -/
theorem refSize_c {w : World} {s : Sv} {ns : List ByteArray} {ks : SF} (h : IsS w s ns ks) (hl : ks.len ≤ 209715) (hs : ks.small) (he : errOf s ns ks = 0) : Calls Try.prog 30 #[s.val] w (Quiet (.int .i64 (sizeS s.k s.n (sizesF ks) : Nat)) w) :=
  size_ok1 s ns ks (size_all ks hs) w h hl he
end Go.Proofs.Ytholeloedihkoaa
