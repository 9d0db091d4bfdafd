/- What is proved: the reference's record: the error of a record whose parts may be. Conditions: the memory holds the shape; it has few parts. -/
import Derived.Test.YtholeloedihkoaaVbA
import Derived.Test.YtholeloedihkoaaRefName2
set_option linter.unusedSimpArgs false
set_option linter.unusedVariables false
namespace Go.Proofs.Ytholeloedihkoaa
open Go Go.RowKit
/-- what record sums up -/
def sum3 (l : List Nat) : Nat := l.foldl (fun a s => min (a + s + 3) 1048576) 0
theorem sum3_snoc (l : List Nat) (s : Nat) : sum3 (l ++ [s]) = min (sum3 l + s + 3) 1048576 := by simp [sum3]
theorem sum3_le (l : List Nat) : sum3 l ≤ refAt l + 3 * l.length := by
  induction l using List.snocRec with
  | nil => exact Nat.le_refl _
  | snoc l s ih =>
    rw [sum3_snoc, refAt_snoc, List.length_append, List.length_singleton]
    split <;> omega
theorem sum3_bd (l : List Nat) : sum3 l ≤ 1048576 := by
  induction l using List.snocRec with
  | nil => decide
  | snoc l s ih =>
    rw [sum3_snoc]
    omega
/-- the error of a record's names and sizes -/
theorem err8_eq (n : Int) (ns : List ByteArray) (kk : List Int) (l : List Nat) : errS 8 n ns kk l = if ns.length ≠ l.length then 2 else if recGood ns = true then (if recSizeS l ≤ 262144 then 0 else 3) else 2 := by
  unfold errS
  rw [if_neg (by decide), if_pos rfl]
theorem take_snoc' {α : Type} {L : List α} {k : Nat} {l : α} (h : L[k]? = some l) : L.take (k + 1) = L.take k ++ [l] := by
  obtain ⟨hk, he⟩ := List.getElem?_eq_some_iff.1 h
  rw [List.take_succ_eq_append_getElem hk, he]
theorem toList_inj' {a b : ByteArray} (h : a.toList = b.toList) : a = b := by
  rw [ByteArray.toList_eq, ByteArray.toList_eq] at h
  have : a.data = b.data := Array.toList_inj.1 h
  cases a; cases b
  simpa using this
theorem nodup_snoc {l : List ByteArray} {x : ByteArray} (h : l.Nodup) (hx : ∀ (j : Nat) y, l[j]? = some y → y ≠ x) : (l ++ [x]).Nodup := by
  rw [List.nodup_append]
  refine ⟨h, by simp, fun a ha b hb => ?_⟩
  obtain ⟨j, hj⟩ := List.mem_iff_getElem?.1 ha
  simp only [List.mem_singleton] at hb
  subst hb
  exact hx j a hj
theorem good_dup {ns : List ByteArray} {i j : Nat} {x y : ByteArray} (hi : ns[i]? = some x) (hj : ns[j]? = some y) (hij : j < i) (h : y = x) : recGood ns = false := by
  have : ¬ ns.Nodup := fun hn => by
    subst h
    obtain ⟨h1, h2⟩ := List.getElem?_eq_some_iff.1 hi
    obtain ⟨h3, h4⟩ := List.getElem?_eq_some_iff.1 hj
    have := List.pairwise_iff_getElem.1 hn j i h3 h1 hij
    rw [h2, h4] at this
    exact this rfl
  unfold recGood
  rw [decide_eq_false this]
  rfl
theorem good_bad {ns : List ByteArray} {i : Nat} {x : ByteArray} (hi : ns[i]? = some x) (h : nameT x = false) : recGood ns = false := by
  unfold recGood
  have : ns.all nameT = false := by
    rw [List.all_eq_false]
    exact ⟨x, List.mem_of_getElem? hi, by simp [h]⟩
  rw [this]
  simp
theorem good_all {ns : List ByteArray} (h1 : ns.Nodup) (h2 : ∀ x ∈ ns, nameT x = true) : recGood ns = true := by
  unfold recGood
  rw [decide_eq_true h1, List.all_eq_true.2 h2]
  rfl
set_option maxHeartbeats 2000000 in
set_option maxRecDepth 20000 in
theorem refRecord_c (s : Sv) (ns : List ByteArray) (ks : SF) (ih : SizesF ks) (w : World) (h : IsS w s ns ks) (h8 : s.k = 8) (hok : okF ks) (hl : ks.len ≤ 209715) :
    Calls Try.prog 36 #[s.val] w (Quiet (.int .i64 (errS 8 s.n ns (kindsF ks) (sizesF ks))) w) := by
  have HSZ : Hid (∀ W, IsS W s ns ks → Calls Try.prog 30 #[s.val] W (Quiet (.int .i64 (sizeU s.k s.n (sizesF ks) : Nat)) W)) := Go.Lib.hid fun W hW => size_one s ns ks ih W hW hok (by omega) (fun h7 => by omega)
  have HS := Go.Lib.hid h
  have HI := Go.Lib.hid ih
  have HO := Go.Lib.hid hok
  have HN := Go.Lib.hid h.ok.names
  have HSH := Go.Lib.hid h.ok.short
  have hpl := h.len
  have hpc := h.ok.pc
  have hnc := h.ok.nc
  have hnl := h.ok.nl
  unfold maxLen at hpc hnc
  clear ih h hok
  obtain ⟨k, n, nA, nl, nc, pA, pl, pc⟩ := s
  unfold Sv.val at HSZ ⊢
  simp only at hpl hpc hnc hnl h8 HN HSZ ⊢
  subst h8
  rw [← hpl] at hl
  rw [err8_eq, sizesF_len, ← hnl, ← hpl]
  have HPL := Go.Lib.hid (And.intro hpl hnl)
  clear hpl hnl
  have hbx := Blk.new w ShT #[.int .i64 8, .int .i64 n, .slice nA nl nc, .slice pA pl pc]
  have hal : Chg NoB w (w.alloc (Obj.cells #[.int .i64 8, .int .i64 n, .slice nA nl nc, .slice pA pl pc] ShT)) := (Chg.refl NoB w).alloc _
  have HB := Go.Lib.hid (And.intro hbx hal)
  clear hbx hal
  go_enter Try.func36, Try.ntmps36
  by_cases hne : nl = pl
  · rw [if_neg (by omega)]
    subst hne
    have HR : Hid (∀ e w', (recGood ns = false ∧ Quiet (.int .i64 2) w e w') ∨ (recGood ns = true ∧ Quiet (.int .i64 (if recSizeS (sizesF ks) ≤ 262144 then 0 else 3)) w e w') → Quiet (.int .i64 (if recGood ns = true then (if recSizeS (sizesF ks) ≤ 262144 then 0 else 3) else 2)) w e w') := Go.Lib.hid (by
      intro e w' h
      rcases h with ⟨h1, h2⟩ | ⟨h1, h2⟩
      · rw [h1]; exact h2
      · rw [h1]; exact h2)
    generalize (if recGood ns = true then (if recSizeS (sizesF ks) ≤ 262144 then (0 : Int) else 3) else 2) = res at *
    go_wp2_with fail
    go_loopw [3, 4, 5] (fun v3 v4 _ wr => ∃ i : Nat, i ≤ nl ∧ v4 = .int .i64 i ∧ v3 = .int .i64 (sum3 ((sizesF ks).take i) : Nat) ∧ (ns.take i).Nodup ∧ (∀ x ∈ ns.take i, nameT x = true) ∧ Chg NoB (w.alloc (Obj.cells #[.int .i64 8, .int .i64 n, .slice nA nl nc, .slice pA nl pc] ShT)) wr) (fun _ v4 _ _ => nl - (intOf v4).toNat)
    case atStart => exact ⟨0, Nat.zero_le _, rfl, rfl, by simp, by simp, Chg.refl _ _⟩
    case round =>
      obtain ⟨i, hi, rfl, rfl, hnd, hall, hc⟩ := hrel
      have hb1 := HB.out.1.chg hc id
      have c2 : wr.cell? ⟨w.heap.size, 2, none⟩ = some (.slice nA nl nc) := hb1.cell 2
      have c3 : wr.cell? ⟨w.heap.size, 3, none⟩ = some (.slice pA nl pc) := hb1.cell 3
      have HC1 := Go.Lib.hid (HB.out.2.trans hc)
      have HC2 := Go.Lib.hid hc
      have HND := Go.Lib.hid (And.intro hnd hall)
      have hsb := sum3_bd ((sizesF ks).take i)
      obtain ⟨a, hae⟩ : ∃ a, sum3 ((sizesF ks).take i) = a := ⟨_, rfl⟩
      rw [hae] at hsb ⊢
      clear hc hb1 hnd hall
      by_cases hlt : i < nl
      · obtain ⟨x, hx⟩ : ∃ x, ns[i]? = some x := ⟨_, List.getElem?_eq_getElem (by have := HPL.out.2; omega)⟩
        obtain ⟨ad, hAd, hcell⟩ := HN.out (by have := HPL.out.2; simp; omega)
        subst hAd
        have HCL := Go.Lib.hid (fun (j : Nat) y (hj : ns[j]? = some y) W (hW : Chg NoB w W) => keepC hW (hcell j (.string y) (by rw [List.getElem?_map, hj]; rfl)))
        have hxc := HCL.out i x hx wr HC1.out
        have HX := Go.Lib.hid hx
        have hM := refNameT_c x (HSH.out x (List.mem_of_getElem? hx)) wr
        have HM := Go.Lib.hid hM
        clear hcell hx hM
        by_cases hnm : nameT x = true
        · rw [hnm] at HM
          obtain ⟨pb, po, sv, ns', kk, hpA, ha, q0, q1, q2, q3, hIs⟩ := HS.out.part (i := i) hlt
          subst hpA
          have he := HO.out.at_ ks ha
          have hzs := SF.at_sizes ks ha
          have hzin := sizes_in ks HO.out _ (List.mem_of_getElem? hzs)
          have HC := Go.Lib.hid (fun W (hW : Chg NoB w W) => HI.out i sv ns' kk ha W (hIs.quiet hW) he)
          obtain ⟨z, hze⟩ : ∃ z, sizeS sv.k sv.n (sizesF kk) = z := ⟨_, rfl⟩
          rw [hze] at hzs hzin HC
          have HSN : Hid (sum3 ((sizesF ks).take (i + 1)) = min (a + z + 3) 1048576) := Go.Lib.hid (by rw [take_snoc' hzs, sum3_snoc, hae])
          have HQ := Go.Lib.hid (And.intro q0 (And.intro q1 (And.intro q2 q3)))
          unfold Sv.val at HC
          clear ha he hzs hze hIs q0 q1 q2 q3
          go_wp2_with fail
          refine HM.out.mono ?_
          rintro e w1 ⟨rfl, hc⟩
          have HC3 := Go.Lib.hid (HC1.out.trans hc)
          have HC4 := Go.Lib.hid (HC2.out.trans hc)
          have c2' := keepC hc c2
          have c3' := keepC hc c3
          clear hc c2 c3 hxc
          go_wp2_with fail
          go_loopw [5] (fun v5 wr2 => Chg NoB w1 wr2 ∧ ∃ j : Nat, j ≤ i ∧ v5 = .int .i64 j ∧ ∀ (j' : Nat) y, j' < j → ns[j']? = some y → y ≠ x) (fun v5 _ => i - (intOf v5).toNat)
          case atStart => exact ⟨Chg.refl _ _, 0, Nat.zero_le _, rfl, fun j' y h => by omega⟩
          case round =>
            obtain ⟨hc2, j, hj, rfl, hun⟩ := hrel
            have HC3 := Go.Lib.hid (HC3.out.trans hc2)
            have HC4 := Go.Lib.hid (HC4.out.trans hc2)
            have HC6 := Go.Lib.hid hc2
            have c2' := keepC hc2 c2'
            have c3' := keepC hc2 c3'
            clear hc2
            have HUN := Go.Lib.hid hun
            clear hun
            by_cases hjl : j < i
            · obtain ⟨y, hy⟩ : ∃ y, ns[j]? = some y := ⟨_, List.getElem?_eq_getElem (by have := HPL.out.2; omega)⟩
              have hyc := HCL.out j y hy _ HC3.out
              have hxc := HCL.out i x HX.out _ HC3.out
              have HY := Go.Lib.hid hy
              have hjn : j < nl := by omega
              clear hy
              by_cases hxy : y = x
              · subst hxy
                go_wp2_with fail
                refine regionT 10 (fun V' => Chg NoB (wr) V') (by kernel_rfl) (by decide) ((Chg.refl NoB wr).drew) (fun inv hHeld => ?_)
                refine takeT (i := 0) (t := 32) (v := ?v0y1) rfl (by kernel_rfl) (by kernel_rfl) (by kernel_rfl) (fun _ _ _ h => h) (by kernel_rfl) (by kernel_rfl) (by decide) (by decide) rfl (Or.inl ⟨by rfl, ?h0y1⟩) inv hHeld ?r0y1
                case h0y1 => (intro V' hSw; clear hSw; go_simp; try with_reducible rfl)
                clear inv
                intro inv
                try simp only [List.setIfInBounds_toArray, List.set_cons_zero, List.set_cons_succ]
                refine takeT (i := 1) (t := 33) (v := ?v1y2) rfl (by kernel_rfl) (by kernel_rfl) (by kernel_rfl) (fun _ _ _ h => h) (by kernel_rfl) (by kernel_rfl) (by decide) (by decide) rfl (Or.inl ⟨by rfl, ?h1y2⟩) inv hHeld ?r1y2
                case h1y2 => (intro V' hSw; have hq := keepC hSw c2'; clear hSw; go_simp; try with_reducible rfl)
                clear inv
                intro inv
                try simp only [List.setIfInBounds_toArray, List.set_cons_zero, List.set_cons_succ]
                refine takeT (i := 2) (t := 34) (v := ?v2y3) rfl (by kernel_rfl) (by kernel_rfl) (by kernel_rfl) (fun _ _ _ h => h) (by kernel_rfl) (by kernel_rfl) (by decide) (by decide) rfl (Or.inl ⟨by rfl, ?h2y3⟩) inv hHeld ?r2y3
                case h2y3 => (intro V' hSw; clear hSw; go_simp; try with_reducible rfl)
                clear inv
                intro inv
                try simp only [List.setIfInBounds_toArray, List.set_cons_zero, List.set_cons_succ]
                refine takeT (i := 3) (t := 35) (v := ?v3y4) rfl (by kernel_rfl) (by kernel_rfl) (by kernel_rfl) (fun _ _ _ h => h) (by kernel_rfl) (by kernel_rfl) (by decide) (by decide) rfl (Or.inl ⟨by rfl, ?h3y4⟩) inv hHeld ?r3y4
                case h3y4 => (intro V' hSw; clear hSw; go_simp; try with_reducible rfl)
                clear inv
                intro inv
                try simp only [List.setIfInBounds_toArray, List.set_cons_zero, List.set_cons_succ]
                refine takeT (i := 4) (t := 36) (v := ?v4y5) rfl (by kernel_rfl) (by kernel_rfl) (by kernel_rfl) (fun _ _ _ h => h) (by kernel_rfl) (by kernel_rfl) (by decide) (by decide) rfl (Or.inl ⟨by rfl, ?h4y5⟩) inv hHeld ?r4y5
                case h4y5 => (intro V' hSw; have hq := keepC hSw hyc; clear hSw; go_simp; try with_reducible rfl)
                clear inv
                intro inv
                try simp only [List.setIfInBounds_toArray, List.set_cons_zero, List.set_cons_succ]
                refine takeT (i := 5) (t := 37) (v := ?v5y6) rfl (by kernel_rfl) (by kernel_rfl) (by kernel_rfl) (fun _ _ _ h => h) (by kernel_rfl) (by kernel_rfl) (by decide) (by decide) rfl (Or.inl ⟨by rfl, ?h5y6⟩) inv hHeld ?r5y6
                case h5y6 => (intro V' hSw; clear hSw; go_simp; try with_reducible rfl)
                clear inv
                intro inv
                try simp only [List.setIfInBounds_toArray, List.set_cons_zero, List.set_cons_succ]
                refine takeT (i := 6) (t := 38) (v := ?v6y7) rfl (by kernel_rfl) (by kernel_rfl) (by kernel_rfl) (fun _ _ _ h => h) (by kernel_rfl) (by kernel_rfl) (by decide) (by decide) rfl (Or.inl ⟨by rfl, ?h6y7⟩) inv hHeld ?r6y7
                case h6y7 => (intro V' hSw; have hq := keepC hSw c2'; clear hSw; go_simp; try with_reducible rfl)
                clear inv
                intro inv
                try simp only [List.setIfInBounds_toArray, List.set_cons_zero, List.set_cons_succ]
                refine takeT (i := 7) (t := 39) (v := ?v7y8) rfl (by kernel_rfl) (by kernel_rfl) (by kernel_rfl) (fun _ _ _ h => h) (by kernel_rfl) (by kernel_rfl) (by decide) (by decide) rfl (Or.inl ⟨by rfl, ?h7y8⟩) inv hHeld ?r7y8
                case h7y8 => (intro V' hSw; clear hSw; go_simp; try with_reducible rfl)
                clear inv
                intro inv
                try simp only [List.setIfInBounds_toArray, List.set_cons_zero, List.set_cons_succ]
                refine takeT (i := 8) (t := 40) (v := ?v8y9) rfl (by kernel_rfl) (by kernel_rfl) (by kernel_rfl) (fun _ _ _ h => h) (by kernel_rfl) (by kernel_rfl) (by decide) (by decide) rfl (Or.inl ⟨by rfl, ?h8y9⟩) inv hHeld ?r8y9
                case h8y9 => (intro V' hSw; clear hSw; go_simp; try with_reducible rfl)
                clear inv
                intro inv
                try simp only [List.setIfInBounds_toArray, List.set_cons_zero, List.set_cons_succ]
                refine takeT (i := 9) (t := 41) (v := ?v9y10) rfl (by kernel_rfl) (by kernel_rfl) (by kernel_rfl) (fun _ _ _ h => h) (by kernel_rfl) (by kernel_rfl) (by decide) (by decide) rfl (Or.inl ⟨by rfl, ?h9y10⟩) inv hHeld ?r9y10
                case h9y10 => (intro V' hSw; have hq := keepC hSw hxc; clear hSw; go_simp; try with_reducible rfl)
                clear inv
                intro inv
                try simp only [List.setIfInBounds_toArray, List.set_cons_zero, List.set_cons_succ]
                refine lastV (i := 10) (t := 42) (v := .bool true) (w' := wr.drew) rfl (by kernel_rfl) rfl (by rfl) ?hx11 (by decide) (by kernel_rfl) ?_
                case hx11 => (go_simp; try with_reducible rfl)
                clear inv
                clear hHeld
                go_wp2_with fail
                go_ret
                exact HR.out _ _ (.inl ⟨good_dup HX.out HY.out hjl rfl, rfl, HC3.out.drew⟩)
              · have hbe : ¬ y.toList = x.toList := fun h => hxy (toList_inj' h)
                go_wp2_with fail
                refine regionT 10 (fun V' => Chg NoB (wr) V') (by kernel_rfl) (by decide) ((Chg.refl NoB wr).drew) (fun inv hHeld => ?_)
                refine takeT (i := 0) (t := 32) (v := ?v0y12) rfl (by kernel_rfl) (by kernel_rfl) (by kernel_rfl) (fun _ _ _ h => h) (by kernel_rfl) (by kernel_rfl) (by decide) (by decide) rfl (Or.inl ⟨by rfl, ?h0y12⟩) inv hHeld ?r0y12
                case h0y12 => (intro V' hSw; clear hSw; go_simp; try with_reducible rfl)
                clear inv
                intro inv
                try simp only [List.setIfInBounds_toArray, List.set_cons_zero, List.set_cons_succ]
                refine takeT (i := 1) (t := 33) (v := ?v1y13) rfl (by kernel_rfl) (by kernel_rfl) (by kernel_rfl) (fun _ _ _ h => h) (by kernel_rfl) (by kernel_rfl) (by decide) (by decide) rfl (Or.inl ⟨by rfl, ?h1y13⟩) inv hHeld ?r1y13
                case h1y13 => (intro V' hSw; have hq := keepC hSw c2'; clear hSw; go_simp; try with_reducible rfl)
                clear inv
                intro inv
                try simp only [List.setIfInBounds_toArray, List.set_cons_zero, List.set_cons_succ]
                refine takeT (i := 2) (t := 34) (v := ?v2y14) rfl (by kernel_rfl) (by kernel_rfl) (by kernel_rfl) (fun _ _ _ h => h) (by kernel_rfl) (by kernel_rfl) (by decide) (by decide) rfl (Or.inl ⟨by rfl, ?h2y14⟩) inv hHeld ?r2y14
                case h2y14 => (intro V' hSw; clear hSw; go_simp; try with_reducible rfl)
                clear inv
                intro inv
                try simp only [List.setIfInBounds_toArray, List.set_cons_zero, List.set_cons_succ]
                refine takeT (i := 3) (t := 35) (v := ?v3y15) rfl (by kernel_rfl) (by kernel_rfl) (by kernel_rfl) (fun _ _ _ h => h) (by kernel_rfl) (by kernel_rfl) (by decide) (by decide) rfl (Or.inl ⟨by rfl, ?h3y15⟩) inv hHeld ?r3y15
                case h3y15 => (intro V' hSw; clear hSw; go_simp; try with_reducible rfl)
                clear inv
                intro inv
                try simp only [List.setIfInBounds_toArray, List.set_cons_zero, List.set_cons_succ]
                refine takeT (i := 4) (t := 36) (v := ?v4y16) rfl (by kernel_rfl) (by kernel_rfl) (by kernel_rfl) (fun _ _ _ h => h) (by kernel_rfl) (by kernel_rfl) (by decide) (by decide) rfl (Or.inl ⟨by rfl, ?h4y16⟩) inv hHeld ?r4y16
                case h4y16 => (intro V' hSw; have hq := keepC hSw hyc; clear hSw; go_simp; try with_reducible rfl)
                clear inv
                intro inv
                try simp only [List.setIfInBounds_toArray, List.set_cons_zero, List.set_cons_succ]
                refine takeT (i := 5) (t := 37) (v := ?v5y17) rfl (by kernel_rfl) (by kernel_rfl) (by kernel_rfl) (fun _ _ _ h => h) (by kernel_rfl) (by kernel_rfl) (by decide) (by decide) rfl (Or.inl ⟨by rfl, ?h5y17⟩) inv hHeld ?r5y17
                case h5y17 => (intro V' hSw; clear hSw; go_simp; try with_reducible rfl)
                clear inv
                intro inv
                try simp only [List.setIfInBounds_toArray, List.set_cons_zero, List.set_cons_succ]
                refine takeT (i := 6) (t := 38) (v := ?v6y18) rfl (by kernel_rfl) (by kernel_rfl) (by kernel_rfl) (fun _ _ _ h => h) (by kernel_rfl) (by kernel_rfl) (by decide) (by decide) rfl (Or.inl ⟨by rfl, ?h6y18⟩) inv hHeld ?r6y18
                case h6y18 => (intro V' hSw; have hq := keepC hSw c2'; clear hSw; go_simp; try with_reducible rfl)
                clear inv
                intro inv
                try simp only [List.setIfInBounds_toArray, List.set_cons_zero, List.set_cons_succ]
                refine takeT (i := 7) (t := 39) (v := ?v7y19) rfl (by kernel_rfl) (by kernel_rfl) (by kernel_rfl) (fun _ _ _ h => h) (by kernel_rfl) (by kernel_rfl) (by decide) (by decide) rfl (Or.inl ⟨by rfl, ?h7y19⟩) inv hHeld ?r7y19
                case h7y19 => (intro V' hSw; clear hSw; go_simp; try with_reducible rfl)
                clear inv
                intro inv
                try simp only [List.setIfInBounds_toArray, List.set_cons_zero, List.set_cons_succ]
                refine takeT (i := 8) (t := 40) (v := ?v8y20) rfl (by kernel_rfl) (by kernel_rfl) (by kernel_rfl) (fun _ _ _ h => h) (by kernel_rfl) (by kernel_rfl) (by decide) (by decide) rfl (Or.inl ⟨by rfl, ?h8y20⟩) inv hHeld ?r8y20
                case h8y20 => (intro V' hSw; clear hSw; go_simp; try with_reducible rfl)
                clear inv
                intro inv
                try simp only [List.setIfInBounds_toArray, List.set_cons_zero, List.set_cons_succ]
                refine takeT (i := 9) (t := 41) (v := ?v9y21) rfl (by kernel_rfl) (by kernel_rfl) (by kernel_rfl) (fun _ _ _ h => h) (by kernel_rfl) (by kernel_rfl) (by decide) (by decide) rfl (Or.inl ⟨by rfl, ?h9y21⟩) inv hHeld ?r9y21
                case h9y21 => (intro V' hSw; have hq := keepC hSw hxc; clear hSw; go_simp; try with_reducible rfl)
                clear inv
                intro inv
                try simp only [List.setIfInBounds_toArray, List.set_cons_zero, List.set_cons_succ]
                refine lastV (i := 10) (t := 42) (v := .bool false) (w' := wr.drew) rfl (by kernel_rfl) rfl (by rfl) ?hx22 (by decide) (by kernel_rfl) ?_
                case hx22 => (go_simp; try with_reducible rfl)
                clear inv
                clear hHeld
                go_wp2_with fail
                go_roundw
                case rel => exact ⟨HC6.out.drew, j + 1, by omega, by go_num, fun j' y' hj' hy' => by
                  rcases Nat.lt_or_ge j' j with h | h
                  · exact HUN.out j' y' h hy'
                  · obtain rfl : j' = j := by omega
                    rw [HY.out] at hy'
                    injection hy' with hy'
                    rw [← hy']
                    exact hxy⟩
                case measure => simp [intOf]; omega
            · obtain rfl : j = i := by omega
              obtain ⟨q0, q1, q2, q3⟩ := HQ.out
              have q0' := keepC HC3.out q0
              have q1' := keepC HC3.out q1
              have q2' := keepC HC3.out q2
              have q3' := keepC HC3.out q3
              clear q0 q1 q2 q3
              go_wp2_with fail
              refine (HC.out _ HC3.out).mono ?_
              rintro e w5 ⟨rfl, hc⟩
              have HC5 := Go.Lib.hid (HC4.out.trans hc)
              clear hc
              have hcast : ((min (a + z + 3) 1048576 : Nat) : Int) = min ((a : Int) + (z : Int) + 3) 1048576 := by omega
              go_wp2_with fail
              go_roundw
              case rel => exact ⟨j + 1, by omega, by go_num, by rw [HSN.out, hcast], by rw [take_snoc' HX.out]; exact nodup_snoc HND.out.1 (fun j' y hy => by
                  rw [List.getElem?_take] at hy
                  split at hy
                  · rename_i h
                    exact HUN.out j' y h hy
                  · cases hy), by
                    rw [take_snoc' HX.out]
                    intro q hq
                    rw [List.mem_append, List.mem_singleton] at hq
                    rcases hq with hq | rfl
                    · exact HND.out.2 q hq
                    · exact hnm, HC5.out⟩
              case measure => simp [intOf]; omega
        · have hnm' : nameT x = false := by simpa using hnm
          rw [hnm'] at HM
          go_wp2_with fail
          refine HM.out.mono ?_
          rintro e w1 ⟨rfl, hc⟩
          have HC3 := Go.Lib.hid (HC1.out.trans hc)
          clear hc
          go_wp2_with fail
          go_ret
          exact HR.out _ _ (.inl ⟨good_bad HX.out hnm', rfl, HC3.out⟩)
      · obtain rfl : i = nl := by omega
        have hfull : (sizesF ks).take i = sizesF ks := List.take_of_length_le (by have := HPL.out.1; rw [sizesF_len]; omega)
        have hfn : ns.take i = ns := List.take_of_length_le (by have := HPL.out.2; omega)
        rw [hfn] at HND
        have hgood := good_all HND.out.1 HND.out.2
        rw [hfull] at hae
        have hin := sizes_in ks HO.out
        have hiff := (sizeU_rec (sizesF ks) fun z hz => (hin z hz).1).1
        have hU : sizeU 8 n (sizesF ks) = sizeU 8 0 (sizesF ks) := by unfold sizeU; simp
        have hle := sum3_le (sizesF ks)
        have hzl : (sizesF ks).length = i := by rw [sizesF_len]; exact HPL.out.1.symm
        have hUa : refAt (sizesF ks) ≤ sizeU 8 0 (sizesF ks) := by
          unfold sizeU
          rw [if_neg (by decide), if_neg (by decide), if_pos rfl]
          split
          · rename_i h0
            rw [List.eq_nil_of_length_eq_zero h0]
            decide
          · omega
        obtain ⟨u, hue⟩ : ∃ u, sizeU 8 0 (sizesF ks) = u := ⟨_, rfl⟩
        have HZ := Go.Lib.hid (HSZ.out wr (HS.out.quiet HC1.out))
        rw [hU, hue] at HZ
        rw [hue] at hiff hUa
        have b0 : wr.cell? ⟨w.heap.size, 0, none⟩ = some (.int .i64 8) := (HB.out.1.chg HC2.out id).cell 0
        have b1 : wr.cell? ⟨w.heap.size, 1, none⟩ = some (.int .i64 n) := (HB.out.1.chg HC2.out id).cell 1
        have HIF := Go.Lib.hid hiff
        have hbig : 1048576 ≤ a → 262144 < u := fun h => by omega
        have HBG := Go.Lib.hid hbig
        clear hiff hU hle hzl hUa hue hin hbig
        by_cases ha : 1048576 ≤ a
        · have hd : decide ((1048576 : Int) ≤ (a : Int)) = true := decide_eq_true (by omega)
          go_wp2_with fail
          go_ret
          refine HR.out _ _ (.inr ⟨hgood, ?_, HC1.out⟩)
          have := HBG.out ha
          rw [if_neg (fun h => by have := HIF.out.2 h; omega)]
          rfl
        · have hd : decide ((1048576 : Int) ≤ (a : Int)) = false := decide_eq_false (by omega)
          by_cases hu : u ≤ 262144
          · have hd2 : decide ((262144 : Int) < (u : Int)) = false := decide_eq_false (by omega)
            go_wp2_with fail
            refine HZ.out.mono ?_
            rintro e w1 ⟨rfl, hc⟩
            have HC3 := Go.Lib.hid (HC1.out.trans hc)
            clear hc
            go_wp2_with fail
            go_ret
            refine HR.out _ _ (.inr ⟨hgood, ?_, HC3.out⟩)
            rw [if_pos (HIF.out.1 hu)]
            rfl
          · have hd2 : decide ((262144 : Int) < (u : Int)) = true := decide_eq_true (by omega)
            go_wp2_with fail
            refine HZ.out.mono ?_
            rintro e w1 ⟨rfl, hc⟩
            have HC3 := Go.Lib.hid (HC1.out.trans hc)
            clear hc
            go_wp2_with fail
            go_ret
            refine HR.out _ _ (.inr ⟨hgood, ?_, HC3.out⟩)
            rw [if_neg (fun h => hu (HIF.out.2 h))]
            rfl
  · rw [if_pos (by omega)]
    have hd : ((nl : Int) != (pl : Int)) = true := by simp; omega
    go_wp2_with fail
    go_ret
    exact ⟨rfl, HB.out.2⟩
end Go.Proofs.Ytholeloedihkoaa
