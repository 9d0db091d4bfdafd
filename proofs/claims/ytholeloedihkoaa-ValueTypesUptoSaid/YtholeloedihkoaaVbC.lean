/- What is proved: the reference's Make: the error of any shape. Conditions: the memory holds the shape; its rows of parts are not too long. -/
import Derived.Test.YtholeloedihkoaaVbB
set_option linter.unusedSimpArgs false
set_option linter.unusedVariables false
namespace Go.Proofs.Ytholeloedihkoaa
open Go Go.RowKit
def MakesF (f : SF) : Prop := ∀ (i : Nat) (s : Sv) (ns : List ByteArray) (ks : SF), f.at? i = some (s, ns, ks) → ∀ (w : World), IsS w s ns ks → Calls Try.prog 10 #[s.val] w (Quiet (.int .i64 (errOf s ns ks)) w)
theorem SF.at_kinds : ∀ (f : SF) {i : Nat} {s : Sv} {ns : List ByteArray} {ks : SF}, f.at? i = some (s, ns, ks) → (kindsF f)[i]? = some s.k
  | .nil, _, _, _, _, h => by simp [SF.at?] at h
  | .cons s ns ks r, 0, s', ns', ks', h => by
    obtain ⟨rfl, rfl, rfl⟩ : s = s' ∧ ns = ns' ∧ ks = ks' := by simpa [SF.at?] using h
    rfl
  | .cons s ns ks r, i + 1, s', ns', ks', h => by
    have := SF.at_kinds r (show r.at? i = some (s', ns', ks') by simpa [SF.at?] using h)
    simpa [kindsF] using this
set_option maxHeartbeats 4000000 in
set_option maxRecDepth 20000 in
theorem make_one (s : Sv) (ns : List ByteArray) (ks : SF) (ih : MakesF ks) (hsm : ks.small) (hl : ks.len ≤ 209715) (w : World) (h : IsS w s ns ks) : Calls Try.prog 10 #[s.val] w (Quiet (.int .i64 (errOf s ns ks)) w) := by
  have HREC : Hid (s.k = 8 → okF ks → ∀ W, IsS W s ns ks → Calls Try.prog 36 #[s.val] W (Quiet (.int .i64 (errS 8 s.n ns (kindsF ks) (sizesF ks))) W)) := Go.Lib.hid fun h8 hok W hW => refRecord_c s ns ks (size_all ks hsm) W hW h8 hok hl
  have HS := Go.Lib.hid h
  have HI := Go.Lib.hid ih
  have HSZ := Go.Lib.hid (size_all ks hsm)
  have hpl := h.len
  have hpc := h.ok.pc
  unfold maxLen at hpc
  clear ih h hsm
  have hE : ∀ (j : Nat) (e : Int), (errsF ks)[j]? = some e → e ≠ 0 → (∀ (j' : Nat) (e' : Int), j' < j → (errsF ks)[j']? = some e' → e' = 0) → errOf s ns ks = e := fun j e hj he hz => by
    have hlt := (List.getElem?_eq_some_iff.1 hj).1
    unfold errOf
    rw [find_first (errsF ks) j hlt (by rw [hj]; exact he) (fun i hi => by
      have : i < (errsF ks).length := by omega
      rw [List.getElem?_eq_getElem this]
      exact hz i _ hi (List.getElem?_eq_getElem this)), hj]
    rfl
  have hZ : (∀ (j' : Nat) (e' : Int), j' < ks.len → (errsF ks)[j']? = some e' → e' = 0) → okF ks ∧ errOf s ns ks = errS s.k s.n ns (kindsF ks) (sizesF ks) := fun hz => by
    have h0 : (errsF ks).find? (· ≠ 0) = none := find_zero (errsF ks) fun i hi => by
      rw [List.getElem?_eq_getElem hi]
      exact hz i _ (by rw [errsF_len] at hi; exact hi) (List.getElem?_eq_getElem hi)
    refine ⟨h0, ?_⟩
    unfold errOf
    rw [h0]
  have HE := Go.Lib.hid hE
  have HZ := Go.Lib.hid hZ
  clear hE hZ
  obtain ⟨k, n, nA, nl, nc, pA, pl, pc⟩ := s
  unfold Sv.val at HREC ⊢
  simp only at hpl hpc HREC HZ ⊢
  rw [← hpl] at hl
  have HPL := Go.Lib.hid hpl
  clear hpl
  have hbx := Blk.new w ShT #[.int .i64 k, .int .i64 n, .slice nA nl nc, .slice pA pl pc]
  have hal : Chg NoB w (w.alloc (Obj.cells #[.int .i64 k, .int .i64 n, .slice nA nl nc, .slice pA pl pc] ShT)) := (Chg.refl NoB w).alloc _
  have HB := Go.Lib.hid (And.intro hbx hal)
  clear hbx hal
  obtain ⟨res, hres⟩ : ∃ res, errOf ⟨k, n, nA, nl, nc, pA, pl, pc⟩ ns ks = res := ⟨_, rfl⟩
  rw [hres] at HE HZ ⊢
  clear hres
  go_enter Try.func10, Try.ntmps10
  go_wp2_with fail
  go_loopw [3, 4] (fun v3 _ wr => ∃ i : Nat, i ≤ pl ∧ v3 = .int .i64 i ∧ (∀ (j' : Nat) (e' : Int), j' < i → (errsF ks)[j']? = some e' → e' = 0) ∧ Chg NoB (w.alloc (Obj.cells #[.int .i64 k, .int .i64 n, .slice nA nl nc, .slice pA pl pc] ShT)) wr) (fun v3 _ _ => pl - (intOf v3).toNat)
  case atStart => exact ⟨0, Nat.zero_le _, rfl, fun j' e' h => by omega, Chg.refl _ _⟩
  case round =>
    obtain ⟨i, hi, rfl, hz, hc⟩ := hrel
    have hb1 := HB.out.1.chg hc id
    have b0 : wr.cell? ⟨w.heap.size, 0, none⟩ = some (.int .i64 k) := hb1.cell 0
    have b1 : wr.cell? ⟨w.heap.size, 1, none⟩ = some (.int .i64 n) := hb1.cell 1
    have b2 : wr.cell? ⟨w.heap.size, 2, none⟩ = some (.slice nA nl nc) := hb1.cell 2
    have b3 : wr.cell? ⟨w.heap.size, 3, none⟩ = some (.slice pA pl pc) := hb1.cell 3
    have HC1 := Go.Lib.hid (HB.out.2.trans hc)
    have HC2 := Go.Lib.hid hc
    have HZR := Go.Lib.hid hz
    clear hc hb1 hz
    by_cases hlt : i < pl
    · obtain ⟨pb, po, sv, ns', kk, hpA, ha, q0, q1, q2, q3, hIs⟩ := HS.out.part (i := i) hlt
      subst hpA
      have q0' := keepC HC1.out q0
      have q1' := keepC HC1.out q1
      have q2' := keepC HC1.out q2
      have q3' := keepC HC1.out q3
      have hC := HI.out i sv ns' kk ha wr (hIs.quiet HC1.out)
      have HA := Go.Lib.hid (SF.at_errs ks i sv ns' kk ha)
      obtain ⟨ee, hee⟩ : ∃ ee, errOf sv ns' kk = ee := ⟨_, rfl⟩
      rw [hee] at hC HA
      have HC := Go.Lib.hid hC
      unfold Sv.val at HC
      clear q0 q1 q2 q3 ha hIs hC hee b0 b1 b2
      by_cases h0 : ee = 0
      · subst h0
        go_wp2_with fail
        refine HC.out.mono ?_
        rintro e w1 ⟨rfl, hc⟩
        have HC3 := Go.Lib.hid (HC2.out.trans hc)
        clear hc
        go_wp2_with fail
        go_roundw
        case rel => exact ⟨i + 1, by omega, by go_num, fun j' e' hj he => by
          rcases Nat.lt_or_ge j' i with h | h
          · exact HZR.out j' e' h he
          · obtain rfl : j' = i := by omega
            rw [HA.out] at he
            injection he with he
            exact he.symm, HC3.out⟩
        case measure => simp [intOf]; omega
      · have hd : (ee != 0) = true := by simpa using h0
        go_wp2_with fail
        refine HC.out.mono ?_
        rintro e w1 ⟨rfl, hc⟩
        have HC3 := Go.Lib.hid (HC1.out.trans hc)
        clear hc
        go_wp2_with fail
        go_ret
        rw [HE.out i ee HA.out h0 HZR.out]
        exact ⟨rfl, HC3.out⟩
    · obtain rfl : i = pl := by omega
      obtain ⟨hok, hres⟩ := HZ.out (fun j' e' hj he => HZR.out j' e' (by have := HPL.out; omega) he)
      have HOK := Go.Lib.hid hok
      have HRES : Hid (∀ e w', Quiet (.int .i64 (errS k n ns (kindsF ks) (sizesF ks))) w e w' → Quiet (.int .i64 res) w e w') := Go.Lib.hid fun e w' h => by rw [hres]; exact h
      clear hok hres HE HZ HZR HI
      by_cases h7 : k = 7
      · subst h7
        by_cases hp : i = 1
        · subst hp
          have he7 : errS 7 n ns (kindsF ks) (sizesF ks) = if n < 1 ∨ 65535 < n then 2 else if 262144 < n.toNat * (sizesF ks).headD 0 then 3 else 0 := by
            unfold errS
            rw [if_pos rfl, if_neg (by rw [sizesF_len]; have := HPL.out; omega)]
          rw [he7] at HRES
          clear he7
          by_cases hn1 : n < 1
          · rw [if_pos (by omega)] at HRES
            go_wp2_with fail
            go_ret
            exact HRES.out _ _ ⟨rfl, HC1.out⟩
          by_cases hn2 : 65535 < n
          · have d1 : decide (n < 1) = false := by simpa using hn1
            rw [if_pos (by omega)] at HRES
            go_wp2_with fail
            go_ret
            exact HRES.out _ _ ⟨rfl, HC1.out⟩
          rw [if_neg (by omega)] at HRES
          have d1 : decide (n < 1) = false := by simpa using hn1
          have d2 : decide (65535 < n) = false := by simpa using hn2
          obtain ⟨pb, po, sv, ns', kk, hpA, ha, q0, q1, q2, q3, hIs⟩ := HS.out.part (i := 0) (by show 0 < 1; omega)
          subst hpA
          have he := HOK.out.at_ ks ha
          have hz := SF.at_sizes ks ha
          have hzin := sizes_in ks HOK.out _ (List.mem_of_getElem? hz)
          have hhd : (sizesF ks).headD 0 = sizeS sv.k sv.n (sizesF kk) := by
            cases hs : sizesF ks with
            | nil => rw [hs] at hz; simp at hz
            | cons z r => rw [hs] at hz; simpa using hz
          rw [hhd] at HRES
          obtain ⟨z, hze⟩ : ∃ z, sizeS sv.k sv.n (sizesF kk) = z := ⟨_, rfl⟩
          obtain ⟨nn, rfl⟩ : ∃ nn : Nat, n = nn := ⟨n.toNat, by omega⟩
          rw [hze] at hzin HRES
          rw [Int.toNat_natCast] at HRES
          have HC : Hid (∀ W, Chg NoB wr W → Calls Try.prog 30 #[sv.val] W (Quiet (.int .i64 (z : Int)) W)) := Go.Lib.hid fun W hW => by
            have := HSZ.out 0 sv ns' kk ha W (hIs.quiet (HC1.out.trans hW)) he
            rw [hze] at this
            exact this
          have hmb : nn * z ≤ 65535 * 262144 := Nat.mul_le_mul (by omega) hzin.2
          have hmul : IntKind.i64.wrap ((nn : Int) * (z : Int)) = ((nn * z : Nat) : Int) := by
            rw [← Int.natCast_mul]
            exact IntWalk.i64_in _ (by omega)
          have hmc : ((nn * z : Nat) : Int) = (nn : Int) * (z : Int) := Int.natCast_mul _ _
          unfold Sv.val at HC
          have q0 := keepC HC1.out q0
          have q1 := keepC HC1.out q1
          have q2 := keepC HC1.out q2
          have q3 := keepC HC1.out q3
          simp only [Nat.zero_mul, Nat.add_zero] at q0 q1 q2 q3
          obtain ⟨m, hm⟩ : ∃ m, nn * z = m := ⟨_, rfl⟩
          rw [hm] at HRES hmb hmul hmc
          clear ha he hz hzin hhd hze hIs hm
          go_wp2_with fail
          by_cases hbig : 262144 < m
          · have hbig' : (262144 : Int) < (nn : Int) * (z : Int) := by rw [← hmc]; omega
            rw [if_pos hbig] at HRES
            refine regionT 8 (fun V' => Chg NoB (wr) V') (by kernel_rfl) (by decide) ((Chg.refl NoB wr).drew) (fun inv hHeld => ?_)
            refine takeT (i := 0) (t := 43) (v := ?v0y1) rfl (by kernel_rfl) (by kernel_rfl) (by kernel_rfl) (fun _ _ _ h => h) (by kernel_rfl) (by kernel_rfl) (by decide) (by decide) rfl (Or.inl ⟨by rfl, ?h0y1⟩) inv hHeld ?r0y1
            case h0y1 => (intro V' hSw; clear hSw; go_simp; try with_reducible rfl)
            clear inv
            intro inv
            try simp only [List.setIfInBounds_toArray, List.set_cons_zero, List.set_cons_succ]
            refine takeT (i := 1) (t := 44) (v := ?v1y2) rfl (by kernel_rfl) (by kernel_rfl) (by kernel_rfl) (fun _ _ _ h => h) (by kernel_rfl) (by kernel_rfl) (by decide) (by decide) rfl (Or.inl ⟨by rfl, ?h1y2⟩) inv hHeld ?r1y2
            case h1y2 => (intro V' hSw; have hq := keepC hSw b1; clear hSw; go_simp; try with_reducible rfl)
            clear inv
            intro inv
            try simp only [List.setIfInBounds_toArray, List.set_cons_zero, List.set_cons_succ]
            refine takeT (i := 2) (t := 45) (v := ?v2y3) rfl (by kernel_rfl) (by kernel_rfl) (by kernel_rfl) (fun _ _ _ h => h) (by kernel_rfl) (by kernel_rfl) (by decide) (by decide) rfl (Or.inl ⟨by rfl, ?h2y3⟩) inv hHeld ?r2y3
            case h2y3 => (intro V' hSw; clear hSw; go_simp; try with_reducible rfl)
            clear inv
            intro inv
            try simp only [List.setIfInBounds_toArray, List.set_cons_zero, List.set_cons_succ]
            refine takeT (i := 3) (t := 46) (v := ?v3y4) rfl (by kernel_rfl) (by kernel_rfl) (by kernel_rfl) (fun _ _ _ h => h) (by kernel_rfl) (by kernel_rfl) (by decide) (by decide) rfl (Or.inl ⟨by rfl, ?h3y4⟩) inv hHeld ?r3y4
            case h3y4 => (intro V' hSw; have hq := keepC hSw b3; clear hSw; go_simp; try with_reducible rfl)
            clear inv
            intro inv
            try simp only [List.setIfInBounds_toArray, List.set_cons_zero, List.set_cons_succ]
            refine takeT (i := 4) (t := 47) (v := ?v4y5) rfl (by kernel_rfl) (by kernel_rfl) (by kernel_rfl) (fun _ _ _ h => h) (by kernel_rfl) (by kernel_rfl) (by decide) (by decide) rfl (Or.inl ⟨by rfl, ?h4y5⟩) inv hHeld ?r4y5
            case h4y5 => (intro V' hSw; clear hSw; go_simp; try with_reducible rfl)
            clear inv
            intro inv
            try simp only [List.setIfInBounds_toArray, List.set_cons_zero, List.set_cons_succ]
            refine takeT (i := 5) (t := 48) (v := ?v5y6) rfl (by kernel_rfl) (by kernel_rfl) (by kernel_rfl) (fun _ _ _ h => h) (by kernel_rfl) (by kernel_rfl) (by decide) (by decide) rfl (Or.inl ⟨by rfl, ?h5y6⟩) inv hHeld ?r5y6
            case h5y6 => (intro V' hSw; have hq0 := keepC hSw q0; have hq1 := keepC hSw q1; have hq2 := keepC hSw q2; have hq3 := keepC hSw q3; clear hSw; go_simp; try with_reducible rfl)
            clear inv
            intro inv
            try simp only [List.setIfInBounds_toArray, List.set_cons_zero, List.set_cons_succ]
            refine callT (i := 6) (t := 49) (f := 30) (args := #[.agg #[.int .i64 sv.k, .int .i64 sv.n, .slice sv.nA sv.nl sv.nc, .slice sv.pA sv.pl sv.pc]]) rfl (by kernel_rfl) rfl (by rfl) ?hx7 inv (by decide) ?hc7
            case hx7 => (go_simp; try rfl)
            case hc7 =>
              refine (HC.out _ hHeld).mono ?_
              rintro e w1 ⟨rfl, hc⟩
              refine ⟨_, rfl, hHeld.trans hc, fun inv2 hHeld2 => ?_⟩
              clear inv hHeld
              have inv := inv2
              have hHeld := hHeld2
              clear inv2 hHeld2
              have hcw := Go.Lib.hid hHeld
              try simp only [List.setIfInBounds_toArray, List.set_cons_zero, List.set_cons_succ]
              refine takeT (i := 7) (t := 50) (v := ?v7y8) rfl (by kernel_rfl) (by kernel_rfl) (by kernel_rfl) (fun _ _ _ h => h) (by kernel_rfl) (by kernel_rfl) (by decide) (by decide) rfl (Or.inl ⟨by rfl, ?h7y8⟩) inv hHeld ?r7y8
              case h7y8 => (intro V' hSw; clear hSw; go_simp; try with_reducible rfl)
              clear inv
              intro inv
              try simp only [List.setIfInBounds_toArray, List.set_cons_zero, List.set_cons_succ]
              refine lastV (i := 8) (t := 51) (v := .bool true) (w' := w1) rfl (by kernel_rfl) rfl (by rfl) ?hx9 (by decide) (by kernel_rfl) ?_
              case hx9 => (go_simp; first | done | exact hbig')
              clear inv
              go_wp2_with fail
              go_ret
              exact HRES.out _ _ ⟨rfl, HC1.out.trans hcw.out⟩
          · have hbig' : (nn : Int) * (z : Int) ≤ 262144 := by rw [← hmc]; omega
            rw [if_neg hbig] at HRES
            refine regionT 8 (fun V' => Chg NoB (wr) V') (by kernel_rfl) (by decide) ((Chg.refl NoB wr).drew) (fun inv hHeld => ?_)
            refine takeT (i := 0) (t := 43) (v := ?v0y10) rfl (by kernel_rfl) (by kernel_rfl) (by kernel_rfl) (fun _ _ _ h => h) (by kernel_rfl) (by kernel_rfl) (by decide) (by decide) rfl (Or.inl ⟨by rfl, ?h0y10⟩) inv hHeld ?r0y10
            case h0y10 => (intro V' hSw; clear hSw; go_simp; try with_reducible rfl)
            clear inv
            intro inv
            try simp only [List.setIfInBounds_toArray, List.set_cons_zero, List.set_cons_succ]
            refine takeT (i := 1) (t := 44) (v := ?v1y11) rfl (by kernel_rfl) (by kernel_rfl) (by kernel_rfl) (fun _ _ _ h => h) (by kernel_rfl) (by kernel_rfl) (by decide) (by decide) rfl (Or.inl ⟨by rfl, ?h1y11⟩) inv hHeld ?r1y11
            case h1y11 => (intro V' hSw; have hq := keepC hSw b1; clear hSw; go_simp; try with_reducible rfl)
            clear inv
            intro inv
            try simp only [List.setIfInBounds_toArray, List.set_cons_zero, List.set_cons_succ]
            refine takeT (i := 2) (t := 45) (v := ?v2y12) rfl (by kernel_rfl) (by kernel_rfl) (by kernel_rfl) (fun _ _ _ h => h) (by kernel_rfl) (by kernel_rfl) (by decide) (by decide) rfl (Or.inl ⟨by rfl, ?h2y12⟩) inv hHeld ?r2y12
            case h2y12 => (intro V' hSw; clear hSw; go_simp; try with_reducible rfl)
            clear inv
            intro inv
            try simp only [List.setIfInBounds_toArray, List.set_cons_zero, List.set_cons_succ]
            refine takeT (i := 3) (t := 46) (v := ?v3y13) rfl (by kernel_rfl) (by kernel_rfl) (by kernel_rfl) (fun _ _ _ h => h) (by kernel_rfl) (by kernel_rfl) (by decide) (by decide) rfl (Or.inl ⟨by rfl, ?h3y13⟩) inv hHeld ?r3y13
            case h3y13 => (intro V' hSw; have hq := keepC hSw b3; clear hSw; go_simp; try with_reducible rfl)
            clear inv
            intro inv
            try simp only [List.setIfInBounds_toArray, List.set_cons_zero, List.set_cons_succ]
            refine takeT (i := 4) (t := 47) (v := ?v4y14) rfl (by kernel_rfl) (by kernel_rfl) (by kernel_rfl) (fun _ _ _ h => h) (by kernel_rfl) (by kernel_rfl) (by decide) (by decide) rfl (Or.inl ⟨by rfl, ?h4y14⟩) inv hHeld ?r4y14
            case h4y14 => (intro V' hSw; clear hSw; go_simp; try with_reducible rfl)
            clear inv
            intro inv
            try simp only [List.setIfInBounds_toArray, List.set_cons_zero, List.set_cons_succ]
            refine takeT (i := 5) (t := 48) (v := ?v5y15) rfl (by kernel_rfl) (by kernel_rfl) (by kernel_rfl) (fun _ _ _ h => h) (by kernel_rfl) (by kernel_rfl) (by decide) (by decide) rfl (Or.inl ⟨by rfl, ?h5y15⟩) inv hHeld ?r5y15
            case h5y15 => (intro V' hSw; have hq0 := keepC hSw q0; have hq1 := keepC hSw q1; have hq2 := keepC hSw q2; have hq3 := keepC hSw q3; clear hSw; go_simp; try with_reducible rfl)
            clear inv
            intro inv
            try simp only [List.setIfInBounds_toArray, List.set_cons_zero, List.set_cons_succ]
            refine callT (i := 6) (t := 49) (f := 30) (args := #[.agg #[.int .i64 sv.k, .int .i64 sv.n, .slice sv.nA sv.nl sv.nc, .slice sv.pA sv.pl sv.pc]]) rfl (by kernel_rfl) rfl (by rfl) ?hx16 inv (by decide) ?hc16
            case hx16 => (go_simp; try rfl)
            case hc16 =>
              refine (HC.out _ hHeld).mono ?_
              rintro e w1 ⟨rfl, hc⟩
              refine ⟨_, rfl, hHeld.trans hc, fun inv2 hHeld2 => ?_⟩
              clear inv hHeld
              have inv := inv2
              have hHeld := hHeld2
              clear inv2 hHeld2
              have hcw := Go.Lib.hid hHeld
              try simp only [List.setIfInBounds_toArray, List.set_cons_zero, List.set_cons_succ]
              refine takeT (i := 7) (t := 50) (v := ?v7y17) rfl (by kernel_rfl) (by kernel_rfl) (by kernel_rfl) (fun _ _ _ h => h) (by kernel_rfl) (by kernel_rfl) (by decide) (by decide) rfl (Or.inl ⟨by rfl, ?h7y17⟩) inv hHeld ?r7y17
              case h7y17 => (intro V' hSw; clear hSw; go_simp; try with_reducible rfl)
              clear inv
              intro inv
              try simp only [List.setIfInBounds_toArray, List.set_cons_zero, List.set_cons_succ]
              refine lastV (i := 8) (t := 51) (v := .bool false) (w' := w1) rfl (by kernel_rfl) rfl (by rfl) ?hx18 (by decide) (by kernel_rfl) ?_
              case hx18 => (go_simp; first | done | exact hbig')
              clear inv
              go_wp2_with fail
              go_ret
              exact HRES.out _ _ ⟨rfl, HC1.out.trans hcw.out⟩
        · have he7 : errS 7 n ns (kindsF ks) (sizesF ks) = 1 := by
            unfold errS
            rw [if_pos rfl, if_pos (by rw [sizesF_len]; have := HPL.out; omega)]
          rw [he7] at HRES
          have hd : ((i : Int) != 1) = true := by simp; omega
          go_wp2_with fail
          go_ret
          exact HRES.out _ _ ⟨rfl, HC1.out⟩
      by_cases h8 : k = 8
      · subst h8
        have HC := Go.Lib.hid (HREC.out rfl HOK.out wr (HS.out.quiet HC1.out))
        go_wp2_with fail
        refine HC.out.mono ?_
        rintro e w1 ⟨rfl, hc⟩
        have HC3 := Go.Lib.hid (HC1.out.trans hc)
        clear hc
        go_wp2_with fail
        go_ret
        exact HRES.out _ _ ⟨rfl, HC3.out⟩
      by_cases h9 : k = 9
      · subst h9
        have he9 : errS 9 n ns (kindsF ks) (sizesF ks) = if i = 1 ∧ (kindsF ks).headD 0 ≠ 8 then 2 else 0 := by
          unfold errS
          rw [if_neg (by decide), if_neg (by decide), if_pos rfl, sizesF_len, ← HPL.out]
        rw [he9] at HRES
        by_cases hp : i = 1
        · subst hp
          obtain ⟨pb, po, sv, ns', kk, hpA, ha, q0, q1, q2, q3, hIs⟩ := HS.out.part (i := 0) (by show 0 < 1; omega)
          subst hpA
          have hkd := SF.at_kinds ks ha
          have hhd : (kindsF ks).headD 0 = sv.k := by
            cases hs : kindsF ks with
            | nil => rw [hs] at hkd; simp at hkd
            | cons z r => rw [hs] at hkd; simpa using hkd
          rw [hhd] at HRES
          have q0' := keepC HC1.out q0
          simp only [Nat.zero_mul, Nat.add_zero] at q0'
          obtain ⟨kv, hkv⟩ : ∃ kv, sv.k = kv := ⟨_, rfl⟩
          rw [hkv] at HRES q0'
          clear q0 q1 q2 q3 ha hkd hhd hIs he9 hkv
          by_cases hkk : kv = 8
          · subst hkk
            rw [if_neg (by simp)] at HRES
            go_wp2_with fail
            go_ret
            exact HRES.out _ _ ⟨rfl, HC1.out⟩
          · have hd : (kv != 8) = true := by simpa using hkk
            rw [if_pos ⟨rfl, hkk⟩] at HRES
            go_wp2_with fail
            go_ret
            exact HRES.out _ _ ⟨rfl, HC1.out⟩
        · have hd : ((i : Int) == 1) = false := by simp; omega
          rw [if_neg (fun h => hp h.1)] at HRES
          go_wp2_with fail
          go_ret
          exact HRES.out _ _ ⟨rfl, HC1.out⟩
      have heb : errS k n ns (kindsF ks) (sizesF ks) = if 1 ≤ k ∧ k ≤ 5 then 0 else 2 := by
        unfold errS
        rw [if_neg h7, if_neg h8, if_neg h9]
      rw [heb] at HRES
      by_cases hb : 1 ≤ k ∧ k ≤ 5
      · rw [if_pos hb] at HRES
        have hc : k = 1 ∨ k = 2 ∨ k = 3 ∨ k = 4 ∨ k = 5 := by omega
        clear heb h7 h8 h9 hb
        rcases hc with rfl | rfl | rfl | rfl | rfl
        all_goals
          go_wp2_with fail
          go_ret
          exact HRES.out _ _ ⟨rfl, HC1.out⟩
      · rw [if_neg hb] at HRES
        have e1 : (k == 1) = false := by simp; omega
        have e2 : (k == 2) = false := by simp; omega
        have e3 : (k == 3) = false := by simp; omega
        have e4 : (k == 4) = false := by simp; omega
        have e5 : (k == 5) = false := by simp; omega
        have e7 : (k == 7) = false := by simpa using h7
        have e8 : (k == 8) = false := by simpa using h8
        have e9 : (k == 9) = false := by simpa using h9
        clear heb
        go_wp2_with fail
        go_ret
        exact HRES.out _ _ ⟨rfl, HC1.out⟩
theorem make_all : ∀ f : SF, f.small → MakesF f
  | .nil, _ => fun i s ns ks h => by simp [SF.at?] at h
  | .cons s ns ks r, ⟨h1, h2, h3⟩ => fun i s' ns' ks' h w hIs => by
    cases i with
    | zero =>
      obtain ⟨rfl, rfl, rfl⟩ : s = s' ∧ ns = ns' ∧ ks = ks' := by simpa [SF.at?] using h
      exact make_one s ns ks (make_all ks h2) h2 h1 w hIs
    | succ i => exact make_all r h3 i s' ns' ks' (by simpa [SF.at?] using h) w hIs
/-- the error of any shape -/
theorem refMake_c {w : World} {s : Sv} {ns : List ByteArray} {ks : SF} (h : IsS w s ns ks) (hl : ks.len ≤ 209715) (hs : ks.small) : Calls Try.prog 10 #[s.val] w (Quiet (.int .i64 (errOf s ns ks)) w) :=
  make_one s ns ks (make_all ks hs) hs hl w h
end Go.Proofs.Ytholeloedihkoaa
