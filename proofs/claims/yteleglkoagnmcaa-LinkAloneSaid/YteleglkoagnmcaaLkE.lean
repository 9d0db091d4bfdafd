/- What is proved: which objects may be, as the reference of layer 7 answers. Conditions: the memory holds the object. -/
import Derived.Test.YteleglkoagnmcaaLkD
import Derived.BigQuiet
set_option linter.unusedSimpArgs false
set_option linter.unusedVariables false
namespace Go.Proofs.Yteleglkoagnmcaa
open Go Go.RowKit
abbrev OT : TypeId := 50
abbrev FT : TypeId := 60
/-- what a fixup must be -/
structure FixP (il cl : Nat) (l : List (Int × Int × Int)) (k : Nat) (f : Int × Int × Int) : Prop where
  e0 : 0 ≤ f.2.2
  e2 : f.2.2 ≤ 200
  m1 : min f.2.2 1 ≤ f.2.1
  m2 : f.2.1 ≤ (il : Int)
  a0 : 0 ≤ f.1
  a1 : f.1 < (cl : Int)
  a2 : f.2.2 = 0 → f.1 + 1 < (cl : Int)
  up : ∀ (j : Nat) g, k = j + 1 → l[j]? = some g → g.1 < f.1
theorem fixOk_iff {il cl : Nat} {p : Option Int} {f : Int × Int × Int} : fixOk il cl p f = true ↔ (0 ≤ f.2.2 ∧ f.2.2 ≤ 200 ∧ min f.2.2 1 ≤ f.2.1 ∧ f.2.1 ≤ (il : Int) ∧ 0 ≤ f.1 ∧ f.1 < (cl : Int) ∧ (f.2.2 = 0 → f.1 + 1 < (cl : Int)) ∧ ∀ q, p = some q → q < f.1) := by
  unfold fixOk
  cases p with
  | none =>
    simp only [Bool.and_eq_true, decide_eq_true_eq, Bool.or_eq_true, Bool.not_eq_true', decide_eq_false_iff_not]
    constructor
    · rintro ⟨⟨⟨⟨⟨⟨⟨h1, h2⟩, h3⟩, h4⟩, h5⟩, h6⟩, h7⟩, _⟩
      exact ⟨h1, h2, h3, h4, h5, h6, fun h => h7.resolve_left (fun h' => h' h), fun q h => by cases h⟩
    · rintro ⟨h1, h2, h3, h4, h5, h6, h7, _⟩
      exact ⟨⟨⟨⟨⟨⟨⟨h1, h2⟩, h3⟩, h4⟩, h5⟩, h6⟩, by by_cases h : f.2.2 = 0; exact .inr (h7 h); exact .inl h⟩, trivial⟩
  | some q0 =>
    simp only [Bool.and_eq_true, decide_eq_true_eq, Bool.or_eq_true, Bool.not_eq_true', decide_eq_false_iff_not]
    constructor
    · rintro ⟨⟨⟨⟨⟨⟨⟨h1, h2⟩, h3⟩, h4⟩, h5⟩, h6⟩, h7⟩, h8⟩
      exact ⟨h1, h2, h3, h4, h5, h6, fun h => h7.resolve_left (fun h' => h' h), fun q h => by cases h; exact h8⟩
    · rintro ⟨h1, h2, h3, h4, h5, h6, h7, h8⟩
      exact ⟨⟨⟨⟨⟨⟨⟨h1, h2⟩, h3⟩, h4⟩, h5⟩, h6⟩, by by_cases h : f.2.2 = 0; exact .inr (h7 h); exact .inl h⟩, h8 _ rfl⟩
theorem fixsOk_iff {il cl : Nat} : ∀ (l : List (Int × Int × Int)) (p : Option Int), fixsOk il cl p l = true ↔ ∀ (k : Nat) f, l[k]? = some f → fixOk il cl (if k = 0 then p else (l[k - 1]?).map (·.1)) f = true
  | [], p => by simp [fixsOk]
  | g :: l, p => by
    unfold fixsOk
    rw [Bool.and_eq_true, fixsOk_iff l (some g.1)]
    constructor
    · rintro ⟨h1, h2⟩ k f hf
      cases k with
      | zero =>
        simp only [List.getElem?_cons_zero, Option.some.injEq] at hf
        subst hf
        simpa using h1
      | succ k =>
        have := h2 k f (by simpa using hf)
        cases k with
        | zero => simpa using this
        | succ k => simpa using this
    · intro h
      refine ⟨by simpa using h 0 g rfl, fun k f hf => ?_⟩
      have := h (k + 1) f (by simpa using hf)
      cases k with
      | zero => simpa using this
      | succ k => simpa using this
/-- what an object must be -/
structure MayP (o : Ob) : Prop where
  im : impsOk o.name o.imps = true
  v0 : 0 ≤ o.vars
  v4 : o.vars % 4 = 0
  t4 : o.text.length % 4 = 0
  tl : o.text.length ≤ 8192
  vt : o.vars + o.text.length ≤ 262144
  cl : o.code.length ≤ 16384
  e1 : 1 ≤ o.ents.length
  e2 : o.ents.length ≤ 201
  fl : o.fixs.length ≤ 8192
  en : ∀ x ∈ o.ents, 0 ≤ x ∧ x < (o.code.length : Int)
  fx : ∀ (k : Nat) f, o.fixs[k]? = some f → FixP o.imps.length o.code.length o.fixs k f
theorem mayO_iff {o : Ob} : mayO o = true ↔ MayP o := by
  unfold mayO entsOk
  simp only [Bool.and_eq_true, decide_eq_true_eq, List.all_eq_true, fixsOk_iff, fixOk_iff]
  constructor
  · rintro ⟨⟨⟨⟨⟨⟨⟨⟨⟨⟨⟨h1, h2⟩, h3⟩, h4⟩, h5⟩, h6⟩, h7⟩, h8⟩, h9⟩, h10⟩, h11⟩, h12⟩
    refine ⟨h1, h2, h3, h4, h5, h6, h7, h8, h9, h10, h11, fun k f hf => ?_⟩
    obtain ⟨a1, a2, a3, a4, a5, a6, a7, a8⟩ := h12 k f hf
    refine ⟨a1, a2, a3, a4, a5, a6, a7, fun j g hj hg => a8 _ ?_⟩
    subst hj
    rw [if_neg (by omega), show j + 1 - 1 = j from rfl, hg]
    rfl
  · rintro ⟨h1, h2, h3, h4, h5, h6, h7, h8, h9, h10, h11, h12⟩
    refine ⟨⟨⟨⟨⟨⟨⟨⟨⟨⟨⟨h1, h2⟩, h3⟩, h4⟩, h5⟩, h6⟩, h7⟩, h8⟩, h9⟩, h10⟩, h11⟩, fun k f hf => ?_⟩
    obtain ⟨a1, a2, a3, a4, a5, a6, a7, a8⟩ := h12 k f hf
    refine ⟨a1, a2, a3, a4, a5, a6, a7, fun q hq => ?_⟩
    cases k with
    | zero => simp at hq
    | succ j =>
      rw [if_neg (by omega), show j + 1 - 1 = j from rfl] at hq
      cases hg : o.fixs[j]? with
      | none => rw [hg] at hq; simp at hq
      | some g =>
        rw [hg] at hq
        simp only [Option.map_some, Option.some.injEq] at hq
        subst hq
        exact a8 j g rfl hg
theorem mayO_no {o : Ob} (h : ¬ MayP o) : mayO o = false := by
  cases hm : mayO o with
  | false => rfl
  | true => exact absurd (mayO_iff.1 hm) h
theorem fixCells_len : ∀ l : List (Int × Int × Int), (fixCells l).length = l.length * 3
  | [] => rfl
  | x :: l => by have := fixCells_len l; simp [fixCells] at this ⊢; omega
theorem fixCells_get : ∀ (l : List (Int × Int × Int)) (i : Nat) (x : Int × Int × Int), l[i]? = some x → (fixCells l)[i * 3]? = some (.int .i64 x.1) ∧ (fixCells l)[i * 3 + 1]? = some (.int .i64 x.2.1) ∧ (fixCells l)[i * 3 + 2]? = some (.int .i64 x.2.2)
  | [], i, x, h => by simp at h
  | y :: l, 0, x, h => by
    simp only [List.getElem?_cons_zero, Option.some.injEq] at h
    subst h
    simp [fixCells]
  | y :: l, i + 1, x, h => by
    have := fixCells_get l i x (by simpa using h)
    have e : fixCells (y :: l) = [.int .i64 y.1, .int .i64 y.2.1, .int .i64 y.2.2] ++ fixCells l := by simp [fixCells]
    rw [e]
    refine ⟨?_, ?_, ?_⟩
    · rw [List.getElem?_append_right (by simp; omega), ← this.1]; congr 1; simp; omega
    · rw [List.getElem?_append_right (by simp; omega), ← this.2.1]; congr 1; simp; omega
    · rw [List.getElem?_append_right (by simp; omega), ← this.2.2]; congr 1; simp; omega
section
variable {W : World} {o : Ob} {a : OA}
/-- an object's rows, by their elements, in all later worlds -/
theorem ObIs.ent (h : ObIs W o a) (h0 : 0 < o.ents.length) : ∃ b p, a.eA = some ⟨b, p, none⟩ ∧ ∀ (i : Nat) x, o.ents[i]? = some x → ∀ W', Chg NoB W W' → W'.cell? ⟨b, p + i, none⟩ = some (.int .i64 x) := by
  obtain ⟨b, p, h1, h2⟩ := h.ents.flat (by simpa [entCells] using h0)
  exact ⟨b, p, h1, fun i x hx W' hW => keepQ hW (h2 i _ (by rw [entCells, List.getElem?_map, hx]; rfl))⟩
theorem ObIs.cod (h : ObIs W o a) (h0 : 0 < o.code.length) : ∃ b p, a.cA = some ⟨b, p, none⟩ ∧ ∀ (i : Nat) x, o.code[i]? = some x → ∀ W', Chg NoB W W' → W'.cell? ⟨b, p + i, none⟩ = some (.int .u32 x) := by
  obtain ⟨b, p, h1, h2⟩ := h.code.flat (by simpa [codeCells] using h0)
  exact ⟨b, p, h1, fun i x hx W' hW => keepQ hW (h2 i _ (by rw [codeCells, List.getElem?_map, hx]; rfl))⟩
theorem ObIs.fix (h : ObIs W o a) (h0 : 0 < o.fixs.length) : ∃ b p, a.fA = some ⟨b, p, none⟩ ∧ ∀ (i : Nat) x, o.fixs[i]? = some x → ∀ W', Chg NoB W W' → W'.cell? ⟨b, p + i * 3, none⟩ = some (.int .i64 x.1) ∧ W'.cell? ⟨b, p + i * 3 + 1, none⟩ = some (.int .i64 x.2.1) ∧ W'.cell? ⟨b, p + i * 3 + 2, none⟩ = some (.int .i64 x.2.2) := by
  obtain ⟨b, p, h1, h2⟩ := h.fixs.flat (by rw [fixCells_len]; omega)
  refine ⟨b, p, h1, fun i x hx W' hW => ?_⟩
  obtain ⟨g1, g2, g3⟩ := fixCells_get o.fixs i x hx
  exact ⟨keepQ hW (h2 _ _ g1), keepQ hW (by have := h2 _ _ g2; rwa [← Nat.add_assoc] at this), keepQ hW (by have := h2 _ _ g3; rwa [← Nat.add_assoc] at this)⟩
theorem ObIs.imp (h : ObIs W o a) (h0 : 0 < o.imps.length) : ∃ b p, a.iA = some ⟨b, p, none⟩ ∧ ∀ (i : Nat) x, o.imps[i]? = some x → ∀ W', Chg NoB W W' → W'.cell? ⟨b, p + i * 2, none⟩ = some (.string x.1) ∧ W'.cell? ⟨b, p + i * 2 + 1, none⟩ = some (.int .u32 x.2) := by
  obtain ⟨b, p, h1, h2⟩ := h.imps.flat (by rw [impCells_len]; omega)
  refine ⟨b, p, h1, fun i x hx W' hW => ?_⟩
  obtain ⟨g1, g2⟩ := impCells_get o.imps i x hx
  exact ⟨keepQ hW (h2 _ _ g1), keepQ hW (by have := h2 _ _ g2; rwa [← Nat.add_assoc] at this)⟩
set_option maxRecDepth 100000 in
set_option maxHeartbeats 16000000 in
theorem may7_c (h : ObIs W o a) : Calls Try.prog 28 #[obVal o a] W (Quiet (.bool (mayO o)) W) := by
  have HI := Go.Lib.hid h
  have HIM := Go.Lib.hid (fun W' (hW : Chg NoB W W') => mayImports7_c h.nm (h.imps.chg hW fun _ _ => id) h.icap (fun x hx => (h.inm x hx).1))
  have hvv := h.vars
  unfold isI64 at hvv
  have htl : o.text.length ≤ 9223372036854775807 := by have := h.tcap.1; have := h.tcap.2; unfold maxLen at this; omega
  have hcl : o.code.length ≤ 9223372036854775807 := by have := h.ccap.1; have := h.ccap.2; unfold maxLen at this; omega
  have hel : o.ents.length ≤ 9223372036854775807 := by have := h.ecap.1; have := h.ecap.2; unfold maxLen at this; omega
  have hfl : o.fixs.length ≤ 9223372036854775807 := by have := h.fcap.1; have := h.fcap.2; unfold maxLen at this; omega
  have hil : o.imps.length ≤ 9223372036854775807 := by have := h.icap.1; have := h.icap.2; unfold maxLen at this; omega
  clear h
  unfold obVal
  have hbx := Blk.new W OT (obArr o a)
  have hal : Chg NoB W (W.alloc (Obj.cells (obArr o a) OT)) := (Chg.refl NoB W).alloc _
  unfold obArr at hbx hal ⊢
  have HB := Go.Lib.hid (And.intro hbx hal)
  clear hbx hal
  obtain ⟨tl, htn⟩ : ∃ n, o.text.length = n := ⟨_, rfl⟩
  obtain ⟨cl, hcn⟩ : ∃ n, o.code.length = n := ⟨_, rfl⟩
  obtain ⟨el, hen⟩ : ∃ n, o.ents.length = n := ⟨_, rfl⟩
  obtain ⟨fl, hfn⟩ : ∃ n, o.fixs.length = n := ⟨_, rfl⟩
  obtain ⟨il, hin⟩ : ∃ n, o.imps.length = n := ⟨_, rfl⟩
  obtain ⟨vv, hvn⟩ : ∃ n, o.vars = n := ⟨_, rfl⟩
  have HE : Hid (o.text.length = tl ∧ o.code.length = cl ∧ o.ents.length = el ∧ o.fixs.length = fl ∧ o.imps.length = il ∧ o.vars = vv) := Go.Lib.hid ⟨htn, hcn, hen, hfn, hin, hvn⟩
  rw [htn] at htl HB ⊢
  rw [hcn] at hcl HB ⊢
  rw [hen] at hel HB ⊢
  rw [hfn] at hfl HB ⊢
  rw [hin] at hil HB HIM ⊢
  rw [hvn] at hvv HB ⊢
  clear htn hcn hen hfn hin hvn
  go_enter Try.func28, Try.ntmps28
  go_wp2_with fail
  refine (HIM.out _ HB.out.2).mono ?_
  rintro e w1 ⟨rfl, hc⟩
  have HC1 := Go.Lib.hid (HB.out.2.trans hc)
  have hb1 := HB.out.1.chg hc id
  have HB1 := Go.Lib.hid hb1
  clear hc HIM
  have b0 : w1.cell? ⟨W.heap.size, 0, none⟩ = some (.string o.name) := hb1.cell 0
  have b2 : w1.cell? ⟨W.heap.size, 2, none⟩ = some (.slice a.iA il a.ic) := hb1.cell 2
  have b3 : w1.cell? ⟨W.heap.size, 3, none⟩ = some (.int .i64 vv) := hb1.cell 3
  have b4 : w1.cell? ⟨W.heap.size, 4, none⟩ = some (.slice a.tA tl a.tc) := hb1.cell 4
  have b5 : w1.cell? ⟨W.heap.size, 5, none⟩ = some (.slice a.cA cl a.cc) := hb1.cell 5
  have b6 : w1.cell? ⟨W.heap.size, 6, none⟩ = some (.slice a.eA el a.ec) := hb1.cell 6
  have b7 : w1.cell? ⟨W.heap.size, 7, none⟩ = some (.slice a.fA fl a.fc) := hb1.cell 7
  clear hb1
  obtain ⟨ib, hib⟩ : ∃ b, impsOk o.name o.imps = b := ⟨_, rfl⟩
  rw [hib]
  have HIB := Go.Lib.hid hib
  clear hib
  have hm4 : (tl : Int).tmod 4 = ((tl % 4 : Nat) : Int) := by
    rw [Int.tmod_eq_emod_of_nonneg (by omega)]
    rfl
  by_cases hq1 : ib = false
  · subst hq1
    go_wp2_with fail
    go_ret
    exact ⟨by rw [mayO_no (fun hm => by have h1 := HIB.out; rw [hm.im] at h1; cases h1)]; rfl, HC1.out⟩
  · have hq1' : ib = true := by simpa using hq1
    subst hq1'
    clear hq1
    by_cases hq2 : vv < 0
    · have f2 : decide (vv < 0) = true := by simp; omega
      go_wp2_with fail
      go_ret
      exact ⟨by rw [mayO_no (fun hm => by have := hm.v0; rw [HE.out.2.2.2.2.2] at this; omega)]; rfl, HC1.out⟩
    · have f2 : decide (vv < 0) = false := by simp; omega
      by_cases hq3 : 262144 < vv
      · have f3 : decide (262144 < vv) = true := by simp; omega
        go_wp2_with fail
        go_ret
        exact ⟨by rw [mayO_no (fun hm => by have := hm.vt; rw [HE.out.2.2.2.2.2] at this; omega)]; rfl, HC1.out⟩
      · have f3 : decide (262144 < vv) = false := by simp; omega
        by_cases hq4 : ¬ vv % 4 = 0
        · have f4 : (vv % 4 != 0) = true := by simp; omega
          go_wp2_with fail
          go_ret
          exact ⟨by rw [mayO_no (fun hm => by have := hm.v4; rw [HE.out.2.2.2.2.2] at this; omega)]; rfl, HC1.out⟩
        · have f4 : (vv % 4 != 0) = false := by simp; omega
          by_cases hq5 : 8192 < tl
          · have f5 : decide (8192 < (tl : Int)) = true := by simp; omega
            go_wp2_with fail
            go_ret
            exact ⟨by rw [mayO_no (fun hm => by have := hm.tl; rw [HE.out.1] at this; omega)]; rfl, HC1.out⟩
          · have f5 : decide (8192 < (tl : Int)) = false := by simp; omega
            by_cases hq6 : ¬ tl % 4 = 0
            · have f6 : (((tl % 4 : Nat) : Int) != 0) = true := by simp; omega
              go_wp2_with fail
              go_ret
              exact ⟨by rw [mayO_no (fun hm => by have := hm.t4; rw [HE.out.1] at this; omega)]; rfl, HC1.out⟩
            · have f6 : (((tl % 4 : Nat) : Int) != 0) = false := by simp; omega
              by_cases hq7 : 262144 < vv + tl
              · have f7 : decide (262144 < vv + (tl : Int)) = true := by simp; omega
                go_wp2_with fail
                go_ret
                exact ⟨by rw [mayO_no (fun hm => by have := hm.vt; rw [HE.out.2.2.2.2.2, HE.out.1] at this; omega)]; rfl, HC1.out⟩
              · have f7 : decide (262144 < vv + (tl : Int)) = false := by simp; omega
                by_cases hr1 : 16384 < cl
                · have g1 : decide (16384 < (cl : Int)) = true := by simp; omega
                  go_wp2_with fail
                  go_ret
                  exact ⟨by rw [mayO_no (fun hm => by have := hm.cl; rw [HE.out.2.1] at this; omega)]; rfl, HC1.out⟩
                · have g1 : decide (16384 < (cl : Int)) = false := by simp; omega
                  by_cases hr2 : el < 1
                  · have g2 : decide ((el : Int) < 1) = true := by simp; omega
                    have g2' : el = 0 := by omega
                    go_wp2_with fail
                    go_ret
                    exact ⟨by rw [mayO_no (fun hm => by have := hm.e1; rw [HE.out.2.2.1] at this; omega)]; rfl, HC1.out⟩
                  · have g2 : decide ((el : Int) < 1) = false := by simp; omega
                    by_cases hr3 : 201 < el
                    · have g3 : decide (201 < (el : Int)) = true := by simp; omega
                      go_wp2_with fail
                      go_ret
                      exact ⟨by rw [mayO_no (fun hm => by have := hm.e2; rw [HE.out.2.2.1] at this; omega)]; rfl, HC1.out⟩
                    · have g3 : decide (201 < (el : Int)) = false := by simp; omega
                      by_cases hr4 : 8192 < fl
                      · have g4 : decide (8192 < (fl : Int)) = true := by simp; omega
                        go_wp2_with fail
                        go_ret
                        exact ⟨by rw [mayO_no (fun hm => by have := hm.fl; rw [HE.out.2.2.2.1] at this; omega)]; rfl, HC1.out⟩
                      · have g4 : decide (8192 < (fl : Int)) = false := by simp; omega
                        go_wp2_with fail
                        have HMP := Go.Lib.hid (And.intro hq2 (And.intro hq3 (And.intro hq4 (And.intro hq5 (And.intro hq6 (And.intro hq7 (And.intro hr1 (And.intro hr2 (And.intro hr3 hr4)))))))))
                        clear f2 f3 f4 f5 f6 f7 g1 g2 g3 g4 hm4 hq2 hq3 hq4 hq5 hq6 hq7 b0 b2 b3 b4
                        have hel2 : el ≤ 201 := by omega
                        have hfl2 : fl ≤ 8192 := by omega
                        have hcl2 : cl ≤ 16384 := by omega
                        clear hr1 hr2 hr3 hr4 hel hfl hcl
                        go_loopw [3] (fun v3 wr => ∃ i : Nat, i ≤ el ∧ v3 = .int .i64 i ∧ (∀ (j : Nat) y, j < i → o.ents[j]? = some y → 0 ≤ y ∧ y < (cl : Int)) ∧ Chg NoB w1 wr) (fun v3 _ => el - (intOf v3).toNat)
                        case atStart => exact ⟨0, Nat.zero_le _, rfl, fun j y h => by omega, Chg.refl _ _⟩
                        case round =>
                          obtain ⟨i, hi, rfl, hun, hc⟩ := hrel
                          have HU := Go.Lib.hid hun
                          have HC2 := Go.Lib.hid hc
                          have HC3 := Go.Lib.hid (HC1.out.trans hc)
                          have b5 := keepQ hc b5
                          have b6 := keepQ hc b6
                          have b7 := keepQ hc b7
                          clear hun hc
                          by_cases hlt : i < el
                          · obtain ⟨eb, ep, heA, hcell⟩ := HI.out.ent (by rw [HE.out.2.2.1]; omega)
                            obtain ⟨x, hx⟩ : ∃ x, o.ents[i]? = some x := ⟨_, List.getElem?_eq_getElem (by rw [HE.out.2.2.1]; exact hlt)⟩
                            have hx0 := hcell i x hx wr HC3.out
                            have HX := Go.Lib.hid hx
                            rw [heA] at b6
                            have hxb := HI.out.en x (List.mem_of_getElem? hx)
                            unfold isI64 at hxb
                            clear hcell hx heA
                            by_cases hx1 : x < 0
                            · have f1 : decide (x < 0) = true := by simp; omega
                              go_wp2_with fail
                              go_quiet (fail)
                              go_wp2_with fail
                              go_ret
                              exact ⟨by rw [mayO_no (fun hm => by have h1 := (hm.en x (List.mem_of_getElem? HX.out)).1; omega)]; rfl, HC3.out.drewN _⟩
                            · have f1 : decide (x < 0) = false := by simp; omega
                              by_cases hx2 : cl ≤ x
                              · have f2 : decide ((cl : Int) ≤ x) = true := by simp; omega
                                go_wp2_with fail
                                go_quiet (fail)
                                go_wp2_with fail
                                go_ret
                                exact ⟨by rw [mayO_no (fun hm => by have h1 := (hm.en x (List.mem_of_getElem? HX.out)).2; rw [HE.out.2.1] at h1; omega)]; rfl, HC3.out.drewN _⟩
                              · have f2 : decide ((cl : Int) ≤ x) = false := by simp; omega
                                go_wp2_with fail
                                go_quiet (fail)
                                go_wp2_with fail
                                go_roundw
                                case rel => exact ⟨i + 1, by omega, by go_num, fun j y hj hy => by
                                  rcases Nat.lt_or_ge j i with h | h
                                  · exact HU.out j y h hy
                                  · obtain rfl : j = i := by omega
                                    rw [HX.out] at hy
                                    injection hy with hy
                                    omega, HC2.out.drewN _⟩
                                case measure => simp [intOf]; omega
                          · obtain rfl : i = el := by omega
                            have HEN := HU
                            clear HU
                            go_wp2_with fail
                            clear b6
                            go_loopw [4] (fun v4 wr2 => ∃ k : Nat, k ≤ fl ∧ v4 = .int .i64 k ∧ (∀ (j : Nat) y, j < k → o.fixs[j]? = some y → FixP o.imps.length o.code.length o.fixs j y) ∧ Chg NoB w1 wr2) (fun v4 _ => fl - (intOf v4).toNat)
                            case atStart => exact ⟨0, Nat.zero_le _, rfl, fun j y h => by omega, HC2.out⟩
                            case round =>
                              clear HC2 HC3 b5 b7
                              obtain ⟨i, hi, rfl, hun, hc⟩ := hrel
                              have HU := Go.Lib.hid hun
                              have HC2 := Go.Lib.hid hc
                              have HC3 := Go.Lib.hid (HC1.out.trans hc)
                              have b2 : wr.cell? ⟨W.heap.size, 2, none⟩ = some (.slice a.iA il a.ic) := (HB1.out.chg hc id).cell 2
                              have b5 : wr.cell? ⟨W.heap.size, 5, none⟩ = some (.slice a.cA cl a.cc) := (HB1.out.chg hc id).cell 5
                              have b7 : wr.cell? ⟨W.heap.size, 7, none⟩ = some (.slice a.fA fl a.fc) := (HB1.out.chg hc id).cell 7
                              clear hun hc
                              by_cases hlt : i < fl
                              · obtain ⟨fb, fp, hfA, hcell⟩ := HI.out.fix (by rw [HE.out.2.2.2.1]; omega)
                                obtain ⟨⟨at_, md, en⟩, hx⟩ : ∃ x, o.fixs[i]? = some x := ⟨_, List.getElem?_eq_getElem (by rw [HE.out.2.2.2.1]; exact hlt)⟩
                                obtain ⟨hx0, hx1, hx2⟩ := hcell i _ hx wr HC3.out
                                simp only at hx0 hx1 hx2
                                have HX := Go.Lib.hid hx
                                rw [hfA] at b7
                                obtain ⟨xb1, xb2, xb3⟩ := HI.out.fn _ (List.mem_of_getElem? hx)
                                unfold isI64 at xb1 xb2 xb3
                                simp only at xb1 xb2 xb3
                                have a2 := fun ob => keepQ ((Chg.refl NoB wr).alloc ob) b2
                                have a5 := fun ob => keepQ ((Chg.refl NoB wr).alloc ob) b5
                                have a7 := fun ob => keepQ ((Chg.refl NoB wr).alloc ob) b7
                                clear hx hfA
                                by_cases hs1 : at_ < 0
                                · have l1 : decide (at_ < 0) = true := by simp; omega
                                  go_wp2_with fail
                                  go_ret
                                  exact ⟨by rw [mayO_no (fun hm => by have h1 := hm.fx i _ HX.out; have h2 := HE.out.2.1; have h3 := HE.out.2.2.2.2.1; rw [h2, h3] at h1; have h4 := h1.a0; simp only at h4; omega)]; rfl, HC3.out.alloc _⟩
                                · have l1 : decide (at_ < 0) = false := by simp; omega
                                  by_cases hs2 : cl ≤ at_
                                  · have l2 : decide ((cl : Int) ≤ at_) = true := by simp; omega
                                    go_wp2_with fail
                                    go_ret
                                    exact ⟨by rw [mayO_no (fun hm => by have h1 := hm.fx i _ HX.out; have h2 := HE.out.2.1; have h3 := HE.out.2.2.2.2.1; rw [h2, h3] at h1; have h4 := h1.a1; simp only at h4; omega)]; rfl, HC3.out.alloc _⟩
                                  · have l2 : decide ((cl : Int) ≤ at_) = false := by simp; omega
                                    by_cases hs3 : en < 0
                                    · have l3 : decide (en < 0) = true := by simp; omega
                                      go_wp2_with fail
                                      go_ret
                                      exact ⟨by rw [mayO_no (fun hm => by have h1 := hm.fx i _ HX.out; have h2 := HE.out.2.1; have h3 := HE.out.2.2.2.2.1; rw [h2, h3] at h1; have h4 := h1.e0; simp only at h4; omega)]; rfl, HC3.out.alloc _⟩
                                    · have l3 : decide (en < 0) = false := by simp; omega
                                      by_cases hs4 : 200 < en
                                      · have l4 : decide (200 < en) = true := by simp; omega
                                        go_wp2_with fail
                                        go_ret
                                        exact ⟨by rw [mayO_no (fun hm => by have h1 := hm.fx i _ HX.out; have h2 := HE.out.2.1; have h3 := HE.out.2.2.2.2.1; rw [h2, h3] at h1; have h4 := h1.e2; simp only at h4; omega)]; rfl, HC3.out.alloc _⟩
                                      · have l4 : decide (200 < en) = false := by simp; omega
                                        by_cases hs5 : md < 0
                                        · have l5 : decide (md < 0) = true := by simp; omega
                                          go_wp2_with fail
                                          go_ret
                                          exact ⟨by rw [mayO_no (fun hm => by have h1 := hm.fx i _ HX.out; have h2 := HE.out.2.1; have h3 := HE.out.2.2.2.2.1; rw [h2, h3] at h1; have h4 := h1.m1; have h5 := h1.e0; simp only at h4 h5; omega)]; rfl, HC3.out.alloc _⟩
                                        · have l5 : decide (md < 0) = false := by simp; omega
                                          by_cases hs6 : il < md
                                          · have l6 : decide ((il : Int) < md) = true := by simp; omega
                                            go_wp2_with fail
                                            go_ret
                                            exact ⟨by rw [mayO_no (fun hm => by have h1 := hm.fx i _ HX.out; have h2 := HE.out.2.1; have h3 := HE.out.2.2.2.2.1; rw [h2, h3] at h1; have h4 := h1.m2; simp only at h4; omega)]; rfl, HC3.out.alloc _⟩
                                          · have l6 : decide ((il : Int) < md) = false := by simp; omega
                                            go_wp2_with fail
                                            clear hx0 hx1 hx2 a2 a5 a7
                                            have hb5 := Blk.new wr FT #[.int .i64 at_, .int .i64 md, .int .i64 en]
                                            have hc5 : Chg NoB wr (wr.alloc (Obj.cells #[.int .i64 at_, .int .i64 md, .int .i64 en] FT)) := (Chg.refl NoB wr).alloc _
                                            have b5 := keepQ hc5 b5
                                            have b7 := keepQ hc5 b7
                                            generalize wr.alloc (Obj.cells #[.int .i64 at_, .int .i64 md, .int .i64 en] FT) = w5 at *
                                            have d0 : w5.cell? ⟨wr.heap.size, 0, none⟩ = some (.int .i64 at_) := hb5.cell 0
                                            have d1 : w5.cell? ⟨wr.heap.size, 1, none⟩ = some (.int .i64 md) := hb5.cell 1
                                            have d2 : w5.cell? ⟨wr.heap.size, 2, none⟩ = some (.int .i64 en) := hb5.cell 2
                                            have HC5 := Go.Lib.hid (And.intro (HC2.out.trans hc5) hc5)
                                            have HC6 := Go.Lib.hid (HC3.out.trans hc5)
                                            clear hb5 hc5 l1 l2 l3 l4 l5 l6
                                            by_cases he : en = 0
                                            · obtain ⟨cm, hcm⟩ : ∃ cm : Int, (cl : Int) - 1 = cm := ⟨_, rfl⟩
                                              have k8 : IntKind.i64.wrap ((cl : Int) - 1) = cm := by rw [hcm, IntKind.wrap_i64]; omega
                                              by_cases hat : at_ + 1 = cl
                                              · have k3 : (at_ == cm) = true := by simp; omega
                                                clear hcm
                                                have k1 : (en == 0) = true := by simp; omega
                                                go_quiet (fail)
                                                go_wp2_with fail
                                                go_ret
                                                exact ⟨by rw [mayO_no (fun hm => by have h1 := hm.fx i _ HX.out; have h2 := HE.out.2.1; have h3 := HE.out.2.2.2.2.1; rw [h2, h3] at h1; have h4 := h1.a2 (by show en = 0; omega); simp only at h4; omega)]; rfl, HC6.out.drewN _⟩
                                              · have k3 : (at_ == cm) = false := by simp; omega
                                                clear hcm
                                                have k2 : decide (0 < en) = false := by simp; omega
                                                rcases Nat.eq_zero_or_pos i with hi0 | hi0
                                                · have HFP : Hid (FixP o.imps.length o.code.length o.fixs i (at_, md, en)) := Go.Lib.hid (by rw [HE.out.2.1, HE.out.2.2.2.2.1]; exact ⟨by show 0 ≤ en; omega, by show en ≤ 200; omega, by show min en 1 ≤ md; omega, by show md ≤ il; omega, by show 0 ≤ at_; omega, by show at_ < cl; omega, by show en = 0 → at_ + 1 < cl; omega, fun j g hj _ => by omega⟩)
                                                  have k5 : decide (0 < i) = false := by simp; omega
                                                  have k6 : decide (0 < (i : Int)) = false := by simp; omega
                                                  have k1 : (en == 0) = true := by simp; omega
                                                  go_quiet (fail)
                                                  go_wp2_with fail
                                                  go_roundw
                                                  case rel => exact ⟨i + 1, by omega, by go_num, fun j y hj hy => by
                                                    rcases Nat.lt_or_ge j i with h | h
                                                    · exact HU.out j y h hy
                                                    · obtain rfl : j = i := by omega
                                                      rw [HX.out] at hy
                                                      injection hy with hy
                                                      subst hy
                                                      exact HFP.out, HC5.out.1.drewN _⟩
                                                  case measure => simp [intOf]; omega
                                                · obtain ⟨y, hy⟩ : ∃ y, o.fixs[i - 1]? = some y := ⟨_, List.getElem?_eq_getElem (by rw [HE.out.2.2.2.1]; omega)⟩
                                                  have hy0 := keepQ HC5.out.2 ((hcell (i - 1) y hy wr HC3.out).1)
                                                  obtain ⟨ya, hya⟩ : ∃ z, y.1 = z := ⟨_, rfl⟩
                                                  rw [hya] at hy0
                                                  have HY := Go.Lib.hid (And.intro hy hya)
                                                  have hi1 : IntKind.i64.wrap ((i : Int) - 1) = ((i - 1 : Nat) : Int) := by rw [IntKind.wrap_i64]; omega
                                                  have hi2 : i - 1 < fl := by omega
                                                  clear hy hya
                                                  by_cases hle : at_ ≤ ya
                                                  · have k7 : decide (at_ ≤ ya) = true := by simp; omega
                                                    have k5 : decide (0 < i) = true := by simp; omega
                                                    have k6 : decide (0 < (i : Int)) = true := by simp; omega
                                                    have k1 : (en == 0) = true := by simp; omega
                                                    go_quiet (fail)
                                                    go_wp2_with fail
                                                    go_ret
                                                    exact ⟨by rw [mayO_no (fun hm => by have h1 := hm.fx i _ HX.out; have h2 := HE.out.2.1; have h3 := HE.out.2.2.2.2.1; rw [h2, h3] at h1; have h4 := h1.up (i - 1) y (by omega) HY.out.1; rw [HY.out.2] at h4; simp only at h4; omega)]; rfl, HC6.out.drewN _⟩
                                                  · have k7 : decide (at_ ≤ ya) = false := by simp; omega
                                                    have HFP : Hid (FixP o.imps.length o.code.length o.fixs i (at_, md, en)) := Go.Lib.hid (by rw [HE.out.2.1, HE.out.2.2.2.2.1]; exact ⟨by show 0 ≤ en; omega, by show en ≤ 200; omega, by show min en 1 ≤ md; omega, by show md ≤ il; omega, by show 0 ≤ at_; omega, by show at_ < cl; omega, by show en = 0 → at_ + 1 < cl; omega, fun j g hj hg => by
                                                      obtain rfl : j = i - 1 := by omega
                                                      rw [HY.out.1] at hg
                                                      injection hg with hg
                                                      subst hg
                                                      show y.1 < at_
                                                      rw [HY.out.2]
                                                      omega⟩)
                                                    have k5 : decide (0 < i) = true := by simp; omega
                                                    have k6 : decide (0 < (i : Int)) = true := by simp; omega
                                                    have k1 : (en == 0) = true := by simp; omega
                                                    go_quiet (fail)
                                                    go_wp2_with fail
                                                    go_roundw
                                                    case rel => exact ⟨i + 1, by omega, by go_num, fun j y hj hy => by
                                                      rcases Nat.lt_or_ge j i with h | h
                                                      · exact HU.out j y h hy
                                                      · obtain rfl : j = i := by omega
                                                        rw [HX.out] at hy
                                                        injection hy with hy
                                                        subst hy
                                                        exact HFP.out, HC5.out.1.drewN _⟩
                                                    case measure => simp [intOf]; omega
                                            · by_cases hmd : md = 0
                                              · have k4 : (md == 0) = true := by simp; omega
                                                have k1 : (en == 0) = false := by simp; omega
                                                have k2 : decide (0 < en) = true := by simp; omega
                                                go_quiet (fail)
                                                go_wp2_with fail
                                                go_ret
                                                exact ⟨by rw [mayO_no (fun hm => by have h1 := hm.fx i _ HX.out; have h2 := HE.out.2.1; have h3 := HE.out.2.2.2.2.1; rw [h2, h3] at h1; have h4 := h1.m1; simp only at h4; omega)]; rfl, HC6.out.drewN _⟩
                                              · have k4 : (md == 0) = false := by simp; omega
                                                rcases Nat.eq_zero_or_pos i with hi0 | hi0
                                                · have HFP : Hid (FixP o.imps.length o.code.length o.fixs i (at_, md, en)) := Go.Lib.hid (by rw [HE.out.2.1, HE.out.2.2.2.2.1]; exact ⟨by show 0 ≤ en; omega, by show en ≤ 200; omega, by show min en 1 ≤ md; omega, by show md ≤ il; omega, by show 0 ≤ at_; omega, by show at_ < cl; omega, by show en = 0 → at_ + 1 < cl; omega, fun j g hj _ => by omega⟩)
                                                  have k5 : decide (0 < i) = false := by simp; omega
                                                  have k6 : decide (0 < (i : Int)) = false := by simp; omega
                                                  have k1 : (en == 0) = false := by simp; omega
                                                  have k2 : decide (0 < en) = true := by simp; omega
                                                  go_quiet (fail)
                                                  go_wp2_with fail
                                                  go_roundw
                                                  case rel => exact ⟨i + 1, by omega, by go_num, fun j y hj hy => by
                                                    rcases Nat.lt_or_ge j i with h | h
                                                    · exact HU.out j y h hy
                                                    · obtain rfl : j = i := by omega
                                                      rw [HX.out] at hy
                                                      injection hy with hy
                                                      subst hy
                                                      exact HFP.out, HC5.out.1.drewN _⟩
                                                  case measure => simp [intOf]; omega
                                                · obtain ⟨y, hy⟩ : ∃ y, o.fixs[i - 1]? = some y := ⟨_, List.getElem?_eq_getElem (by rw [HE.out.2.2.2.1]; omega)⟩
                                                  have hy0 := keepQ HC5.out.2 ((hcell (i - 1) y hy wr HC3.out).1)
                                                  obtain ⟨ya, hya⟩ : ∃ z, y.1 = z := ⟨_, rfl⟩
                                                  rw [hya] at hy0
                                                  have HY := Go.Lib.hid (And.intro hy hya)
                                                  have hi1 : IntKind.i64.wrap ((i : Int) - 1) = ((i - 1 : Nat) : Int) := by rw [IntKind.wrap_i64]; omega
                                                  have hi2 : i - 1 < fl := by omega
                                                  clear hy hya
                                                  by_cases hle : at_ ≤ ya
                                                  · have k7 : decide (at_ ≤ ya) = true := by simp; omega
                                                    have k5 : decide (0 < i) = true := by simp; omega
                                                    have k6 : decide (0 < (i : Int)) = true := by simp; omega
                                                    have k1 : (en == 0) = false := by simp; omega
                                                    have k2 : decide (0 < en) = true := by simp; omega
                                                    go_quiet (fail)
                                                    go_wp2_with fail
                                                    go_ret
                                                    exact ⟨by rw [mayO_no (fun hm => by have h1 := hm.fx i _ HX.out; have h2 := HE.out.2.1; have h3 := HE.out.2.2.2.2.1; rw [h2, h3] at h1; have h4 := h1.up (i - 1) y (by omega) HY.out.1; rw [HY.out.2] at h4; simp only at h4; omega)]; rfl, HC6.out.drewN _⟩
                                                  · have k7 : decide (at_ ≤ ya) = false := by simp; omega
                                                    have HFP : Hid (FixP o.imps.length o.code.length o.fixs i (at_, md, en)) := Go.Lib.hid (by rw [HE.out.2.1, HE.out.2.2.2.2.1]; exact ⟨by show 0 ≤ en; omega, by show en ≤ 200; omega, by show min en 1 ≤ md; omega, by show md ≤ il; omega, by show 0 ≤ at_; omega, by show at_ < cl; omega, by show en = 0 → at_ + 1 < cl; omega, fun j g hj hg => by
                                                      obtain rfl : j = i - 1 := by omega
                                                      rw [HY.out.1] at hg
                                                      injection hg with hg
                                                      subst hg
                                                      show y.1 < at_
                                                      rw [HY.out.2]
                                                      omega⟩)
                                                    have k5 : decide (0 < i) = true := by simp; omega
                                                    have k6 : decide (0 < (i : Int)) = true := by simp; omega
                                                    have k1 : (en == 0) = false := by simp; omega
                                                    have k2 : decide (0 < en) = true := by simp; omega
                                                    go_quiet (fail)
                                                    go_wp2_with fail
                                                    go_roundw
                                                    case rel => exact ⟨i + 1, by omega, by go_num, fun j y hj hy => by
                                                      rcases Nat.lt_or_ge j i with h | h
                                                      · exact HU.out j y h hy
                                                      · obtain rfl : j = i := by omega
                                                        rw [HX.out] at hy
                                                        injection hy with hy
                                                        subst hy
                                                        exact HFP.out, HC5.out.1.drewN _⟩
                                                    case measure => simp [intOf]; omega
                              · obtain rfl : i = fl := by omega
                                have HM : Hid (mayO o = true) := Go.Lib.hid (mayO_iff.2 (by
                                  obtain ⟨h1, h2, h3, h4, h5, h6⟩ := HE.out
                                  obtain ⟨q2, q3, q4, q5, q6, q7, r1, r2, r3, r4⟩ := HMP.out
                                  exact ⟨HIB.out, by omega, by omega, by omega, by omega, by omega, by omega, by omega, by omega, by omega, fun x hx => by
                                    obtain ⟨j, hj⟩ := List.mem_iff_getElem?.1 hx
                                    have := HEN.out j x (by have := (List.getElem?_eq_some_iff.1 hj).1; omega) hj
                                    rw [h2]; exact this, fun k f hf => HU.out k f (by have := (List.getElem?_eq_some_iff.1 hf).1; omega) hf⟩))
                                go_wp2_with fail
                                go_ret
                                exact ⟨by rw [HM.out]; rfl, HC3.out⟩
end
end Go.Proofs.Yteleglkoagnmcaa
