/- What is proved: the contracts of find and Offset, and of known. Conditions: the library's variable holds a number. -/
import Derived.Test.YtholeloedihkoaaVaF
import Derived.Test.YtholeloedihkoaaVaE
set_option linter.unusedSimpArgs false
set_option linter.unusedVariables false
namespace Go.Proofs.Ytholeloedihkoaa
open Go.RowKit
section
variable {lo : Nat} {w w' : World} {b : Nat} {T : Ti}
theorem row_cells {base : Nat} {e : TypeId} {size n : Nat} {A : Option Addr} {c : Nat} {xs : List Value} (h : w.ownsRow base e size (.slice A n c) n xs) (hn : 0 < n) :
    ∃ g, A = some ⟨g, 0, none⟩ ∧ ∀ j u, xs[j]? = some u → w.cell? ⟨g, j, none⟩ = some u := by
  rcases h.2 with ⟨_, h1⟩ | ⟨g, cap, cur, he, _, hh, _, _, _, ht⟩
  · omega
  · injection he with h1 _ _
    refine ⟨g, h1, fun j u hu => ?_⟩
    rw [← ht] at hu
    have h2 : cur[j]? = some u := by
      rw [List.getElem?_take] at hu
      split at hu
      · simpa using hu
      · cases hu
    rw [cell_of_row w g j cur e _ hh]
    exact h2
theorem flat3 (fs : List Fd) : ∀ (j : Nat) (f : Fd), fs[j]? = some f → (fs.flatMap Fd.cells)[j * 3 + 2]? = some (.int .i64 f.off) := by
  induction fs with
  | nil => intro j f h; simp at h
  | cons x r ih =>
    intro j f h
    cases j with
    | zero =>
      obtain rfl : x = f := by simpa using h
      rfl
    | succ j =>
      have := ih j f (by simpa using h)
      rw [List.flatMap_cons, List.getElem?_append_right (by simp [Fd.cells]; omega)]
      rw [← this]
      congr 1
      simp [Fd.cells]
      omega
theorem find_c (h : TiAt lo w b T) (hk : T.kind = 8) {m : Nat} (hm : T.mb = some m) (s : ByteArray) {j : Nat} (hl : lookS s (places T.fs) = some (.int .i64 j)) :
    Calls Try.prog 50 #[ptr b, .string s] w fun e w' => e = .returned (.tuple #[.int .i64 j, .int .i64 0]) ∧ w = w' := by
  obtain ⟨c0, c1, c2, c3, c4, c5⟩ := h.cells
  have hlk := run_lookup_str_ok (t := 70) (k := 9) (e := 3) Try.underlying70 Try.underlying9 (z := .int .i64 0) (by kernel_rfl) (h.map m hm) s
  rw [hl] at hlk
  simp only [Option.getD_some, Option.isSome_some] at hlk
  rw [hm] at c4
  rw [hk] at c0
  have Hth := Go.Lib.hid (there_c h (by omega))
  clear h hk hm hl
  unfold ptr at Hth ⊢
  go_enter Try.func50, Try.ntmps50
  go_wp2_with fail
  refine Hth.out.mono ?_
  rintro e w1 ⟨rfl, rfl⟩
  go_wp2_with fail
  go_ret2
  exact ⟨rfl, rfl⟩
theorem offset_c (h : TiAt lo w b T) (hk : T.kind = 8) {m : Nat} (hm : T.mb = some m) (s : ByteArray) {j : Nat} (hl : lookS s (places T.fs) = some (.int .i64 j)) {f : Fd} (hf : T.fs[j]? = some f) :
    Calls Try.prog 29 #[ptr b, .string s] w fun e w' => e = .returned (.tuple #[.int .i64 f.off, .int .i64 0]) ∧ w = w' := by
  obtain ⟨c0, c1, c2, c3, c4, c5⟩ := h.cells
  have HF := Go.Lib.hid (find_c h hk hm s hl)
  have hjl : j < T.fs.length := (List.getElem?_eq_some_iff.1 hf).1
  obtain ⟨g, hg, hcell⟩ := row_cells h.row (by omega)
  have f0 := hcell _ _ (flat3 T.fs j f hf)
  rw [hg] at c3
  have hnf := h.nf
  clear h hk hm hl hcell c0 c1 c2 c4 c5 hf hg
  unfold ptr at HF ⊢
  go_enter Try.func29, Try.ntmps29
  go_wp2_with fail
  refine HF.out.mono ?_
  rintro e w1 ⟨rfl, rfl⟩
  go_wp2_with fail
  go_ret2
  exact ⟨rfl, rfl⟩
theorem Built.imp {Q Q' : Ti → Prop} {e : Ending} (h : Built lo Q w e w') (hq : ∀ T, Q T → Q' T) : Built lo Q' w e w' := by
  obtain ⟨b, T, h1, h2, h3, h4, h5⟩ := h
  exact ⟨b, T, h1, h2, h3, hq T h4, h5⟩
theorem one_getG {α : Type} {a x : α} {i : Nat} (h : [a][i]? = some x) : i = 0 ∧ a = x := by
  cases i with
  | zero => exact ⟨rfl, by simpa using h⟩
  | succ i => simp at h
/-- a basic shape -/
def basicS (k : Nat) : Sv := ⟨k, 0, none, 0, 0, none, 0, 0⟩
theorem known1 (w : World) : Calls Try.prog 9 #[.agg #[.int .i64 7, .int .i64 5, .slice none 0 0, .slice (some ⟨w.heap.size, 0, none⟩) 1 1]] (w.alloc (Obj.cells #[.int .i64 3, .int .i64 0, .slice none 0 0, .slice none 0 0] ShT))
    (Built w.heap.size (fun T => T.kind = 7 ∧ T.size = 8) (w.alloc (Obj.cells #[.int .i64 3, .int .i64 0, .slice none 0 0, .slice none 0 0] ShT))) := by
  have hb := Blk.new w ShT #[.int .i64 3, .int .i64 0, .slice none 0 0, .slice none 0 0]
  refine (buildArr_c (w := w.alloc (Obj.cells #[.int .i64 3, .int .i64 0, .slice none 0 0, .slice none 0 0] ShT)) (pb := w.heap.size) (po := 0) (svs := [basicS 3]) (Q := fun _ T => T = basicT 3) (nn := 5) (n := 5) ?_ ?_ (by simp) (Go.Lib.hid fun _ => rfl) (Go.Lib.hid rfl) rfl (Go.Lib.hid ⟨by omega, by omega, fun T hT => by subst hT; decide⟩)).mono ?_
  · intro i sv h W hW
    obtain ⟨rfl, rfl⟩ := one_getG h
    have h := hb.chg hW id
    exact ⟨h.cell 0, h.cell 1, h.cell 2, h.cell 3⟩
  · intro i sv h W hW
    obtain ⟨rfl, rfl⟩ := one_getG h
    refine (buildLeaf_c 3 (by omega) (by omega)).mono fun e w' hB => ?_
    obtain ⟨b, T, h1, h2, h3, h4, h5⟩ := hB
    exact ⟨b, T, h1, h2.mono hW.size, h3, h4, h5⟩
  · intro e w' hB
    obtain ⟨b, T, h1, h2, h3, ⟨h4, T0, h5, _, h6⟩, h7⟩ := hB
    subst h5
    exact ⟨b, T, h1, h2.mono (by simp), h3, ⟨h4, h6⟩, h7⟩
theorem known3 {mv : Int} (w : World) (hv : w.cell? ⟨0, 0, none⟩ = some (.int .i64 mv)) : Calls Try.prog 9 #[.agg #[.int .i64 8, .int .i64 0, .slice none 0 0, .slice none 0 0]] w (Built w.heap.size (fun T => T.kind = 8 ∧ T.size = 4) w) := by
  refine (buildRec_c (nl := 0) (pb := 0) (po := 0) (svs := []) (Q := fun _ _ => True) (ns := []) (mv := mv) ?_ ?_ (by simp) (Go.Lib.hid fun h => by simp at h) (Go.Lib.hid ⟨rfl, by simp, ⟨by decide +kernel, fun ts h _ => by show recSize [] ≤ _; decide⟩, hv, fun W _ h => by simp at h⟩)).mono ?_
  · intro i sv h
    simp at h
  · intro i sv h
    simp at h
  · intro e w' hB
    exact hB.imp fun T h => ⟨h.1, by obtain ⟨_, ts, h1, _, _, h2⟩ := h; rw [h2]; show recSize [] = 4; decide⟩
abbrev n3 : List ByteArray := [⟨#[97]⟩, ⟨#[98]⟩, ⟨#[99]⟩]
theorem three {ts : List (Nat × Ti)} (hl : ts.length = 3) (h : ∀ (i : Nat) t, ts[i]? = some t → some t.2 = [basicT 3, basicT 1, basicT 4][i]?) : ∃ a b c, ts = [(a, basicT 3), (b, basicT 1), (c, basicT 4)] := by
  match ts, hl with
  | [(a, A), (b, B), (c, C)], _ =>
    have h0 := h 0 _ rfl
    have h1 := h 1 _ rfl
    have h2 := h 2 _ rfl
    simp at h0 h1 h2
    subst h0 h1 h2
    exact ⟨a, b, c, rfl⟩
theorem recL3 (a b c : Nat) : recL (n3.zip [(a, basicT 3), (b, basicT 1), (c, basicT 4)]) = ([⟨⟨#[97]⟩, a, 0⟩, ⟨⟨#[98]⟩, b, 4⟩, ⟨⟨#[99]⟩, c, 8⟩], 9) := by simp [recL, recStep, basicT, basicSize]
theorem good3 : recGood n3 = true := by decide +kernel
theorem known2 {mv : Int} (w : World) (hv : w.cell? ⟨0, 0, none⟩ = some (.int .i64 mv)) (W : World)
    (hW : W = (w.alloc (Obj.cells #[.string ⟨#[97]⟩, .string ⟨#[98]⟩, .string ⟨#[99]⟩] 9)).alloc (Obj.cells #[.int .i64 3, .int .i64 0, .slice none 0 0, .slice none 0 0, .int .i64 1, .int .i64 0, .slice none 0 0, .slice none 0 0, .int .i64 4, .int .i64 0, .slice none 0 0, .slice none 0 0] ShT)) :
    Calls Try.prog 9 #[.agg #[.int .i64 8, .int .i64 0, .slice (some ⟨w.heap.size, 0, none⟩) 3 3, .slice (some ⟨w.heap.size + 1, 0, none⟩) 3 3]] W
    (Built w.heap.size (fun T => T.kind = 8 ∧ T.size = 12 ∧ ∃ a b c, T.fs = [⟨⟨#[97]⟩, a, 0⟩, ⟨⟨#[98]⟩, b, 4⟩, ⟨⟨#[99]⟩, c, 8⟩]) W) := by
  have hs : w.heap.size ≤ W.heap.size := by subst hW; simp; omega
  have hvW : W.cell? ⟨0, 0, none⟩ = some (.int .i64 mv) := by subst hW; exact keepC (((Chg.refl NoB w).alloc _).alloc _) hv
  have hbn : Blk W w.heap.size 9 #[.string ⟨#[97]⟩, .string ⟨#[98]⟩, .string ⟨#[99]⟩] := by subst hW; exact (Blk.new _ _ _).alloc _
  have hb : Blk W (w.heap.size + 1) ShT #[.int .i64 3, .int .i64 0, .slice none 0 0, .slice none 0 0, .int .i64 1, .int .i64 0, .slice none 0 0, .slice none 0 0, .int .i64 4, .int .i64 0, .slice none 0 0, .slice none 0 0] := by subst hW; exact Blk.at_ _ _ _ _ (by simp)
  clear hW
  have hget : ∀ (i : Nat) sv, [basicS 3, basicS 1, basicS 4][i]? = some sv → i = 0 ∧ sv = basicS 3 ∨ i = 1 ∧ sv = basicS 1 ∨ i = 2 ∧ sv = basicS 4 := fun i sv h => by
    match i, h with
    | 0, h => exact .inl ⟨rfl, by simpa using h.symm⟩
    | 1, h => exact .inr (.inl ⟨rfl, by simpa using h.symm⟩)
    | 2, h => exact .inr (.inr ⟨rfl, by simpa using h.symm⟩)
    | i + 3, h => simp at h
  refine (buildRec_c (nl := 0) (w := W) (pb := w.heap.size + 1) (po := 0) (svs := [basicS 3, basicS 1, basicS 4]) (Q := fun i T => some T = [basicT 3, basicT 1, basicT 4][i]?) (ns := n3) (mv := mv) ?_ ?_ (by simp) (Go.Lib.hid fun _ => rfl)
    (Go.Lib.hid ⟨rfl, fun n hn => by simp at hn; rcases hn with rfl | rfl | rfl <;> decide, ⟨good3, fun ts h1 h2 => ?_⟩, hvW, fun W' hW' _ => ⟨⟨w.heap.size, 0, none⟩, rfl, fun j u hu => ?_⟩⟩)).mono ?_
  · intro i sv h W' hW'
    have hk := hb.chg hW' id
    rcases hget i sv h with ⟨rfl, rfl⟩ | ⟨rfl, rfl⟩ | ⟨rfl, rfl⟩
    · exact ⟨hk.cell 0, hk.cell 1, hk.cell 2, hk.cell 3⟩
    · exact ⟨hk.cell 4, hk.cell 5, hk.cell 6, hk.cell 7⟩
    · exact ⟨hk.cell 8, hk.cell 9, hk.cell 10, hk.cell 11⟩
  · intro i sv h W' hW'
    have key : ∀ k : Nat, 1 ≤ k → k ≤ 5 → some (basicT k) = [basicT 3, basicT 1, basicT 4][i]? → Calls Try.prog 9 #[(basicS k).val] W' (Built W.heap.size (fun T => some T = [basicT 3, basicT 1, basicT 4][i]?) W') := fun k h1 h5 hq => by
      refine (buildLeaf_c k h1 h5).mono fun e w' hB => ?_
      obtain ⟨b, T, h1, h2, h3, h4, h5⟩ := hB
      exact ⟨b, T, h1, h2.mono hW'.size, h3, by rw [h4]; exact hq, h5⟩
    rcases hget i sv h with ⟨rfl, rfl⟩ | ⟨rfl, rfl⟩ | ⟨rfl, rfl⟩
    · exact key 3 (by omega) (by omega) rfl
    · exact key 1 (by omega) (by omega) rfl
    · exact key 4 (by omega) (by omega) rfl
  · obtain ⟨a, b, c, rfl⟩ := three h1 h2
    unfold recSize
    rw [recL3]
    show max ((9 + 3) / 4 * 4) 4 ≤ 262144
    decide
  · rw [add_none, Nat.zero_add]
    exact (hbn.chg hW' id).cell j |>.trans (by simpa using hu)
  · intro e w' hB
    obtain ⟨b, T, h1, h2, h3, ⟨h4, ts, h5, h6, h7, h8⟩, h9⟩ := hB
    obtain ⟨a, b', c, rfl⟩ := three h5 h6
    exact ⟨b, T, h1, h2.mono hs, h3, ⟨h4, by rw [h8]; unfold recSize; rw [recL3]; show max ((9 + 3) / 4 * 4) 4 = 12; decide, a, b', c, by rw [h7, recL3]⟩, h9⟩
set_option maxHeartbeats 2000000 in
set_option maxRecDepth 100000 in
theorem known_c {mv : Int} (hv : w.cell? ⟨0, 0, none⟩ = some (.int .i64 mv)) : Calls Try.prog 8 #[] w (Quiet (.bool true) w) := by
  have HV := Go.Lib.hid hv
  clear hv
  go_enter Try.func8, Try.ntmps8
  have H1 := Go.Lib.hid (known1 w)
  go_wp2_with fail
  refine H1.out.mono ?_
  rintro e w1 ⟨ba, Ta, rfl, hTa, ha0, ⟨ha7, ha8⟩, hca⟩
  have hc1 : Chg NoB w w1 := ((Chg.refl NoB w).alloc _).trans hca
  have Ha := Go.Lib.hid (And.intro hTa (And.intro ha0 (And.intro ha8 hc1)))
  clear H1 hTa ha0 ha7 ha8 hca hc1
  have H2 := Go.Lib.hid (known2 w1 (keepC Ha.out.2.2.2 HV.out) _ rfl)
  unfold ptr
  go_wp2_with fail
  refine H2.out.mono ?_
  rintro e w2 ⟨bb, Tb, rfl, hTb, hb0, ⟨hb8, hbs, x, y, z, hbf⟩, hcb⟩
  have hc2 : Chg NoB w1 w2 := (((Chg.refl NoB w1).alloc _).alloc _).trans hcb
  have Hb := Go.Lib.hid (And.intro hTb (And.intro hb0 (And.intro hb8 (And.intro hbs (And.intro hbf hc2)))))
  clear H2 hTb hb0 hb8 hbs hbf hcb hc2
  have H3 := Go.Lib.hid (known3 w2 (keepC Hb.out.2.2.2.2.2 (keepC Ha.out.2.2.2 HV.out)))
  unfold ptr
  go_wp2_with fail
  refine H3.out.mono ?_
  rintro e w3 ⟨bc, Tc, rfl, hTc, hc0, ⟨hc8, hcs⟩, hc3⟩
  have Hc := Go.Lib.hid (And.intro hTc (And.intro hc0 (And.intro hcs hc3)))
  clear H3 hTc hc0 hc8 hcs hc3
  have hTb := Hb.out.1.quiet Hc.out.2.2.2
  have hTa := (Ha.out.1.quiet Hb.out.2.2.2.2.2).quiet Hc.out.2.2.2
  obtain ⟨m, hm⟩ : ∃ m, Tb.mb = some m := by
    cases hm : Tb.mb with
    | some m => exact ⟨m, rfl⟩
    | none => have := hTb.mbn hm; rw [Hb.out.2.2.2.2.1] at this; cases this
  have O1 := Go.Lib.hid (offset_c hTb Hb.out.2.2.1 hm ⟨#[98]⟩ (j := 1) (by rw [Hb.out.2.2.2.2.1]; rfl) (f := ⟨⟨#[98]⟩, y, 4⟩) (by rw [Hb.out.2.2.2.2.1]; rfl))
  have O2 := Go.Lib.hid (offset_c hTb Hb.out.2.2.1 hm ⟨#[99]⟩ (j := 2) (by rw [Hb.out.2.2.2.2.1]; rfl) (f := ⟨⟨#[99]⟩, z, 8⟩) (by rw [Hb.out.2.2.2.2.1]; rfl))
  have S1 := size_c hTa Ha.out.2.1
  have S2 := size_c hTb Hb.out.2.1
  have S3 := size_c Hc.out.1 Hc.out.2.1
  rw [Ha.out.2.2.1] at S1
  rw [Hb.out.2.2.2.1] at S2
  rw [Hc.out.2.2.1] at S3
  have HS1 := Go.Lib.hid S1
  have HS2 := Go.Lib.hid S2
  have HS3 := Go.Lib.hid S3
  have HN := Go.Lib.hid (num_c 0 (w := w3))
  clear S1 S2 S3 hm hTa hTb
  unfold ptr at O1 O2 HS1 HS2 HS3
  unfold ptr
  go_wp2_with fail
  refine O1.out.mono ?_
  rintro e w4 ⟨rfl, rfl⟩
  go_wp2_with fail
  refine O2.out.mono ?_
  rintro e w4 ⟨rfl, rfl⟩
  go_wp2_with fail
  refine HS1.out.mono ?_
  rintro e w4 ⟨rfl, rfl⟩
  go_wp2_with fail
  refine HS2.out.mono ?_
  rintro e w4 ⟨rfl, rfl⟩
  go_wp2_with fail
  refine HN.out.mono ?_
  rintro e w4 ⟨rfl, rfl⟩
  go_wp2_with fail
  refine HN.out.mono ?_
  rintro e w4 ⟨rfl, rfl⟩
  go_wp2_with fail
  refine HS3.out.mono ?_
  rintro e w4 ⟨rfl, rfl⟩
  go_wp2_with fail
  go_ret
  exact ⟨rfl, (Ha.out.2.2.2.trans Hb.out.2.2.2.2.2).trans Hc.out.2.2.2⟩
end
end Go.Proofs.Ytholeloedihkoaa
