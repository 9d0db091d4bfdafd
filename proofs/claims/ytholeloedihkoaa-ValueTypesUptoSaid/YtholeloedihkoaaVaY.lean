/- What is proved: Bytes of any variable: what they are, as a function of memory; how many. Conditions: the memory holds the variable. -/
import Derived.Test.YtholeloedihkoaaVaX
set_option linter.unusedSimpArgs false
set_option linter.unusedVariables false
namespace Go.Proofs.Ytholeloedihkoaa
open Go Go.RowKit
def wordAt (W : World) (b : Nat) : Int := match W.cell? ⟨b, 1, none⟩ with | some (.int _ x) => x | _ => 0
def toAt (W : World) (b : Nat) : Bool := match W.cell? ⟨b, 2, none⟩ with | some (.pointer p) => p.isSome | _ => false
def bytesOf (T : Ti) (x : Int) (p : Bool) (l : List (List Int)) : List Int :=
  if T.kind = 7 then padTo T.size l.flatten else if T.kind = 8 then padTo T.size (recB (T.fs.zip l)) else if T.kind = 9 then wordB (if p = true then 1 else 0) else (wordB x).take T.size
/-- variables' bytes, as a memory holds them -/
def bytesF (W : World) : VF → List (List Int)
  | .nil => []
  | .cons b t _ _ ks r => bytesOf t.T (wordAt W b) (toAt W b) (bytesF W ks) :: bytesF W r
section
variable {C : Int → Option Addr → Prop} {w w' W : World} {lo : Nat}
theorem bytesF_len (W : World) : ∀ v : VF, (bytesF W v).length = v.len
  | .nil => rfl
  | .cons _ _ _ _ _ r => by simp [bytesF, VF.len, bytesF_len W r]
theorem bytesF_quiet (hc : Chg NoB w W) : ∀ (v : VF) {lo : Nat}, VsAt C w lo v → bytesF W v = bytesF w v
  | .nil, _, _ => rfl
  | .cons b t A c ks r, lo, ⟨h1, ⟨x, p, h2, _⟩, _, _, h7, h8⟩ => by
    have e1 : wordAt W b = wordAt w b := by unfold wordAt; rw [(h2.chg hc id).cell, h2.cell]
    have e2 : toAt W b = toAt w b := by unfold toAt; rw [(h2.chg hc id).cell, h2.cell]
    simp only [bytesF, e1, e2, bytesF_quiet hc ks h7, bytesF_quiet hc r h8]
/-! ### how many -/
theorem recL_take (l : List (ByteArray × (Nat × Ti))) : ∀ k, (recL (l.take k)).1 = (recL l).1.take k := by
  induction l using List.snocRec with
  | nil => intro k; simp [recL]
  | snoc l x ih =>
    intro k
    rcases Nat.lt_or_ge l.length k with hk | hk
    · rw [List.take_of_length_le (by simp; omega), List.take_of_length_le (by rw [recL_len]; simp; omega)]
    · rw [List.take_append_of_le_length hk, ih k, recL_snoc]
      simp only [recStep]
      rw [List.take_append_of_le_length (by rw [recL_len]; exact hk)]
theorem recL_mono (l : List (ByteArray × (Nat × Ti))) (hc : (recL l).2 ≤ 262144) : ∀ k, (recL (l.take k)).2 ≤ (recL l).2 := by
  induction l using List.snocRec with
  | nil => intro k; simp
  | snoc l x ih =>
    intro k
    rcases Nat.lt_or_ge l.length k with hk | hk
    · rw [List.take_of_length_le (by simp; omega)]
      omega
    · rw [List.take_append_of_le_length hk]
      rw [recL_snoc] at hc ⊢
      simp only [recStep] at hc ⊢
      have h1 : (recL l).2 ≤ 262144 := by
        have : (recL l).2 ≤ (if x.2.2.size ≠ 1 then ((recL l).2 + 3) / 4 * 4 else (recL l).2) := by split <;> omega
        omega
      have h2 := ih h1 k
      have : (recL l).2 ≤ (if x.2.2.size ≠ 1 then ((recL l).2 + 3) / 4 * 4 else (recL l).2) := by split <;> omega
      omega
theorem recL_off (l : List (ByteArray × (Nat × Ti))) (hc : (recL l).2 ≤ 262144) {k : Nat} {f : Fd} (hf : (recL l).1[k]? = some f) {x : ByteArray × (Nat × Ti)} (hx : l[k]? = some x) :
    (recL (l.take k)).2 ≤ f.off ∧ f.off + x.2.2.size = (recL (l.take (k + 1))).2 ∧ f.off + x.2.2.size ≤ 262144 := by
  have hk := (List.getElem?_eq_some_iff.1 hx).1
  have h1 := recL_mono l hc (k + 1)
  have h2 := recL_take l (k + 1)
  have h3 := take_snoc hx
  rw [h3, recL_snoc] at h1 h2
  rw [h3, recL_snoc]
  simp only [recStep] at h1 h2 ⊢
  have h4 : f.off = (if x.2.2.size ≠ 1 then ((recL (l.take k)).2 + 3) / 4 * 4 else (recL (l.take k)).2) := by
    have h5 : ((recL l).1.take (k + 1))[k]? = some f := by rw [List.getElem?_take, if_pos (by omega)]; exact hf
    rw [← h2] at h5
    have h6 : (recL (l.take k)).1.length = k := by rw [recL_len, List.length_take]; omega
    rw [List.getElem?_append_right (by omega), h6, Nat.sub_self] at h5
    simp only [List.getElem?_cons_zero, Option.some.injEq] at h5
    rw [← h5]
  have h5 : (recL (l.take k)).2 ≤ (if x.2.2.size ≠ 1 then ((recL (l.take k)).2 + 3) / 4 * 4 else (recL (l.take k)).2) := by split <;> omega
  rw [← h4] at h1 h5 ⊢
  omega
theorem recB_len (l : List (ByteArray × (Nat × Ti))) : ∀ (L : List (List Int)), L.length = l.length → (∀ (i : Nat) a x, L[i]? = some a → l[i]? = some x → a.length = x.2.2.size) → (recL l).2 ≤ 262144 → (recB ((recL l).1.zip L)).length = (recL l).2 := by
  induction l using List.snocRec with
  | nil =>
    intro L hL _ _
    obtain rfl : L = [] := List.eq_nil_of_length_eq_zero (by simpa using hL)
    simp [recL, recB]
  | snoc l x ih =>
    intro L hL hs hc
    have hne : L ≠ [] := fun h => by rw [h] at hL; simp at hL
    obtain ⟨L0, y, rfl⟩ : ∃ L0 y, L = L0 ++ [y] := ⟨_, _, (List.dropLast_concat_getLast hne).symm⟩
    have hL0 : L0.length = l.length := by simpa using hL
    have hy : y.length = x.2.2.size := hs l.length y x (by rw [← hL0]; simp) (by simp)
    have hm := recL_mono (l ++ [x]) hc l.length
    rw [List.take_append_of_le_length (Nat.le_refl _), List.take_length] at hm
    have h1 := ih L0 hL0 (fun i a z ha hz => hs i a z (by rw [List.getElem?_append_left (List.getElem?_eq_some_iff.1 ha).1]; exact ha) (by rw [List.getElem?_append_left (List.getElem?_eq_some_iff.1 hz).1]; exact hz)) (by omega)
    rw [recL_snoc] at hc hm ⊢
    simp only [recStep] at hc hm ⊢
    rw [List.zip_append (by rw [recL_len, hL0])]
    simp only [List.zip_cons_cons, List.zip_nil_right]
    rw [recB_snoc, List.length_append, hy]
    have h5 : (recL l).2 ≤ (if x.2.2.size ≠ 1 then ((recL l).2 + 3) / 4 * 4 else (recL l).2) := by split <;> omega
    rw [padTo_len (by rw [h1]; exact h5)]
    dsimp only
    omega
theorem take_zip {α β : Type} (k : Nat) : ∀ (l : List α) (m : List β) (k : Nat), (l.zip m).take k = (l.take k).zip (m.take k)
  | [], _, k => by simp
  | _ :: _, [], k => by simp
  | a :: l, b :: m, 0 => rfl
  | a :: l, b :: m, k + 1 => by simp [take_zip k l m k]
/-- the sizes that Bytes needs of a record -/
theorem rec_sizes {l : List (ByteArray × (Nat × Ti))} {L : List (List Int)} (hL : L.length = l.length) (hs : ∀ (i : Nat) a x, L[i]? = some a → l[i]? = some x → a.length = x.2.2.size) (hc : recSize l ≤ 262144) :
    (∀ (k : Nat) f, (recL l).1[k]? = some f → (recB (((recL l).1.zip L).take k)).length ≤ f.off ∧ f.off ≤ 262144) ∧ ∀ k, (recB (((recL l).1.zip L).take k)).length ≤ recSize l := by
  have hat : (recL l).2 ≤ 262144 ∧ (recL l).2 ≤ recSize l := by unfold recSize at hc ⊢; omega
  have key : ∀ k, (recB (((recL l).1.zip L).take k)).length = (recL (l.take k)).2 := fun k => by
    rw [take_zip k, ← recL_take]
    refine recB_len (l.take k) (L.take k) (by simp [hL]) (fun i a x ha hx => ?_) (by have := recL_mono l hat.1 k; omega)
    rw [List.getElem?_take] at ha hx
    split at ha
    · rename_i h
      rw [if_pos h] at hx
      exact hs i a x ha hx
    · cases ha
  refine ⟨fun k f hf => ?_, fun k => by rw [key k]; have := recL_mono l hat.1 k; omega⟩
  obtain ⟨x, hx⟩ : ∃ x, l[k]? = some x := ⟨_, List.getElem?_eq_getElem (by have := (List.getElem?_eq_some_iff.1 hf).1; rw [recL_len] at this; exact this)⟩
  have := recL_off l hat.1 hf hx
  rw [key k]
  omega
/-- each part's size -/
def SzOk (ks : VF) (L : List (List Int)) : Prop := L.length = ks.len ∧ ∀ (i : Nat) l x, L[i]? = some l → ks.tys[i]? = some x → l.length = x.T.size
theorem flatten_len {L : List (List Int)} {m : Nat} (h : ∀ l ∈ L, l.length = m) : L.flatten.length = L.length * m := by
  induction L with
  | nil => simp
  | cons a r ih =>
    rw [List.flatten_cons, List.length_append, h a (by simp), ih fun l hl => h l (by simp [hl]), List.length_cons, Nat.succ_mul]
    omega
/-- an array's parts: all of one type -/
theorem arr_kids {t : Ty} {ts : List (Nat × Ti)} (h : t.ok W ts) (hk : t.T.kind = 7) : ∃ T0, (∀ (i : Nat) x, (t.kids ts)[i]? = some x → x.T = T0) ∧ (t.kids ts).length * T0.size ≤ t.T.size ∧ (t.kids ts).length = t.T.n ∧ (∃ b0, ts = [(b0, T0)]) := by
  have hko := h.kidsOk
  obtain ⟨h1, h2, h3, h4⟩ := h
  have h7 : t.s.k = 7 := by omega
  unfold OwnTy at h4
  rw [if_pos h7] at h4
  obtain ⟨b0, T0, rfl, h5, h6, h8, h9⟩ := h4
  have hlen := hko.len
  rw [h8] at hlen
  refine ⟨T0, fun i x hx => ?_, ?_, by simpa using hlen, b0, rfl⟩
  · unfold Ty.kids at hx
    rw [if_pos h7] at hx
    have hm := List.mem_of_getElem? hx
    rw [List.mem_flatMap] at hm
    obtain ⟨y, hy, hm⟩ := hm
    obtain rfl : x = y := List.eq_of_mem_replicate hm
    obtain ⟨i, hi⟩ := List.mem_iff_getElem?.1 hy
    have := (SF.tys_ok t.ks h3 hi).2.1
    have hi0 : i = 0 := by
      have := (List.getElem?_eq_some_iff.1 this).1
      simpa using this
    subst hi0
    simp only [List.getElem?_cons_zero, Option.some.injEq, Prod.mk.injEq] at this
    exact this.2.symm
  · rw [hlen, h9, h5]
    simp only [List.length_nil, Nat.add_zero]
    omega
theorem rec_kids {t : Ty} {ts : List (Nat × Ti)} (h : t.ok W ts) (hk : t.T.kind = 8) : t.T.fs = (recL (t.ns.zip ts)).1 ∧ t.T.size = recSize (t.ns.zip ts) ∧ (t.ns.zip ts).length = (t.kids ts).length ∧ t.ns.length = ts.length ∧ (∀ (i : Nat) x q, (t.kids ts)[i]? = some x → (t.ns.zip ts)[i]? = some q → x.T = q.2.2 ∧ x.b = q.2.1) ∧ t.kids ts = t.ks.tys ts := by
  obtain ⟨h1, h2, h3, h4⟩ := h
  have h8 : t.s.k = 8 := by omega
  have hks : t.kids ts = t.ks.tys ts := by unfold Ty.kids; rw [if_neg (by omega), if_pos h8]
  unfold OwnTy at h4
  rw [if_neg (by omega), if_pos h8] at h4
  obtain ⟨h5, _, _, h6, h7⟩ := h4
  obtain ⟨hl, hl2⟩ := SF.tys_len t.ks h3
  refine ⟨h6, h7, by rw [hks, hl, List.length_zip]; omega, h5, fun i x q hx hq => ?_, hks⟩
  rw [hks] at hx
  have := (SF.tys_ok t.ks h3 hx).2.1
  rw [List.getElem?_zip_eq_some] at hq
  rw [hq.2] at this
  injection this with this
  rw [this]
  exact ⟨rfl, rfl⟩
theorem own_size {t : Ty} {ts : List (Nat × Ti)} (h : t.ok W ts) (hk : t.T.kind ≠ 7 ∧ t.T.kind ≠ 8) : t.T.size ≤ 4 ∧ (t.T.kind = 9 → t.T.size = 4) ∧ (t.T.kind = 9 ∨ 1 ≤ t.T.kind ∧ t.T.kind ≤ 5) := by
  obtain ⟨h1, h2, h3, h4⟩ := h
  unfold OwnTy at h4
  rw [if_neg (by omega), if_neg (by omega)] at h4
  split at h4
  · rename_i h9
    exact ⟨by omega, fun _ => h4.2.2.1, .inl (by omega)⟩
  · obtain ⟨n, h5, h6, h7, h8⟩ := h4
    rw [h8]
    refine ⟨?_, fun h => ?_, .inr ⟨h6, h7⟩⟩
    · show basicSize n ≤ 4
      unfold basicSize
      split <;> omega
    · exact absurd (show n = 9 from h) (by omega)
theorem one_len {t : Ty} {ts : List (Nat × Ti)} {ks : VF} {L : List (List Int)} (h : t.ok W ts) (hks : ks.tys = t.kids ts) (hL : SzOk ks L) (x : Int) (p : Bool) : (bytesOf t.T x p L).length = t.T.size := by
  unfold bytesOf
  have hl : L.length = (t.kids ts).length := by rw [hL.1, ← VF.tys_len, hks]
  split
  · rename_i hk
    obtain ⟨T0, h1, h2, h3, _⟩ := arr_kids h hk
    refine padTo_len ?_
    rw [flatten_len (m := T0.size), hl]
    · exact h2
    · intro l hl'
      obtain ⟨i, hi⟩ := List.mem_iff_getElem?.1 hl'
      obtain ⟨x, hx⟩ : ∃ x, ks.tys[i]? = some x := ⟨_, List.getElem?_eq_getElem (by rw [hks, ← hl]; exact (List.getElem?_eq_some_iff.1 hi).1)⟩
      rw [hL.2 i l x hi hx, h1 i x (by rw [← hks]; exact hx)]
  · split
    · rename_i hk
      obtain ⟨h1, h2, h3, _, h5, _⟩ := rec_kids h hk
      have hz := rec_sizes (l := t.ns.zip ts) (L := L) (by rw [hl, h3]) (fun i a q ha hq => by
        obtain ⟨x, hx⟩ : ∃ x, ks.tys[i]? = some x := ⟨_, List.getElem?_eq_getElem (by rw [hks, ← hl]; exact (List.getElem?_eq_some_iff.1 ha).1)⟩
        rw [hL.2 i a x ha hx, (h5 i x q (by rw [← hks]; exact hx) hq).1]) (by rw [← h2]; exact h.1.sz.2)
      refine padTo_len ?_
      have := hz.2 (t.T.fs.zip L).length
      rw [← h1, List.take_length, ← h2] at this
      exact this
    · split
      · rename_i h7 h8 h9
        rw [(own_size h ⟨h7, h8⟩).2.1 h9]
        rfl
      · rename_i h7 h8 h9
        have := (own_size h ⟨h7, h8⟩).1
        rw [List.length_take]
        have : (wordB x).length = 4 := rfl
        omega
theorem szOk : ∀ (v : VF) {lo : Nat}, VsAt C w lo v → SzOk v (bytesF w v)
  | .nil, _, _ => ⟨rfl, fun i l x h => by simp [bytesF] at h⟩
  | .cons b t A c ks r, lo, ⟨h1, ⟨x, p, h2, _⟩, _, ⟨ts, hok, hks⟩, h7, h8⟩ => by
    refine ⟨bytesF_len _ _, fun i l y hl hy => ?_⟩
    cases i with
    | zero =>
      simp only [bytesF, VF.tys, List.getElem?_cons_zero, Option.some.injEq] at hl hy
      subst hl hy
      exact one_len hok hks (szOk ks h7) _ _
    | succ i =>
      simp only [bytesF, VF.tys, List.getElem?_cons_succ] at hl hy
      exact (szOk r h8).2 i l y hl hy
/-! ### the contract -/
theorem bytes_one {b : Nat} {t : Ty} {A : Option Addr} {c : Nat} {ks r : VF} (h : VsAt C w lo (.cons b t A c ks r))
    (IH : ∀ W, Chg NoB w W → ∀ (j : Nat) kb l, ks.blks[j]? = some kb → (bytesF W ks)[j]? = some l → Calls Try.prog 21 #[ptr kb] W (BysPost l W)) :
    Calls Try.prog 21 #[ptr b] w (BysPost (bytesOf t.T (wordAt w b) (toAt w b) (bytesF w ks)) w) := by
  obtain ⟨x, p, hv, hx, _⟩ := h.vc
  obtain ⟨_, _, _, ⟨ts, hok, hks⟩, h7, _⟩ := h
  have hsz := szOk ks h7
  have e1 : wordAt w b = x := by unfold wordAt; rw [hv.blk.cell]; rfl
  have e2 : toAt w b = p.isSome := by unfold toAt; rw [hv.blk.cell]; rfl
  rw [e1, e2]
  have hone := one_len hok hks hsz x p.isSome
  have hl : (bytesF w ks).length = (t.kids ts).length := by rw [hsz.1, ← VF.tys_len, hks]
  have hkl : ks.len = (t.kids ts).length := by rw [← VF.tys_len, hks]
  have hfew := kids_few hok
  have IH' : ∀ (j : Nat) kb l, ks.blks[j]? = some kb → (bytesF w ks)[j]? = some l → ∀ W, Chg NoB w W → Calls Try.prog 21 #[ptr kb] W (BysPost l W) := fun j kb l hj hl W hW => IH W hW j kb l hj (by rw [bytesF_quiet hW ks h7]; exact hl)
  unfold bytesOf
  by_cases hk7 : t.T.kind = 7
  · rw [if_pos hk7]
    obtain ⟨T0, h1, h2, h3, _⟩ := arr_kids hok hk7
    refine bytes_arr hv hok.1 hk7 hsz.1 (VF.blks_len ks) (by omega) ?_ IH'
    rw [flatten_len (m := T0.size), hl]
    · exact h2
    · intro l hl'
      obtain ⟨i, hi⟩ := List.mem_iff_getElem?.1 hl'
      obtain ⟨x, hx⟩ : ∃ x, ks.tys[i]? = some x := ⟨_, List.getElem?_eq_getElem (by rw [hks, ← hl]; exact (List.getElem?_eq_some_iff.1 hi).1)⟩
      rw [hsz.2 i l x hi hx, h1 i x (by rw [← hks]; exact hx)]
  · rw [if_neg hk7]
    by_cases hk8 : t.T.kind = 8
    · rw [if_pos hk8]
      obtain ⟨h1, h2, h3, _, h5, _⟩ := rec_kids hok hk8
      have hz := rec_sizes (l := t.ns.zip ts) (L := bytesF w ks) (by rw [hl, h3]) (fun i a q ha hq => by
        obtain ⟨x, hx⟩ : ∃ x, ks.tys[i]? = some x := ⟨_, List.getElem?_eq_getElem (by rw [hks, ← hl]; exact (List.getElem?_eq_some_iff.1 ha).1)⟩
        rw [hsz.2 i a x ha hx, (h5 i x q (by rw [← hks]; exact hx) hq).1]) (by rw [← h2]; exact hok.1.sz.2)
      rw [← h1, ← h2] at hz
      exact bytes_rec hv hok.1 hk8 hsz.1 (VF.blks_len ks) (by omega) (by rw [h1, recL_len, h3, hkl]) hz.1 hz.2 IH'
    · rw [if_neg hk8]
      have hos := own_size hok ⟨hk7, hk8⟩
      by_cases hk9 : t.T.kind = 9
      · rw [if_pos hk9]
        exact bytes_ptr hv hok.1 ⟨hk9, hos.2.1 hk9⟩ hx
      · rw [if_neg hk9]
        exact bytes_bas hv hok.1 ⟨hk7, hk8, hk9⟩ hos.1 hx
theorem bytes_all : ∀ (v : VF) (w : World) {lo : Nat}, VsAt C w lo v → ∀ (j : Nat) kb l, v.blks[j]? = some kb → (bytesF w v)[j]? = some l → Calls Try.prog 21 #[ptr kb] w (BysPost l w)
  | .nil, _, _, _, j, kb, l, h, _ => by simp [VF.blks] at h
  | .cons b t A c ks r, w, lo, h, j, kb, l, hj, hl => by
    cases j with
    | zero =>
      simp only [bytesF, VF.blks, List.getElem?_cons_zero, Option.some.injEq] at hj hl
      subst hj hl
      exact bytes_one h fun W hW => bytes_all ks W (h.2.2.2.2.1.quiet hW)
    | succ j =>
      simp only [bytesF, VF.blks, List.getElem?_cons_succ] at hj hl
      exact bytes_all r w h.2.2.2.2.2 j kb l hj hl
end
end Go.Proofs.Ytholeloedihkoaa
