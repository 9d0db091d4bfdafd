/- What is proved: where what stands in an image; what filling in leaves and makes. Conditions: none (plain laws). · What is proved: what an image of objects that were loaded holds. Conditions: the objects stand in order. · What is proved: what filled in words hold. Conditions: the objects stand in order. -/
import Derived.Test.YteleglkoagnmcaaLkT
import Derived.Test.YteleglkoagnmcaaLkE
set_option linter.unusedSimpArgs false
set_option linter.unusedVariables false
namespace Go.Proofs.Yteleglkoagnmcaa
open Go Go.RowKit
def cLen (l : List Ob) : Nat := (l.flatMap (·.code)).length
theorem cLen_cons (o : Ob) (l : List Ob) : cLen (o :: l) = o.code.length + cLen l := by simp [cLen]
theorem cLen_app (l m : List Ob) : cLen (l ++ m) = cLen l + cLen m := by simp [cLen]
theorem codeEnd_eq : ∀ (l : List Ob) (n : Nat), codeEnd l n = n + cLen l
  | [], n => by simp [codeEnd, cLen]
  | o :: l, n => by
    rw [codeEnd, codeEnd_eq l, cLen_cons]
    omega
theorem codeAt_get : ∀ (l : List Ob) (n k : Nat), k < l.length → (codeAt l n)[k]? = some (n + cLen (l.take k))
  | [], n, k, h => by simp at h
  | o :: l, n, 0, h => by simp [codeAt, cLen]
  | o :: l, n, k + 1, h => by
    rw [codeAt, List.getElem?_cons_succ, codeAt_get l _ k (by simpa using h), List.take_succ_cons, cLen_cons]
    congr 1
    omega
theorem dataAt_get : ∀ (l : List Ob) (n k : Nat), k < l.length → (dataAt l n)[k]? = some (4 * dataEnd (l.take k) n)
  | [], n, k, h => by simp at h
  | o :: l, n, 0, h => by simp [dataAt, dataEnd]
  | o :: l, n, k + 1, h => by
    rw [dataAt, List.getElem?_cons_succ, dataAt_get l _ k (by simpa using h), List.take_succ_cons, dataEnd]
theorem dataEnd_app : ∀ (l m : List Ob) (n : Nat), dataEnd (l ++ m) n = dataEnd m (dataEnd l n)
  | [], m, n => rfl
  | o :: l, m, n => by
    rw [List.cons_append, dataEnd, dataEnd, dataEnd_app l]
theorem dataEnd_ge : ∀ (l : List Ob) (n : Nat), n ≤ dataEnd l n
  | [], n => Nat.le_refl _
  | o :: l, n => by
    rw [dataEnd]
    have := dataEnd_ge l (n + (o.vars.toNat + o.text.length) / 4)
    omega
theorem plsOf_get : ∀ (l : List Ob) (a b : List Nat) (k : Nat) (o : Ob) (n d : Nat), l[k]? = some o → a[k]? = some n → b[k]? = some d → (plsOf l a b)[k]? = some (plOf o n d)
  | [], a, b, k, o, n, d, h, _, _ => by simp at h
  | p :: l, [], b, k, o, n, d, _, h, _ => by simp at h
  | p :: l, x :: a, [], k, o, n, d, _, _, h => by simp at h
  | p :: l, x :: a, y :: b, 0, o, n, d, h1, h2, h3 => by
    simp at h1 h2 h3
    subst h1 h2 h3
    rfl
  | p :: l, x :: a, y :: b, k + 1, o, n, d, h1, h2, h3 => by
    rw [plsOf, List.getElem?_cons_succ]
    exact plsOf_get l a b k o n d (by simpa using h1) (by simpa using h2) (by simpa using h3)
/-- where the code of the k-th begins -/
def cAt (l : List Ob) (k : Nat) : Nat := l.length + 2 + cLen (l.take k)
/-- where its data begin -/
def dAt (l : List Ob) (k : Nat) : Nat := 4 * dataEnd (l.take k) (l.length + 2 + cLen l)
theorem placed_get {l : List Ob} {k : Nat} {o : Ob} (h : l[k]? = some o) : (placed l)[k]? = some (plOf o (cAt l k) (dAt l k)) := by
  have hk : k < l.length := (List.getElem?_eq_some_iff.1 h).1
  unfold placed
  refine plsOf_get _ _ _ _ _ _ _ h (codeAt_get _ _ _ hk) ?_
  rw [dataAt_get _ _ _ hk, codeEnd_eq]
  rfl
theorem placed_name (l : List Ob) : (placed l).map (·.name) = l.map (·.name) := by
  apply List.ext_getElem?
  intro k
  rw [List.getElem?_map, List.getElem?_map]
  cases h : l[k]? with
  | none =>
    rw [List.getElem?_eq_none_iff.2 (by rw [placed_len]; exact List.getElem?_eq_none_iff.1 h)]
    rfl
  | some o => rw [placed_get h]; rfl
theorem take_succ_some {α : Type} {l : List α} {k : Nat} {o : α} (h : l[k]? = some o) : l.take (k + 1) = l.take k ++ [o] := by rw [List.take_add_one, h]; rfl
theorem cLen_le (l : List Ob) (k : Nat) : cLen (l.take k) ≤ cLen l := by
  have := cLen_app (l.take k) (l.drop k)
  rw [List.take_append_drop] at this
  omega
theorem cAt_next {l : List Ob} {k : Nat} {o : Ob} (h : l[k]? = some o) : cAt l (k + 1) = cAt l k + o.code.length := by
  unfold cAt
  rw [take_succ_some h, cLen_app]
  simp [cLen]
  omega
theorem cAt_mono (l : List Ob) {i k : Nat} (h : i ≤ k) : cAt l i ≤ cAt l k := by
  unfold cAt
  have h1 := cLen_le (l.take k) i
  rw [List.take_take, Nat.min_eq_left h] at h1
  omega
theorem cAt_le (l : List Ob) (k : Nat) : cAt l k ≤ l.length + 2 + cLen l := by
  unfold cAt
  have := cLen_le l k
  omega
/-! ### what stands where ahead of filling in -/
def base0 (halt : List Nat) (l : List Ob) : List Nat := jumps (placed l) 0 ++ halt ++ l.flatMap (·.code)
theorem base0_len {halt : List Nat} (hh : halt.length = 2) (l : List Ob) : (base0 halt l).length = l.length + 2 + cLen l := by
  unfold base0 cLen
  rw [List.length_append, List.length_append, jumps_len, placed_len, hh]
theorem flat_get : ∀ (l : List Ob) (k : Nat) (o : Ob) (j : Nat), l[k]? = some o → j < o.code.length → (l.flatMap (·.code))[cLen (l.take k) + j]? = o.code[j]?
  | [], k, o, j, h, _ => by simp at h
  | p :: l, 0, o, j, h, hj => by
    simp at h
    subst h
    simp only [List.flatMap_cons, List.take_zero]
    rw [List.getElem?_append_left (by simp [cLen]; exact hj)]
    simp [cLen]
  | p :: l, k + 1, o, j, h, hj => by
    have := flat_get l k o j (by simpa using h) hj
    rw [List.flatMap_cons, List.take_succ_cons, cLen_cons, List.getElem?_append_right (by omega), ← this]
    congr 1
    omega
theorem base0_code {halt : List Nat} (hh : halt.length = 2) {l : List Ob} {k : Nat} {o : Ob} {j : Nat} (h : l[k]? = some o) (hj : j < o.code.length) : (base0 halt l)[cAt l k + j]? = o.code[j]? := by
  have hl : (jumps (placed l) 0 ++ halt).length = l.length + 2 := by rw [List.length_append, jumps_len, placed_len, hh]
  unfold base0 cAt
  rw [List.getElem?_append_right (by omega), ← flat_get l k o j h hj, hl]
  congr 1
  omega
theorem jumps_get : ∀ (l : List Pl) (i k : Nat) (p : Pl), l[k]? = some p → (jumps l i)[k]? = some (jumpW (p.ents.getD 0 0 - ((i + k : Nat) : Int) - 1))
  | [], i, k, p, h => by simp at h
  | q :: l, i, 0, p, h => by
    simp at h
    subst h
    simp [jumps]
  | q :: l, i, k + 1, p, h => by
    have := jumps_get l (i + 1) k p (by simpa using h)
    rw [jumps, List.getElem?_cons_succ, this, show i + 1 + k = i + (k + 1) by omega]
theorem base0_jump {halt : List Nat} {l : List Ob} {k : Nat} {p : Pl} (h : (placed l)[k]? = some p) : (base0 halt l)[k]? = some (jumpW (p.ents.getD 0 0 - (k : Int) - 1)) := by
  have hk := (List.getElem?_eq_some_iff.1 h).1
  unfold base0
  rw [List.append_assoc, List.getElem?_append_left (by rw [jumps_len]; exact hk), jumps_get _ _ _ _ h, Nat.zero_add]
/-! ### filling in -/
theorem fillAll_ne {ps : List Pl} {i : Nat} : ∀ {l : List Ob} {r : List Pl} {ws ws' : List Nat}, fillAll ps l r ws = some ws' → (∀ (k : Nat) o p, l[k]? = some o → r[k]? = some p → ∀ f ∈ o.fixs, i ≠ p.code + f.1.toNat ∧ (f.2.2 = 0 → i ≠ p.code + f.1.toNat + 1)) → ws'[i]? = ws[i]?
  | [], r, ws, ws', h, _ => by
    unfold fillAll at h
    injection h with h; rw [h]
  | o :: l, [], ws, ws', h, _ => by
    unfold fillAll at h
    injection h with h; rw [h]
  | o :: l, p :: r, ws, ws', h, hn => by
    unfold fillAll at h
    cases hf : fillO ps o p o.fixs ws with
    | none => rw [hf] at h; cases h
    | some w1 =>
      rw [hf] at h
      exact (fillAll_ne (l := l) h (fun k o' p' h1 h2 => hn (k + 1) o' p' (by simpa using h1) (by simpa using h2))).trans (fillO_ne hf (hn 0 o p rfl rfl))
theorem fillAll_split {ps : List Pl} {o : Ob} {p : Pl} : ∀ {l : List Ob} {r : List Pl} {k : Nat} {ws ws' : List Nat}, fillAll ps l r ws = some ws' → l[k]? = some o → r[k]? = some p → ∃ w1 w2, fillAll ps (l.take k) (r.take k) ws = some w1 ∧ fillO ps o p o.fixs w1 = some w2 ∧ fillAll ps (l.drop (k + 1)) (r.drop (k + 1)) w2 = some ws'
  | [], r, k, ws, ws', h, h1, _ => by simp at h1
  | q :: l, [], k, ws, ws', h, _, h2 => by simp at h2
  | q :: l, s :: r, 0, ws, ws', h, h1, h2 => by
    simp at h1 h2
    subst h1 h2
    unfold fillAll at h
    cases hf : fillO ps q s q.fixs ws with
    | none => rw [hf] at h; cases h
    | some w1 =>
      rw [hf] at h
      exact ⟨ws, w1, by simp [fillAll], hf, h⟩
  | q :: l, s :: r, k + 1, ws, ws', h, h1, h2 => by
    unfold fillAll at h
    cases hf : fillO ps q s q.fixs ws with
    | none => rw [hf] at h; cases h
    | some w0 =>
      rw [hf] at h
      obtain ⟨w1, w2, h3, h4, h5⟩ := fillAll_split (l := l) (r := r) (k := k) h (by simpa using h1) (by simpa using h2)
      refine ⟨w1, w2, ?_, h4, by simpa using h5⟩
      rw [List.take_succ_cons, List.take_succ_cons, fillAll, hf]
      exact h3
theorem fillO_split {ps : List Pl} {o : Ob} {own : Pl} {x : Int × Int × Int} : ∀ {l : List (Int × Int × Int)} {k : Nat} {ws ws' : List Nat}, fillO ps o own l ws = some ws' → l[k]? = some x → ∃ w1 w2, fillO ps o own (l.take k) ws = some w1 ∧ fixW ps o own w1 x = some w2 ∧ fillO ps o own (l.drop (k + 1)) w2 = some ws'
  | [], k, ws, ws', h, h1 => by simp at h1
  | y :: l, 0, ws, ws', h, h1 => by
    simp at h1
    subst h1
    unfold fillO at h
    cases hf : fixW ps o own ws y with
    | none => rw [hf] at h; cases h
    | some w1 =>
      rw [hf] at h
      exact ⟨ws, w1, by simp [fillO], hf, h⟩
  | y :: l, k + 1, ws, ws', h, h1 => by
    unfold fillO at h
    cases hf : fixW ps o own ws y with
    | none => rw [hf] at h; cases h
    | some w0 =>
      rw [hf] at h
      obtain ⟨w1, w2, h3, h4, h5⟩ := fillO_split (l := l) (k := k) h (by simpa using h1)
      refine ⟨w1, w2, ?_, h4, by simpa using h5⟩
      rw [List.take_succ_cons, fillO, hf]
      exact h3
end Go.Proofs.Yteleglkoagnmcaa
set_option linter.unusedSimpArgs false
set_option linter.unusedVariables false
namespace Go.Proofs.Yteleglkoagnmcaa
open Go Go.RowKit
/-- objects that can be laid in that order -/
structure Laid (d : List Ob) : Prop where
  may : ∀ o ∈ d, MayP o
  num : ∀ o ∈ d, o.key < 4294967296 ∧ ∀ x ∈ o.code, x < 4294967296
  beh : ∀ (i : Nat) o, d[i]? = some o → ∀ x ∈ o.imps, ∃ (j : Nat) (p : Ob), j < i ∧ d[j]? = some p ∧ p.name = x.1 ∧ p.key = x.2
  nod : (d.map (·.name)).Nodup
theorem nod_inj {l : List ByteArray} (h : l.Nodup) {i j : Nat} {x : ByteArray} (hi : l[i]? = some x) (hj : l[j]? = some x) : i = j :=
  (List.getElem?_inj (List.getElem?_eq_some_iff.1 hi).1 h).1 (hi.trans hj.symm)
theorem plFind_get {ps : List Pl} (h : (ps.map (·.name)).Nodup) {j : Nat} {p : Pl} (hj : ps[j]? = some p) : plFind ps p.name = some p := by
  cases hf : plFind ps p.name with
  | none =>
    have := List.find?_eq_none.1 hf p (List.mem_of_getElem? hj)
    simp at this
  | some q =>
    have h1 := List.mem_of_find?_eq_some hf
    have h2 : q.name = p.name := by simpa using List.find?_some hf
    obtain ⟨i, hi⟩ := List.mem_iff_getElem?.1 h1
    have : i = j := nod_inj h (x := p.name) (by rw [List.getElem?_map, hi, ← h2]; rfl) (by rw [List.getElem?_map, hj]; rfl)
    subst this
    rw [hi] at hj
    exact hj
section
variable {d : List Ob}
theorem Laid.imp (h : Laid d) {k : Nat} {o : Ob} (hk : d[k]? = some o) {x : ByteArray × Nat} (hx : x ∈ o.imps) : ∃ (j : Nat) (p : Ob), j < k ∧ d[j]? = some p ∧ p.name = x.1 ∧ p.key = x.2 ∧ plFind (placed d) x.1 = some (plOf p (cAt d j) (dAt d j)) := by
  obtain ⟨j, p, h1, h2, h3, h4⟩ := h.beh k o hk x hx
  refine ⟨j, p, h1, h2, h3, h4, ?_⟩
  have := plFind_get (ps := placed d) (by rw [placed_name]; exact h.nod) (placed_get h2)
  rw [show (plOf p (cAt d j) (dAt d j)).name = x.1 from h3] at this
  exact this
/-- to which module a fixup leads -/
theorem Laid.to (h : Laid d) {k : Nat} {o : Ob} (hk : d[k]? = some o) {i : Nat} {f : Int × Int × Int} (hf : o.fixs[i]? = some f) (hm : 0 < f.2.1) : ∃ (x : ByteArray × Nat) (j : Nat) (p : Ob), o.imps[f.2.1.toNat - 1]? = some x ∧ j < k ∧ d[j]? = some p ∧ p.name = x.1 ∧ plFind (placed d) x.1 = some (plOf p (cAt d j) (dAt d j)) ∧ fixTo (placed d) o (plOf o (cAt d k) (dAt d k)) f = plOf p (cAt d j) (dAt d j) := by
  have hp := (h.may o (List.mem_of_getElem? hk)).fx i f hf
  have h2 := hp.m2
  have hlt : f.2.1.toNat - 1 < o.imps.length := by omega
  obtain ⟨j, p, h3, h4, h5, _, h6⟩ := h.imp hk (List.getElem_mem hlt)
  refine ⟨_, j, p, List.getElem?_eq_getElem hlt, h3, h4, h5, h6, ?_⟩
  unfold fixTo
  rw [if_pos hm, List.getElem?_eq_getElem hlt, Option.bind_some, h6]
  rfl
theorem fixTo_own {ps : List Pl} {o : Ob} {own : Pl} {f : Int × Int × Int} (h : ¬ 0 < f.2.1) : fixTo ps o own f = own := by
  unfold fixTo
  rw [if_neg h]
theorem dataW_len : ∀ (l : List Ob) (n : Nat), (∀ o ∈ l, o.vars % 4 = 0 ∧ o.text.length % 4 = 0) → n + (dataW l).length = dataEnd l n
  | [], n, _ => rfl
  | o :: l, n, h => by
    have h1 := h o (List.mem_cons_self ..)
    have h2 := dataW_len l (n + (o.vars.toNat + o.text.length) / 4) fun q hq => h q (List.mem_cons_of_mem _ hq)
    rw [dataEnd, ← h2, dataW, List.length_append, List.length_append, List.length_replicate, wordsOf_len (o.text.length / 4) _ (by omega)]
    omega
theorem dataEnd_mono (l : List Ob) (k n : Nat) : dataEnd (l.take k) n ≤ dataEnd l n := by
  have := dataEnd_app (l.take k) (l.drop k) n
  rw [List.take_append_drop] at this
  rw [this]
  exact dataEnd_ge _ _
theorem dataEnd_next {l : List Ob} {k : Nat} {o : Ob} (h : l[k]? = some o) (n : Nat) : dataEnd (l.take k) n + (o.vars.toNat + o.text.length) / 4 ≤ dataEnd l n := by
  have := dataEnd_mono l (k + 1) n
  rw [take_succ_some h, dataEnd_app] at this
  exact this
/-- what was filled in, and what stands behind -/
structure ImgP (halt : List Nat) (d : List Ob) (i : Img) (ws : List Nat) : Prop where
  fill : fillAll (placed d) d (placed d) (base0 halt d) = some ws
  words : i.words = ws ++ dataW d
  mods : i.mods = placed d
  small : dataEnd d (d.length + 2 + cLen d) ≤ 4194304
theorem imgP_inr {halt : List Nat} {i : Img} (h : imgP halt d = .inr i) : ∃ ws, ImgP halt d i ws := by
  unfold imgP at h
  split at h
  · cases h
  · rename_i ws hw
    split at h
    · cases h
    · rename_i hs
      injection h with h
      rw [codeEnd_eq] at hs
      exact ⟨ws, hw, by rw [← h], by rw [← h], by omega⟩
variable {halt : List Nat} {i : Img} {ws : List Nat}
theorem ImgP.wlen (h : ImgP halt d i ws) (hh : halt.length = 2) : ws.length = d.length + 2 + cLen d := by rw [fillAll_len h.fill, base0_len hh]
theorem ImgP.len (h : ImgP halt d i ws) (hh : halt.length = 2) (hl : Laid d) : i.words.length = dataEnd d (d.length + 2 + cLen d) := by
  rw [h.words, List.length_append, h.wlen hh, dataW_len _ _ fun o ho => ⟨(hl.may o ho).v4, (hl.may o ho).t4⟩]
theorem ImgP.mlen (h : ImgP halt d i ws) : i.mods.length = d.length := by rw [h.mods, placed_len]
theorem ImgP.left (h : ImgP halt d i ws) (hh : halt.length = 2) {n : Nat} (hn : n < d.length + 2 + cLen d) : i.words[n]? = ws[n]? := by
  rw [h.words, List.getElem?_append_left (by rw [h.wlen hh]; exact hn)]
/-- a place of code lies in no other one's -/
theorem cAt_apart {k m : Nat} {o q : Ob} (hk : d[k]? = some o) (hm : d[m]? = some q) (hne : k ≠ m) {j : Nat} (hj : j < o.code.length) {a : Nat} (ha : a < q.code.length) : cAt d k + j ≠ cAt d m + a := by
  have h1 := cAt_next hk
  have h2 := cAt_next hm
  rcases Nat.lt_or_gt_of_ne hne with h | h
  · have := cAt_mono d (show k + 1 ≤ m from h)
    omega
  · have := cAt_mono d (show m + 1 ≤ k from h)
    omega
theorem cAt_lt {k : Nat} {o : Ob} (hk : d[k]? = some o) {j : Nat} (hj : j < o.code.length) : cAt d k + j < d.length + 2 + cLen d := by
  have h1 := cAt_next hk
  have h2 := cAt_le d (k + 1)
  omega
theorem cAt_ge (d : List Ob) (k : Nat) : d.length + 2 ≤ cAt d k := by unfold cAt; omega
theorem Laid.fixAt (h : Laid d) {k : Nat} {o : Ob} (hk : d[k]? = some o) {f : Int × Int × Int} (hf : f ∈ o.fixs) : f.1.toNat < o.code.length ∧ (f.2.2 = 0 → f.1.toNat + 1 < o.code.length) := by
  obtain ⟨i, hi⟩ := List.mem_iff_getElem?.1 hf
  have hp := (h.may o (List.mem_of_getElem? hk)).fx i f hi
  have h1 := hp.a0
  have h2 := hp.a1
  have h3 := hp.a2
  exact ⟨by omega, fun h0 => by have := h3 h0; omega⟩
/-- a word of code that no fixup names stays -/
theorem ImgP.code (h : ImgP halt d i ws) (hh : halt.length = 2) (hl : Laid d) {k : Nat} {o : Ob} (hk : d[k]? = some o) {j : Nat} (hj : j < o.code.length) (hn : ∀ f ∈ o.fixs, j ≠ f.1.toNat ∧ (f.2.2 = 0 → j ≠ f.1.toNat + 1)) : i.words[cAt d k + j]? = o.code[j]? := by
  rw [h.left hh (cAt_lt hk hj), fillAll_ne h.fill, base0_code hh hk hj]
  intro m q p hq hp f hf
  rw [placed_get hq] at hp
  injection hp with hp
  subst hp
  show cAt d k + j ≠ cAt d m + _ ∧ (_ → cAt d k + j ≠ cAt d m + _ + 1)
  obtain ⟨h1, h2⟩ := hl.fixAt hq hf
  by_cases hkm : k = m
  · subst hkm
    rw [hk] at hq
    injection hq with hq
    subst hq
    obtain ⟨h3, h4⟩ := hn f hf
    exact ⟨by omega, fun h0 => by have := h4 h0; omega⟩
  · exact ⟨cAt_apart hk hq hkm hj h1, fun h0 => by rw [Nat.add_assoc]; exact cAt_apart hk hq hkm hj (h2 h0)⟩
theorem ImgP.jump (h : ImgP halt d i ws) (hh : halt.length = 2) (hl : Laid d) {k : Nat} {o : Ob} (hk : d[k]? = some o) : i.words[k]? = some (jumpW ((plOf o (cAt d k) (dAt d k)).ents.getD 0 0 - (k : Int) - 1)) := by
  have hlt : k < d.length := (List.getElem?_eq_some_iff.1 hk).1
  rw [h.left hh (by omega), fillAll_ne h.fill, base0_jump (placed_get hk)]
  intro m q p hq hp f hf
  rw [placed_get hq] at hp
  injection hp with hp
  subst hp
  have := cAt_ge d m
  show k ≠ cAt d m + _ ∧ (_ → k ≠ cAt d m + _ + 1)
  exact ⟨by omega, fun _ => by omega⟩
theorem plOf_ent (o : Ob) (n e : Nat) (m : Nat) {x : Int} (h : o.ents[m]? = some x) : (plOf o n e).ents[m]? = some ((n : Int) + x) := by
  show (o.ents.map fun e => (n : Int) + e)[m]? = _
  rw [List.getElem?_map, h]
  rfl
/-! ### what a fixup fills in -/
theorem setW_get {ws : List Nat} {a m n : Nat} (h : a < ws.length) : (setW ws a m n)[a]? = some (ws.getD a 0 / m * m + n % m) := by
  unfold setW
  rw [List.getElem?_set_self h]
theorem low_mod (w m n : Nat) : (w / m * m + n % m) % m = n % m := by
  rw [Nat.add_mod, Nat.mul_mod_left, Nat.zero_add, Nat.mod_mod, Nat.mod_mod]
theorem fixs_lt (h : Laid d) {k : Nat} {o : Ob} (hk : d[k]? = some o) : ∀ (n j : Nat) (f g : Int × Int × Int), o.fixs[j]? = some f → o.fixs[j + n + 1]? = some g → f.1 < g.1
  | 0, j, f, g, hf, hg => ((h.may o (List.mem_of_getElem? hk)).fx _ g hg).up j f rfl hf
  | n + 1, j, f, g, hf, hg => by
    have hlt := (List.getElem?_eq_some_iff.1 hg).1
    have h1 : o.fixs[j + n + 1]? = some (o.fixs[j + n + 1]'(by omega)) := List.getElem?_eq_getElem _
    have h2 := fixs_lt h hk n j f _ hf h1
    have h3 := ((h.may o (List.mem_of_getElem? hk)).fx _ g hg).up (j + n + 1) _ rfl h1
    omega
/-- the words that a fixup filled in stand so in the image -/
theorem ImgP.fixed (h : ImgP halt d i ws) (hh : halt.length = 2) (hl : Laid d) {k : Nat} {o : Ob} (hk : d[k]? = some o) {m : Nat} {f : Int × Int × Int} (hf : o.fixs[m]? = some f) (hn : ∀ g, o.fixs[m + 1]? = some g → g.1 ≠ f.1 + 1) :
    ∃ w1 w2, w1.length = d.length + 2 + cLen d ∧ fixW (placed d) o (plOf o (cAt d k) (dAt d k)) w1 f = some w2 ∧ i.words[cAt d k + f.1.toNat]? = w2[cAt d k + f.1.toNat]? ∧ (f.2.2 = 0 → i.words[cAt d k + f.1.toNat + 1]? = w2[cAt d k + f.1.toNat + 1]?) := by
  obtain ⟨w1, w2, h1, h2, h3⟩ := fillAll_split h.fill hk (placed_get hk)
  obtain ⟨w3, w4, h4, h5, h6⟩ := fillO_split h2 hf
  have hfx := (hl.may o (List.mem_of_getElem? hk)).fx
  obtain ⟨hx1, hx2⟩ := hl.fixAt hk (List.mem_of_getElem? hf)
  have hF := hfx m f hf
  have hF0 := hF.a0
  have key : ∀ j, j < o.code.length → (∀ (n : Nat) g, o.fixs[m + n + 1]? = some g → j ≠ g.1.toNat ∧ (g.2.2 = 0 → j ≠ g.1.toNat + 1)) → i.words[cAt d k + j]? = w4[cAt d k + j]? := fun j hj hno => by
    rw [h.left hh (cAt_lt hk hj), fillAll_ne h3, fillO_ne h6]
    · intro g hg
      obtain ⟨n, hn⟩ := List.mem_iff_getElem?.1 hg
      rw [List.getElem?_drop] at hn
      obtain ⟨h7, h8⟩ := hno n g (by rw [← hn]; congr 1; omega)
      show cAt d k + j ≠ cAt d k + _ ∧ (_ → cAt d k + j ≠ cAt d k + _ + 1)
      exact ⟨by omega, fun h0 => by have := h8 h0; omega⟩
    · intro n q p hq hp g hg
      rw [List.getElem?_drop] at hq hp
      rw [placed_get hq] at hp
      injection hp with hp
      subst hp
      show cAt d k + j ≠ cAt d _ + _ ∧ (_ → cAt d k + j ≠ cAt d _ + _ + 1)
      obtain ⟨h7, h8⟩ := hl.fixAt hq hg
      exact ⟨cAt_apart hk hq (by omega) hj h7, fun h0 => by rw [Nat.add_assoc]; exact cAt_apart hk hq (by omega) hj (h8 h0)⟩
  refine ⟨w3, w4, ?_, h5, key _ hx1 fun n g hg => ?_, fun h0 => ?_⟩
  · rw [fillO_len h4, fillAll_len h1, base0_len hh]
  · have hlt := fixs_lt hl hk n m f g hf hg
    have := (hfx _ g hg).a0
    exact ⟨by omega, fun _ => by omega⟩
  · rw [Nat.add_assoc]
    refine key _ (hx2 h0) fun n g hg => ?_
    have hlt := fixs_lt hl hk n m f g hf hg
    have := (hfx _ g hg).a0
    refine ⟨?_, fun _ => by omega⟩
    cases n with
    | zero =>
      have := hn g hg
      omega
    | succ n =>
      have hlt2 := (List.getElem?_eq_some_iff.1 hg).1
      have h1 : o.fixs[m + n + 1]? = some (o.fixs[m + n + 1]'(by omega)) := List.getElem?_eq_getElem _
      have a1 := fixs_lt hl hk n m f _ hf h1
      have a2 := fixs_lt hl hk 0 (m + n + 1) _ g h1 (by rw [← hg]; congr 1)
      omega
end
end Go.Proofs.Yteleglkoagnmcaa
set_option linter.unusedSimpArgs false
set_option linter.unusedVariables false
namespace Go.Proofs.Yteleglkoagnmcaa
open Go Go.RowKit
section
variable {d : List Ob} {halt : List Nat} {i : Img} {ws : List Nat}
theorem ImgP.dAt_lt (h : ImgP halt d i ws) (j : Nat) : dAt d j ≤ 16777216 := by
  have h1 := h.small
  have h2 := dataEnd_mono d j (d.length + 2 + cLen d)
  unfold dAt
  omega
theorem ImgP.end_le (h : ImgP halt d i ws) : d.length + 2 + cLen d ≤ 4194304 := by
  have h1 := h.small
  have h2 := dataEnd_ge d (d.length + 2 + cLen d)
  omega
/-- the module that a fixup leads to -/
theorem ImgP.to (h : ImgP halt d i ws) (hl : Laid d) {k : Nat} {o : Ob} (hk : d[k]? = some o) {m : Nat} {f : Int × Int × Int} (hf : o.fixs[m]? = some f) : ∃ (j : Nat) (p : Ob), d[j]? = some p ∧ fixTo (placed d) o (plOf o (cAt d k) (dAt d k)) f = plOf p (cAt d j) (dAt d j) ∧ (¬ 0 < f.2.1 → j = k) ∧ (0 < f.2.1 → ∃ x, o.imps[f.2.1.toNat - 1]? = some x ∧ x.1 = p.name) := by
  by_cases hm : 0 < f.2.1
  · obtain ⟨x, j, p, h1, _, h3, h4, _, h6⟩ := hl.to hk hf hm
    exact ⟨j, p, h3, h6, fun h => absurd hm h, fun _ => ⟨x, h1, h4.symm⟩⟩
  · exact ⟨k, o, hk, fixTo_own hm, fun _ => rfl, fun h => absurd h hm⟩
theorem ImgP.pair (h : ImgP halt d i ws) (hh : halt.length = 2) (hl : Laid d) {k : Nat} {o : Ob} (hk : d[k]? = some o) {m : Nat} {f : Int × Int × Int} (hf : o.fixs[m]? = some f) (hn : ∀ g, o.fixs[m + 1]? = some g → g.1 ≠ f.1 + 1) (h0 : f.2.2 = 0) {q : Pl} (hq : fixTo (placed d) o (plOf o (cAt d k) (dAt d k)) f = q) :
    ∃ a b, i.words[cAt d k + f.1.toNat]? = some a ∧ i.words[cAt d k + f.1.toNat + 1]? = some b ∧ a % 65536 * 65536 + b % 65536 = q.data := by
  obtain ⟨w1, w2, h1, h2, h3, h4⟩ := h.fixed hh hl hk hf hn
  obtain ⟨hx1, hx2⟩ := hl.fixAt hk (List.mem_of_getElem? hf)
  have hx2 := hx2 h0
  have l1 := cAt_lt hk hx1
  have l2 := cAt_lt hk hx2
  obtain ⟨j, p, _, h6, _⟩ := h.to hl hk hf
  have hd : q.data ≤ 16777216 := by
    rw [← hq, h6]
    exact h.dAt_lt j
  unfold fixW at h2
  rw [if_pos h0, hq] at h2
  injection h2 with h2
  subst h2
  refine ⟨w1.getD (cAt d k + f.1.toNat) 0 / 65536 * 65536 + q.data / 65536 % 65536, (setW w1 (cAt d k + f.1.toNat) 65536 (q.data / 65536)).getD (cAt d k + f.1.toNat + 1) 0 / 65536 * 65536 + q.data % 65536, ?_, ?_, ?_⟩
  · rw [h3, setW_ne (by show cAt d k + _ ≠ cAt d k + _ + 1; omega)]
    exact setW_get (by show cAt d k + _ < _; omega)
  · rw [h4 h0]
    exact setW_get (by rw [setW_len]; show cAt d k + _ + 1 < _; omega)
  · rw [low_mod, low_mod]
    omega
theorem ImgP.call (h : ImgP halt d i ws) (hh : halt.length = 2) (hl : Laid d) {k : Nat} {o : Ob} (hk : d[k]? = some o) {m : Nat} {f : Int × Int × Int} (hf : o.fixs[m]? = some f) (hn : ∀ g, o.fixs[m + 1]? = some g → g.1 ≠ f.1 + 1) (h0 : f.2.2 ≠ 0) {q : Pl} (hq : fixTo (placed d) o (plOf o (cAt d k) (dAt d k)) f = q) :
    ∃ w e, i.words[cAt d k + f.1.toNat]? = some w ∧ q.ents[f.2.2.toNat]? = some e ∧ (cAt d k + f.1.toNat : Nat) + 1 + (if 8388608 ≤ w % 16777216 then ((w % 16777216 : Nat) : Int) - 16777216 else ((w % 16777216 : Nat) : Int)) = e := by
  obtain ⟨w1, w2, h1, h2, h3, _⟩ := h.fixed hh hl hk hf hn
  obtain ⟨hx1, _⟩ := hl.fixAt hk (List.mem_of_getElem? hf)
  have hF := (hl.may o (List.mem_of_getElem? hk)).fx m f hf
  have hF0 := hF.e0
  have l1 := cAt_lt hk hx1
  have hle := h.end_le
  obtain ⟨j, p, hj, h6, _⟩ := h.to hl hk hf
  unfold fixW at h2
  rw [if_neg h0, hq] at h2
  split at h2
  · cases h2
  rename_i hlt
  injection h2 with h2
  have hlt2 : f.2.2.toNat < q.ents.length := by omega
  obtain ⟨e, he⟩ : ∃ e, q.ents[f.2.2.toNat]? = some e := ⟨_, List.getElem?_eq_getElem hlt2⟩
  have hr : 0 ≤ e ∧ e < 4194304 := by
    rw [← hq, h6] at he
    have he2 : (p.ents.map fun e => ((cAt d j : Nat) : Int) + e)[f.2.2.toNat]? = some e := he
    rw [List.getElem?_map] at he2
    cases hx : p.ents[f.2.2.toNat]? with
    | none => rw [hx] at he2; cases he2
    | some x =>
      rw [hx] at he2
      simp at he2
      obtain ⟨x0, x1⟩ := (hl.may p (List.mem_of_getElem? hj)).en x (List.mem_of_getElem? hx)
      have l2 := cAt_lt hj (j := x.toNat) (by omega)
      omega
  have hg : q.ents.getD f.2.2.toNat 0 = e := by rw [List.getD_eq_getElem?_getD, he]; rfl
  rw [hg] at h2
  subst h2
  have hw := setW_get (m := 16777216) (n := ((e - ((cAt d k + f.1.toNat : Nat) : Int) - 1) % 4294967296).toNat) (show cAt d k + f.1.toNat < w1.length by omega)
  refine ⟨_, e, h3.trans hw, he, ?_⟩
  rw [low_mod]
  generalize cAt d k + f.1.toNat = A at *
  split <;> omega
end
end Go.Proofs.Yteleglkoagnmcaa
