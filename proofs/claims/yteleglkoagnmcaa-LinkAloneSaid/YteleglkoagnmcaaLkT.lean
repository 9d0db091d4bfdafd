/- What is proved: the image of objects in order, as a plain function; its laws. Conditions: none (definitions and plain laws). -/
import Derived.Test.YteleglkoagnmcaaLkB
set_option linter.unusedSimpArgs false
set_option linter.unusedVariables false
namespace Go.Proofs.Yteleglkoagnmcaa
open Go Go.RowKit
/-- a word's low part, filled in -/
def setW (ws : List Nat) (at_ m n : Nat) : List Nat := ws.set at_ (ws.getD at_ 0 / m * m + n % m)
def plFind (ps : List Pl) (nm : ByteArray) : Option Pl := ps.find? fun p => decide (p.name = nm)
def fixTo (ps : List Pl) (o : Ob) (own : Pl) (f : Int × Int × Int) : Pl := if 0 < f.2.1 then ((o.imps[f.2.1.toNat - 1]?).bind fun x => plFind ps x.1).getD own else own
def fixW (ps : List Pl) (o : Ob) (own : Pl) (ws : List Nat) (f : Int × Int × Int) : Option (List Nat) :=
  if f.2.2 = 0 then some (setW (setW ws (own.code + f.1.toNat) 65536 ((fixTo ps o own f).data / 65536)) (own.code + f.1.toNat + 1) 65536 (fixTo ps o own f).data)
  else if ((fixTo ps o own f).ents.length : Int) ≤ f.2.2 then none
  else some (setW ws (own.code + f.1.toNat) 16777216 (((fixTo ps o own f).ents.getD f.2.2.toNat 0 - (own.code + f.1.toNat : Nat) - 1) % 4294967296).toNat)
def fillO (ps : List Pl) (o : Ob) (own : Pl) : List (Int × Int × Int) → List Nat → Option (List Nat)
  | [], ws => some ws
  | f :: l, ws => (fixW ps o own ws f).bind (fillO ps o own l)
def fillAll (ps : List Pl) : List Ob → List Pl → List Nat → Option (List Nat)
  | o :: l, p :: r, ws => (fillO ps o p o.fixs ws).bind (fillAll ps l r)
  | _, _, ws => some ws
def jumpW (k : Int) : Nat := 4143972352 + (k % 16777216).toNat
def jumps : List Pl → Nat → List Nat
  | [], _ => []
  | p :: l, i => jumpW (p.ents.getD 0 0 - i - 1) :: jumps l (i + 1)
def wordsOf : List UInt8 → List Nat
  | a :: b :: c :: d :: l => (a.toNat + 256 * b.toNat + 65536 * c.toNat + 16777216 * d.toNat) :: wordsOf l
  | _ => []
def dataW : List Ob → List Nat
  | [] => []
  | o :: l => List.replicate (o.vars.toNat / 4) 0 ++ wordsOf o.text ++ dataW l
def placed (l : List Ob) : List Pl := plsOf l (codeAt l (l.length + 2)) (dataAt l (codeEnd l (l.length + 2)))
/-- the image of objects, in order; the two words behind the start's calls are halt's -/
def imgP (halt : List Nat) (l : List Ob) : Int ⊕ Img :=
  match fillAll (placed l) l (placed l) (jumps (placed l) 0 ++ halt ++ l.flatMap (·.code)) with
  | none => .inl 4
  | some ws => if 4194304 < dataEnd l (codeEnd l (l.length + 2)) then .inl 10 else .inr ⟨ws ++ dataW l, placed l⟩
theorem setW_len (ws : List Nat) (a m n : Nat) : (setW ws a m n).length = ws.length := by simp [setW]
theorem setW_ne {ws : List Nat} {a m n i : Nat} (h : i ≠ a) : (setW ws a m n)[i]? = ws[i]? := by
  unfold setW
  rw [List.getElem?_set_ne (by omega)]
theorem fixW_len {ps : List Pl} {o : Ob} {own : Pl} {ws ws' : List Nat} {f : Int × Int × Int} (h : fixW ps o own ws f = some ws') : ws'.length = ws.length := by
  unfold fixW at h
  split at h
  · injection h with h; rw [← h, setW_len, setW_len]
  · split at h
    · cases h
    · injection h with h; rw [← h, setW_len]
theorem fixW_ne {ps : List Pl} {o : Ob} {own : Pl} {ws ws' : List Nat} {f : Int × Int × Int} (h : fixW ps o own ws f = some ws') {i : Nat} (h1 : i ≠ own.code + f.1.toNat) (h2 : f.2.2 = 0 → i ≠ own.code + f.1.toNat + 1) : ws'[i]? = ws[i]? := by
  unfold fixW at h
  split at h
  · rename_i h0
    injection h with h; rw [← h, setW_ne (h2 h0), setW_ne h1]
  · split at h
    · cases h
    · injection h with h; rw [← h, setW_ne h1]
theorem fillO_len {ps : List Pl} {o : Ob} {own : Pl} : ∀ {l : List (Int × Int × Int)} {ws ws' : List Nat}, fillO ps o own l ws = some ws' → ws'.length = ws.length
  | [], ws, ws', h => by
    unfold fillO at h
    injection h with h; rw [h]
  | f :: l, ws, ws', h => by
    unfold fillO at h
    cases hf : fixW ps o own ws f with
    | none => rw [hf] at h; cases h
    | some w1 =>
      rw [hf] at h
      exact (fillO_len (l := l) h).trans (fixW_len hf)
theorem fillO_ne {ps : List Pl} {o : Ob} {own : Pl} {i : Nat} : ∀ {l : List (Int × Int × Int)} {ws ws' : List Nat}, fillO ps o own l ws = some ws' → (∀ f ∈ l, i ≠ own.code + f.1.toNat ∧ (f.2.2 = 0 → i ≠ own.code + f.1.toNat + 1)) → ws'[i]? = ws[i]?
  | [], ws, ws', h, _ => by
    unfold fillO at h
    injection h with h; rw [h]
  | f :: l, ws, ws', h, hn => by
    unfold fillO at h
    cases hf : fixW ps o own ws f with
    | none => rw [hf] at h; cases h
    | some w1 =>
      rw [hf] at h
      obtain ⟨h1, h2⟩ := hn f (List.mem_cons_self ..)
      exact (fillO_ne (l := l) h (fun g hg => hn g (List.mem_cons_of_mem _ hg))).trans (fixW_ne hf h1 h2)
theorem fillAll_len {ps : List Pl} : ∀ {l : List Ob} {r : List Pl} {ws ws' : List Nat}, fillAll ps l r ws = some ws' → ws'.length = ws.length
  | [], r, ws, ws', h => by
    unfold fillAll at h
    injection h with h; rw [h]
  | o :: l, [], ws, ws', h => by
    unfold fillAll at h
    injection h with h; rw [h]
  | o :: l, p :: r, ws, ws', h => by
    unfold fillAll at h
    cases hf : fillO ps o p o.fixs ws with
    | none => rw [hf] at h; cases h
    | some w1 =>
      rw [hf] at h
      exact (fillAll_len (l := l) h).trans (fillO_len hf)
theorem codeAt_len : ∀ (l : List Ob) (n : Nat), (codeAt l n).length = l.length
  | [], _ => rfl
  | o :: l, n => by simp [codeAt, codeAt_len l]
theorem dataAt_len : ∀ (l : List Ob) (n : Nat), (dataAt l n).length = l.length
  | [], _ => rfl
  | o :: l, n => by simp [dataAt, dataAt_len l]
theorem plsOf_len : ∀ (l : List Ob) (a b : List Nat), a.length = l.length → b.length = l.length → (plsOf l a b).length = l.length
  | [], a, b, _, _ => by simp [plsOf]
  | o :: l, [], b, h, _ => by simp at h
  | o :: l, a :: ax, [], _, h => by simp at h
  | o :: l, a :: ax, b :: bx, h1, h2 => by
    simp only [List.length_cons, Nat.add_right_cancel_iff] at h1 h2
    simp [plsOf, plsOf_len l ax bx h1 h2]
theorem placed_len (l : List Ob) : (placed l).length = l.length := plsOf_len _ _ _ (codeAt_len _ _) (dataAt_len _ _)
theorem jumps_len : ∀ (l : List Pl) (i : Nat), (jumps l i).length = l.length
  | [], _ => rfl
  | p :: l, i => by simp [jumps, jumps_len l]
theorem wordsOf_len : ∀ (k : Nat) (l : List UInt8), l.length = 4 * k → (wordsOf l).length = k
  | 0, l, h => by
    have : l = [] := List.eq_nil_of_length_eq_zero (by omega)
    subst this
    rfl
  | k + 1, l, h => by
    match l, h with
    | a :: b :: c :: d :: l, h =>
      simp only [List.length_cons] at h
      simp [wordsOf, wordsOf_len k l (by omega)]
    | [], h => simp at h
    | [_], h => simp at h; omega
    | [_, _], h => simp at h; omega
    | [_, _, _], h => simp at h; omega
end Go.Proofs.Yteleglkoagnmcaa
