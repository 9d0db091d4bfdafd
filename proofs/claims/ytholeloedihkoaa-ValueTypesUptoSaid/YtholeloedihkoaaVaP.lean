/- What is proved: shapes' sizes as the program reckons them, and the errors of building them: plain functions. Conditions: none. -/
import Derived.Test.YtholeloedihkoaaVaM
set_option linter.unusedSimpArgs false
set_option linter.unusedVariables false
namespace Go.Proofs.Ytholeloedihkoaa
open Go.RowKit
/-- where a record's next field may begin, by its fields' sizes -/
def recAtS (l : List Nat) : Nat := l.foldl (fun a s => min ((if s ≠ 1 then (a + 3) / 4 * 4 else a) + s) 262145) 0
def recSizeS (l : List Nat) : Nat := max ((recAtS l + 3) / 4 * 4) 4
theorem recL_sizes (l : List (ByteArray × (Nat × Ti))) : (recL l).2 = recAtS (l.map fun x => x.2.2.size) := by
  induction l using List.snocRec with
  | nil => rfl
  | snoc l x ih =>
    rw [recL_snoc, List.map_append]
    simp only [recStep, ih, recAtS, List.map_cons, List.map_nil, List.foldl_append, List.foldl_cons, List.foldl_nil]
theorem recSize_sizes (l : List (ByteArray × (Nat × Ti))) : recSize l = recSizeS (l.map fun x => x.2.2.size) := by
  unfold recSize recSizeS
  rw [recL_sizes]
/-- a shape's size, by its parts' -/
def sizeS (k n : Int) (l : List Nat) : Nat :=
  if k = 2 ∨ k = 3 ∨ k = 4 then 1 else if k = 7 then (n.toNat * l.headD 0 + 3) / 4 * 4 else if k = 8 then recSizeS l else 4
def sizesF : SF → List Nat
  | .nil => []
  | .cons s _ ks r => sizeS s.k s.n (sizesF ks) :: sizesF r
def kindsF : SF → List Int
  | .nil => []
  | .cons s _ _ r => s.k :: kindsF r
/-- the error of a shape whose parts may be -/
def errS (k n : Int) (ns : List ByteArray) (ks : List Int) (l : List Nat) : Int :=
  if k = 7 then (if l.length ≠ 1 then 1 else if n < 1 ∨ 65535 < n then 2 else if 262144 < n.toNat * l.headD 0 then 3 else 0)
  else if k = 8 then (if ns.length ≠ l.length then 2 else if recGood ns = true then (if recSizeS l ≤ 262144 then 0 else 3) else 2)
  else if k = 9 then (if l.length = 1 ∧ ks.headD 0 ≠ 8 then 2 else 0)
  else if 1 ≤ k ∧ k ≤ 5 then 0 else 2
/-- the errors of shapes in a row -/
def errsF : SF → List Int
  | .nil => []
  | .cons s ns ks r => (match (errsF ks).find? (· ≠ 0) with | some e => e | none => errS s.k s.n ns (kindsF ks) (sizesF ks)) :: errsF r
def errOf (s : Sv) (ns : List ByteArray) (ks : SF) : Int := match (errsF ks).find? (· ≠ 0) with | some e => e | none => errS s.k s.n ns (kindsF ks) (sizesF ks)
theorem sizesF_len : ∀ f : SF, (sizesF f).length = f.len
  | .nil => rfl
  | .cons _ _ _ r => by simp [sizesF, SF.len, sizesF_len r]
theorem errsF_len : ∀ f : SF, (errsF f).length = f.len
  | .nil => rfl
  | .cons _ _ _ r => by simp [errsF, SF.len, errsF_len r]
theorem kindsF_len : ∀ f : SF, (kindsF f).length = f.len
  | .nil => rfl
  | .cons _ _ _ r => by simp [kindsF, SF.len, kindsF_len r]
end Go.Proofs.Ytholeloedihkoaa
