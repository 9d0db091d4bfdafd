/- What is proved: what the reference's Scan holds at the head of a round, in plain words; Words, Outside. Conditions: as each theorem says. -/
import Derived.Test.YtcmeciekadepjaaSign
import Derived.Test.YtcmeciekadepjaaNumber
import Derived.Maps.AppendAt
namespace Go.Proofs.Ytcmeciekadepjaa
open Go.RowKit
abbrev RT : TypeId := 29
abbrev YT : TypeId := 33
abbrev CT : TypeId := 9
abbrev BT : TypeId := 5
def wordsB : List ByteArray := [⟨#[65, 82, 82, 65, 89]⟩, ⟨#[66, 69, 71, 73, 78]⟩, ⟨#[67, 79, 78, 83, 84]⟩, ⟨#[68, 73, 86]⟩, ⟨#[68, 79]⟩, ⟨#[69, 76, 83, 69]⟩, ⟨#[69, 76, 83, 73, 70]⟩, ⟨#[69, 78, 68]⟩, ⟨#[70, 65, 76, 83, 69]⟩, ⟨#[73, 70]⟩, ⟨#[73, 77, 80, 79, 82, 84]⟩, ⟨#[73, 78]⟩, ⟨#[77, 79, 68]⟩, ⟨#[77, 79, 68, 85, 76, 69]⟩, ⟨#[78, 73, 76]⟩, ⟨#[79, 70]⟩, ⟨#[79, 82]⟩, ⟨#[80, 79, 73, 78, 84, 69, 82]⟩, ⟨#[80, 82, 79, 67, 69, 68, 85, 82, 69]⟩, ⟨#[82, 69, 67, 79, 82, 68]⟩, ⟨#[82, 69, 80, 69, 65, 84]⟩, ⟨#[82, 69, 84, 85, 82, 78]⟩, ⟨#[84, 72, 69, 78]⟩, ⟨#[84, 79]⟩, ⟨#[84, 82, 85, 69]⟩, ⟨#[84, 89, 80, 69]⟩, ⟨#[85, 78, 84, 73, 76]⟩, ⟨#[86, 65, 82]⟩, ⟨#[87, 72, 73, 76, 69]⟩]
def outsB : List ByteArray := [⟨#[73, 78, 84, 69, 71, 69, 82]⟩, ⟨#[66, 79, 79, 76, 69, 65, 78]⟩, ⟨#[67, 72, 65, 82]⟩, ⟨#[66, 89, 84, 69]⟩, ⟨#[83, 69, 84]⟩, ⟨#[65, 66, 83]⟩, ⟨#[79, 68, 68]⟩, ⟨#[79, 82, 68]⟩, ⟨#[67, 72, 82]⟩, ⟨#[76, 83, 76]⟩, ⟨#[65, 83, 82]⟩, ⟨#[76, 69, 78]⟩, ⟨#[79, 76, 68]⟩, ⟨#[70, 82, 69, 83, 72]⟩, ⟨#[69, 79, 70]⟩, ⟨#[76, 69, 78, 71, 84, 72]⟩, ⟨#[73, 78, 67]⟩, ⟨#[68, 69, 67]⟩, ⟨#[78, 69, 87]⟩, ⟨#[65, 83, 83, 69, 82, 84]⟩, ⟨#[72, 65, 76, 84]⟩, ⟨#[82, 69, 65, 68]⟩, ⟨#[87, 82, 73, 84, 69]⟩, ⟨#[82, 69, 65, 68, 87]⟩, ⟨#[87, 82, 73, 84, 69, 87]⟩, ⟨#[83, 69, 69, 75]⟩, ⟨#[82, 69, 71, 73, 83, 84, 69, 82]⟩, ⟨#[68, 69, 76, 69, 84, 69]⟩]
theorem words_c (w : World) : Calls Try.prog 8 #[] w fun e w' => e = .returned (.slice (some ⟨w.heap.size, 0, none⟩) 29 29) ∧ w' = w.alloc (.cells (wordsB.map Value.string).toArray CT) := by
  go_enter Try.func8, Try.ntmps8
  go_wp2_with fail
  go_ret
  exact ⟨rfl, rfl⟩
theorem outs_c (w : World) : Calls Try.prog 9 #[] w fun e w' => e = .returned (.slice (some ⟨w.heap.size, 0, none⟩) 28 28) ∧ w' = w.alloc (.cells (outsB.map Value.string).toArray CT) := by
  go_enter Try.func9, Try.ntmps9
  go_wp2_with fail
  go_ret
  exact ⟨rfl, rfl⟩
def baseB : List ByteArray := wordsB ++ outsB
/-- the last place of a name in a list, -1: it is not there -/
def lastI (l : List ByteArray) (s : ByteArray) : Int := (l.foldl (fun (p : Int × Int) x => (p.1 + 1, if x.toList == s.toList then p.1 else p.2)) (0, -1)).2
theorem lastI_fst (l : List ByteArray) (s : ByteArray) : ∀ p : Int × Int, (l.foldl (fun (p : Int × Int) x => (p.1 + 1, if x.toList == s.toList then p.1 else p.2)) p).1 = p.1 + l.length := by
  induction l with
  | nil => intro p; simp
  | cons x l ih => intro p; simp only [List.foldl_cons, List.length_cons, ih]; omega
theorem lastI_snoc (l : List ByteArray) (x s : ByteArray) : lastI (l ++ [x]) s = if x.toList == s.toList then (l.length : Int) else lastI l s := by
  unfold lastI
  rw [List.foldl_append]
  simp only [List.foldl_cons, List.foldl_nil, lastI_fst]
  simp
theorem lastI_range (l : List ByteArray) (s : ByteArray) : -1 ≤ lastI l s ∧ lastI l s < l.length := by
  have h : ∀ n, ∀ l : List ByteArray, l.length = n → -1 ≤ lastI l s ∧ lastI l s < l.length := by
    intro n
    induction n with
    | zero => intro l hl; have : l = [] := List.eq_nil_of_length_eq_zero hl; subst this; simp [lastI]
    | succ n ih =>
      intro l hl
      have hne : l ≠ [] := fun h => by subst h; simp at hl
      rw [← List.dropLast_concat_getLast hne, lastI_snoc]
      have := ih l.dropLast (by simp; omega)
      simp only [List.length_append, List.length_dropLast, List.length_singleton] at this ⊢
      split <;> omega
  exact h _ l rfl
def isWord (b : Int) : Bool := letterB b || digitB b
def modB : ByteArray := ⟨#[77, 79, 68, 85, 76, 69]⟩
theorem mod_idx : lastI baseB modB = 13 := by decide +kernel
/-- what is read between two places -/
def nameAt (t : ByteArray) (i k : Nat) : ByteArray := t.extract i k
/-- a text that begins as a module's does -/
structure Pre (t nm : ByteArray) : Prop where
  size : t.size ≤ 65535
  m : bt t 0 = 77 ∧ (∀ j : Nat, j < 6 → isWord (bt t j) = true) ∧ nameAt t 0 6 = modB
  sp : bt t 6 = 32
  n0 : letterB (bt t 7) = true
  nw : ∀ j : Nat, 7 ≤ j → j < 7 + nm.size → isWord (bt t j) = true
  nn : nameAt t 7 (7 + nm.size) = nm
  len : 1 ≤ nm.size ∧ nm.size ≤ 15
  semi : bt t ((7 + nm.size : Nat) : Int) = 59
  new : lastI baseB nm = -1
/-- what is told when n symbols have come -/
structure PI (nm : ByteArray) (n i : Nat) (names : List ByteArray) (cs : List Value) : Prop where
  z : n = 0 → i = 0 ∧ names = baseB
  one : n = 1 → i = 6 ∧ names = baseB
  two : n = 2 → i = 7 + nm.size
  c0 : 1 ≤ n → cs[0]? = some (.int .i64 43)
  c5 : 2 ≤ n → cs[5]? = some (.int .i64 25) ∧ cs[8]? = some (.int .i64 57) ∧ names[57]? = some nm
structure SI (t nm : ByteArray) (w : World) (bx n nl : Nat) (v1 : Value) (g2 c2 : Nat) (names : List ByteArray) (cs : List Value) (W : World) : Prop where
  chg : Chg NoB w W
  bxl : w.heap.size < bx
  box : Blk W bx RT #[v1, .slice (some ⟨g2, 0, none⟩) nl c2, .int .i64 0, .int .i64 0]
  res : Blk W w.heap.size RT #[.slice none 0 0, .slice none 0 0, .int .i64 0, .int .i64 0]
  all : W.ownsRow (bx + 1) YT 5 v1 n cs
  nam : W.ownsRow (w.heap.size + 1) CT 1 (.slice (some ⟨g2, 0, none⟩) nl c2) nl (names.map Value.string)
  nlq : nl = names.length
  nlm : 57 ≤ nl ∧ nl ≤ 700
def ScanPost (nm : ByteArray) (w : World) (e : Ending) (w' : World) : Prop :=
  ∃ (g1 g2 n nl c1 c2 : Nat) (err pos : Int), e = .returned (.agg #[.slice (some ⟨g1, 0, none⟩) n c1, .slice (some ⟨g2, 0, none⟩) nl c2, .int .i64 err, .int .i64 pos]) ∧ 3 ≤ n ∧ n ≤ c1 ∧ c1 ≤ maxLen ∧ 57 < nl ∧ nl ≤ c2 ∧ c2 ≤ maxLen ∧
    w'.cell? ⟨g1, 0, none⟩ = some (.int .i64 43) ∧ w'.cell? ⟨g1, 5, none⟩ = some (.int .i64 25) ∧ w'.cell? ⟨g1, 8, none⟩ = some (.int .i64 57) ∧ w'.cell? ⟨g2, 57, none⟩ = some (.string nm) ∧ Chg NoB w w'
end Go.Proofs.Ytcmeciekadepjaa
