/- What is proved: linking as plain functions: what is loaded, in which order, and the image. Conditions: none (definitions). -/
import Derived.Test.YteleglkoagnmcaaLkA
set_option linter.unusedSimpArgs false
set_option linter.unusedVariables false
namespace Go.Proofs.Yteleglkoagnmcaa
open Go Go.RowKit
def fileO (nm : ByteArray) : ByteArray := nm ++ (⟨#[46, 111]⟩ : ByteArray)
/-- a module's object file, as it is read: the error, or the object; get: the files' bytes -/
def ldO (get : ByteArray → Option (List UInt8)) (name : ByteArray) : Int ⊕ Ob :=
  if objName name = true then
    match get (fileO name) with
    | none => .inl 6
    | some b => match ofO b with
      | none => .inl 4
      | some o => if o.name = name then .inr o else .inl 4
  else .inl 2
def findO (l : List Ob) (name : ByteArray) : Option Ob := l.find? fun o => decide (o.name = name)
/-- the imports of a module, one by one; ld: a module and what it needs -/
def ldImps (ld : List Ob → ByteArray → Int ⊕ List Ob) (busy : List ByteArray) : List (ByteArray × Nat) → List Ob → Int ⊕ List Ob
  | [], done => .inr done
  | i :: l, done =>
    if busy.any (fun b => decide (b = i.1)) = true then .inl 9 else
    match ld done i.1 with
    | .inl e => .inl e
    | .inr d2 => if ((findO d2 i.1).map (·.key)) = some i.2 then ldImps ld busy l d2 else .inl 8
/-- a module and what it needs, behind what is there -/
def ldAll (get : ByteArray → Option (List UInt8)) : Nat → List ByteArray → List Ob → ByteArray → Int ⊕ List Ob
  | 0, _, _, _ => .inl 0
  | n + 1, busy, done, name =>
    match findO done name with
    | some _ => .inr done
    | none => match ldO get name with
      | .inl e => .inl e
      | .inr o => match ldImps (fun d i => ldAll get n (name :: busy) d i) (name :: busy) o.imps done with
        | .inl e => .inl e
        | .inr d => .inr (d ++ [o])
/-- a module that stands in an image -/
structure Pl where
  name : ByteArray
  key : Nat
  code : Nat
  data : Nat
  ents : List Int
structure Img where
  words : List Nat
  mods : List Pl
/-- where the code of each begins -/
def codeAt : List Ob → Nat → List Nat
  | [], _ => []
  | o :: l, n => n :: codeAt l (n + o.code.length)
def codeEnd : List Ob → Nat → Nat
  | [], n => n
  | o :: l, n => codeEnd l (n + o.code.length)
def dataAt : List Ob → Nat → List Nat
  | [], _ => []
  | o :: l, n => 4 * n :: dataAt l (n + (o.vars.toNat + o.text.length) / 4)
def dataEnd : List Ob → Nat → Nat
  | [], n => n
  | o :: l, n => dataEnd l (n + (o.vars.toNat + o.text.length) / 4)
def plOf (o : Ob) (n d : Nat) : Pl := ⟨o.name, o.key, n, d, o.ents.map fun e => (n : Int) + e⟩
def plsOf : List Ob → List Nat → List Nat → List Pl
  | o :: l, n :: ns, d :: ds => plOf o n d :: plsOf l ns ds
  | _, _, _ => []
end Go.Proofs.Yteleglkoagnmcaa
