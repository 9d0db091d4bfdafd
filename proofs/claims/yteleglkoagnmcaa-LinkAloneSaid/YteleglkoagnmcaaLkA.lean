/- What is proved: objects as plain data; what it means that they lie in memory; which may be; their bytes. Conditions: none (definitions and plain laws). -/
import Derived.Test.YteleglkoagnmcaaObjName
import Derived.Test.YteleglkoagnmcaaOps2
import Derived.Test.YteleglkoagnmcaaApp
import Derived.Lib.Hide
import Derived.IntWalk
import Derived.Deep.RegionHeld3
set_option linter.unusedSimpArgs false
set_option linter.unusedVariables false
namespace Go.Proofs.Yteleglkoagnmcaa
open Go Go.RowKit
/-- an object -/
structure Ob where
  name : ByteArray
  key : Nat
  imps : List (ByteArray × Nat)
  vars : Int
  text : List UInt8
  code : List Nat
  ents : List Int
  fixs : List (Int × Int × Int)
def impCells (l : List (ByteArray × Nat)) : List Value := l.flatMap fun x => [.string x.1, .int .u32 x.2]
def codeCells (l : List Nat) : List Value := l.map fun (x : Nat) => .int .u32 (x : Int)
def entCells (l : List Int) : List Value := l.map fun x => .int .i64 x
def fixCells (l : List (Int × Int × Int)) : List Value := l.flatMap fun x => [.int .i64 x.1, .int .i64 x.2.1, .int .i64 x.2.2]
/-- where an object's rows are -/
structure OA where
  iA : Option Addr
  ic : Nat
  tA : Option Addr
  tc : Nat
  cA : Option Addr
  cc : Nat
  eA : Option Addr
  ec : Nat
  fA : Option Addr
  fc : Nat
def obArr (o : Ob) (a : OA) : Array Value := #[.string o.name, .int .u32 o.key, .slice a.iA o.imps.length a.ic, .int .i64 o.vars, .slice a.tA o.text.length a.tc, .slice a.cA o.code.length a.cc, .slice a.eA o.ents.length a.ec, .slice a.fA o.fixs.length a.fc]
def obVal (o : Ob) (a : OA) : Value := .agg (obArr o a)
def isI64 (n : Int) : Prop := -9223372036854775808 ≤ n ∧ n ≤ 9223372036854775807
/-- an object's rows lie in memory -/
structure ObIs (W : World) (o : Ob) (a : OA) : Prop where
  imps : CellsAt W a.iA (impCells o.imps)
  text : CellsAt W a.tA (bv o.text)
  code : CellsAt W a.cA (codeCells o.code)
  ents : CellsAt W a.eA (entCells o.ents)
  fixs : CellsAt W a.fA (fixCells o.fixs)
  icap : o.imps.length ≤ a.ic ∧ a.ic ≤ maxLen
  tcap : o.text.length ≤ a.tc ∧ a.tc ≤ maxLen
  ccap : o.code.length ≤ a.cc ∧ a.cc ≤ maxLen
  ecap : o.ents.length ≤ a.ec ∧ a.ec ≤ maxLen
  fcap : o.fixs.length ≤ a.fc ∧ a.fc ≤ maxLen
  nm : o.name.size ≤ maxLen
  key : o.key < 4294967296
  vars : isI64 o.vars
  inm : ∀ x ∈ o.imps, x.1.size ≤ maxLen ∧ x.2 < 4294967296
  cn : ∀ x ∈ o.code, x < 4294967296
  en : ∀ x ∈ o.ents, isI64 x
  fn : ∀ x ∈ o.fixs, isI64 x.1 ∧ isI64 x.2.1 ∧ isI64 x.2.2
section
variable {W W' : World} {o : Ob} {a : OA}
theorem ObIs.quiet (h : ObIs W o a) (hc : Chg NoB W W') : ObIs W' o a :=
  ⟨h.imps.chg hc fun _ _ => id, h.text.chg hc fun _ _ => id, h.code.chg hc fun _ _ => id, h.ents.chg hc fun _ _ => id, h.fixs.chg hc fun _ _ => id, h.icap, h.tcap, h.ccap, h.ecap, h.fcap, h.nm, h.key, h.vars, h.inm, h.cn, h.en, h.fn⟩
end
/-! ### which may be -/
def impsOk (name : ByteArray) (l : List (ByteArray × Nat)) : Bool :=
  l.all (fun x => objName x.1 && decide (x.1 ≠ name)) && decide (l.map (·.1)).Nodup && objName name && decide (l.length ≤ 12)
def entsOk (n : Nat) (l : List Int) : Bool := l.all fun x => decide (0 ≤ x) && decide (x < (n : Int))
def fixOk (imps code : Nat) (prev : Option Int) (f : Int × Int × Int) : Bool :=
  decide (0 ≤ f.2.2) && decide (f.2.2 ≤ 200) && decide (min f.2.2 1 ≤ f.2.1) && decide (f.2.1 ≤ (imps : Int)) && decide (0 ≤ f.1) && decide (f.1 < (code : Int)) && (!decide (f.2.2 = 0) || decide (f.1 + 1 < (code : Int))) && (match prev with | some p => decide (p < f.1) | none => true)
def fixsOk (imps code : Nat) : Option Int → List (Int × Int × Int) → Bool
  | _, [] => true
  | prev, f :: l => fixOk imps code prev f && fixsOk imps code (some f.1) l
def mayO (o : Ob) : Bool :=
  impsOk o.name o.imps && decide (0 ≤ o.vars) && decide (o.vars % 4 = 0) && decide (o.text.length % 4 = 0) && decide (o.text.length ≤ 8192) && decide (o.vars + o.text.length ≤ 262144) &&
  decide (o.code.length ≤ 16384) && decide (1 ≤ o.ents.length) && decide (o.ents.length ≤ 201) && decide (o.fixs.length ≤ 8192) && entsOk o.code.length o.ents && fixsOk o.imps.length o.code.length none o.fixs
/-! ### an object's bytes -/
def wordB (n : Nat) : List UInt8 := [UInt8.ofNat (n % 256), UInt8.ofNat (n / 256 % 256), UInt8.ofNat (n / 65536 % 256), UInt8.ofNat (n / 16777216 % 256)]
def nameB (s : ByteArray) : List UInt8 := UInt8.ofNat (s.size % 256) :: s.data.toList
def bytesO (o : Ob) : List UInt8 :=
  [79, 49] ++ nameB o.name ++ wordB o.key ++ [UInt8.ofNat (o.imps.length % 256)] ++ o.imps.flatMap (fun x => nameB x.1 ++ wordB x.2) ++ wordB (o.vars.toNat % 4294967296) ++ wordB (o.text.length % 4294967296) ++ o.text ++ wordB (o.code.length % 4294967296) ++
  o.code.flatMap wordB ++ [UInt8.ofNat (o.ents.length % 256)] ++ o.ents.flatMap (fun x => wordB (x.toNat % 4294967296)) ++ wordB (o.fixs.length % 4294967296) ++ o.fixs.flatMap (fun f => wordB (f.1.toNat % 4294967296) ++ [UInt8.ofNat (f.2.1.toNat % 256), UInt8.ofNat (f.2.2.toNat % 256)])
/-! ### the object of bytes -/
/-- what a reader has left, and whether it is bad -/
abbrev Rdr := List UInt8 × Bool
/-- the next bytes -/
def someR (n : Nat) (r : Rdr) : Option (List UInt8) × Rdr :=
  if r.1.length < n then (none, ([], true)) else if r.2 then (none, r) else (some (r.1.take n), (r.1.drop n, false))
def byteR (r : Rdr) : Nat × Rdr := ((((someR 1 r).1.bind (·.head?)).map (·.toNat)).getD 0, (someR 1 r).2)
def sumB : List UInt8 → Nat
  | [] => 0
  | c :: l => c.toNat + 256 * sumB l
def wordR (r : Rdr) : Nat × Rdr := (((someR 4 r).1.map sumB).getD 0, (someR 4 r).2)
def countR (read : Rdr → Nat × Rdr) (most : Nat) (r : Rdr) : Nat × Rdr := if most < (read r).1 then (0, ([], true)) else read r
def bytesR (n : Nat × Rdr) : List UInt8 × Rdr := (((someR n.1 n.2).1).getD [], (someR n.1 n.2).2)
def nameR (r : Rdr) : ByteArray × Rdr := (⟨(bytesR (countR byteR 15 r)).1.toArray⟩, (bytesR (countR byteR 15 r)).2)
/-- so many things, one behind the other -/
def rep {α : Type} (f : Rdr → α × Rdr) : Nat → Rdr → List α × Rdr
  | 0, r => ([], r)
  | n + 1, r => ((rep f n r).1 ++ [(f (rep f n r).2).1], (f (rep f n r).2).2)
def impR (r : Rdr) : (ByteArray × Nat) × Rdr := (((nameR r).1, (wordR (nameR r).2).1), (wordR (nameR r).2).2)
def fixR (r : Rdr) : (Int × Int × Int) × Rdr :=
  let a := countR wordR 16384 r
  let m := byteR a.2
  let e := byteR m.2
  (((a.1 : Int), (m.1 : Int), (e.1 : Int)), e.2)
def entR (r : Rdr) : Int × Rdr := (((countR wordR 16384 r).1 : Int), (countR wordR 16384 r).2)
/-- what is read behind the first two bytes -/
def readO (r0 : Rdr) : Ob × Rdr :=
  let nm := nameR r0
  let ky := wordR nm.2
  let ni := countR byteR 12 ky.2
  let im := rep impR ni.1 ni.2
  let vr := countR wordR 262144 im.2
  let tx := bytesR (countR wordR 8192 vr.2)
  let nc := countR wordR 16384 tx.2
  let cd := rep wordR nc.1 nc.2
  let ne := byteR cd.2
  let en := rep entR ne.1 ne.2
  let nf := countR wordR 8192 en.2
  let fx := rep fixR nf.1 nf.2
  (⟨nm.1, ky.1, im.1, vr.1, tx.1, cd.1, en.1, fx.1⟩, fx.2)
def ofO (b : List UInt8) : Option Ob :=
  if (someR 2 (b, false)).1 = some [79, 49] then
    let q := readO (someR 2 (b, false)).2
    if q.2.2 = false ∧ q.2.1 = [] ∧ mayO q.1 = true then some q.1 else none
  else none
end Go.Proofs.Yteleglkoagnmcaa
