/- What is proved: what tree's functions say of types, declarations, statements, modules, in plain words. Conditions: none. -/
import Derived.Test.YtnihjkcniddepaaKnown
namespace Go.Proofs.Ytnihjkcniddepaa
open Go.RowKit
structure Att2 where
  kind : Int
  mark : Bool
  e : Att
  defn : Bool
  none_ : Bool
  qual : Bool
  typ : Bool
  flds : Bool
  pk : Bool
  par : Bool
  pars : Bool
  imp : Bool
  nm : Bool
  unm : Bool
  decl : Bool
  decls : Bool
  stmt : Bool
  stmts : Bool
def badB : Att2 := ⟨0, false, badA, false, false, false, false, false, false, false, false, false, false, false, false, false, false, false⟩
def namedL (p q : Att2 → Bool) (l : List Att2) : Bool := decide (2 ≤ l.length) && ((l.take (l.length - 1)).all p && q (l.getD (l.length - 1) badB))
def qualM (d : Own) (n : Nat) (l : List Att) : Bool := wordM d n || (isT d n 12 pNK 1 && (l.getD 0 badA).word)
def typM (d : Own) (n : Nat) (l : List Att) (m : List Att2) : Bool :=
  if d.kind == 14 then isT d n d.kind pK 2 && ((l.getD 0 badA).exp && (m.getD 1 badB).typ)
  else if d.kind == 15 then isT d n d.kind pK (-1) && m.all Att2.flds
  else if d.kind == 17 then isT d n d.kind pK 1 && (m.getD 0 badB).typ
  else qualM d n l
def Att2.word (a : Att2) : Bool := a.e.word
def fldsM (d : Own) (n : Nat) (m : List Att2) : Bool := isT d n 16 pK (-1) && namedL Att2.word Att2.typ m
def pkM (d : Own) (n : Nat) (l : List Att) (m : List Att2) : Bool := qualM d n l || (isT d n 13 pK 1 && (m.getD 0 badB).qual)
def parM (d : Own) (n : Nat) (m : List Att2) : Bool := isT d n 9 pMK (-1) && namedL Att2.word Att2.pk m
def parsM (d : Own) (n : Nat) (m : List Att2) : Bool := isT d n 8 pK (-1) && m.all Att2.par
def impM (d : Own) (n : Nat) (m : List Att2) : Bool := isT d n 2 pK (-1) && m.all Att2.word
def Att2.dm (a : Att2) : Bool := (a.kind != 10) || !a.mark
def Att2.um (a : Att2) : Bool := !a.mark && ((a.kind != 6) || a.nm)
def ordL : Int → List Att2 → Bool
  | _, [] => true
  | last, a :: r => (decide (last ≤ a.kind) && a.decl) && ordL a.kind r
def declsM (d : Own) (n : Nat) (m : List Att2) : Bool := isT d n 3 pK (-1) && ordL 4 m
def procM (l : List Att) (m : List Att2) : Bool :=
  (m.getD 0 badB).pars && (((m.getD 1 badB).none_ || (m.getD 1 badB).qual) && ((m.getD 2 badB).decls && ((m.getD 2 badB).unm && ((m.getD 3 badB).stmts && ((m.getD 4 badB).none_ || (l.getD 4 badA).exp)))))
def declM (d : Own) (n : Nat) (l : List Att) (m : List Att2) : Bool :=
  if d.kind == 4 then isT d n d.kind pNMK 1 && (l.getD 0 badA).exp
  else if d.kind == 5 then isT d n d.kind pNMK 1 && (m.getD 0 badB).typ
  else if d.kind == 6 then isT d n d.kind pK (-1) && namedL Att2.defn Att2.typ m
  else if d.kind == 7 then isT d n d.kind pNMK 5 && procM l m
  else false
def Att2.exp (a : Att2) : Bool := a.e.exp
def brL : List Att2 → Bool
  | [] => true
  | [x] => x.stmts
  | x :: y :: r => x.exp && (y.stmts && brL r)
def stmtM (d : Own) (n : Nat) (l : List Att) (m : List Att2) : Bool :=
  if d.kind == 20 then isT d n d.kind pK 2 && ((l.getD 0 badA).des && (l.getD 1 badA).exp)
  else if d.kind == 21 then levM d n l == 0
  else if d.kind == 22 then isT d n d.kind pK (-1) && (decide (2 ≤ n) && brL m)
  else if d.kind == 23 then isT d n d.kind pK 2 && ((l.getD 0 badA).exp && (m.getD 1 badB).stmts)
  else if d.kind == 24 then isT d n d.kind pK 2 && ((m.getD 0 badB).stmts && (l.getD 1 badA).exp)
  else false
def stmtsM (d : Own) (n : Nat) (m : List Att2) : Bool := isT d n 19 pK (-1) && m.all Att2.stmt
def mk2 (d : Own) (n : Nat) (l : List Att) (m : List Att2) : Att2 :=
  ⟨d.kind, d.mark, mkA d n l, isT d n 10 pNM 0, isT d n 18 p0 0, qualM d n l, typM d n l m, fldsM d n m, pkM d n l m, parM d n m, parsM d n m, impM d n m, m.all Att2.dm, m.all Att2.um, declM d n l m, declsM d n m, stmtM d n l m, stmtsM d n m⟩
namespace F
def atts2 : F → List Att2
  | .nil => []
  | .cons d ks r => mk2 d ks.len ks.atts ks.atts2 :: r.atts2
theorem atts2_len (f : F) : f.atts2.length = f.len := by
  induction f with
  | nil => rfl
  | cons d ks r _ ih => simp [atts2, len, ih]
theorem atts2_take (f : F) : ∀ k, (f.take k).atts2 = f.atts2.take k := by
  induction f with
  | nil => intro k; cases k <;> rfl
  | cons d ks r _ ih =>
    intro k
    cases k with
    | zero => rfl
    | succ k => simp [take, atts2, ih]
theorem atts2_drop (f : F) : ∀ k, (f.drop k).atts2 = f.atts2.drop k := by
  induction f with
  | nil => intro k; rw [drop_nil]; simp [atts2]
  | cons d ks r _ ih =>
    intro k
    cases k with
    | zero => rfl
    | succ k => simp [drop, atts2, ih]
end F
def att2 (d : Own) (ks : F) : Att2 := mk2 d ks.len ks.atts ks.atts2
theorem F.all_att2 (P : Att2 → Bool) (f : F) : f.atts2.all P = f.all fun d ks => P (att2 d ks) := by
  induction f with
  | nil => rfl
  | cons d ks r _ ih => simp only [F.atts2, List.all_cons, F.all, ih]; rfl
theorem F.at_att2 (f : F) (k : Nat) {d : Own} {ks : F} (h : f.at? k = some (d, ks)) : f.atts2.getD k badB = att2 d ks := by
  induction f generalizing k with
  | nil => cases h
  | cons d0 k0 r0 _ ih =>
    cases k with
    | zero => simp only [F.at?] at h; injection h with h; injection h with h1 h2; subst h1; subst h2; rfl
    | succ k => simpa [F.atts2] using ih k h
def defT (d : Own) (ks : F) : Bool := (att2 d ks).defn
def noneT (d : Own) (ks : F) : Bool := (att2 d ks).none_
def qualT (d : Own) (ks : F) : Bool := (att2 d ks).qual
def typT (d : Own) (ks : F) : Bool := (att2 d ks).typ
def fldsT (d : Own) (ks : F) : Bool := (att2 d ks).flds
def pkT (d : Own) (ks : F) : Bool := (att2 d ks).pk
def parT (d : Own) (ks : F) : Bool := (att2 d ks).par
def declT (d : Own) (ks : F) : Bool := (att2 d ks).decl
def declsT (d : Own) (ks : F) : Bool := (att2 d ks).decls
def stmtT (d : Own) (ks : F) : Bool := (att2 d ks).stmt
def stmtsT (d : Own) (ks : F) : Bool := (att2 d ks).stmts
def dmT (d : Own) (ks : F) : Bool := (att2 d ks).dm
def umT (d : Own) (ks : F) : Bool := (att2 d ks).um
def unmT (d : Own) (ks : F) : Bool := (att2 d ks).unm
def mayT (d : Own) (ks : F) : Bool := isT d ks.len 1 pNK 3 && ((ks.atts2.getD 0 badB).imp && ((ks.atts2.getD 1 badB).decls && (ks.atts2.getD 2 badB).stmts))
theorem cf_word (args : Array Value) (w : World) : (callFunc 45 args).run Try.prog w = .ok (.enter 45 args) w := by kernel_rfl
theorem cf_typ (args : Array Value) (w : World) : (callFunc 32 args).run Try.prog w = .ok (.enter 32 args) w := by kernel_rfl
theorem cf_flds (args : Array Value) (w : World) : (callFunc 50 args).run Try.prog w = .ok (.enter 50 args) w := by kernel_rfl
theorem cf_pk (args : Array Value) (w : World) : (callFunc 69 args).run Try.prog w = .ok (.enter 69 args) w := by kernel_rfl
theorem cf_par (args : Array Value) (w : World) : (callFunc 62 args).run Try.prog w = .ok (.enter 62 args) w := by kernel_rfl
theorem cf_def (args : Array Value) (w : World) : (callFunc 61 args).run Try.prog w = .ok (.enter 61 args) w := by kernel_rfl
theorem cf_decls1 (args : Array Value) (w : World) : (callFunc 56 args).run Try.prog w = .ok (.enter 56 args) w := by kernel_rfl
theorem cf_um (args : Array Value) (w : World) : (callFunc 70 args).run Try.prog w = .ok (.enter 70 args) w := by kernel_rfl
theorem cf_dm (args : Array Value) (w : World) : (callFunc 71 args).run Try.prog w = .ok (.enter 71 args) w := by kernel_rfl
theorem cf_stmt (args : Array Value) (w : World) : (callFunc 47 args).run Try.prog w = .ok (.enter 47 args) w := by kernel_rfl
end Go.Proofs.Ytnihjkcniddepaa
