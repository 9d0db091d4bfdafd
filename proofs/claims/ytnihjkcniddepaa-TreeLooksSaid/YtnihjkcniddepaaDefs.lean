/- What is proved: what tree's functions say of nodes, in plain words. Conditions: none. -/
import Derived.Test.YtnihjkcniddepaaAll
namespace Go.Proofs.Ytnihjkcniddepaa
open Go.RowKit
def pN : ByteArray := ⟨#[78]⟩
def pNK : ByteArray := ⟨#[78, 75]⟩
def pNM : ByteArray := ⟨#[78, 77]⟩
def pNMK : ByteArray := ⟨#[78, 77, 75]⟩
def pK : ByteArray := ⟨#[75]⟩
def pV : ByteArray := ⟨#[86]⟩
def pMK : ByteArray := ⟨#[77, 75]⟩
def p0 : ByteArray := ⟨#[]⟩
/-- what is said of a node -/
structure Att where
  word : Bool
  des : Bool
  fac : Bool
  lev : Int
def Att.exp (a : Att) : Bool := decide (0 ≤ a.lev)
def Att.within (a : Att) (most : Int) : Bool := decide (0 ≤ a.lev) && decide (a.lev ≤ most)
def badA : Att := ⟨false, false, false, -1⟩
def wordM (d : Own) (n : Nat) : Bool := isT d n 11 pN 0
def desM (d : Own) (n : Nat) (l : List Att) : Bool :=
  if d.kind == 36 then isT d n d.kind pNK 1 && (l.getD 0 badA).des
  else if d.kind == 37 then isT d n d.kind pK 2 && ((l.getD 0 badA).des && (l.getD 1 badA).exp)
  else if d.kind == 38 then isT d n d.kind pK 1 && (l.getD 0 badA).des
  else wordM d n
/-- may a text be a string's? -/
def textT (s : ByteArray) : Bool := (s.data.toList.all fun c => !(decide (c < 32) || decide (126 < c) || c == 34)) && decide (s.size ≤ 63)
def facM (d : Own) (n : Nat) (l : List Att) : Bool :=
  if d.kind == 21 then isT d n d.kind pK (-1) && (decide (1 ≤ n) && ((l.getD 0 badA).des && (l.drop 1).all Att.exp))
  else if d.kind == 25 || d.kind == 26 then isT d n d.kind pV 0 && (d.kind == 25 || decide (d.val < 256))
  else if d.kind == 27 then bareT d n pN && textT d.nm
  else if d.kind == 28 || d.kind == 29 || d.kind == 30 then isT d n d.kind p0 0
  else if d.kind == 31 then isT d n d.kind pK (-1) && l.all Att.exp
  else if d.kind == 32 then isT d n d.kind pK 1 && (l.getD 0 badA).exp
  else if d.kind == 33 then isT d n d.kind pK 1 && (l.getD 0 badA).fac
  else desM d n l
def opKeys : List (List UInt8 × Int) := [([42], 1), ([47], 1), ([68, 73, 86], 1), ([77, 79, 68], 1), ([38], 1), ([43], 2), ([45], 2), ([79, 82], 2), ([61], 3), ([35], 3), ([60], 3), ([60, 61], 3), ([62], 3), ([62, 61], 3), ([73, 78], 3)]
/-- an operator's level; 0: it is none -/
def opL (s : ByteArray) : Int := ((opKeys.find? fun p => p.1 == s.data.toList).map (·.2)).getD 0
def signT (s : ByteArray) : Bool := s.data.toList == [43] || s.data.toList == [45]
def levM (d : Own) (n : Nat) (l : List Att) : Int :=
  if d.kind == 34 then (if bareT d n pNK && (signT d.nm && (decide (n = 1) && (l.getD 0 badA).within 1)) then 2 else -1)
  else if d.kind == 35 then (if !(opL d.nm == 0) && (bareT d n pNK && (decide (n = 2) && ((l.getD 0 badA).within (min (opL d.nm) 2) && (l.getD 1 badA).within (opL d.nm - 1)))) then opL d.nm else -1)
  else if facM d n l then 0 else -1
def mkA (d : Own) (n : Nat) (l : List Att) : Att := ⟨wordM d n, desM d n l, facM d n l, levM d n l⟩
namespace F
def atts : F → List Att
  | .nil => []
  | .cons d ks r => mkA d ks.len ks.atts :: r.atts
theorem atts_len (f : F) : f.atts.length = f.len := by
  induction f with
  | nil => rfl
  | cons d ks r _ ih => simp [atts, len, ih]
end F
def att (d : Own) (ks : F) : Att := mkA d ks.len ks.atts
def wordT (d : Own) (ks : F) : Bool := wordM d ks.len
def desT (d : Own) (ks : F) : Bool := desM d ks.len ks.atts
def facT (d : Own) (ks : F) : Bool := facM d ks.len ks.atts
def levT (d : Own) (ks : F) : Int := levM d ks.len ks.atts
def expT (d : Own) (ks : F) : Bool := decide (0 ≤ levT d ks)
def withinT (d : Own) (ks : F) (most : Int) : Bool := decide (0 ≤ levT d ks) && decide (levT d ks ≤ most)
theorem F.all_exp (f : F) : f.atts.all Att.exp = f.all expT := by
  induction f with
  | nil => rfl
  | cons d ks r _ ih => simp only [F.atts, List.all_cons, F.all, ih]; rfl

/-- a function's contract at a node: it says what p says -/
def MayC (g : FuncId) (p : Own → F → Bool) (d : Own) (ks : F) : Prop :=
  ∀ (kA : Option Addr) (kn kc : Nat) (W : World), Var0 W → IsN W d ks kA kn kc → Calls Try.prog g #[nodeV d kA kn kc] W fun e w' => e = .returned (.bool (p d ks)) ∧ Chg NoB W w'
def LevC (d : Own) (ks : F) : Prop :=
  ∀ (kA : Option Addr) (kn kc : Nat) (W : World), Var0 W → IsN W d ks kA kn kc → Calls Try.prog 15 #[nodeV d kA kn kc] W fun e w' => e = .returned (.int .i64 (levT d ks)) ∧ Chg NoB W w'

def qOf (p : Own → F → Bool) (f : F) (k : Nat) : Bool := ((f.at? k).map fun x => p x.1 x.2).getD true
theorem allN_qOf (p : Own → F → Bool) (f : F) (k : Nat) (hk : k ≤ f.len) : allN (qOf p f) k = (f.take k).all p := by
  induction k with
  | zero => cases f <;> rfl
  | succ k ih =>
    obtain ⟨d, ks, r, h⟩ := f.drop_of_lt k (by omega)
    rw [F.all_eq p f k h, allN, ih (by omega)]
    simp [qOf, F.at_drop f k h]
theorem all_c (g : FuncId) (hg : ∀ args w, (callFunc g args).run Try.prog w = .ok (.enter g args) w) (p : Own → F → Bool) (f : F) (hf : f.All (MayC g p)) (A : Option Addr) (n c : Nat) (hn : n ≤ maxLen) (w : World) (hv : Var0 w) (hl : IsL w A n f) :
    Calls Try.prog 44 #[.slice A n c, .func (.func g) #[] #[]] w fun e w' => e = .returned (.bool (f.all p)) ∧ Chg NoB w w' := by
  have hlen := hl.len
  refine (all_any g #[] (qOf p f) NoB (fun _ W => Chg NoB w W) w A n c f hn hg (fun _ _ _ h1 h2 => h1.trans h2) (fun W hW => hl.chg hW) (Chg.refl _ _) ?_).mono ?_
  · intro k d ks r hd hk W kA kn kc hW _ hN
    have hc := F.All.at_ hf (F.at_drop f k hd) kA kn kc W (hv.chg hW) hN
    refine hc.mono ?_
    rintro e w' ⟨rfl, hc⟩
    refine ⟨?_, hW.trans hc, fun _ => hW.trans hc⟩
    simp [qOf, F.at_drop f k hd]
  · rintro e w' ⟨rfl, hc, _⟩
    refine ⟨?_, hc⟩
    rw [hlen, allN_qOf p f f.len (Nat.le_refl _), F.take_len]
theorem cf_MayExpr (args : Array Value) (w : World) : (callFunc 28 args).run Try.prog w = .ok (.enter 28 args) w := by
  kernel_rfl
end Go.Proofs.Ytnihjkcniddepaa
