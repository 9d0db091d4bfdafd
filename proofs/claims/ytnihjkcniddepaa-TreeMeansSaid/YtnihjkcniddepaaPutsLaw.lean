/- What is proved: the plain law of TreePuts: a part put in the place of another one of the same sort keeps whatever is said of the nodes above. Conditions: none. -/
import Derived.Test.YtnihjkcniddepaaMay
namespace Go.Proofs.Ytnihjkcniddepaa
open Go.RowKit
def LeL {α : Type} (R : α → α → Prop) : List α → List α → Prop
  | [], [] => True
  | a :: l, b :: m => R a b ∧ LeL R l m
  | _, _ => False
theorem LeL.len {α : Type} {R : α → α → Prop} : ∀ {l m : List α}, LeL R l m → m.length = l.length := by
  intro l
  induction l with
  | nil => intro m h; cases m with
    | nil => rfl
    | cons _ _ => exact h.elim
  | cons a l ih => intro m h; cases m with
    | nil => exact h.elim
    | cons b m => simp [ih h.2]
theorem LeL.all {α : Type} {R : α → α → Prop} {p : α → Bool} (hp : ∀ a b, R a b → p a = true → p b = true) : ∀ {l m : List α}, LeL R l m → l.all p = true → m.all p = true := by
  intro l
  induction l with
  | nil => intro m h _; cases m with
    | nil => rfl
    | cons _ _ => exact h.elim
  | cons a l ih => intro m h hl; cases m with
    | nil => exact h.elim
    | cons b m =>
      simp only [List.all_cons, Bool.and_eq_true] at hl ⊢
      exact ⟨hp _ _ h.1 hl.1, ih h.2 hl.2⟩
theorem LeL.getD {α : Type} {R : α → α → Prop} {x : α} (hx : R x x) : ∀ {l m : List α}, LeL R l m → ∀ k, R (l.getD k x) (m.getD k x) := by
  intro l
  induction l with
  | nil => intro m h k; cases m with
    | nil => simpa using hx
    | cons _ _ => exact h.elim
  | cons a l ih => intro m h k; cases m with
    | nil => exact h.elim
    | cons b m =>
      cases k with
      | zero => exact h.1
      | succ k => simpa using ih h.2 k
theorem LeL.drop {α : Type} {R : α → α → Prop} : ∀ {l m : List α}, LeL R l m → ∀ k, LeL R (l.drop k) (m.drop k) := by
  intro l
  induction l with
  | nil => intro m h k; cases m with
    | nil => simp [LeL]
    | cons _ _ => exact h.elim
  | cons a l ih => intro m h k; cases m with
    | nil => exact h.elim
    | cons b m =>
      cases k with
      | zero => exact h
      | succ k => simpa using ih h.2 k
theorem LeL.take {α : Type} {R : α → α → Prop} : ∀ {l m : List α}, LeL R l m → ∀ k, LeL R (l.take k) (m.take k) := by
  intro l
  induction l with
  | nil => intro m h k; cases m with
    | nil => simp [LeL]
    | cons _ _ => exact h.elim
  | cons a l ih => intro m h k; cases m with
    | nil => exact h.elim
    | cons b m =>
      cases k with
      | zero => simp [LeL]
      | succ k => exact ⟨h.1, ih h.2 k⟩
theorem LeL.refl {α : Type} {R : α → α → Prop} (hr : ∀ a, R a a) : ∀ l : List α, LeL R l l
  | [] => True.intro
  | a :: l => ⟨hr a, LeL.refl hr l⟩
structure LeA (a b : Att) : Prop where
  word : a.word = true → b.word = true
  des : a.des = true → b.des = true
  fac : a.fac = true → b.fac = true
  lev : 0 ≤ a.lev → b.lev = a.lev
theorem LeA.refl (a : Att) : LeA a a := ⟨id, id, id, fun _ => rfl⟩
theorem LeA.exp {a b : Att} (h : LeA a b) (ha : a.exp = true) : b.exp = true := by
  have h0 : 0 ≤ a.lev := of_decide_eq_true ha
  show decide (0 ≤ b.lev) = true
  rw [h.lev h0]; exact ha
theorem LeA.within {a b : Att} (h : LeA a b) (k : Int) (ha : a.within k = true) : b.within k = true := by
  unfold Att.within at *
  rw [Bool.and_eq_true] at ha
  rw [h.lev (of_decide_eq_true ha.1), Bool.and_eq_true]; exact ha
section
variable {d : Own} {n : Nat} {l l' : List Att}
theorem mono_des (h : LeL LeA l l') (hd : desM d n l = true) : desM d n l' = true := by
  have g := fun k => LeL.getD (LeA.refl badA) h k
  unfold desM at *
  split at hd
  · rename_i c; rw [if_pos c]; rw [Bool.and_eq_true] at *; exact ⟨hd.1, (g 0).des hd.2⟩
  · rename_i c
    rw [if_neg c]
    split at hd
    · rename_i c; rw [if_pos c]; simp only [Bool.and_eq_true] at *; exact ⟨hd.1, (g 0).des hd.2.1, (g 1).exp hd.2.2⟩
    · rename_i c
      rw [if_neg c]
      split at hd
      · rename_i c; rw [if_pos c]; rw [Bool.and_eq_true] at *; exact ⟨hd.1, (g 0).des hd.2⟩
      · rename_i c; rw [if_neg c]; exact hd
theorem mono_fac (h : LeL LeA l l') (hd : facM d n l = true) : facM d n l' = true := by
  have g := fun k => LeL.getD (LeA.refl badA) h k
  unfold facM at *
  by_cases c : (d.kind == 21) = true
  · rw [if_pos c] at *
    simp only [Bool.and_eq_true] at *
    exact ⟨hd.1, hd.2.1, (g 0).des hd.2.2.1, (h.drop 1).all (fun _ _ h => h.exp) hd.2.2.2⟩
  rw [if_neg c] at *
  by_cases c : (d.kind == 25 || d.kind == 26) = true
  · rw [if_pos c] at *; exact hd
  rw [if_neg c] at *
  by_cases c : (d.kind == 27) = true
  · rw [if_pos c] at *; exact hd
  rw [if_neg c] at *
  by_cases c : (d.kind == 28 || d.kind == 29 || d.kind == 30) = true
  · rw [if_pos c] at *; exact hd
  rw [if_neg c] at *
  by_cases c : (d.kind == 31) = true
  · rw [if_pos c] at *; rw [Bool.and_eq_true] at *; exact ⟨hd.1, h.all (fun _ _ h => h.exp) hd.2⟩
  rw [if_neg c] at *
  by_cases c : (d.kind == 32) = true
  · rw [if_pos c] at *; rw [Bool.and_eq_true] at *; exact ⟨hd.1, (g 0).exp hd.2⟩
  rw [if_neg c] at *
  by_cases c : (d.kind == 33) = true
  · rw [if_pos c] at *; rw [Bool.and_eq_true] at *; exact ⟨hd.1, (g 0).fac hd.2⟩
  rw [if_neg c] at *
  exact mono_des h hd
theorem mono_lev (h : LeL LeA l l') (hd : 0 ≤ levM d n l) : levM d n l' = levM d n l := by
  have g := fun k => LeL.getD (LeA.refl badA) h k
  unfold levM at *
  by_cases c : (d.kind == 34) = true
  · rw [if_pos c] at *
    rw [if_pos c]
    split at hd
    · rename_i c2
      rw [if_pos c2]
      simp only [Bool.and_eq_true] at c2
      rw [if_pos (by simp only [Bool.and_eq_true]; exact ⟨c2.1, c2.2.1, c2.2.2.1, (g 0).within _ c2.2.2.2⟩)]
    · omega
  rw [if_neg c] at *
  rw [if_neg c]
  by_cases c : (d.kind == 35) = true
  · rw [if_pos c] at *
    rw [if_pos c]
    split at hd
    · rename_i c2
      rw [if_pos c2]
      simp only [Bool.and_eq_true] at c2
      rw [if_pos (by simp only [Bool.and_eq_true]; exact ⟨c2.1, c2.2.1, c2.2.2.1, (g 0).within _ c2.2.2.2.1, (g 1).within _ c2.2.2.2.2⟩)]
    · omega
  rw [if_neg c] at *
  rw [if_neg c]
  split at hd
  · rename_i c2; rw [if_pos c2, if_pos (mono_fac h c2)]
  · omega
theorem mono_att (h : LeL LeA l l') : LeA (mkA d n l) (mkA d n l') := ⟨id, mono_des h, mono_fac h, mono_lev h⟩
end
structure Le2 (a b : Att2) : Prop where
  e : LeA a.e b.e
  defn : a.defn = true → b.defn = true
  none_ : a.none_ = true → b.none_ = true
  qual : a.qual = true → b.qual = true
  typ : a.typ = true → b.typ = true
  flds : a.flds = true → b.flds = true
  pk : a.pk = true → b.pk = true
  par : a.par = true → b.par = true
  pars : a.pars = true → b.pars = true
  imp : a.imp = true → b.imp = true
  dm : a.dm = true → b.dm = true
  um : a.um = true → b.um = true
  unm : a.decls = true → a.unm = true → b.unm = true
  decl : a.decl = true → b.decl = true ∧ b.kind = a.kind
  decls : a.decls = true → b.decls = true
  stmt : a.stmt = true → b.stmt = true
  stmts : a.stmts = true → b.stmts = true
theorem Le2.refl (a : Att2) : Le2 a a := ⟨LeA.refl _, id, id, id, id, id, id, id, id, id, id, id, fun _ => id, fun h => ⟨h, rfl⟩, id, id, id⟩
section
variable {d : Own} {n : Nat} {l l' : List Att} {m m' : List Att2}
theorem mono_qual (h : LeL LeA l l') (hd : qualM d n l = true) : qualM d n l' = true := by
  have g := fun k => LeL.getD (LeA.refl badA) h k
  unfold qualM at *
  simp only [Bool.or_eq_true, Bool.and_eq_true] at *
  exact hd.imp id fun x => ⟨x.1, (g 0).word x.2⟩
theorem mono_named {p q : Att2 → Bool} (hp : ∀ a b, Le2 a b → p a = true → p b = true) (hq : ∀ a b, Le2 a b → q a = true → q b = true) (h2 : LeL Le2 m m') (hd : namedL p q m = true) : namedL p q m' = true := by
  unfold namedL at *
  rw [h2.len]
  simp only [Bool.and_eq_true] at *
  exact ⟨hd.1, (h2.take _).all hp hd.2.1, hq _ _ (LeL.getD (Le2.refl badB) h2 _) hd.2.2⟩
theorem mono_typ (h : LeL LeA l l') (h2 : LeL Le2 m m') (hd : typM d n l m = true) : typM d n l' m' = true := by
  have g := fun k => LeL.getD (LeA.refl badA) h k
  have g2 := fun k => LeL.getD (Le2.refl badB) h2 k
  unfold typM at *
  by_cases c : (d.kind == 14) = true
  · rw [if_pos c] at *; simp only [Bool.and_eq_true] at *; exact ⟨hd.1, (g 0).exp hd.2.1, (g2 1).typ hd.2.2⟩
  rw [if_neg c] at *
  by_cases c : (d.kind == 15) = true
  · rw [if_pos c] at *; simp only [Bool.and_eq_true] at *; exact ⟨hd.1, h2.all (fun _ _ h => h.flds) hd.2⟩
  rw [if_neg c] at *
  by_cases c : (d.kind == 17) = true
  · rw [if_pos c] at *; simp only [Bool.and_eq_true] at *; exact ⟨hd.1, (g2 0).typ hd.2⟩
  rw [if_neg c] at *
  exact mono_qual h hd
theorem mono_ord : ∀ {m m' : List Att2} {last : Int}, LeL Le2 m m' → ordL last m = true → ordL last m' = true := by
  intro m
  induction m with
  | nil => intro m' last h _; cases m' with
    | nil => rfl
    | cons _ _ => exact h.elim
  | cons a r ih => intro m' last h hd; cases m' with
    | nil => exact h.elim
    | cons b r' =>
      simp only [ordL, Bool.and_eq_true] at *
      have hk := h.1.decl hd.1.2
      rw [hk.2]
      exact ⟨⟨hd.1.1, hk.1⟩, ih h.2 hd.2⟩
theorem mono_br_ : ∀ (n : Nat) {m m' : List Att2}, m.length ≤ n → LeL Le2 m m' → brL m = true → brL m' = true := by
  intro n
  induction n with
  | zero =>
    intro m m' hn h hd
    have hm : m = [] := List.eq_nil_of_length_eq_zero (by omega)
    subst hm
    have hm' : m' = [] := List.eq_nil_of_length_eq_zero (by rw [h.len]; rfl)
    subst hm'
    rfl
  | succ n ih =>
    intro m m' hn h hd
    cases m with
    | nil =>
      have hm' : m' = [] := List.eq_nil_of_length_eq_zero (by rw [h.len]; rfl)
      subst hm'
      rfl
    | cons x r =>
      cases m' with
      | nil => exact h.elim
      | cons x' r' =>
        cases r with
        | nil =>
          have hr' : r' = [] := List.eq_nil_of_length_eq_zero (by rw [h.2.len]; rfl)
          subst hr'
          exact h.1.stmts hd
        | cons y r =>
          cases r' with
          | nil => exact h.2.elim
          | cons y' r' =>
            simp only [brL, Bool.and_eq_true] at *
            exact ⟨h.1.e.exp hd.1, h.2.1.stmts hd.2.1, ih (by simp at hn; omega) h.2.2 hd.2.2⟩
theorem mono_br {m m' : List Att2} (h : LeL Le2 m m') (hd : brL m = true) : brL m' = true := mono_br_ m.length (Nat.le_refl _) h hd
theorem mono_decl (h : LeL LeA l l') (h2 : LeL Le2 m m') (hd : declM d n l m = true) : declM d n l' m' = true := by
  have g := fun k => LeL.getD (LeA.refl badA) h k
  have g2 := fun k => LeL.getD (Le2.refl badB) h2 k
  unfold declM at *
  by_cases c : (d.kind == 4) = true
  · rw [if_pos c] at *; simp only [Bool.and_eq_true] at *; exact ⟨hd.1, (g 0).exp hd.2⟩
  rw [if_neg c] at *
  by_cases c : (d.kind == 5) = true
  · rw [if_pos c] at *; simp only [Bool.and_eq_true] at *; exact ⟨hd.1, (g2 0).typ hd.2⟩
  rw [if_neg c] at *
  by_cases c : (d.kind == 6) = true
  · rw [if_pos c] at *; simp only [Bool.and_eq_true] at *; exact ⟨hd.1, mono_named (fun _ _ h => h.defn) (fun _ _ h => h.typ) h2 hd.2⟩
  rw [if_neg c] at *
  by_cases c : (d.kind == 7) = true
  · rw [if_pos c] at *
    unfold procM at *
    simp only [Bool.and_eq_true, Bool.or_eq_true] at *
    obtain ⟨h0, h1, h3, h4, h5, h6, h7⟩ := hd
    exact ⟨h0, (g2 0).pars h1, h3.imp (g2 1).none_ (g2 1).qual, (g2 2).decls h4, (g2 2).unm h4 h5, (g2 3).stmts h6, h7.imp (g2 4).none_ (g 4).exp⟩
  rw [if_neg c] at hd
  cases hd
theorem mono_stmt (h : LeL LeA l l') (h2 : LeL Le2 m m') (hd : stmtM d n l m = true) : stmtM d n l' m' = true := by
  have g := fun k => LeL.getD (LeA.refl badA) h k
  have g2 := fun k => LeL.getD (Le2.refl badB) h2 k
  unfold stmtM at *
  by_cases c : (d.kind == 20) = true
  · rw [if_pos c] at *; simp only [Bool.and_eq_true] at *; exact ⟨hd.1, (g 0).des hd.2.1, (g 1).exp hd.2.2⟩
  rw [if_neg c] at *
  by_cases c : (d.kind == 21) = true
  · rw [if_pos c] at *
    have hz : levM d n l = 0 := by simpa using hd
    rw [mono_lev h (by omega)]; exact hd
  rw [if_neg c] at *
  by_cases c : (d.kind == 22) = true
  · rw [if_pos c] at *; simp only [Bool.and_eq_true] at *; exact ⟨hd.1, hd.2.1, mono_br h2 hd.2.2⟩
  rw [if_neg c] at *
  by_cases c : (d.kind == 23) = true
  · rw [if_pos c] at *; simp only [Bool.and_eq_true] at *; exact ⟨hd.1, (g 0).exp hd.2.1, (g2 1).stmts hd.2.2⟩
  rw [if_neg c] at *
  by_cases c : (d.kind == 24) = true
  · rw [if_pos c] at *; simp only [Bool.and_eq_true] at *; exact ⟨hd.1, (g2 0).stmts hd.2.1, (g 1).exp hd.2.2⟩
  rw [if_neg c] at hd
  cases hd
theorem mono_all (h : LeL LeA l l') (h2 : LeL Le2 m m') : Le2 (mk2 d n l m) (mk2 d n l' m') := by
  have g2 := fun k => LeL.getD (Le2.refl badB) h2 k
  refine ⟨mono_att h, id, id, mono_qual h, mono_typ h h2, ?_, ?_, ?_, ?_, ?_, ?_, ?_, ?_, fun x => ⟨mono_decl h h2 x, rfl⟩, ?_, mono_stmt h h2, ?_⟩
  · intro x; simp only [mk2, fldsM, Bool.and_eq_true] at *; exact ⟨x.1, mono_named (fun _ _ h => h.e.word) (fun _ _ h => h.typ) h2 x.2⟩
  · intro x; simp only [mk2, pkM, Bool.and_eq_true, Bool.or_eq_true] at *; exact x.imp (mono_qual h) fun y => ⟨y.1, (g2 0).qual y.2⟩
  · intro x; simp only [mk2, parM, Bool.and_eq_true] at *; exact ⟨x.1, mono_named (fun _ _ h => h.e.word) (fun _ _ h => h.pk) h2 x.2⟩
  · intro x; simp only [mk2, parsM, Bool.and_eq_true] at *; exact ⟨x.1, h2.all (fun _ _ h => h.par) x.2⟩
  · intro x; simp only [mk2, impM, Bool.and_eq_true] at *; exact ⟨x.1, h2.all (fun _ _ h => h.e.word) x.2⟩
  · exact id
  · intro x; simp only [Att2.um, mk2, Bool.and_eq_true, Bool.or_eq_true] at *; exact ⟨x.1, x.2.imp id (h2.all (fun _ _ h => h.dm))⟩
  · intro _ x; simp only [mk2] at *; exact h2.all (fun _ _ h => h.um) x
  · intro x; simp only [mk2, declsM, Bool.and_eq_true] at *; exact ⟨x.1, mono_ord h2 x.2⟩
  · intro x; simp only [mk2, stmtsM, Bool.and_eq_true] at *; exact ⟨x.1, h2.all (fun _ _ h => h.stmt) x.2⟩
end
theorem isT_ne_ {d : Own} {n : Nat} {k : Int} {p : ByteArray} {c : Int} (h : d.kind ≠ k) : isT d n k p c = false := by
  unfold isT
  rw [show (d.kind == k) = false by simpa using h]
  rfl
theorem isT_kind_ {d : Own} {n : Nat} {k : Int} {p : ByteArray} {c : Int} (h : isT d n k p c = true) : d.kind = k := by
  by_cases hk : d.kind = k
  · exact hk
  · rw [isT_ne_ hk] at h; cases h
def parenD : Own := ⟨32, ⟨#[]⟩, 0, false⟩
theorem paren_is : isT parenD 1 32 pK 1 = true := by
  unfold isT bareT parenD
  have h1 : hasP pK 78 = false := by decide +kernel
  have h2 : hasP pK 75 = true := by decide +kernel
  rw [h1, h2]; simp
theorem fac_paren {d0 : Own} {k0 : F} (h : expT d0 k0 = true) : facM parenD 1 [att d0 k0] = true := by
  unfold facM
  have e : isT parenD 1 parenD.kind pK 1 = true := paren_is
  have h' : (att d0 k0).exp = true := h
  have c1 : (parenD.kind == 21) = false := rfl
  have c2 : (parenD.kind == 25 || parenD.kind == 26) = false := rfl
  have c3 : (parenD.kind == 27) = false := rfl
  have c4 : (parenD.kind == 28 || parenD.kind == 29 || parenD.kind == 30) = false := rfl
  have c5 : (parenD.kind == 31) = false := rfl
  have c6 : (parenD.kind == 32) = true := rfl
  simp only [c1, c2, c3, c4, c5, c6, Bool.false_eq_true, if_false, if_true, e, List.getD_cons_zero, h', Bool.true_and]
theorem base_paren {d d0 : Own} {ks k0 : F} (h1 : 25 ≤ d.kind) (h2 : d.kind ≤ 33) (h : expT d0 k0 = true) : Le2 (att2 d ks) (att2 parenD (.cons d0 k0 .nil)) := by
  have ne : ∀ k : Int, k < 25 ∨ 33 < k → d.kind ≠ k := fun k hk e => by omega
  have nb : ∀ k : Int, k < 25 ∨ 33 < k → (d.kind == k) = false := fun k hk => by simpa using ne k hk
  have is : ∀ (k : Int) (n : Nat) (p : ByteArray) (c : Int), k < 25 ∨ 33 < k → isT d n k p c = false := fun k n p c hk => isT_ne_ (ne k hk)
  have hw : ∀ n, wordM d n = false := fun n => is 11 n _ _ (by omega)
  have hd : ∀ n l, desM d n l = false := fun n l => by unfold desM; simp only [nb 36 (by omega), nb 37 (by omega), nb 38 (by omega), Bool.false_eq_true, if_false, hw]
  have hq : ∀ n l, qualM d n l = false := fun n l => by unfold qualM; rw [hw, is 12 _ _ _ (by omega)]; rfl
  have hl : ∀ n l, levM d n l = if facM d n l then 0 else -1 := fun n l => by unfold levM; simp only [nb 34 (by omega), nb 35 (by omega), Bool.false_eq_true, if_false]
  have ht : ∀ n l m, typM d n l m = false := fun n l m => by unfold typM; simp only [nb 14 (by omega), nb 15 (by omega), nb 17 (by omega), Bool.false_eq_true, if_false, hq]
  have hf : facM parenD 1 [att d0 k0] = true := fac_paren h
  have hc : ∀ n l m, declM d n l m = false := fun n l m => by unfold declM; simp only [nb 4 (by omega), nb 5 (by omega), nb 6 (by omega), nb 7 (by omega), Bool.false_eq_true, if_false]
  have hs : ∀ n l m, stmtM d n l m = false := fun n l m => by unfold stmtM; simp only [nb 20 (by omega), nb 21 (by omega), nb 22 (by omega), nb 23 (by omega), nb 24 (by omega), Bool.false_eq_true, if_false]
  have no : ∀ {p : Bool} {q : Prop}, p = false → p = true → q := fun a b => by rw [a] at b; cases b
  refine ⟨⟨no (hw _), no (hd _ _), fun _ => hf, fun h0 => ?_⟩, no (is 10 _ _ _ (by omega)), no (is 18 _ _ _ (by omega)), no (hq _ _), no (ht _ _ _), no ?_, no ?_, no ?_, no ?_, no ?_, fun _ => rfl, fun _ => rfl, no ?_, no (hc _ _ _), no ?_, no (hs _ _ _), no ?_⟩
  · have e1 : (att2 d ks).e.lev = if facM d ks.len ks.atts then 0 else -1 := hl _ _
    have e2 : (att2 parenD (.cons d0 k0 .nil)).e.lev = 0 := by
      show levM parenD 1 [att d0 k0] = 0
      unfold levM
      have c1 : (parenD.kind == 34) = false := rfl
      have c2 : (parenD.kind == 35) = false := rfl
      simp only [c1, c2, Bool.false_eq_true, if_false, hf, if_true]
    rw [e1] at h0
    rw [e2, e1]
    split at h0
    · rename_i c; rw [if_pos c]
    · omega
  · show fldsM d _ _ = false; unfold fldsM; rw [is 16 _ _ _ (by omega)]; rfl
  · show pkM d _ _ _ = false; unfold pkM; rw [hq, is 13 _ _ _ (by omega)]; rfl
  · show parM d _ _ = false; unfold parM; rw [is 9 _ _ _ (by omega)]; rfl
  · show parsM d _ _ = false; unfold parsM; rw [is 8 _ _ _ (by omega)]; rfl
  · show impM d _ _ = false; unfold impM; rw [is 2 _ _ _ (by omega)]; rfl
  · show declsM d _ _ = false; unfold declsM; rw [is 3 _ _ _ (by omega)]; rfl
  · show declsM d _ _ = false; unfold declsM; rw [is 3 _ _ _ (by omega)]; rfl
  · show stmtsM d _ _ = false; unfold stmtsM; rw [is 19 _ _ _ (by omega)]; rfl
theorem isT_mark {d : Own} {n : Nat} {k : Int} {c : Int} (h : isT d n k pK c = true) : d.mark = false := by
  unfold isT at h
  simp only [Bool.and_eq_true] at h
  have hb := h.1.1.2
  unfold bareT at hb
  cases hm : d.mark with
  | false => rfl
  | true =>
    have h2 : hasP pK 77 = false := by decide +kernel
    rw [hm, h2] at hb
    simp at hb
theorem base_stmts {d d0 : Own} {ks k0 : F} (h1 : d.kind = 19) (h : stmtsT d0 k0 = true) : Le2 (att2 d ks) (att2 d0 k0) := by
  have hst : stmtsM d0 k0.len k0.atts2 = true := h
  have his : isT d0 k0.len 19 pK (-1) = true := by unfold stmtsM at hst; simp only [Bool.and_eq_true] at hst; exact hst.1
  have hk := isT_kind_ his
  have hm := isT_mark his
  have ne : ∀ k : Int, k ≠ 19 → d.kind ≠ k := fun k hk e => hk (by rw [← e, h1])
  have nb : ∀ k : Int, k ≠ 19 → (d.kind == k) = false := fun k hk => by simpa using ne k hk
  have is : ∀ (k : Int) (n : Nat) (p : ByteArray) (c : Int), k ≠ 19 → isT d n k p c = false := fun k n p c hk => isT_ne_ (ne k hk)
  have hw : ∀ n, wordM d n = false := fun n => is 11 n _ _ (by omega)
  have hd : ∀ n l, desM d n l = false := fun n l => by unfold desM; simp only [nb 36 (by omega), nb 37 (by omega), nb 38 (by omega), Bool.false_eq_true, if_false, hw]
  have hq : ∀ n l, qualM d n l = false := fun n l => by unfold qualM; rw [hw, is 12 _ _ _ (by omega)]; rfl
  have hf : ∀ n l, facM d n l = false := fun n l => by unfold facM; simp only [nb 21 (by omega), nb 25 (by omega), nb 26 (by omega), nb 27 (by omega), nb 28 (by omega), nb 29 (by omega), nb 30 (by omega), nb 31 (by omega), nb 32 (by omega), nb 33 (by omega), Bool.or_self, Bool.false_eq_true, if_false, hd]
  have hl : ∀ n l, levM d n l = -1 := fun n l => by unfold levM; simp only [nb 34 (by omega), nb 35 (by omega), Bool.false_eq_true, if_false, hf]
  have ht : ∀ n l m, typM d n l m = false := fun n l m => by unfold typM; simp only [nb 14 (by omega), nb 15 (by omega), nb 17 (by omega), Bool.false_eq_true, if_false, hq]
  have hc : ∀ n l m, declM d n l m = false := fun n l m => by unfold declM; simp only [nb 4 (by omega), nb 5 (by omega), nb 6 (by omega), nb 7 (by omega), Bool.false_eq_true, if_false]
  have hs : ∀ n l m, stmtM d n l m = false := fun n l m => by unfold stmtM; simp only [nb 20 (by omega), nb 21 (by omega), nb 22 (by omega), nb 23 (by omega), nb 24 (by omega), Bool.false_eq_true, if_false]
  have no : ∀ {p : Bool} {q : Prop}, p = false → p = true → q := fun a b => by rw [a] at b; cases b
  refine ⟨⟨no (hw _), no (hd _ _), no (hf _ _), fun h0 => ?_⟩, no (is 10 _ _ _ (by omega)), no (is 18 _ _ _ (by omega)), no (hq _ _), no (ht _ _ _), no ?_, no ?_, no ?_, no ?_, no ?_, fun _ => ?_, fun _ => ?_, no ?_, no (hc _ _ _), no ?_, no (hs _ _ _), fun _ => hst⟩
  · have e1 : (att2 d ks).e.lev = -1 := hl _ _
    rw [e1] at h0; omega
  · show fldsM d _ _ = false; unfold fldsM; rw [is 16 _ _ _ (by omega)]; rfl
  · show pkM d _ _ _ = false; unfold pkM; rw [hq, is 13 _ _ _ (by omega)]; rfl
  · show parM d _ _ = false; unfold parM; rw [is 9 _ _ _ (by omega)]; rfl
  · show parsM d _ _ = false; unfold parsM; rw [is 8 _ _ _ (by omega)]; rfl
  · show impM d _ _ = false; unfold impM; rw [is 2 _ _ _ (by omega)]; rfl
  · show ((d0.kind != 10) || !d0.mark) = true; rw [hk]; rfl
  · show (!d0.mark && ((d0.kind != 6) || _)) = true; rw [hk, hm]; rfl
  · show declsM d _ _ = false; unfold declsM; rw [is 3 _ _ _ (by omega)]; rfl
  · show declsM d _ _ = false; unfold declsM; rw [is 3 _ _ _ (by omega)]; rfl
def F.swap (xd : Own) (xk : F) (yd : Own) (yk : F) : F → Int → F × Int
  | .nil, k => (.nil, k)
  | .cons d ks r, k =>
    if k < 0 then (.cons d ks r, k)
    else if k = 0 ∧ 25 ≤ d.kind ∧ d.kind ≤ 33 then (.cons xd xk r, -1)
    else if k = 0 ∧ d.kind = 19 then (.cons yd yk r, -1)
    else (.cons d (F.swap xd xk yd yk ks (k - 1)).1 (F.swap xd xk yd yk r (F.swap xd xk yd yk ks (k - 1)).2).1, (F.swap xd xk yd yk r (F.swap xd xk yd yk ks (k - 1)).2).2)
theorem swap_le {d0 : Own} {k0 : F} {yd : Own} {yk : F} (he : expT d0 k0 = true) (hs : stmtsT yd yk = true) : ∀ (f : F) (k : Int),
    LeL LeA f.atts (F.swap parenD (.cons d0 k0 .nil) yd yk f k).1.atts ∧ LeL Le2 f.atts2 (F.swap parenD (.cons d0 k0 .nil) yd yk f k).1.atts2 ∧ (F.swap parenD (.cons d0 k0 .nil) yd yk f k).1.len = f.len := by
  intro f
  induction f with
  | nil => intro k; exact ⟨True.intro, True.intro, rfl⟩
  | cons d ks r ih1 ih2 =>
    intro k
    unfold F.swap
    split
    · exact ⟨LeL.refl LeA.refl _, LeL.refl Le2.refl _, rfl⟩
    · split
      · rename_i c
        have hb := base_paren (ks := ks) c.2.1 c.2.2 he
        exact ⟨⟨hb.e, LeL.refl LeA.refl _⟩, ⟨hb, LeL.refl Le2.refl _⟩, rfl⟩
      · split
        · rename_i c
          have hb := base_stmts (ks := ks) c.2 hs
          exact ⟨⟨hb.e, LeL.refl LeA.refl _⟩, ⟨hb, LeL.refl Le2.refl _⟩, rfl⟩
        · obtain ⟨a1, a2, a3⟩ := ih1 (k - 1)
          obtain ⟨b1, b2, b3⟩ := ih2 (F.swap parenD (.cons d0 k0 .nil) yd yk ks (k - 1)).2
          refine ⟨⟨?_, b1⟩, ⟨?_, b2⟩, ?_⟩
          · rw [a3]; exact mono_att a1
          · rw [a3]; exact mono_all a1 a2
          · simp only [F.len, b3]
theorem swap_may {d d0 : Own} {ks k0 : F} {yd : Own} {yk : F} (he : expT d0 k0 = true) (hs : stmtsT yd yk = true) (hm : mayT d ks = true) (k : Int) : mayT d (F.swap parenD (.cons d0 k0 .nil) yd yk ks k).1 = true := by
  obtain ⟨a1, a2, a3⟩ := swap_le he hs ks k
  have g2 := fun k => LeL.getD (Le2.refl badB) a2 k
  unfold mayT at *
  rw [a3]
  simp only [Bool.and_eq_true] at *
  exact ⟨hm.1, (g2 0).imp hm.2.1, (g2 1).decls hm.2.2.1, (g2 2).stmts hm.2.2.2⟩
end Go.Proofs.Ytnihjkcniddepaa
