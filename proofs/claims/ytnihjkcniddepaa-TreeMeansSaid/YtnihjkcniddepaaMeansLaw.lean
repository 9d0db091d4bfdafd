/- What is proved: the plain law of TreeMeans: all nodes of a tree that may be have a part to play; a node of no known kind has none. Conditions: none. -/
import Derived.Test.YtnihjkcniddepaaPutsLaw
import Derived.Test.YtnihjkcniddepaaVis
namespace Go.Proofs.Ytnihjkcniddepaa
open Go.RowKit
/-- a part that a node may play -/
inductive Role (a : Att2) : Prop where
  | exp (h : a.e.exp = true)
  | defn (h : a.defn = true)
  | none_ (h : a.none_ = true)
  | qual (h : a.qual = true)
  | typ (h : a.typ = true)
  | flds (h : a.flds = true)
  | pk (h : a.pk = true)
  | par (h : a.par = true)
  | pars (h : a.pars = true)
  | imp (h : a.imp = true)
  | decl (h : a.decl = true)
  | decls (h : a.decls = true)
  | stmt (h : a.stmt = true)
  | stmts (h : a.stmts = true)
def AllR (m : List Att2) : Prop := ∀ a ∈ m, Role a
theorem AllR.nil : AllR [] := fun a h => by cases h
theorem allR_one {m : List Att2} (h1 : (m.length : Int) = 1) (h : Role (m.getD 0 badB)) : AllR m := by
  match m, h1 with
  | [x], _ => intro a ha; simp at ha; subst ha; exact h
  | [], h1 => simp at h1
  | _ :: _ :: _, h1 => simp at h1; omega
theorem allR_two {m : List Att2} (h1 : (m.length : Int) = 2) (h : Role (m.getD 0 badB)) (h' : Role (m.getD 1 badB)) : AllR m := by
  match m, h1 with
  | [x, y], _ => intro a ha; simp at ha; rcases ha with rfl | rfl; exact h; exact h'
  | [], h1 => simp at h1
  | [_], h1 => simp at h1
  | _ :: _ :: _ :: _, h1 => simp at h1; omega
theorem allR_all {m : List Att2} {p : Att2 → Bool} (hp : ∀ a, p a = true → Role a) (h : m.all p = true) : AllR m := fun a ha => hp a (List.all_eq_true.1 h a ha)
theorem allR_none {m : List Att2} (h1 : (m.length : Int) = 0) : AllR m := by
  match m, h1 with
  | [], _ => exact AllR.nil
  | _ :: _, h1 => simp at h1; omega
theorem allR_named {m : List Att2} {p q : Att2 → Bool} (hp : ∀ a, p a = true → Role a) (hq : ∀ a, q a = true → Role a) (h : namedL p q m = true) : AllR m := by
  unfold namedL at h
  simp only [Bool.and_eq_true, decide_eq_true_eq] at h
  obtain ⟨h2, h3, h4⟩ := h
  intro a ha
  obtain ⟨i, hi, rfl⟩ := List.getElem_of_mem ha
  by_cases hl : i = m.length - 1
  · have : m.getD (m.length - 1) badB = m[i] := by rw [← hl]; simp [hi]
    rw [this] at h4; exact hq _ h4
  · exact hp _ (List.all_eq_true.1 h3 _ (by rw [List.mem_take_iff_getElem]; exact ⟨i, by omega, rfl⟩))
theorem getD_e (m : List Att2) (k : Nat) : (m.map (·.e)).getD k badA = (m.getD k badB).e := by
  simp only [List.getD_eq_getElem?_getD, List.getElem?_map]
  cases m[k]? <;> rfl
theorem within_exp {a : Att} {k : Int} (h : a.within k = true) : a.exp = true := by
  unfold Att.within at h
  rw [Bool.and_eq_true] at h
  exact h.1
theorem word_kind {d : Own} {n : Nat} (h : wordM d n = true) : d.kind = 11 := isT_kind_ h
theorem des_of_word {d : Own} {n : Nat} {l : List Att} (h : wordM d n = true) : desM d n l = true := by
  have hk := word_kind h
  unfold desM
  simp only [hk, show ((11 : Int) == 36) = false from rfl, show ((11 : Int) == 37) = false from rfl, show ((11 : Int) == 38) = false from rfl, Bool.false_eq_true, if_false]
  exact h
theorem des_kind {d : Own} {n : Nat} {l : List Att} (h : desM d n l = true) : d.kind = 11 ∨ (36 ≤ d.kind ∧ d.kind ≤ 38) := by
  unfold desM at h
  split at h
  · rename_i c; have : d.kind = 36 := by simpa using c
    omega
  · split at h
    · rename_i c; have : d.kind = 37 := by simpa using c
      omega
    · split at h
      · rename_i c; have : d.kind = 38 := by simpa using c
        omega
      · exact .inl (word_kind h)
theorem fac_of_des {d : Own} {n : Nat} {l : List Att} (h : desM d n l = true) : facM d n l = true := by
  have hk := des_kind h
  have nb : ∀ k : Int, d.kind ≠ k → (d.kind == k) = false := fun k hk => by simpa using hk
  unfold facM
  simp only [nb 21 (by omega), nb 25 (by omega), nb 26 (by omega), nb 27 (by omega), nb 28 (by omega), nb 29 (by omega), nb 30 (by omega), nb 31 (by omega), nb 32 (by omega), nb 33 (by omega), Bool.or_self, Bool.false_eq_true, if_false]
  exact h
theorem fac_kind {d : Own} {n : Nat} {l : List Att} (h : facM d n l = true) : d.kind = 11 ∨ d.kind = 21 ∨ (25 ≤ d.kind ∧ d.kind ≤ 33) ∨ (36 ≤ d.kind ∧ d.kind ≤ 38) := by
  by_cases h1 : d.kind = 21
  · omega
  by_cases h2 : 25 ≤ d.kind ∧ d.kind ≤ 33
  · omega
  have nb : ∀ k : Int, d.kind ≠ k → (d.kind == k) = false := fun k hk => by simpa using hk
  unfold facM at h
  simp only [nb 21 (by omega), nb 25 (by omega), nb 26 (by omega), nb 27 (by omega), nb 28 (by omega), nb 29 (by omega), nb 30 (by omega), nb 31 (by omega), nb 32 (by omega), nb 33 (by omega), Bool.or_self, Bool.false_eq_true, if_false] at h
  have := des_kind h
  omega
theorem lev_of_fac {d : Own} {n : Nat} {l : List Att} (h : facM d n l = true) : levM d n l = 0 := by
  have hk := fac_kind h
  have nb : ∀ k : Int, d.kind ≠ k → (d.kind == k) = false := fun k hk => by simpa using hk
  unfold levM
  simp only [nb 34 (by omega), nb 35 (by omega), Bool.false_eq_true, if_false, h, if_true]
theorem lev_kind {d : Own} {n : Nat} {l : List Att} (h : 0 ≤ levM d n l) : d.kind = 11 ∨ d.kind = 21 ∨ (25 ≤ d.kind ∧ d.kind ≤ 38) := by
  by_cases h1 : d.kind = 34
  · omega
  by_cases h2 : d.kind = 35
  · omega
  have nb : ∀ k : Int, d.kind ≠ k → (d.kind == k) = false := fun k hk => by simpa using hk
  unfold levM at h
  simp only [nb 34 (by omega), nb 35 (by omega), Bool.false_eq_true, if_false] at h
  split at h
  · rename_i c; have := fac_kind c; omega
  · omega
/-- all attributes are those of a node -/
def FromN (a : Att2) : Prop := (a.e.fac = true → a.e.exp = true) ∧ (a.e.des = true → a.e.exp = true) ∧ (a.e.word = true → a.e.exp = true)
theorem fromN (d : Own) (n : Nat) (l : List Att) (m : List Att2) : FromN (mk2 d n l m) := by
  have hf : facM d n l = true → (mk2 d n l m).e.exp = true := fun h => by
    show decide (0 ≤ levM d n l) = true
    rw [lev_of_fac h]; rfl
  exact ⟨hf, fun h => hf (fac_of_des h), fun h => hf (fac_of_des (des_of_word h))⟩
theorem fromN_bad : FromN badB := ⟨id_no, id_no, id_no⟩
where id_no : ∀ {q : Prop}, false = true → q := fun h => by cases h
theorem atts_fromN (f : F) : ∀ a ∈ f.atts2, FromN a := by
  induction f with
  | nil => intro a h; cases h
  | cons d ks r _ ih =>
    intro a h
    simp only [F.atts2, List.mem_cons] at h
    rcases h with rfl | h
    · exact fromN _ _ _ _
    · exact ih a h
theorem atts_e (f : F) : f.atts = f.atts2.map (·.e) := by
  induction f with
  | nil => rfl
  | cons d ks r _ ih => simp only [F.atts, F.atts2, List.map_cons, ← ih]; rfl
section
variable {d : Own} {n : Nat} {m : List Att2}
theorem getD_from (hF : ∀ a ∈ m, FromN a) (k : Nat) : FromN (m.getD k badB) := by
  simp only [List.getD_eq_getElem?_getD]
  cases h : m[k]? with
  | none => exact fromN_bad
  | some a => exact hF a (List.mem_of_getElem? h)
theorem role_exp (hn : n = m.length) (hF : ∀ a ∈ m, FromN a) (h : 0 ≤ levM d n (m.map (·.e))) : AllR m := by
  have g := getD_from hF
  have hdes : desM d n (m.map (·.e)) = true → AllR m := fun h => by
    unfold desM at h
    split at h
    · rename_i c; simp only [Bool.and_eq_true, getD_e] at h
      exact allR_one (by rw [← hn]; exact isT_cnt h.1 (by decide)) (.exp ((g 0).2.1 h.2))
    · split at h
      · simp only [Bool.and_eq_true, getD_e] at h
        exact allR_two (by rw [← hn]; exact isT_cnt h.1 (by decide)) (.exp ((g 0).2.1 h.2.1)) (.exp h.2.2)
      · split at h
        · simp only [Bool.and_eq_true, getD_e] at h
          exact allR_one (by rw [← hn]; exact isT_cnt h.1 (by decide)) (.exp ((g 0).2.1 h.2))
        · exact allR_none (by rw [← hn]; exact isT_cnt h (by decide))
  have hexps : ∀ m' : List Att2, (m'.map (·.e)).all Att.exp = true → AllR m' := fun m' h a ha => .exp (List.all_eq_true.1 h _ (List.mem_map.2 ⟨a, ha, rfl⟩))
  have hfac : facM d n (m.map (·.e)) = true → AllR m := fun h => by
    unfold facM at h
    split at h
    · simp only [Bool.and_eq_true, getD_e, decide_eq_true_eq] at h
      obtain ⟨_, _, h2, h3⟩ := h
      have h3 : AllR (m.drop 1) := hexps _ (by rw [List.map_drop]; exact h3)
      cases m with
      | nil => exact AllR.nil
      | cons x r =>
        intro a ha
        rcases List.mem_cons.1 ha with rfl | ha
        · exact .exp ((g 0).2.1 h2)
        · exact h3 a ha
    · split at h
      · simp only [Bool.and_eq_true] at h
        exact allR_none (by rw [← hn]; exact isT_cnt h.1 (by decide))
      · split at h
        · simp only [Bool.and_eq_true] at h
          have h1 := h.1
          unfold bareT at h1
          rw [show hasP pN 75 = false by decide +kernel] at h1
          simp only [Bool.and_eq_true, Bool.or_eq_true, beq_iff_eq, Bool.false_eq_true, or_false] at h1
          exact allR_none (by rw [← hn]; exact h1.2)
        · split at h
          · exact allR_none (by rw [← hn]; exact isT_cnt h (by decide))
          · split at h
            · simp only [Bool.and_eq_true] at h
              exact hexps m h.2
            · split at h
              · simp only [Bool.and_eq_true, getD_e] at h
                exact allR_one (by rw [← hn]; exact isT_cnt h.1 (by decide)) (.exp h.2)
              · split at h
                · simp only [Bool.and_eq_true, getD_e] at h
                  exact allR_one (by rw [← hn]; exact isT_cnt h.1 (by decide)) (.exp ((g 0).1 h.2))
                · exact hdes h
  unfold levM at h
  split at h
  · split at h
    · rename_i c; simp only [Bool.and_eq_true, getD_e, decide_eq_true_eq] at c
      exact allR_one (by rw [← hn]; omega) (.exp (within_exp c.2.2.2))
    · omega
  · split at h
    · split at h
      · rename_i c; simp only [Bool.and_eq_true, getD_e, decide_eq_true_eq] at c
        exact allR_two (by rw [← hn]; omega) (.exp (within_exp c.2.2.2.1)) (.exp (within_exp c.2.2.2.2))
      · omega
    · split at h
      · rename_i c; exact hfac c
      · omega
theorem role_qual (hn : n = m.length) (hF : ∀ a ∈ m, FromN a) (h : qualM d n (m.map (·.e)) = true) : AllR m := by
  have g := getD_from hF
  unfold qualM at h
  simp only [Bool.or_eq_true, Bool.and_eq_true, getD_e] at h
  rcases h with h | h
  · exact allR_none (by rw [← hn]; exact isT_cnt h (by decide))
  · exact allR_one (by rw [← hn]; exact isT_cnt h.1 (by decide)) (.exp ((g 0).2.2 h.2))
theorem role_br : ∀ (k : Nat) (m : List Att2), m.length ≤ k → brL m = true → AllR m := by
  intro k
  induction k with
  | zero => intro m hk _; have : m = [] := List.eq_nil_of_length_eq_zero (by omega); subst this; exact AllR.nil
  | succ k ih =>
    intro m hk h
    match m, h with
    | [], _ => exact AllR.nil
    | [x], h => intro a ha; simp at ha; subst ha; exact .stmts h
    | x :: y :: r, h =>
      simp only [brL, Bool.and_eq_true] at h
      have := ih r (by simp at hk; omega) h.2.2
      intro a ha
      simp only [List.mem_cons] at ha
      rcases ha with rfl | rfl | ha
      · exact .exp h.1
      · exact .stmts h.2.1
      · exact this a ha
theorem role_ord : ∀ (m : List Att2) (last : Int), ordL last m = true → AllR m := by
  intro m
  induction m with
  | nil => intro _ _; exact AllR.nil
  | cons x r ih =>
    intro last h
    simp only [ordL, Bool.and_eq_true] at h
    intro a ha
    rcases List.mem_cons.1 ha with rfl | ha
    · exact .decl h.1.2
    · exact ih _ h.2 a ha
theorem role_proc (h5 : (m.length : Int) = 5) (h : procM (m.map (·.e)) m = true) : AllR m := by
  match m, h5 with
  | [a0, a1, a2, a3, a4], _ =>
    simp only [procM, Bool.and_eq_true, Bool.or_eq_true] at h
    obtain ⟨p0, p1, p2, _, p3, p4⟩ := h
    intro a ha
    simp only [List.mem_cons, List.not_mem_nil, or_false] at ha
    rcases ha with rfl | rfl | rfl | rfl | rfl
    · exact .pars p0
    · rcases p1 with p | p
      · exact .none_ p
      · exact .qual p
    · exact .decls p2
    · exact .stmts p3
    · rcases p4 with p | p
      · exact .none_ p
      · exact .exp p
  | [], h => simp at h
  | [_], h => simp at h
  | [_, _], h => simp at h
  | [_, _, _], h => simp at h
  | [_, _, _, _], h => simp at h
  | _ :: _ :: _ :: _ :: _ :: _ :: _, h => simp at h; omega
theorem role_named {m : List Att2} {q : Att2 → Bool} (hF : ∀ a ∈ m, FromN a) (hq : ∀ a, q a = true → Role a) (h : namedL Att2.word q m = true) : AllR m := by
  unfold namedL at h
  simp only [Bool.and_eq_true, decide_eq_true_eq] at h
  obtain ⟨h2, h3, h4⟩ := h
  intro a ha
  obtain ⟨i, hi, rfl⟩ := List.getElem_of_mem ha
  by_cases hl : i = m.length - 1
  · have : m.getD (m.length - 1) badB = m[i] := by rw [← hl]; simp [hi]
    rw [this] at h4; exact hq _ h4
  · exact .exp ((hF _ ha).2.2 (List.all_eq_true.1 h3 _ (by rw [List.mem_take_iff_getElem]; exact ⟨i, by omega, rfl⟩)))
theorem role_kids (hn : n = m.length) (hF : ∀ a ∈ m, FromN a) (h : Role (mk2 d n (m.map (·.e)) m)) : AllR m := by
  have g := getD_from hF
  have cnt : ∀ {k : Int} {p : ByteArray} {c : Int}, isT d n k p c = true → 0 ≤ c → (m.length : Int) = c := fun h hc => by rw [← hn]; exact isT_cnt h hc
  have gw : ∀ a : Att2, a ∈ m → a.word = true → Role a := fun a ha h => .exp ((hF a ha).2.2 h)
  cases h with
  | exp h => exact role_exp hn hF (of_decide_eq_true h)
  | defn h => exact allR_none (cnt h (by decide))
  | none_ h => exact allR_none (cnt h (by decide))
  | qual h => exact role_qual hn hF h
  | typ h =>
    have h : typM d n (m.map (·.e)) m = true := h
    unfold typM at h
    split at h
    · simp only [Bool.and_eq_true, getD_e] at h
      exact allR_two (cnt h.1 (by decide)) (.exp h.2.1) (.typ h.2.2)
    · split at h
      · simp only [Bool.and_eq_true] at h
        exact allR_all (fun a => .flds) h.2
      · split at h
        · simp only [Bool.and_eq_true] at h
          exact allR_one (cnt h.1 (by decide)) (.typ h.2)
        · exact role_qual hn hF h
  | flds h =>
    have h : fldsM d n m = true := h
    unfold fldsM at h
    rw [Bool.and_eq_true] at h
    exact role_named hF (fun a h => .typ h) h.2
  | pk h =>
    have h : pkM d n (m.map (·.e)) m = true := h
    unfold pkM at h
    simp only [Bool.or_eq_true, Bool.and_eq_true] at h
    rcases h with h | h
    · exact role_qual hn hF h
    · exact allR_one (cnt h.1 (by decide)) (.qual h.2)
  | par h =>
    have h : parM d n m = true := h
    unfold parM at h
    rw [Bool.and_eq_true] at h
    exact role_named hF (fun a h => .pk h) h.2
  | pars h =>
    have h : parsM d n m = true := h
    unfold parsM at h
    rw [Bool.and_eq_true] at h
    exact allR_all (fun a => .par) h.2
  | imp h =>
    have h : impM d n m = true := h
    unfold impM at h
    rw [Bool.and_eq_true] at h
    exact fun a ha => gw a ha (List.all_eq_true.1 h.2 a ha)
  | decl h =>
    have h : declM d n (m.map (·.e)) m = true := h
    unfold declM at h
    split at h
    · simp only [Bool.and_eq_true, getD_e] at h
      exact allR_one (cnt h.1 (by decide)) (.exp h.2)
    · split at h
      · simp only [Bool.and_eq_true] at h
        exact allR_one (cnt h.1 (by decide)) (.typ h.2)
      · split at h
        · simp only [Bool.and_eq_true] at h
          exact allR_named (fun a h => .defn h) (fun a h => .typ h) h.2
        · split at h
          · simp only [Bool.and_eq_true] at h
            exact role_proc (cnt h.1 (by decide)) h.2
          · cases h
  | decls h =>
    have h : declsM d n m = true := h
    unfold declsM at h
    rw [Bool.and_eq_true] at h
    exact role_ord m 4 h.2
  | stmt h =>
    have h : stmtM d n (m.map (·.e)) m = true := h
    unfold stmtM at h
    split at h
    · simp only [Bool.and_eq_true, getD_e] at h
      exact allR_two (cnt h.1 (by decide)) (.exp ((g 0).2.1 h.2.1)) (.exp h.2.2)
    · split at h
      · have h0 : levM d n (m.map (·.e)) = 0 := by simpa using h
        exact role_exp (d := d) hn hF (by rw [h0]; decide)
      · split at h
        · simp only [Bool.and_eq_true] at h
          exact role_br _ m (Nat.le_refl _) h.2.2
        · split at h
          · simp only [Bool.and_eq_true, getD_e] at h
            exact allR_two (cnt h.1 (by decide)) (.exp h.2.1) (.stmts h.2.2)
          · split at h
            · simp only [Bool.and_eq_true, getD_e] at h
              exact allR_two (cnt h.1 (by decide)) (.stmts h.2.1) (.exp h.2.2)
            · cases h
  | stmts h =>
    have h : stmtsM d n m = true := h
    unfold stmtsM at h
    rw [Bool.and_eq_true] at h
    exact allR_all (fun a => .stmt) h.2
theorem role_is {l : List Att} (h : Role (mk2 d n l m)) : (0 ≤ levM d n l ∧ (d.kind = 11 ∨ d.kind = 21 ∨ (25 ≤ d.kind ∧ d.kind ≤ 38))) ∨ (stmtsM d n m = true ∧ d.kind = 19) ∨ (typM d n l m = true ∧ (d.kind = 14 ∨ d.kind = 15 ∨ d.kind = 17)) ∨ (2 ≤ d.kind ∧ d.kind ≤ 24 ∧ d.kind ≠ 14 ∧ d.kind ≠ 15 ∧ d.kind ≠ 17 ∧ d.kind ≠ 19 ∧ d.kind ≠ 21) := by
  have hq : qualM d n l = true → d.kind = 11 ∨ d.kind = 12 := fun h => by
    unfold qualM at h
    simp only [Bool.or_eq_true, Bool.and_eq_true] at h
    rcases h with h | h
    · exact .inl (word_kind h)
    · exact .inr (isT_kind_ h.1)
  cases h with
  | exp h => have h := of_decide_eq_true h; exact .inl ⟨h, lev_kind h⟩
  | defn h => have := isT_kind_ h; exact .inr (.inr (.inr (by omega)))
  | none_ h => have := isT_kind_ h; exact .inr (.inr (.inr (by omega)))
  | qual h => have := hq h; exact .inr (.inr (.inr (by omega)))
  | typ h =>
    have h' : typM d n l m = true := h
    by_cases hk : d.kind = 14 ∨ d.kind = 15 ∨ d.kind = 17
    · exact .inr (.inr (.inl ⟨h', hk⟩))
    · have nb : ∀ k : Int, d.kind ≠ k → (d.kind == k) = false := fun k hk => by simpa using hk
      unfold typM at h'
      simp only [nb 14 (by omega), nb 15 (by omega), nb 17 (by omega), Bool.false_eq_true, if_false] at h'
      have := hq h'
      exact .inr (.inr (.inr (by omega)))
  | flds h => have h : fldsM d n m = true := h
              unfold fldsM at h; rw [Bool.and_eq_true] at h; have := isT_kind_ h.1; exact .inr (.inr (.inr (by omega)))
  | pk h =>
    have h : pkM d n l m = true := h
    unfold pkM at h
    simp only [Bool.or_eq_true, Bool.and_eq_true] at h
    rcases h with h | h
    · have := hq h; exact .inr (.inr (.inr (by omega)))
    · have := isT_kind_ h.1; exact .inr (.inr (.inr (by omega)))
  | par h => have h : parM d n m = true := h
             unfold parM at h; rw [Bool.and_eq_true] at h; have := isT_kind_ h.1; exact .inr (.inr (.inr (by omega)))
  | pars h => have h : parsM d n m = true := h
              unfold parsM at h; rw [Bool.and_eq_true] at h; have := isT_kind_ h.1; exact .inr (.inr (.inr (by omega)))
  | imp h => have h : impM d n m = true := h
             unfold impM at h; rw [Bool.and_eq_true] at h; have := isT_kind_ h.1; exact .inr (.inr (.inr (by omega)))
  | decl h =>
    have h : declM d n l m = true := h
    unfold declM at h
    have kk : ∀ k : Int, (d.kind == k) = true → d.kind = k := fun k h => by simpa using h
    split at h
    · rename_i c; have := kk _ c; exact .inr (.inr (.inr (by omega)))
    · split at h
      · rename_i c; have := kk _ c; exact .inr (.inr (.inr (by omega)))
      · split at h
        · rename_i c; have := kk _ c; exact .inr (.inr (.inr (by omega)))
        · split at h
          · rename_i c; have := kk _ c; exact .inr (.inr (.inr (by omega)))
          · cases h
  | decls h => have h : declsM d n m = true := h
               unfold declsM at h; rw [Bool.and_eq_true] at h; have := isT_kind_ h.1; exact .inr (.inr (.inr (by omega)))
  | stmt h =>
    have h : stmtM d n l m = true := h
    unfold stmtM at h
    have kk : ∀ k : Int, (d.kind == k) = true → d.kind = k := fun k h => by simpa using h
    split at h
    · rename_i c; have := kk _ c; exact .inr (.inr (.inr (by omega)))
    · split at h
      · have h0 : levM d n l = 0 := by simpa using h
        have h1 : 0 ≤ levM d n l := by rw [h0]; decide
        exact .inl ⟨h1, lev_kind h1⟩
      · split at h
        · rename_i c; have := kk _ c; exact .inr (.inr (.inr (by omega)))
        · split at h
          · rename_i c; have := kk _ c; exact .inr (.inr (.inr (by omega)))
          · split at h
            · rename_i c; have := kk _ c; exact .inr (.inr (.inr (by omega)))
            · cases h
  | stmts h => have h' : stmtsM d n m = true := h
               have h1 := h'
               unfold stmtsM at h1; rw [Bool.and_eq_true] at h1; exact .inr (.inl ⟨h', isT_kind_ h1.1⟩)
end
def RoleT (d : Own) (ks : F) : Prop := Role (att2 d ks)
theorem allR_all_ (f : F) (h : AllR f.atts2) : f.All RoleT := by
  induction f with
  | nil => trivial
  | cons d ks r _ ih => exact ⟨h _ (by simp [F.atts2, att2]), ih fun a ha => h a (by simp [F.atts2, ha])⟩
theorem role_down (d : Own) (ks : F) (h : RoleT d ks) : ks.All RoleT :=
  allR_all_ ks (role_kids (d := d) (n := ks.len) (F.atts2_len ks).symm (atts_fromN ks) (by rw [← atts_e]; exact h))
theorem role_every (f : F) (h : f.All RoleT) : f.Every RoleT := by
  induction f with
  | nil => trivial
  | cons d ks r h1 h2 => exact ⟨h.1, h1 (role_down d ks h.1), h2 h.2⟩
theorem may_every (d : Own) (ks : F) (h : mayT d ks = true) : ks.Every RoleT := by
  unfold mayT at h
  simp only [Bool.and_eq_true] at h
  refine role_every ks (allR_all_ ks ?_)
  have hl : (ks.atts2.length : Int) = 3 := by rw [F.atts2_len]; exact isT_cnt h.1 (by decide)
  match hm : ks.atts2, hl with
  | [a0, a1, a2], _ =>
    rw [hm] at h
    intro a ha
    simp only [List.mem_cons, List.not_mem_nil, or_false] at ha
    rcases ha with rfl | rfl | rfl
    · exact .imp h.2.1
    · exact .decls h.2.2.1
    · exact .stmts h.2.2.2
  | [], hl => simp at hl
  | [_], hl => simp at hl
  | [_, _], hl => simp at hl
  | _ :: _ :: _ :: _ :: _, hl => simp at hl; omega
/-- what the law asks of a node that comes -/
def goodT (d : Own) (ks : F) : Prop := ((25 ≤ d.kind ∧ d.kind ≤ 38 ∨ d.kind = 21) → expT d ks = true) ∧ (d.kind = 19 → stmtsT d ks = true) ∧ ((d.kind = 14 ∨ d.kind = 15 ∨ d.kind = 17) → typT d ks = true)
theorem role_good {d : Own} {ks : F} (h : RoleT d ks) : goodT d ks := by
  rcases role_is h with ⟨h1, h2⟩ | ⟨h1, h2⟩ | ⟨h1, h2⟩ | h2
  · exact ⟨fun _ => decide_eq_true h1, fun h => by omega, fun h => by omega⟩
  · exact ⟨fun h => by omega, fun _ => h1, fun h => by omega⟩
  · exact ⟨fun h => by omega, fun h => by omega, fun _ => h1⟩
  · exact ⟨fun h => by omega, fun h => by omega, fun h => by omega⟩
theorem may_good {d : Own} {ks : F} (h : mayT d ks = true) : ∀ {w : World} {A : Option Addr} {n c : Nat}, ∀ v ∈ (⟨0, d, ks, A, n, c⟩ : Vis) :: visL w ks A 1, goodT v.d v.ks := by
  intro w A n c v hv
  rcases List.mem_cons.1 hv with rfl | hv
  · have hk : d.kind = 1 := by unfold mayT at h; simp only [Bool.and_eq_true] at h; exact isT_kind_ h.1
    exact ⟨fun h => by have h : 25 ≤ d.kind ∧ d.kind ≤ 38 ∨ d.kind = 21 := h; omega, fun h => by have h : d.kind = 19 := h; omega, fun h => by have h : d.kind = 14 ∨ d.kind = 15 ∨ d.kind = 17 := h; omega⟩
  · exact role_good (visL_every (may_every d ks h) v hv)
end Go.Proofs.Ytnihjkcniddepaa
