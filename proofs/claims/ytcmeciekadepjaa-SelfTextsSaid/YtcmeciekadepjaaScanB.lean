/- What is proved: plain laws of memory for the rounds of the reference's Scan. Conditions: as each theorem says. -/
import Derived.Test.YtcmeciekadepjaaScanA
import Derived.Lib.SlBytesRow
import Derived.Laws.OwnMore
import Derived.RangeFuncBox
namespace Go.Proofs.Ytcmeciekadepjaa
open Go.RowKit
theorem str_info : (Try.prog.info? CT).map (fun i => (i.zero, i.size, i.bytes)) = some (some (.string ⟨#[]⟩), 1, 16) := by kernel_rfl
theorem sym_info : (Try.prog.info? YT).map (fun i => (i.zero, i.size, i.bytes)) = some (some (.agg #[.int .i64 0, .int .i64 0, .int .i32 0, .int .i64 0, .string ⟨#[]⟩]), 5, 48) := by kernel_rfl
theorem own_fresh (W : World) (base : Nat) (t : TypeId) (l : List Value) (n : Nat) (hn : l.length = n) (hn2 : n ≤ maxLen) (hb : base ≤ W.heap.size) : (W.alloc (.cells l.toArray t)).ownsRow base t 1 (.slice (some ⟨W.heap.size, 0, none⟩) n n) n l :=
  ⟨by omega, .inr ⟨W.heap.size, n, l.toArray, rfl, hb, heap_alloc_new W _, Nat.le_refl _, hn2, by simp [hn], by rw [List.take_of_length_le (by simp [hn])]⟩⟩
theorem add_at (b j : Nat) : (⟨b, 0, none⟩ : Addr).add j = ⟨b, j, none⟩ := by cases j <;> simp [Addr.add]
theorem own_at {W : World} {base : Nat} {e : TypeId} {size n : Nat} {v : Value} {xs : List Value} (h : W.ownsRow base e size v n xs) {k : Nat} (hk : v.ownBlock = some k) : base ≤ k ∧ ∃ cur, W.heap[k]? = some (.cells cur e (0, 0)) := by
  rcases h.2 with ⟨rfl, _⟩ | ⟨g, cap, cur, rfl, hb, hh, _⟩
  · simp [Value.ownBlock] at hk
  · have : g = k := by simpa [Value.ownBlock] using hk
    subst this
    exact ⟨hb, cur, hh⟩
theorem own_own_ne2 {w : World} {base base' : Nat} {e e' : TypeId} {size n size' n' : Nat} {v v' : Value} {xs xs' : List Value} (h : w.ownsRow base e size v n xs) (h' : w.ownsRow base' e' size' v' n' xs') (hne : e ≠ e') {k : Nat} (hk : v.ownBlock = some k) : v'.ownBlock ≠ some k := by
  rcases h.2 with ⟨rfl, _⟩ | ⟨g, cap, cur, rfl, _, hh, _⟩
  · simp [Value.ownBlock] at hk
  · have : g = k := by simpa [Value.ownBlock] using hk
    subst this
    exact own_blk_ne (t := e) h' hh (fun e => hne e.symm)
section
variable {t nm : ByteArray} {w W w1 : World} {bx n nl i g2 c2 : Nat} {v1 : Value} {names : List ByteArray} {cs : List Value}
theorem SI.chg2 {W' : World} (h : SI t nm w bx n nl v1 g2 c2 names cs W) (hc : Chg NoB W W') : SI t nm w bx n nl v1 g2 c2 names cs W' :=
  ⟨h.chg.trans hc, h.bxl, h.box.chg hc id, h.res.chg hc id, own_chg h.all hc fun _ _ => id, own_chg h.nam hc fun _ _ => id, h.nlq, h.nlm⟩
theorem SI.set_ (h : SI t nm w bx n nl v1 g2 c2 names cs W) {b : Nat} {x : Array Value} (hb : bx < b) (hx : Blk W b YT x) (hne : v1.ownBlock ≠ some b) (k : Nat) (u : Value) : SI t nm w bx n nl v1 g2 c2 names cs (W.setCell ⟨b, k, none⟩ u) := by
  have hbl := h.bxl
  have hc : Chg (fun q => q = b) W (W.setCell ⟨b, k, none⟩ u) := (Chg.refl (fun q => q = b) W).setCell (p := ⟨b, k, none⟩) (fun _ => rfl) u
  refine ⟨h.chg.setCell (p := ⟨b, k, none⟩) (fun hq => by have : b < w.heap.size := hq; omega) u, hbl, h.box.chg hc (by omega), h.res.chg hc (by omega), own_chg h.all hc fun q hq e => ?_, own_chg h.nam hc fun q hq e => ?_, h.nlq, h.nlm⟩
  · subst e; exact hne hq
  · subst e; exact own_blk_ne h.nam hx (by decide) hq
theorem SI.name (h : SI t nm w bx n nl v1 g2 c2 names cs W) {xb g' c' : Nat} {x : Array Value} {tmp : Obj} {s : ByteArray} (hx : Blk W xb YT x) (hw1 : w1.ownsRow (w.heap.size + 1) CT 1 (.slice (some ⟨g', 0, none⟩) (nl + 1) c') (nl + 1) (names.map Value.string ++ [.string s])) (hg : (W.alloc tmp).grownBy w1 (some g2)) (hl : nl < 700) :
    SI t nm w bx n (nl + 1) v1 g' c' (names ++ [s]) cs (w1.setCell ⟨bx, 1, none⟩ (.slice (some ⟨g', 0, none⟩) (nl + 1) c')) ∧ Blk (w1.setCell ⟨bx, 1, none⟩ (.slice (some ⟨g', 0, none⟩) (nl + 1) c')) xb YT x ∧ Blk w1 bx RT #[v1, .slice (some ⟨g2, 0, none⟩) nl c2, .int .i64 0, .int .i64 0] := by
  have hbl := h.bxl
  have hnb : g2 ≠ bx := fun e => own_blk_ne h.nam h.box (by decide) (by rw [← e]; rfl)
  have hnx : g2 ≠ xb := fun e => own_blk_ne h.nam hx (by decide) (by rw [← e]; rfl)
  have hnw := (own_at h.nam (k := g2) rfl).1
  have hc1 : Chg (fun q => q = g2) W w1 := ((Chg.refl _ W).alloc tmp).grown hg fun k e _ => by injection e with e; exact e.symm
  have hb1 : Blk w1 bx RT #[v1, .slice (some ⟨g2, 0, none⟩) nl c2, .int .i64 0, .int .i64 0] := h.box.chg hc1 (fun e => hnb e.symm)
  have hxb : xb ≠ bx := Blk.ne_ hx h.box (by decide)
  have hall : w1.ownsRow (bx + 1) YT 5 v1 n cs := own_chg h.all hc1 fun k hk e => by
    subst e
    exact own_own_ne2 h.all h.nam (by decide) hk rfl
  refine ⟨⟨?_, hbl, hb1.set_ 1 _, (h.res.chg hc1 (by omega)).far (by simp; omega) _, own_chg hall ((Chg.refl (fun q => q = bx) w1).setCell (p := ⟨bx, 1, none⟩) (fun _ => rfl) _) fun k hk e => ?_, ?_, ?_, by have := h.nlm; omega⟩, (hx.chg hc1 (fun e => hnx e.symm)).far (by simpa using hxb) _, hb1⟩
  · exact (h.chg.step hc1 fun k hk e => by omega).setCell (p := ⟨bx, 1, none⟩) (fun hq => by have : bx < w.heap.size := hq; omega) _
  · subst e
    have := (own_at hall hk).1
    omega
  · rw [List.map_append]
    refine own_chg (F := fun q => q = bx) hw1 ((Chg.refl (fun q => q = bx) w1).setCell (p := ⟨bx, 1, none⟩) (fun _ => rfl) _) fun k hk e => ?_
    subst e
    exact own_blk_ne hw1 hb1 (by decide) hk
  · rw [List.length_append, ← h.nlq]; rfl
theorem SI.add (h : SI t nm w bx n nl v1 g2 c2 names cs W) {x : List Value} {tmp : Obj} {v' : Value} (hw1 : w1.ownsRow (bx + 1) YT 5 v' (n + 1) (cs ++ x)) (hg : (W.alloc tmp).grownBy w1 v1.ownBlock) :
    SI t nm w bx (n + 1) nl v' g2 c2 names (cs ++ x) (w1.setCell ⟨bx, 0, none⟩ v') ∧ Blk w1 bx RT #[v1, .slice (some ⟨g2, 0, none⟩) nl c2, .int .i64 0, .int .i64 0] := by
  have hbl := h.bxl
  have hob := fun k => own_at h.all (k := k)
  have hc1 : Chg (fun q => v1.ownBlock = some q) W w1 := ((Chg.refl _ W).alloc tmp).grown hg fun k e _ => e
  have hb1 : Blk w1 bx RT #[v1, .slice (some ⟨g2, 0, none⟩) nl c2, .int .i64 0, .int .i64 0] := h.box.chg hc1 (fun e => by have := (hob _ e).1; omega)
  have hnam := own_chg h.nam hc1 fun k hk e => own_own_ne2 h.nam h.all (by decide) hk e
  refine ⟨⟨?_, hbl, hb1.set_ 0 _, (h.res.chg hc1 (fun e => by have := (hob _ e).1; omega)).far (by simp; omega) _, own_chg hw1 ((Chg.refl (fun q => q = bx) w1).setCell (p := ⟨bx, 0, none⟩) (fun _ => rfl) _) fun k hk e => ?_, own_chg hnam ((Chg.refl (fun q => q = bx) w1).setCell (p := ⟨bx, 0, none⟩) (fun _ => rfl) _) fun k hk e => ?_, h.nlq, h.nlm⟩, hb1⟩
  · exact (h.chg.step hc1 fun k hk e => by have := (hob _ e).1; omega).setCell (p := ⟨bx, 0, none⟩) (fun hq => by have : bx < w.heap.size := hq; omega) _
  · subst e
    have := (own_at hw1 hk).1
    omega
  · subst e
    exact own_blk_ne hnam hb1 (by decide) hk
theorem own_cell {W : World} {base : Nat} {e : TypeId} {size n g c : Nat} {xs : List Value} (h : W.ownsRow base e size (.slice (some ⟨g, 0, none⟩) n c) n xs) {k : Nat} {u : Value} (hk : xs[k]? = some u) : W.cell? ⟨g, k, none⟩ = some u := by
  rcases h.2 with ⟨h0, _⟩ | ⟨g', cap, cur, he, hb, hh, _, _, _, ht⟩
  · cases h0
  · injection he with he1 he2 he3
    injection he1 with he1
    injection he1 with he1
    subst he1
    rw [cell_of_row W g k cur e (0, 0) hh]
    rw [← ht, List.getElem?_take] at hk
    split at hk
    · simpa using hk
    · cases hk
theorem own_caps {W : World} {base : Nat} {e : TypeId} {size n g c : Nat} {xs : List Value} (h : W.ownsRow base e size (.slice (some ⟨g, 0, none⟩) n c) n xs) : n ≤ c ∧ c ≤ maxLen := by
  rcases h.2 with ⟨h0, _⟩ | ⟨g', cap, cur, he, hb, hh, h1, h2, _, ht⟩
  · cases h0
  · injection he with he1 he2 he3
    subst he3
    exact ⟨h1, h2⟩
theorem SI.post (h : SI t nm w bx n nl v1 g2 c2 names cs W) (hp : PI nm n i names cs) (hn : 3 ≤ n) {W' : World} (hc : Chg (fun b => b = bx ∨ b = w.heap.size) W W') (err pos : Int) : ScanPost nm w (.returned (.agg #[v1, .slice (some ⟨g2, 0, none⟩) nl c2, .int .i64 err, .int .i64 pos])) W' := by
  have hbl := h.bxl
  have ha : W'.ownsRow (bx + 1) YT 5 v1 n cs := own_chg h.all hc fun k hk e => by
    have := (own_at h.all hk).1
    rcases e with e | e <;> omega
  have hb : W'.ownsRow (w.heap.size + 1) CT 1 (.slice (some ⟨g2, 0, none⟩) nl c2) nl (names.map Value.string) := own_chg h.nam hc fun k hk e => by
    have := (own_at h.nam hk).1
    rcases e with e | e
    · subst e
      exact own_blk_ne h.nam h.box (by decide) hk
    · omega
  obtain ⟨m, rfl⟩ : ∃ m, n = m + 1 := ⟨n - 1, by omega⟩
  obtain ⟨g1, c1, rfl⟩ := ownsRow_succ ha
  obtain ⟨h5, h8, hnm⟩ := hp.c5 (by omega)
  have hl : 57 < nl := by
    rw [h.nlq]
    exact (List.getElem?_eq_some_iff.1 hnm).1
  refine ⟨g1, g2, m + 1, nl, c1, c2, err, pos, rfl, hn, (own_caps ha).1, (own_caps ha).2, hl, (own_caps hb).1, (own_caps hb).2, own_cell ha (hp.c0 (by omega)), own_cell ha h5, own_cell ha h8, own_cell hb (by rw [List.getElem?_map, hnm]; rfl), h.chg.step hc fun k hk e => by rcases e with e | e <;> omega⟩
end
theorem PI.next {nm : ByteArray} {n i i' : Nat} {names names' : List ByteArray} {cs x : List Value} (h : PI nm n i names cs) (hl : cs.length = n * 5)
    (h0 : n = 0 → i' = 6 ∧ names' = baseB ∧ x[0]? = some (.int .i64 43)) (h1 : n = 1 → i' = 7 + nm.size ∧ x[0]? = some (.int .i64 25) ∧ x[3]? = some (.int .i64 57) ∧ names'[57]? = some nm)
    (hp : names' = names ∨ ∃ s, names' = names ++ [s]) : PI nm (n + 1) i' names' (cs ++ x) := by
  refine ⟨fun e => by omega, fun e => ⟨(h0 (by omega)).1, (h0 (by omega)).2.1⟩, fun e => (h1 (by omega)).1, fun _ => ?_, fun _ => ?_⟩
  · rcases Nat.eq_zero_or_pos n with e | e
    · rw [List.getElem?_append_right (by omega), hl, e]
      exact (h0 e).2.2
    · rw [List.getElem?_append_left (by omega)]
      exact h.c0 e
  · rcases Nat.lt_or_ge n 2 with e | e
    · have e1 : n = 1 := by omega
      obtain ⟨_, a, b, c⟩ := h1 e1
      refine ⟨?_, ?_, c⟩
      · rw [List.getElem?_append_right (by omega), hl, e1]; exact a
      · rw [List.getElem?_append_right (by omega), hl, e1]; exact b
    · obtain ⟨a, b, c⟩ := h.c5 e
      refine ⟨?_, ?_, ?_⟩
      · rw [List.getElem?_append_left (by omega)]; exact a
      · rw [List.getElem?_append_left (by omega)]; exact b
      · rcases hp with rfl | ⟨s, rfl⟩
        · exact c
        · rw [List.getElem?_append_left (List.getElem?_eq_some_iff.1 c).1]; exact c
/-- where a round stands once blanks are behind it: the first three rounds are known -/
def Fst (nm : ByteArray) (n j : Nat) (names : List ByteArray) : Prop := 3 ≤ n ∨ (n = 0 ∧ j = 0 ∧ names = baseB) ∨ (n = 1 ∧ j = 7 ∧ names = baseB) ∨ (n = 2 ∧ j = 7 + nm.size)
theorem letter_low {b : Int} (h : letterB b = true) : 65 ≤ b := by
  unfold letterB at h
  simp only [Bool.or_eq_true, Bool.and_eq_true, decide_eq_true_eq] at h
  omega
theorem Pre.first {t nm : ByteArray} {n i j : Nat} {o : Int} {names : List ByteArray} {cs : List Value} (hp : Pre t nm) (hPI : PI nm n i names cs) (hb1 : (32 < bt t i ∧ bt t i ≠ 40) → o = -1 ∧ j = i)
    (hb2 : (bt t i ≤ 32 ∧ 32 < bt t (i + 1) ∧ bt t (i + 1) ≠ 40 ∧ i < t.size) → o = -1 ∧ j = i + 1) : 3 ≤ n ∨ (o = -1 ∧ Fst nm n j names) := by
  rcases Nat.lt_or_ge n 3 with h | h
  · refine .inr ?_
    have hc : n = 0 ∨ n = 1 ∨ n = 2 := by omega
    rcases hc with rfl | rfl | rfl
    · obtain ⟨rfl, h2⟩ := hPI.z rfl
      have := hp.m.1
      have hx := hb1 (by simp [this])
      exact ⟨hx.1, .inr (.inl ⟨rfl, hx.2, h2⟩)⟩
    · obtain ⟨rfl, h2⟩ := hPI.one rfl
      have h6 := hp.sp
      have h7 := letter_low hp.n0
      have hs : 6 < t.size := bt_nat (i := 6) h6 (by omega)
      have hx := hb2 ⟨by show bt t 6 ≤ 32; omega, by show 32 < bt t 7; omega, by show bt t 7 ≠ 40; omega, hs⟩
      exact ⟨hx.1, .inr (.inr (.inl ⟨rfl, hx.2, h2⟩))⟩
    · have hi := hPI.two rfl
      subst hi
      have h6 := hp.semi
      have hx := hb1 (by rw [h6]; omega)
      exact ⟨hx.1, .inr (.inr (.inr ⟨rfl, hx.2⟩))⟩
  · exact .inl h
theorem Pre.inside {t nm : ByteArray} {n j : Nat} {names : List ByteArray} (hp : Pre t nm) (h : Fst nm n j names) : 3 ≤ n ∨ j < t.size := by
  rcases h with h | ⟨_, rfl, _⟩ | ⟨_, rfl, _⟩ | ⟨_, rfl⟩
  · exact .inl h
  · exact .inr (bt_nat hp.m.1 (by omega))
  · have := letter_low hp.n0
    exact .inr (bt_nat (b := bt t 7) rfl (by omega))
  · exact .inr (bt_nat hp.semi (by omega))
/-- a word's end -/
theorem Pre.word {t nm : ByteArray} {n j k : Nat} {names : List ByteArray} (hp : Pre t nm) (h : Fst nm n j names) (hl : letterB (bt t j) = true) (hjk : j ≤ k) (hk : ∀ q : Nat, j ≤ q → q < k → isWord (bt t q) = true) (he : isWord (bt t k) = false) :
    3 ≤ n ∨ (n = 0 ∧ j = 0 ∧ k = 6 ∧ nameAt t j k = modB ∧ names = baseB) ∨ (n = 1 ∧ j = 7 ∧ k = 7 + nm.size ∧ nameAt t j k = nm ∧ names = baseB) := by
  rcases h with h | ⟨rfl, rfl, h3⟩ | ⟨rfl, rfl, h3⟩ | ⟨rfl, rfl⟩
  · exact .inl h
  · have h6 := hp.sp
    have : k = 6 := by
      rcases Nat.lt_trichotomy k 6 with h | h | h
      · rw [hp.m.2.1 k h] at he; cases he
      · exact h
      · have := hk 6 (by omega) h
        rw [show ((6 : Nat) : Int) = 6 from rfl, h6] at this
        exact absurd this (by decide)
    subst this
    exact .inr (.inl ⟨rfl, rfl, rfl, hp.m.2.2, h3⟩)
  · have h6 := hp.semi
    have : k = 7 + nm.size := by
      rcases Nat.lt_trichotomy k (7 + nm.size) with h | h | h
      · rw [hp.nw k hjk h] at he; cases he
      · exact h
      · have := hk (7 + nm.size) (by omega) h
        rw [h6] at this
        exact absurd this (by decide)
    subst this
    exact .inr (.inr ⟨rfl, rfl, rfl, hp.nn, h3⟩)
  · rw [hp.semi] at hl
    exact absurd hl (by decide)
/-- no letter: the third round, or a later one -/
theorem Pre.other {t nm : ByteArray} {n j : Nat} {names : List ByteArray} (hp : Pre t nm) (h : Fst nm n j names) (hl : letterB (bt t j) = false) : 3 ≤ n ∨ (n = 2 ∧ bt t j = 59) := by
  rcases h with h | ⟨rfl, rfl, h3⟩ | ⟨rfl, rfl, h3⟩ | ⟨rfl, rfl⟩
  · exact .inl h
  · rw [show ((0 : Nat) : Int) = 0 from rfl, hp.m.1] at hl
    exact absurd hl (by decide)
  · rw [show ((7 : Nat) : Int) = 7 from rfl, hp.n0] at hl
    cases hl
  · exact .inr ⟨rfl, hp.semi⟩
/-! ### the facts of the returns' loads and stores -/
theorem err_facts {W : World} {bx : Nat} {v1 v2 e0 p0 : Value} (hb : Blk W bx RT #[v1, v2, e0, p0]) (e : Value) :
    (W.cell? ⟨bx, 2, none⟩ = some e0 ∧ W.frozen? ⟨bx, 2, none⟩ = false) ∧ ((W.setCell ⟨bx, 2, none⟩ e).cell? ⟨bx, 3, none⟩ = some p0 ∧ (W.setCell ⟨bx, 2, none⟩ e).frozen? ⟨bx, 3, none⟩ = false) := by
  have B1 := hb.set_ 2 e
  exact ⟨⟨hb.cell 2, hb.frozen 2⟩, B1.cell 3, B1.frozen 3⟩
theorem ret_facts {U : World} {bx rs : Nat} {v1 v2 e p r1 r2 r3 r4 : Value} (hb : Blk U bx RT #[v1, v2, e, p]) (hr : Blk U rs RT #[r1, r2, r3, r4]) :
    (U.cell? ⟨bx, 0, none⟩ = some v1 ∧ U.cell? ⟨bx, 1, none⟩ = some v2 ∧ U.cell? ⟨bx, 2, none⟩ = some e ∧ U.cell? ⟨bx, 3, none⟩ = some p) ∧
    (U.cell? ⟨rs, 0, none⟩ = some r1 ∧ U.frozen? ⟨rs, 0, none⟩ = false) ∧
    ((U.setCell ⟨rs, 0, none⟩ v1).cell? ⟨rs, 1, none⟩ = some r2 ∧ (U.setCell ⟨rs, 0, none⟩ v1).frozen? ⟨rs, 1, none⟩ = false) ∧
    (((U.setCell ⟨rs, 0, none⟩ v1).setCell ⟨rs, 1, none⟩ v2).cell? ⟨rs, 2, none⟩ = some r3 ∧ ((U.setCell ⟨rs, 0, none⟩ v1).setCell ⟨rs, 1, none⟩ v2).frozen? ⟨rs, 2, none⟩ = false) ∧
    ((((U.setCell ⟨rs, 0, none⟩ v1).setCell ⟨rs, 1, none⟩ v2).setCell ⟨rs, 2, none⟩ e).cell? ⟨rs, 3, none⟩ = some r4 ∧ (((U.setCell ⟨rs, 0, none⟩ v1).setCell ⟨rs, 1, none⟩ v2).setCell ⟨rs, 2, none⟩ e).frozen? ⟨rs, 3, none⟩ = false) ∧
    Blk ((((U.setCell ⟨rs, 0, none⟩ v1).setCell ⟨rs, 1, none⟩ v2).setCell ⟨rs, 2, none⟩ e).setCell ⟨rs, 3, none⟩ p) rs RT #[v1, v2, e, p] := by
  have B1 := hr.set_ 0 v1
  have B2 := B1.set_ 1 v2
  have B3 := B2.set_ 2 e
  have B4 := B3.set_ 3 p
  exact ⟨⟨hb.cell 0, hb.cell 1, hb.cell 2, hb.cell 3⟩, ⟨hr.cell 0, hr.frozen 0⟩, ⟨B1.cell 1, B1.frozen 1⟩, ⟨B2.cell 2, B2.frozen 2⟩, ⟨B3.cell 3, B3.frozen 3⟩, B4⟩
theorem ret_chg {U : World} {bx rs : Nat} (v1 v2 v3 v4 : Value) : Chg (fun b => b = bx ∨ b = rs) U ((((U.setCell ⟨rs, 0, none⟩ v1).setCell ⟨rs, 1, none⟩ v2).setCell ⟨rs, 2, none⟩ v3).setCell ⟨rs, 3, none⟩ v4) :=
  ((((Chg.refl (fun b => b = bx ∨ b = rs) U).setCell (p := ⟨rs, 0, none⟩) (fun _ => .inr rfl) v1).setCell (p := ⟨rs, 1, none⟩) (fun _ => .inr rfl) v2).setCell (p := ⟨rs, 2, none⟩) (fun _ => .inr rfl) v3).setCell (p := ⟨rs, 3, none⟩) (fun _ => .inr rfl) v4
theorem err_chg {U : World} {bx rs : Nat} (v1 v2 : Value) : Chg (fun b => b = bx ∨ b = rs) U ((U.setCell ⟨bx, 2, none⟩ v1).setCell ⟨bx, 3, none⟩ v2) :=
  (((Chg.refl (fun b => b = bx ∨ b = rs) U).setCell (p := ⟨bx, 2, none⟩) (fun _ => .inl rfl) v1).setCell (p := ⟨bx, 3, none⟩) (fun _ => .inl rfl) v2)
/-- a return with an error: what is told ahead of the walk -/
theorem SI.err {t nm : ByteArray} {w W : World} {bx n nl i g2 c2 : Nat} {v1 : Value} {names : List ByteArray} {cs : List Value} (h : SI t nm w bx n nl v1 g2 c2 names cs W) (hp : PI nm n i names cs) (hn : 3 ≤ n) (err pos : Int) :
    Blk ((W.setCell ⟨bx, 2, none⟩ (.int .i64 err)).setCell ⟨bx, 3, none⟩ (.int .i64 pos)) bx RT #[v1, .slice (some ⟨g2, 0, none⟩) nl c2, .int .i64 err, .int .i64 pos] ∧
    Blk ((W.setCell ⟨bx, 2, none⟩ (.int .i64 err)).setCell ⟨bx, 3, none⟩ (.int .i64 pos)) w.heap.size RT #[.slice none 0 0, .slice none 0 0, .int .i64 0, .int .i64 0] ∧
    (∀ W', Chg (fun b => b = bx ∨ b = w.heap.size) ((W.setCell ⟨bx, 2, none⟩ (.int .i64 err)).setCell ⟨bx, 3, none⟩ (.int .i64 pos)) W' → ScanPost nm w (.returned (.agg #[v1, .slice (some ⟨g2, 0, none⟩) nl c2, .int .i64 err, .int .i64 pos])) W') := by
  have hbl := h.bxl
  refine ⟨(h.box.set_ 2 _).set_ 3 _, (h.res.far (by simp; omega) _).far (by simp; omega) _, fun W' hW => h.post hp hn ((err_chg _ _).trans hW) err pos⟩
end Go.Proofs.Ytcmeciekadepjaa
