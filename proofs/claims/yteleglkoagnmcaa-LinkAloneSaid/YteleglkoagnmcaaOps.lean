/- What is proved: laws of single operations of no program: an append onto a row of the call's own, from a source that may be nil; an operation whose run is known. Conditions: as each theorem says. -/
import Derived.Test.YteleglkoagnmcaaMaps
import Derived.Maps.AppendAt
import Derived.Lib.AppendZerosOnto
import Derived.RegionTactic
import Derived.OwnWalk
set_option linter.unusedSimpArgs false
set_option linter.unusedVariables false
namespace Go.Proofs.Yteleglkoagnmcaa
open Go.RowKit

theorem block_of_add (a : Addr) (n : Nat) : (a.add n).block = a.block := by unfold Addr.add; split <;> rfl
theorem add_of_add (a : Addr) (i j : Nat) : (a.add i).add j = a.add (i + j) := by
  unfold Addr.add
  by_cases hi : i = 0 <;> by_cases hj : j = 0 <;> simp [hi, hj, Nat.add_assoc]
theorem add_lit (g i : Nat) : (⟨g, 0, none⟩ : Addr).add i = ⟨g, i, none⟩ := by unfold Addr.add; split <;> simp_all

/-- From A on the memory holds the cells xs (nothing is asked where there are none). -/
def CellsAt (w : World) (A : Option Addr) (xs : List Value) : Prop :=
  0 < xs.length → ∃ ad, A = some ad ∧ ∀ j u, xs[j]? = some u → w.cell? (ad.add j) = some u
theorem CellsAt.of_own {w : World} {base : Nat} {e : TypeId} {n : Nat} {A : Option Addr} {c : Nat} {xs : List Value} (h : w.ownsRow base e 1 (.slice A n c) n xs) : CellsAt w A xs := by
  intro hl
  have hn : 0 < n := by have := h.1; omega
  obtain ⟨g, cap, hv, _⟩ := h.form hn
  injection hv with hA
  subst hA
  exact ⟨_, rfl, h.cells rfl⟩
theorem CellsAt.keep {w w' : World} {A : Option Addr} {xs : List Value} (h : CellsAt w A xs) (hk : ∀ ad, A = some ad → w'.heap[ad.block]? = w.heap[ad.block]?) : CellsAt w' A xs := by
  intro hl
  obtain ⟨ad, hA, hc⟩ := h hl
  exact ⟨ad, hA, fun j u hu => (World.cell?_of_block (by rw [block_of_add]; exact hk ad hA)).trans (hc j u hu)⟩
theorem CellsAt.block_lt {w : World} {A : Option Addr} {xs : List Value} (h : CellsAt w A xs) (hl : 0 < xs.length) : ∃ ad, A = some ad ∧ ad.block < w.heap.size := by
  obtain ⟨ad, hA, hc⟩ := h hl
  have := World.block_lt_of_cell? w _ (hc 0 _ (List.getElem?_eq_getElem hl))
  rw [block_of_add] at this
  exact ⟨ad, hA, this⟩
theorem CellsAt.chg {w w' : World} {F : Nat → Prop} {A : Option Addr} {xs : List Value} (h : CellsAt w A xs) (hc : Chg F w w') (hF : ∀ ad, A = some ad → ¬ F ad.block) : CellsAt w' A xs := by
  intro hl
  obtain ⟨ad, hA, hlt⟩ := h.block_lt hl
  exact (h.keep (fun ad' hA' => by
    rw [hA] at hA'; cases hA'
    exact hc.block _ hlt (hF ad hA))) hl

section
variable {P : Program} (w : World)

theorem run_append_of_nil (base : Nat) (t ty e : TypeId) (i : TypeInfo) (size : Nat) (ht : P.underlying t = some (.slice e)) (hi : P.info? e = some i)
    (v : Value) (n : Nat) (xs : List Value) (hown : w.ownsRow base e size v n xs) (A : Option Addr) (c : Nat) : (Builtin.append_ #[t, t] ty #[v, .slice A 0 c]).run P w = .ok v w := by
  have hf : (Builtin.firstCells i.size 0 (.slice A 0 c)).run P w = .ok #[] w := by
    cases A <;> simp [Builtin.firstCells, loadCells, loadCellsFrom]
  rcases hown.2 with ⟨rfl, rfl⟩ | ⟨g, cap, cur, rfl, _, _, hnc, _⟩
  · simp [Builtin.append_, run_underlying ht, sizeOf, typeInfo, hi, Builtin.lenOf, hf]
  · simp [Builtin.append_, run_underlying ht, sizeOf, typeInfo, hi, Builtin.lenOf, hf, hnc, storeCells]

theorem run_app (base : Nat) (t ty e : TypeId) (i : TypeInfo) (z : Value) (bytes : Nat) (ht : P.underlying t = some (.slice e)) (hi : P.info? e = some i) (hz : i.zero = some z)
    (hsize : i.size = 1) (hby : i.bytes = bytes) (hzs : z.cells.size = 1)
    (v : Value) (n : Nat) (xs : List Value) (hown : w.ownsRow base e 1 v n xs)
    (A : Option Addr) (m c : Nat) (news : List Value) (hm : news.length = m) (hr : CellsAt w A news) (h1 : ∀ u ∈ news, u.oneCell' = true)
    (h63 : n + m ≤ maxLen) (hbytes : (n + m) * bytes ≤ 140737488355328) (hbase : base ≤ w.heap.size) :
    ∃ v' w', (Builtin.append_ #[t, t] ty #[v, .slice A m c]).run P w = .ok v' w' ∧ w'.ownsRow base e 1 v' (n + m) (xs ++ news) ∧ w.grownBy w' v.ownBlock ∧
      (v'.ownBlock = v.ownBlock ∨ v'.ownBlock = some w.heap.size) := by
  rcases Nat.eq_zero_or_pos m with h0 | h0
  · subst h0
    have hn : news = [] := List.eq_nil_of_length_eq_zero hm
    subst hn
    exact ⟨v, w, run_append_of_nil w base t ty e i 1 ht hi v n xs hown A c, by simpa using hown, World.grownBy.refl w _, .inl rfl⟩
  · obtain ⟨ad, rfl, hc⟩ := hr (by omega)
    obtain ⟨v', w', hrun, h2, h3, _, h5⟩ := run_append_own_at (P := P) w base t ty e i z 1 bytes ht hi hz hsize hby hzs (by omega) v n xs hown ad m c news (by omega) hc h1 h63 hbytes hbase
    exact ⟨v', w', hrun, h2, h3, h5⟩

theorem wp_app {o : Oper} {a : Act} {K : Act → World → Prop} {Q : Exit → Act → World → Prop} (s x : Operand) (t : TypeId)
    (ho : o.op = .call { callee := .builtin .append, args := #[s, x], argTypes := #[t, t] })
    (base : Nat) (e : TypeId) (i : TypeInfo) (z : Value) (bytes : Nat) (ht : P.underlying t = some (.slice e)) (hi : P.info? e = some i) (hz : i.zero = some z)
    (hsize : i.size = 1) (hby : i.bytes = bytes) (hzs : z.cells.size = 1)
    (v : Value) (n : Nat) (xs : List Value) (hs : a.eval s = v) (hown : w.ownsRow base e 1 v n xs)
    (A : Option Addr) (m c : Nat) (news : List Value) (hx : a.eval x = .slice A m c) (hm : news.length = m) (hr : CellsAt w A news) (h1 : ∀ u ∈ news, u.oneCell' = true)
    (h63 : n + m ≤ maxLen) (hbytes : (n + m) * bytes ≤ 140737488355328) (hbase : base ≤ w.heap.size)
    (h : ∀ v' w', w'.ownsRow base e 1 v' (n + m) (xs ++ news) → w.grownBy w' v.ownBlock → (v'.ownBlock = v.ownBlock ∨ v'.ownBlock = some w.heap.size) → K (a.put o.dst v') w') : o.wp P a w K Q := by
  obtain ⟨v', w', hrun, h2, h3, h4⟩ := run_app (P := P) w base t o.type e i z bytes ht hi hz hsize hby hzs v n xs hown A m c news hm hr h1 h63 hbytes hbase
  unfold Oper.wp execOp
  simp only [ho, resolve, invoke, builtin, Sem.run_bind, Sem.run_pure, Result.andThen_ok, List.map_toArray, List.map_cons, List.map_nil, hs, hx, hrun]
  exact h v' w' h2 h3 h4

theorem wpList_app {ops : Array Oper} {rest : List Oper} {o : Oper} {a : Act} {Q : Exit → Act → World → Prop} (hgd : o.guard = none) (s x : Operand) (t : TypeId)
    (ho : o.op = .call { callee := .builtin .append, args := #[s, x], argTypes := #[t, t] })
    (base : Nat) (e : TypeId) (i : TypeInfo) (z : Value) (bytes : Nat) (ht : P.underlying t = some (.slice e)) (hi : P.info? e = some i) (hz : i.zero = some z)
    (hsize : i.size = 1) (hby : i.bytes = bytes) (hzs : z.cells.size = 1)
    (v : Value) (n : Nat) (xs : List Value) (hs : a.eval s = v) (hown : w.ownsRow base e 1 v n xs)
    (A : Option Addr) (m c : Nat) (news : List Value) (hx : a.eval x = .slice A m c) (hm : news.length = m) (hr : CellsAt w A news) (h1 : ∀ u ∈ news, u.oneCell' = true)
    (h63 : n + m ≤ maxLen) (hbytes : (n + m) * bytes ≤ 140737488355328) (hbase : base ≤ w.heap.size)
    (h : ∀ v' w', w'.ownsRow base e 1 v' (n + m) (xs ++ news) → w.grownBy w' v.ownBlock → (v'.ownBlock = v.ownBlock ∨ v'.ownBlock = some w.heap.size) → wpList P ops Q rest (a.put o.dst v') w') : wpList P ops Q (o :: rest) a w :=
  wpList_plain hgd fun _ hK => wp_app w s x t ho base e i z bytes ht hi hz hsize hby hzs v n xs hs hown A m c news hx hm hr h1 h63 hbytes hbase fun v' w' h2 h3 h4 => hK _ _ (h v' w' h2 h3 h4)

/-- An operation whose run is known. -/
theorem wpList_val {ops : Array Oper} {rest : List Oper} {o : Oper} {a : Act} {Q : Exit → Act → World → Prop} (hgd : o.guard = none) (v : Value) (w' : World)
    (hr : (execOp a.eval o).run P w = .ok (.value v) w') (h : wpList P ops Q rest (a.put o.dst v) w') : wpList P ops Q (o :: rest) a w :=
  wpList_plain hgd fun K hK => by
    unfold Oper.wp
    rw [hr]
    exact hK _ _ h

/-- 'range m', m a map. -/
theorem wpList_range_is {ops : Array Oper} {rest : List Oper} {o : Oper} {a : Act} {Q : Exit → Act → World → Prop} (hgd : o.guard = none) (x : Operand) (t : TypeId) (hop : o.op = Op.range t x) (k e : TypeId)
    (ht : P.underlying t = some (.map k e)) (m : Nat) (L : List (Value × Value)) (hx : a.eval x = .map (some m)) (hm : MapIs w m L)
    (hK : ∀ w', IterIs w' w.heap.size m L L → Chg NoB w w' → w'.heap.size = w.heap.size + 1 → wpList P ops Q rest (a.put o.dst (ptr w.heap.size)) w') : wpList P ops Q (o :: rest) a w := by
  obtain ⟨ob, hrun, hit⟩ := run_range_is (P := P) ht hm
  refine wpList_val w hgd (ptr w.heap.size) (w.alloc ob) ?_ (hK _ hit ((Chg.refl _ _).alloc _) (by simp))
  simp [execOp, hop, hx, hrun, Result.andThen, ptr]

/-- the step of a loop over a map. -/
theorem wpList_next_is {ops : Array Oper} {rest : List Oper} {o : Oper} {a : Act} {Q : Exit → Act → World → Prop} (hgd : o.guard = none) (it : Operand) (hop : o.op = Op.next it false) (r m : Nat) (L left : List (Value × Value))
    (hit : a.eval it = ptr r) (h : IterIs w r m L left)
    (hDone : left = [] → wpList P ops Q rest (a.put o.dst (.tuple #[.bool false])) w)
    (hMore : ∀ (x y : Value) (left' : List (Value × Value)) (w' : World), (x, y) ∈ L → left.Perm ((x, y) :: left') → IterIs w' r m L left' → Chg (fun k => k = r) w w' → w'.heap.size = w.heap.size →
      (Instr.entry (ptr r)).run P w' = .ok (.tuple #[x, y]) w' → wpList P ops Q rest (a.put o.dst (.tuple #[.bool true, x, y])) w') : wpList P ops Q (o :: rest) a w := by
  rcases run_next_is (P := P) o.type h with ⟨h0, hrun⟩ | ⟨x, left', w', hxl, hp, hrun, hit', hch, hsz, hen⟩
  · refine wpList_val w hgd (.tuple #[.bool false]) w ?_ (hDone h0)
    simp [execOp, hop, hit, ptr, hrun, Result.andThen]
  · refine wpList_val w hgd (.tuple #[.bool true, x.1, x.2]) w' ?_ (hMore x.1 x.2 left' w' hxl hp hit' hch hsz hen)
    simp [execOp, hop, hit, ptr, hrun, Result.andThen]

/-- how many entries an iterator has left -/
def leftN (w : World) (r : Nat) : Nat :=
  match w.heap[r]? with
  | some (.mapIter (some m) _ seen _) => (match w.heap[m]? with
    | some (.map es _) => (leftOf es seen).size
    | _ => 0)
  | _ => 0
theorem IterIs.leftN {w : World} {r m : Nat} {L left : List (Value × Value)} (h : IterIs w r m L left) : leftN w r = left.length := by
  obtain ⟨es, clock, seen, c0, h1, h2, h3, h4, h5, h6, h7⟩ := h
  unfold Proofs.Yteleglkoagnmcaa.leftN
  rw [h5]
  simp only [h1]
  rw [← h7]
  simp

/-- 'delete(m, k)', k a text. -/
theorem wpList_delete_str {ops : Array Oper} {rest : List Oper} {o : Oper} {a : Act} {Q : Exit → Act → World → Prop} (hgd : o.guard = none) (m x : Operand) (t k : TypeId)
    (ho : o.op = .call { callee := .builtin .delete, args := #[m, x], argTypes := #[t, k] }) (e : TypeId) (ht : P.underlying t = some (.map k e)) (hk : P.underlying k = some .string)
    (mb : Nat) (l : List (ByteArray × Value)) (s : ByteArray) (hm : a.eval m = .map (some mb)) (hx : a.eval x = .string s) (h : MapIs w mb (strs l))
    (hK : ∀ w', MapIs w' mb (strs (delS s l)) → Chg (fun k => k = mb) w w' → w'.heap.size = w.heap.size → wpList P ops Q rest (a.put o.dst (.tuple #[])) w') : wpList P ops Q (o :: rest) a w := by
  obtain ⟨ob, hrun, hmap⟩ := run_delete_str (P := P) o.type ht hk h s
  refine wpList_val w hgd (.tuple #[]) (setB w mb ob) ?_ (hK _ hmap (setB_chg (F := fun k => k = mb) (Chg.refl _ _) mb (fun _ => rfl) ob) (by simp [setB]))
  unfold execOp
  simp only [ho, resolve, invoke, builtin, Sem.run_bind, Sem.run_pure, Result.andThen_ok, List.map_toArray, List.map_cons, List.map_nil, hm, hx, hrun]

/-- 'm[k] = v', k a text. -/
theorem wpList_update_str {ops : Array Oper} {rest : List Oper} {o : Oper} {a : Act} {Q : Exit → Act → World → Prop} (hgd : o.guard = none) (m x v : Operand) (t : TypeId)
    (ho : o.op = .mapUpdate t m x v) (k e : TypeId) (ht : P.underlying t = some (.map k e)) (hk : P.underlying k = some .string)
    (mb : Nat) (l : List (ByteArray × Value)) (s : ByteArray) (u : Value) (hm : a.eval m = .map (some mb)) (hx : a.eval x = .string s) (hv : a.eval v = u) (h : MapIs w mb (strs l))
    (hK : ∀ w', MapIs w' mb (strs (putS s u l)) → Chg (fun k => k = mb) w w' → w'.heap.size = w.heap.size → wpList P ops Q rest (a.put o.dst undef) w') : wpList P ops Q (o :: rest) a w := by
  obtain ⟨ob, hrun, hmap⟩ := run_update_str (P := P) ht hk h s u
  refine wpList_plain hgd fun K hK' => ?_
  unfold Oper.wp
  simp [execOp, ho, hm, hx, hv, hrun, Result.andThen]
  exact hK' _ _ (hK _ hmap (setB_chg (F := fun k => k = mb) (Chg.refl _ _) mb (fun _ => rfl) ob) (by simp [setB]))

theorem step_update_str {ops : Array Oper} {o : Oper} {a : Act} {K : Act → World → Prop} {Q : Exit → Act → World → Prop} {E : Prop} (hgd : o.guard = none) (m x v : Operand) (t : TypeId)
    (ho : o.op = .mapUpdate t m x v) (k e : TypeId) (ht : P.underlying t = some (.map k e)) (hk : P.underlying k = some .string)
    (mb : Nat) (l : List (ByteArray × Value)) (s : ByteArray) (u : Value) (hm : a.eval m = .map (some mb)) (hx : a.eval x = .string s) (hv : a.eval v = u) (h : MapIs w mb (strs l))
    (hK : ∀ w', MapIs w' mb (strs (putS s u l)) → Chg (fun k => k = mb) w w' → w'.heap.size = w.heap.size → K (a.put o.dst undef) w') :
    if Region.wanted o (yielded ops a.tmps) = true then Oper.wp P o a w K Q else E := by
  have hw : Region.wanted o (yielded ops a.tmps) = true := by simp [Region.wanted, hgd]
  rw [if_pos hw]
  obtain ⟨ob, hrun, hmap⟩ := run_update_str (P := P) ht hk h s u
  unfold Oper.wp
  simp [execOp, ho, hm, hx, hv, hrun, Result.andThen]
  exact hK _ hmap (setB_chg (F := fun k => k = mb) (Chg.refl _ _) mb (fun _ => rfl) ob) (by simp [setB])

open Classical in
/-- what the map's block holds behind 'm[k] = v' -/
noncomputable def updO (P : Program) (w : World) (t : TypeId) (m : Nat) (l : List (ByteArray × Value)) (s : ByteArray) (v : Value) : Obj :=
  if h : ∃ o, (Instr.mapUpdate t (.map (some m)) (.string s) v).run P w = .ok () (setB w m o) ∧ MapIs (setB w m o) m (strs (putS s v l)) then Classical.choose h else .map #[] 0
theorem updO_spec {t k e : TypeId} (ht : P.underlying t = some (.map k e)) (hk : P.underlying k = some .string) {m : Nat} {l : List (ByteArray × Value)} (h : MapIs w m (strs l)) (s : ByteArray) (v : Value) :
    (Instr.mapUpdate t (.map (some m)) (.string s) v).run P w = .ok () (setB w m (updO P w t m l s v)) ∧ MapIs (setB w m (updO P w t m l s v)) m (strs (putS s v l)) := by
  have hx := run_update_str (P := P) ht hk h s v
  unfold updO
  rw [dif_pos hx]
  exact Classical.choose_spec hx
end
end Go.Proofs.Yteleglkoagnmcaa
