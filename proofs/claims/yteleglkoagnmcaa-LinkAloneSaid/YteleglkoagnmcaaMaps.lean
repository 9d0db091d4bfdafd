/- What is proved: laws of maps of no program: looking up, storing, deleting, ranging, over maps that are known as lists of entries. Conditions: as each theorem says. -/
import Derived.Test.YteleglkoagnmcaaHeap
import Derived.MapKept
import Derived.Laws.IdiomRangeMap
set_option linter.unusedSimpArgs false
set_option linter.unusedVariables false
namespace Go.Proofs.Yteleglkoagnmcaa
open Go.RowKit

/-! ### lists of entries with texts as keys -/
def kv (e : MapEntry) : Value × Value := (e.key, e.val)
def strs (l : List (ByteArray × Value)) : List (Value × Value) := l.map fun e => (.string e.1, e.2)
section
variable {K : Type} [BEq K]
def lookS (k : K) : List (K × Value) → Option Value
  | [] => none
  | e :: r => if k == e.1 then some e.2 else lookS k r
def putS (k : K) (v : Value) : List (K × Value) → List (K × Value)
  | [] => [(k, v)]
  | e :: r => if k == e.1 then (k, v) :: r else e :: putS k v r
def delS (k : K) : List (K × Value) → List (K × Value)
  | [] => []
  | e :: r => if k == e.1 then r else e :: delS k r
end

theorem findNow_str (k : ByteArray) : ∀ (es : List MapEntry) (l : List (ByteArray × Value)) (i : Nat), es.map kv = strs l →
    (Instr.findNow .string (.string k) es i = some none ∧ lookS k l = none ∧ delS k l = l ∧ ∀ v, putS k v l = l ++ [(k, v)]) ∨
    ∃ j v, Instr.findNow .string (.string k) es i = some (some (i + j, v)) ∧ lookS k l = some v ∧ j < es.length ∧ (es[j]?).map (·.key) = some (.string k) ∧
      (es.eraseIdx j).map kv = strs (delS k l) ∧ ∀ v', (es.modify j fun e => { e with key := .string k, val := v' }).map kv = strs (putS k v' l)
  | [], l, i, h => by
    cases l with
    | nil => exact .inl ⟨rfl, rfl, rfl, fun _ => rfl⟩
    | cons => simp [strs] at h
  | e :: es, l, i, h => by
    cases l with
    | nil => simp [strs] at h
    | cons x l =>
      obtain ⟨s, u⟩ := x
      simp only [List.map_cons, strs, List.cons.injEq] at h
      obtain ⟨h1, h2⟩ := h
      have hk : e.key = .string s := by simp [kv] at h1; exact h1.1
      have hv : e.val = u := by simp [kv] at h1; exact h1.2
      by_cases hs : (k == s) = true
      · refine .inr ⟨0, u, ?_, ?_, by simp, ?_, ?_, ?_⟩
        · simp [Instr.findNow, hk, hv, Instr.sameNow, hs]
        · simp [lookS, hs]
        · have := (MapKept.bytes_beq k s).1 hs; subst this; simp [hk]
        · simpa [delS, hs, strs] using h2
        · intro v'
          simpa [putS, hs, kv, strs] using h2
      · have hs' : (k == s) = false := by simpa using hs
        rcases findNow_str k es l (i + 1) h2 with ⟨r1, r2, r3, r4⟩ | ⟨j, v, r1, r2, r3, r4, r5, r6⟩
        · refine .inl ⟨by simp [Instr.findNow, hk, Instr.sameNow, hs', r1], by simp [lookS, hs', r2], by simp [delS, hs', r3], fun v => by simp [putS, hs', r4]⟩
        · refine .inr ⟨j + 1, v, ?_, by simp [lookS, hs', r2], by simp; omega, by simpa using r4, ?_, ?_⟩
          · simp [Instr.findNow, hk, Instr.sameNow, hs', r1]; omega
          · simp only [List.eraseIdx_cons_succ, List.map_cons, delS, hs', strs, h1]
            simpa [strs] using r5
          · intro v'
            simp only [List.modify_succ_cons, List.map_cons, putS, hs', strs, h1]
            simpa [strs] using r6 v'

section
variable {P : Program} {w : World} {m : Nat} {t k e : TypeId} {l : List (ByteArray × Value)}

theorem isKey_str (s : ByteArray) : MapKept.IsKey .string (.string s) := by simp [MapKept.IsKey]

theorem run_lookup_str (ht : P.underlying t = some (.map k e)) (hk : P.underlying k = some .string) {z : Value} (hz : (zeroValue e).run P w = .ok z w)
    (h : MapIs w m (strs l)) (s : ByteArray) : (Instr.lookup t (.map (some m)) (.string s) false).run P w = .ok ((lookS s l).getD z) w := by
  obtain ⟨es, clock, hm, hkv, _⟩ := h
  have hc : (Instr.checkKey es.isEmpty 10000 k (.string s)).run P w = .ok () w := MapKept.run_checkKey hk (isKey_str s) _ 9999
  rcases findNow_str s es.toList l 0 hkv with ⟨r1, r2, _⟩ | ⟨j, v, r1, r2, _⟩
  · simp [Instr.lookup, run_underlying ht, MapKept.run_getObj_map hm, hc, MapKept.run_findKey hk r1, hz, Result.andThen, r2]
  · simp [Instr.lookup, run_underlying ht, MapKept.run_getObj_map hm, hc, MapKept.run_findKey hk r1, Result.andThen, r2]

theorem run_update_str (ht : P.underlying t = some (.map k e)) (hk : P.underlying k = some .string)
    (h : MapIs w m (strs l)) (s : ByteArray) (v : Value) : ∃ o, (Instr.mapUpdate t (.map (some m)) (.string s) v).run P w = .ok () (setB w m o) ∧ MapIs (setB w m o) m (strs (putS s v l)) := by
  have hlt := h.lt
  obtain ⟨es, clock, hm, hkv, hn, hb⟩ := h
  have hc : (Instr.checkKey false 10000 k (.string s)).run P w = .ok () w := MapKept.run_checkKey hk (isKey_str s) _ 9999
  rcases findNow_str s es.toList l 0 hkv with ⟨r1, r2, r3, r4⟩ | ⟨j, u, r1, r2, r3, r4, r5, r6⟩
  · refine ⟨.map (es.push { key := .string s, val := v, born := clock }) (clock + 1), ?_, ?_⟩
    · simp [Instr.mapUpdate, run_underlying ht, MapKept.run_getObj_map hm, hc, MapKept.run_findKey hk r1, MapKept.run_setObj_map _ hm, Result.andThen, setB]
    · refine ⟨_, _, setB_same w m _ hlt, ?_, ?_, ?_⟩
      · rw [r4]
        simp only [Array.toList_push, List.map_append, strs, List.map_cons, List.map_nil]
        exact congrArg (· ++ _) hkv
      · simp only [Array.toList_push, List.map_append, List.map_cons, List.map_nil]
        rw [List.nodup_append]
        refine ⟨hn, by simp, ?_⟩
        intro a ha b hb' hab
        simp at hb'
        obtain ⟨x, hx, rfl⟩ := List.mem_map.1 ha
        have := hb x hx
        omega
      · intro x hx
        simp at hx
        rcases hx with hx | rfl
        · have := hb x (by simpa using hx); omega
        · simp
  · simp only [Nat.zero_add] at r1
    have hkey : ((es[j]?).map (·.key)).getD (.string s) = .string s := by
      have : es[j]? = es.toList[j]? := by simp
      rw [this, r4]; rfl
    refine ⟨.map (es.modify j fun e => { e with key := .string s, val := v }) clock, ?_, ?_⟩
    · simp only [Instr.mapUpdate, run_underlying ht, MapKept.run_getObj_map hm, hc, MapKept.run_findKey hk r1, Result.andThen, Sem.run_bind, hkey, MapKept.run_keyThatStays (isKey_str s), MapKept.run_setObj_map _ hm, setB]
    · refine ⟨_, _, setB_same w m _ hlt, ?_, ?_, ?_⟩
      · have := r6 v
        simp only [Array.toList_modify]
        exact this
      · have e : ((es.modify j fun e => { e with key := .string s, val := v }).toList.map (·.born)) = es.toList.map (·.born) := by
          simp only [Array.toList_modify]
          apply List.ext_getElem?
          intro i
          simp only [List.getElem?_map, List.getElem?_modify]
          cases es.toList[i]? with
          | none => rfl
          | some y => by_cases hij : j = i <;> simp [hij]
        rw [e]; exact hn
      · intro x hx
        have hx' : x.born ∈ (es.modify j fun e => { e with key := .string s, val := v }).toList.map (·.born) := List.mem_map.2 ⟨x, hx, rfl⟩
        have e : ((es.modify j fun e => { e with key := .string s, val := v }).toList.map (·.born)) = es.toList.map (·.born) := by
          simp only [Array.toList_modify]
          apply List.ext_getElem?
          intro i
          simp only [List.getElem?_map, List.getElem?_modify]
          cases es.toList[i]? with
          | none => rfl
          | some y => by_cases hij : j = i <;> simp [hij]
        rw [e] at hx'
        obtain ⟨y, hy, hyx⟩ := List.mem_map.1 hx'
        have := hb y hy
        omega

theorem run_delete_str (ty : TypeId) (ht : P.underlying t = some (.map k e)) (hk : P.underlying k = some .string)
    (h : MapIs w m (strs l)) (s : ByteArray) : ∃ o, (Builtin.delete_ #[t, k] ty #[.map (some m), .string s]).run P w = .ok (.tuple #[]) (setB w m o) ∧ MapIs (setB w m o) m (strs (delS s l)) := by
  have hlt := h.lt
  obtain ⟨es, clock, hm, hkv, hn, hb⟩ := h
  have hc : (Instr.checkKey es.isEmpty 10000 k (.string s)).run P w = .ok () w := MapKept.run_checkKey hk (isKey_str s) _ 9999
  rcases findNow_str s es.toList l 0 hkv with ⟨r1, r2, r3, r4⟩ | ⟨j, u, r1, r2, r3, r4, r5, r6⟩
  · refine ⟨.map es clock, ?_, ?_⟩
    · simp [Builtin.delete_, run_underlying ht, MapKept.run_getObj_map hm, hc, MapKept.run_findKey hk r1, MapKept.run_setObj_map _ hm, Result.andThen, setB]
    · exact ⟨_, _, setB_same w m _ hlt, by rw [r3]; exact hkv, hn, hb⟩
  · simp only [Nat.zero_add] at r1
    refine ⟨.map (es.eraseIdxIfInBounds j) clock, ?_, ?_⟩
    · simp [Builtin.delete_, run_underlying ht, MapKept.run_getObj_map hm, hc, MapKept.run_findKey hk r1, MapKept.run_setObj_map _ hm, Result.andThen, setB]
    · have hj : j < es.size := by simpa using r3
      have el : (es.eraseIdxIfInBounds j).toList = es.toList.eraseIdx j := by
        unfold Array.eraseIdxIfInBounds
        rw [dif_pos hj]
        simp
      refine ⟨_, _, setB_same w m _ hlt, ?_, ?_, ?_⟩
      · rw [el]; exact r5
      · rw [el]
        exact ((List.eraseIdx_sublist _ _).map _).nodup hn
      · rw [el]
        intro x hx
        exact hb x ((List.eraseIdx_sublist _ _).subset hx)

/-! ### ranging -/
def IterIs (w : World) (r m : Nat) (l left : List (Value × Value)) : Prop :=
  ∃ (es : Array MapEntry) (clock : Nat) (seen : Array Nat) (c0 : Nat), w.heap[m]? = some (.map es clock) ∧ es.toList.map kv = l ∧ (es.toList.map (·.born)).Nodup ∧ (∀ x ∈ es.toList, x.born < clock) ∧
    w.heap[r]? = some (.mapIter (some m) clock seen c0) ∧ clock ≤ c0 ∧ (leftOf es seen).toList.map kv = left

theorem IterIs.of_block {w w' : World} {r m : Nat} {l left : List (Value × Value)} (h : IterIs w r m l left) (hm : w'.heap[m]? = w.heap[m]?) (hr : w'.heap[r]? = w.heap[r]?) : IterIs w' r m l left := by
  obtain ⟨es, clock, seen, c0, h1, h2, h3, h4, h5, h6, h7⟩ := h
  exact ⟨es, clock, seen, c0, hm.trans h1, h2, h3, h4, hr.trans h5, h6, h7⟩
theorem IterIs.lt {w : World} {r m : Nat} {l left : List (Value × Value)} (h : IterIs w r m l left) : m < w.heap.size ∧ r < w.heap.size := by
  obtain ⟨es, clock, seen, c0, h1, h2, h3, h4, h5, h6, h7⟩ := h
  exact ⟨(Array.getElem?_eq_some_iff.1 h1).1, (Array.getElem?_eq_some_iff.1 h5).1⟩
theorem IterIs.chg {F : Nat → Prop} {w w' : World} {r m : Nat} {l left : List (Value × Value)} (h : IterIs w r m l left) (hb : Chg F w w') (hm : ¬ F m) (hr : ¬ F r) : IterIs w' r m l left :=
  h.of_block (hb.block m h.lt.1 hm) (hb.block r h.lt.2 hr)
theorem IterIs.map {w : World} {r m : Nat} {l left : List (Value × Value)} (h : IterIs w r m l left) : MapIs w m l := by
  obtain ⟨es, clock, seen, c0, h1, h2, h3, h4, h5, h6, h7⟩ := h
  exact ⟨es, clock, h1, h2, h3, h4⟩
theorem IterIs.blk_ne {w : World} {r m : Nat} {l left : List (Value × Value)} (h : IterIs w r m l left) {g : Nat} {t : TypeId} {cs : Array Value} (hg : Blk w g t cs) : r ≠ g := by
  rintro rfl
  obtain ⟨es, clock, seen, c0, h1, h2, h3, h4, h5, h6, h7⟩ := h
  unfold Blk at hg
  rw [h5] at hg
  cases hg

theorem run_range_is (ht : P.underlying t = some (.map k e)) {L : List (Value × Value)} (h : MapIs w m L) :
    ∃ o, (Instr.range t (.map (some m))).run P w = .ok (.pointer (some ⟨w.heap.size, 0, none⟩)) (w.alloc o) ∧ IterIs (w.alloc o) w.heap.size m L L := by
  obtain ⟨es, clock, hm, hkv, hn, hb⟩ := h
  refine ⟨_, run_range_map w t k e m es clock ht hm, es, clock, #[], clock, ?_, hkv, hn, hb, heap_alloc_new w _, Nat.le_refl _, ?_⟩
  · rw [Below.heap_alloc w _ m (Array.getElem?_eq_some_iff.1 hm).1]; exact hm
  · have hf : leftOf es #[] = es := Array.filter_eq_self.2 (fun x _ => by simp)
    rw [hf]
    exact hkv

theorem perm_filter_erase (seen : Array Nat) (e : MapEntry) : ∀ (l : List MapEntry), (l.map (·.born)).Nodup → e ∈ l.filter (fun x => !seen.contains x.born) →
    ((l.filter fun x => !seen.contains x.born).map kv).Perm (kv e :: ((l.filter fun x => !(seen.push e.born).contains x.born).map kv))
  | [], _, h => by simp at h
  | x :: l, hn, he => by
    obtain ⟨hx, hn'⟩ := List.nodup_cons.1 hn
    by_cases hxe : x = e
    · subst hxe
      have hs : seen.contains x.born = false := by
        have := (List.mem_filter.1 he).2
        simpa using this
      have hrest : l.filter (fun y => !(seen.push x.born).contains y.born) = l.filter (fun y => !seen.contains y.born) := by
        apply List.filter_congr
        intro y hy
        have hne : y.born ≠ x.born := fun h => hx (List.mem_map.2 ⟨y, hy, h⟩)
        simp [hne]
      have h1 : (x :: l).filter (fun x => !seen.contains x.born) = x :: l.filter (fun x => !seen.contains x.born) := by
        rw [List.filter_cons, if_pos (by simp only [hs]; rfl)]
      have h2 : (x :: l).filter (fun y => !(seen.push x.born).contains y.born) = l.filter (fun y => !(seen.push x.born).contains y.born) := by
        rw [List.filter_cons, if_neg (by simp)]
      rw [h1, h2, hrest]
      exact List.Perm.refl _
    · have he' : e ∈ l.filter (fun x => !seen.contains x.born) := by
        rw [List.mem_filter] at he ⊢
        exact ⟨by simpa [Ne.symm hxe] using he.1, he.2⟩
      have ih := perm_filter_erase seen e l hn' he'
      have hne : x.born ≠ e.born := fun h => hx (List.mem_map.2 ⟨e, (List.mem_filter.1 he').1, h.symm⟩)
      by_cases hs : seen.contains x.born = true
      · have h1 : (x :: l).filter (fun x => !seen.contains x.born) = l.filter (fun x => !seen.contains x.born) := by
          rw [List.filter_cons, if_neg (by simp only [hs]; decide)]
        have h2 : (x :: l).filter (fun y => !(seen.push e.born).contains y.born) = l.filter (fun y => !(seen.push e.born).contains y.born) := by
          rw [List.filter_cons, if_neg (by simp only [contains_push, hs, Bool.true_or]; decide)]
        rw [h1, h2]; exact ih
      · have hs' : seen.contains x.born = false := by simpa using hs
        have h1 : (x :: l).filter (fun x => !seen.contains x.born) = x :: l.filter (fun x => !seen.contains x.born) := by
          rw [List.filter_cons, if_pos (by simp only [hs']; rfl)]
        have h2 : (x :: l).filter (fun y => !(seen.push e.born).contains y.born) = x :: l.filter (fun y => !(seen.push e.born).contains y.born) := by
          rw [List.filter_cons, if_pos (by simp only [contains_push, hs']; simp [hne])]
        rw [h1, h2]
        simp only [List.map_cons]
        exact (ih.cons _).trans (List.Perm.swap _ _ _)

/-- the step of a range loop -/
theorem run_next_is (ty : TypeId) {r : Nat} {L left : List (Value × Value)} (h : IterIs w r m L left) :
    (left = [] ∧ (Instr.next (.pointer (some ⟨r, 0, none⟩)) false ty).run P w = .ok (.tuple #[.bool false]) w) ∨
    ∃ (x : Value × Value) (left' : List (Value × Value)) (w' : World), x ∈ L ∧ left.Perm (x :: left') ∧ (Instr.next (.pointer (some ⟨r, 0, none⟩)) false ty).run P w = .ok (.tuple #[.bool true, x.1, x.2]) w' ∧
      IterIs w' r m L left' ∧ Chg (· = r) w w' ∧ w'.heap.size = w.heap.size ∧ (Instr.entry (.pointer (some ⟨r, 0, none⟩))).run P w' = .ok (.tuple #[x.1, x.2]) w' := by
  obtain ⟨es, clock, seen, c0, h1, h2, h3, h4, h5, h6, h7⟩ := h
  have hrm : r ≠ m := by rintro rfl; rw [h1] at h5; cases h5
  have hrlt : r < w.heap.size := (Array.getElem?_eq_some_iff.1 h5).1
  simp only [Instr.next, getObj, Sem.run_bind, Sem.run, h5, h1, Result.andThen, next_test_false seen es clock c0 h4 h6, Bool.false_eq_true, if_false]
  subst h7
  have hLdef : Array.filter (fun e => !seen.contains e.born) es = leftOf es seen := rfl
  rw [hLdef]
  have hmem : ∀ x ∈ (leftOf es seen).toList, x.born < clock := fun x hx => h4 x (mem_left hx).1
  have hin : ∀ x ∈ (leftOf es seen).toList, x ∈ es.toList := fun x hx => (mem_left hx).1
  have hperm : ∀ x ∈ (leftOf es seen).toList, ((leftOf es seen).toList.map kv).Perm (kv x :: (leftOf es (seen.push x.born)).toList.map kv) := fun x hx => by
    have := perm_filter_erase seen x es.toList h3 (by simpa [leftOf] using hx)
    simpa [leftOf] using this
  generalize hL : leftOf es seen = L' at hmem hin hperm ⊢
  have e1 : L'.filter (fun x => decide (x.born < clock)) = L' := Array.filter_eq_self.2 (fun x hx => by simpa using hmem x (by simpa using hx))
  have e2 : L'.filter (fun x => decide (x.born ≥ clock)) = #[] := by
    rw [Array.filter_eq_empty_iff]
    intro x hx
    have := hmem x (by simpa using hx)
    simp
    omega
  simp only [e1, e2, Array.append_empty]
  by_cases h0 : L'.size = 0
  · left
    have : L' = #[] := Array.eq_empty_of_size_eq_zero h0
    subst this
    refine ⟨rfl, ?_⟩
    simp [choose, Sem.run, Question.forced]
  · right
    have hne : L'.isEmpty = false := by simp [Array.isEmpty, h0]
    simp only [hne, Bool.false_eq_true, if_false, Array.empty_append, Array.size_map]
    have hch : ∃ (j : Nat) (w1 : World), j < L'.size ∧ (w1 = w ∨ w1 = w.drew) ∧ (choose (Question.mapNext L'.size)).run P w = .ok j w1 := by
      by_cases hf : L'.size ≤ 1
      · exact ⟨0, w, by omega, .inl rfl, by simp [choose, Sem.run, Question.forced, hf]⟩
      · exact ⟨_, w.drew, Nat.mod_lt _ (by omega), .inr rfl, by
          simp only [choose, Sem.run, Question.forced, decide_eq_true_eq, hf, if_false, Question.cut]
          rfl⟩
    obtain ⟨j, w1, hj, hal, hrun⟩ := hch
    have hheap : w1.heap = w.heap := by rcases hal with rfl | rfl <;> rfl
    have hx : L'[j] ∈ L'.toList := by simp
    have hset : ∀ (o' : Obj), (setObj r o').run P w1 = .ok () (setB w1 r o') := fun o' => by
      have h5' : w1.heap[r]? = some (.mapIter (some m) clock seen c0) := by rw [hheap]; exact h5
      simp only [setObj, Sem.run, h5']
      rfl
    have hr1 : r < w1.heap.size := by rw [hheap]; exact hrlt
    refine ⟨kv L'[j], _, setB w1 r (.mapIter (some m) clock (seen.push L'[j].born) clock), ?_, hperm _ hx, ?_, ?_, ?_, ?_, ?_⟩
    · rw [← h2]; exact List.mem_map.2 ⟨_, hin _ hx, rfl⟩
    · simp only [hrun, Array.getElem?_map, Array.getElem?_eq_getElem hj, Option.map_some, Sem.run_bind, hset, Result.andThen]
      rfl
    · refine ⟨es, clock, seen.push L'[j].born, clock, ?_, h2, h3, h4, setB_same _ _ _ hr1, Nat.le_refl _, rfl⟩
      rw [setB_other _ _ _ _ hrm.symm, hheap]; exact h1
    · refine setB_chg (F := fun x => x = r) ?_ r (fun _ => rfl) _
      rcases hal with rfl | rfl
      · exact Chg.refl _ _
      · exact (Chg.refl _ _).drew
    · simp [setB, hheap]
    · have hb' : (setB w1 r (.mapIter (some m) clock (seen.push L'[j].born) clock)).heap[m]? = some (.map es clock) := by rw [setB_other _ _ _ _ hrm.symm, hheap]; exact h1
      have hf : es.find? (·.born == L'[j].born) = some L'[j] := by rw [← Array.find?_toList]; exact find_born L'[j] es.toList h3 (hin _ hx)
      simp only [Instr.entry, getObj, Sem.run_bind, Sem.run, setB_same w1 r _ hr1, hb', Result.andThen, Array.back?_push, bne_self_eq_false, Bool.false_eq_true, if_false, hf]
      rfl
end

/-! ### pointers as keys -/
@[go_sem] def ptr (b : Nat) : Value := .pointer (some ⟨b, 0, none⟩)
def ptrs (l : List (Nat × Value)) : List (Value × Value) := l.map fun e => (ptr e.1, e.2)

section
variable {P : Program} {w : World} {m : Nat} {t k e te : TypeId} {j : TypeInfo} {l : List (Nat × Value)}

theorem run_equal_ptr (hp : P.underlying k = some (.pointer te)) (hte : P.info? te = some j) (hsz : j.size ≠ 0) {a b : Nat} {ca cb : Array Value} {ta tb : TypeId} (ha : Blk w a ta ca) (hb : Blk w b tb cb) :
    (Op.equal k (ptr a) (ptr b)).run P w = .ok (a == b) w := by
  by_cases hab : a = b
  · subst hab
    have h : ∀ d : Nat, (Op.equalIn (d + 1) k (ptr a) (ptr a)).run P w = .ok true w := fun d => by
      simp [ptr, Op.equalIn, run_underlying hp, sizeOf, typeInfo, hte, run_sameAddr_same]
    simp [Op.equal, Op.maxDepth, h 9999]
  · have hne : (⟨a, 0, none⟩ : Addr) ≠ ⟨b, 0, none⟩ := fun h => hab (by injection h)
    have h : ∀ d : Nat, (Op.equalIn (d + 1) k (ptr a) (ptr b)).run P w = .ok false w := fun d => by
      simp [ptr, Op.equalIn, run_underlying hp, sizeOf, typeInfo, hte, hsz, run_sameAddr_other w hne ha hb]
    have hf : (a == b) = false := by simpa using hab
    simp [Op.equal, Op.maxDepth, h 9999, hf]

theorem findAsking_ptr (hp : P.underlying k = some (.pointer te)) (hte : P.info? te = some j) (hsz : j.size ≠ 0) {f : Nat} (hf : ∃ t cs, Blk w f t cs) : ∀ (es : List MapEntry) (l : List (Nat × Value)) (i : Nat), es.map kv = ptrs l →
    (∀ x ∈ l, ∃ t cs, Blk w x.1 t cs) →
    ((Instr.findAsking k (ptr f) es i).run P w = .ok none w ∧ lookS f l = none ∧ ∀ v, putS f v l = l ++ [(f, v)]) ∨
    ∃ j v, (Instr.findAsking k (ptr f) es i).run P w = .ok (some (i + j, v)) w ∧ lookS f l = some v ∧ j < es.length ∧ (es[j]?).map (·.key) = some (ptr f) ∧
      ∀ v', (es.modify j fun e => { e with key := ptr f, val := v' }).map kv = ptrs (putS f v' l)
  | [], l, i, h, _ => by
    cases l with
    | nil => exact .inl ⟨rfl, rfl, fun _ => rfl⟩
    | cons => simp [ptrs] at h
  | e :: es, l, i, h, hall => by
    cases l with
    | nil => simp [ptrs] at h
    | cons x l =>
      obtain ⟨s, u⟩ := x
      simp only [List.map_cons, ptrs, List.cons.injEq] at h
      obtain ⟨h1, h2⟩ := h
      have hk : e.key = ptr s := by simp [kv] at h1; exact h1.1
      have hv : e.val = u := by simp [kv] at h1; exact h1.2
      obtain ⟨ts, cs, hs⟩ := hall (s, u) (by simp)
      obtain ⟨tf, cf, hf'⟩ := hf
      have heq : (Op.equal k (ptr f) e.key).run P w = .ok (f == s) w := by rw [hk]; exact run_equal_ptr hp hte hsz hf' hs
      by_cases hfs : (f == s) = true
      · have hfs' := hfs
        simp only [beq_iff_eq] at hfs'
        subst hfs'
        refine .inr ⟨0, u, ?_, ?_, by simp, ?_, ?_⟩
        · simp [Instr.findAsking, Sem.run_bind, heq, Result.andThen, hv]
        · simp [lookS]
        · simp [hk]
        · intro v'
          simpa [putS, kv, ptrs] using h2
      · have hfs' : (f == s) = false := by simpa using hfs
        rcases findAsking_ptr hp hte hsz ⟨tf, cf, hf'⟩ es l (i + 1) h2 (fun x hx => hall x (by simp [hx])) with ⟨r1, r2, r3⟩ | ⟨j, v, r1, r2, r3, r4, r5⟩
        · refine .inl ⟨by simp [Instr.findAsking, Sem.run_bind, heq, hfs', Result.andThen, r1], by simp [lookS, hfs', r2], fun v => by simp [putS, hfs', r3]⟩
        · refine .inr ⟨j + 1, v, ?_, by simp [lookS, hfs', r2], by simp; omega, by simpa using r4, ?_⟩
          · simp [Instr.findAsking, Sem.run_bind, heq, hfs', Result.andThen, r1]; omega
          · intro v'
            simp only [List.modify_succ_cons, List.map_cons, putS, hfs', ptrs, h1]
            simpa [ptrs] using r5 v'

theorem findKey_ptr (hp : P.underlying k = some (.pointer te)) (f : Nat) (es : List MapEntry) (l : List (Nat × Value)) (h : es.map kv = ptrs l) :
    (Instr.findKey k (ptr f) es).run P w = (Instr.findAsking k (ptr f) es 0).run P w := by
  cases es with
  | nil => simp [Instr.findKey, run_underlying hp, Instr.findNow, Instr.findAsking, Result.andThen]
  | cons x es =>
    have hk : ∃ s, x.key = ptr s := by
      cases l with
      | nil => simp [ptrs] at h
      | cons y l => simp [ptrs, kv] at h; exact ⟨y.1, h.1.1⟩
    obtain ⟨s, hk⟩ := hk
    simp [Instr.findKey, run_underlying hp, Instr.findNow, Instr.sameNow, hk, ptr, Result.andThen]

theorem run_checkKey_ptr (hp : P.underlying k = some (.pointer te)) (em : Bool) (f n : Nat) : (Instr.checkKey em (n + 1) k (ptr f)).run P w = .ok () w := by
  unfold Instr.checkKey
  simp [run_underlying hp, Result.andThen, ptr]

theorem run_lookup_ptr (ht : P.underlying t = some (.map k e)) (hp : P.underlying k = some (.pointer te)) (hte : P.info? te = some j) (hsz : j.size ≠ 0) {z : Value} (hz : (zeroValue e).run P w = .ok z w)
    (h : MapIs w m (ptrs l)) (hall : ∀ x ∈ l, ∃ t cs, Blk w x.1 t cs) {f : Nat} (hf : ∃ t cs, Blk w f t cs) : (Instr.lookup t (.map (some m)) (ptr f) false).run P w = .ok ((lookS f l).getD z) w := by
  obtain ⟨es, clock, hm, hkv, _⟩ := h
  have hc : (Instr.checkKey es.isEmpty 10000 k (ptr f)).run P w = .ok () w := run_checkKey_ptr hp _ f 9999
  have hfk := findKey_ptr (w := w) hp f es.toList l hkv
  rcases findAsking_ptr hp hte hsz hf es.toList l 0 hkv hall with ⟨r1, r2, _⟩ | ⟨j, v, r1, r2, _⟩
  · simp [Instr.lookup, run_underlying ht, MapKept.run_getObj_map hm, hc, hfk, r1, hz, Result.andThen, r2]
  · simp [Instr.lookup, run_underlying ht, MapKept.run_getObj_map hm, hc, hfk, r1, Result.andThen, r2]

theorem run_update_ptr (ht : P.underlying t = some (.map k e)) (hp : P.underlying k = some (.pointer te)) (hte : P.info? te = some j) (hsz : j.size ≠ 0)
    (h : MapIs w m (ptrs l)) (hall : ∀ x ∈ l, ∃ t cs, Blk w x.1 t cs) {f : Nat} (hf : ∃ t cs, Blk w f t cs) (v : Value) :
    ∃ o, (Instr.mapUpdate t (.map (some m)) (ptr f) v).run P w = .ok () (setB w m o) ∧ MapIs (setB w m o) m (ptrs (putS f v l)) := by
  have hlt := h.lt
  obtain ⟨es, clock, hm, hkv, hn, hb⟩ := h
  have hc : (Instr.checkKey false 10000 k (ptr f)).run P w = .ok () w := run_checkKey_ptr hp _ f 9999
  have hfk := findKey_ptr (w := w) hp f es.toList l hkv
  rcases findAsking_ptr hp hte hsz hf es.toList l 0 hkv hall with ⟨r1, r2, r4⟩ | ⟨j, u, r1, r2, r3, r4, r6⟩
  · refine ⟨.map (es.push { key := ptr f, val := v, born := clock }) (clock + 1), ?_, ?_⟩
    · simp [Instr.mapUpdate, run_underlying ht, MapKept.run_getObj_map hm, hc, hfk, r1, MapKept.run_setObj_map _ hm, Result.andThen, setB]
    · refine ⟨_, _, setB_same w m _ hlt, ?_, ?_, ?_⟩
      · rw [r4]
        simp only [Array.toList_push, List.map_append, ptrs, List.map_cons, List.map_nil]
        exact congrArg (· ++ _) hkv
      · simp only [Array.toList_push, List.map_append, List.map_cons, List.map_nil]
        rw [List.nodup_append]
        refine ⟨hn, by simp, ?_⟩
        intro a ha b hb' hab
        simp at hb'
        obtain ⟨x, hx, rfl⟩ := List.mem_map.1 ha
        have := hb x hx
        omega
      · intro x hx
        simp at hx
        rcases hx with hx | rfl
        · have := hb x (by simpa using hx); omega
        · simp
  · simp only [Nat.zero_add] at r1
    have hkey : ((es[j]?).map (·.key)).getD (ptr f) = ptr f := by
      have : es[j]? = es.toList[j]? := by simp
      rw [this, r4]; rfl
    have hst : (Instr.keyThatStays (ptr f) (ptr f)).run P w = .ok (ptr f) w := by simp [Instr.keyThatStays, Instr.sameBits, ptr]
    have e : ((es.modify j fun e => { e with key := ptr f, val := v }).toList.map (·.born)) = es.toList.map (·.born) := by
      simp only [Array.toList_modify]
      apply List.ext_getElem?
      intro i
      simp only [List.getElem?_map, List.getElem?_modify]
      cases es.toList[i]? with
      | none => rfl
      | some y => by_cases hij : j = i <;> simp [hij]
    refine ⟨.map (es.modify j fun e => { e with key := ptr f, val := v }) clock, ?_, ?_⟩
    · simp only [Instr.mapUpdate, run_underlying ht, MapKept.run_getObj_map hm, hc, hfk, r1, Result.andThen, Sem.run_bind, hkey, hst, MapKept.run_setObj_map _ hm, setB]
    · refine ⟨_, _, setB_same w m _ hlt, ?_, ?_, ?_⟩
      · have := r6 v
        simp only [Array.toList_modify]
        exact this
      · rw [e]; exact hn
      · intro x hx
        have hx' : x.born ∈ (es.modify j fun e => { e with key := ptr f, val := v }).toList.map (·.born) := List.mem_map.2 ⟨x, hx, rfl⟩
        rw [e] at hx'
        obtain ⟨y, hy, hyx⟩ := List.mem_map.1 hx'
        have := hb y hy
        omega
end

end Go.Proofs.Yteleglkoagnmcaa
