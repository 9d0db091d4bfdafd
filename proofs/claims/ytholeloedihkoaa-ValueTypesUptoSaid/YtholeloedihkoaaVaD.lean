/- What is proved: the contract of Record. Conditions: the memory holds the names and the types. -/
import Derived.Test.YtholeloedihkoaaVaC
import Derived.Test.YtholeloedihkoaaName
import Derived.Test.YtholeloedihkoaaTail2
import Derived.Deep.AppendLies
import Derived.Deep.CutRange
import Derived.Deep.CutBlock
set_option linter.unusedSimpArgs false
set_option linter.unusedVariables false
namespace Go.Proofs.Ytholeloedihkoaa
open Go.RowKit
/-- a record's fields so far, and where the next one may begin -/
def recStep (st : List Fd × Nat) (x : ByteArray × (Nat × Ti)) : List Fd × Nat :=
  (st.1 ++ [⟨x.1, x.2.1, if x.2.2.size ≠ 1 then (st.2 + 3) / 4 * 4 else st.2⟩], min ((if x.2.2.size ≠ 1 then (st.2 + 3) / 4 * 4 else st.2) + x.2.2.size) 262145)
def recL (l : List (ByteArray × (Nat × Ti))) : List Fd × Nat := l.foldl recStep ([], 0)
def recSize (l : List (ByteArray × (Nat × Ti))) : Nat := max (((recL l).2 + 3) / 4 * 4) 4
def recGood (names : List ByteArray) : Bool := decide names.Nodup && names.all nameT
theorem List.snocRec {α : Type} {motive : List α → Prop} (nil : motive []) (snoc : ∀ l x, motive l → motive (l ++ [x])) (l : List α) : motive l := by
  rw [← List.reverse_reverse l]
  induction l.reverse with
  | nil => exact nil
  | cons x r ih => rw [List.reverse_cons]; exact snoc _ _ ih
theorem recL_snoc (l : List (ByteArray × (Nat × Ti))) (x : ByteArray × (Nat × Ti)) : recL (l ++ [x]) = recStep (recL l) x := by simp [recL]
theorem recL_len (l : List (ByteArray × (Nat × Ti))) : (recL l).1.length = l.length := by
  induction l using List.snocRec with
  | nil => rfl
  | snoc l x ih => rw [recL_snoc]; simp [recStep, ih]
theorem recL_names (l : List (ByteArray × (Nat × Ti))) : (recL l).1.map (·.name) = l.map (·.1) := by
  induction l using List.snocRec with
  | nil => rfl
  | snoc l x ih => rw [recL_snoc]; simp [recStep, ih]
theorem recL_at (l : List (ByteArray × (Nat × Ti))) (h : ∀ x ∈ l, 1 ≤ x.2.2.size) : (recL l).2 ≤ 262145 ∧ (l.length ≤ (recL l).2 ∨ (recL l).2 = 262145) := by
  induction l using List.snocRec with
  | nil => exact ⟨Nat.zero_le _, .inl (Nat.le_refl _)⟩
  | snoc l x ih =>
    have h1 := ih fun y hy => h y (by simp [hy])
    have h2 := h x (by simp)
    rw [recL_snoc]
    simp only [recStep, List.length_append, List.length_singleton]
    split <;> omega
theorem places_snoc (fs : List Fd) (f : Fd) : places (fs ++ [f]) = places fs ++ [(f.name, .int .i64 fs.length)] := by
  simp [places, List.zipIdx_append]
theorem places_keys (fs : List Fd) : (places fs).map (·.1) = fs.map (·.name) := by
  unfold places
  rw [List.map_map]
  have : (fs.zipIdx.map ((fun x => x.1) ∘ fun p : Fd × Nat => (p.1.name, Value.int .i64 p.2))) = (fs.zipIdx.map (·.1)).map (·.name) := by rw [List.map_map]; rfl
  rw [this, List.zipIdx_map_fst]
theorem lookS_none {n : ByteArray} : ∀ {l : List (ByteArray × Value)}, n ∉ l.map (·.1) → lookS n l = none ∧ ∀ v, putS n v l = l ++ [(n, v)]
  | [], _ => ⟨rfl, fun _ => rfl⟩
  | e :: r, h => by
    simp only [List.map_cons, List.mem_cons, not_or] at h
    have hb : (n == e.1) = false := by
      cases hc : (n == e.1)
      · rfl
      · exact absurd ((MapKept.bytes_beq _ _).1 hc) h.1
    obtain ⟨h1, h2⟩ := lookS_none h.2
    refine ⟨by simp [lookS, hb, h1], fun v => by simp [putS, hb, h2]⟩
theorem lookS_some {n : ByteArray} : ∀ {l : List (ByteArray × Value)}, n ∈ l.map (·.1) → ∃ v, lookS n l = some v ∧ v ∈ l.map (·.2)
  | [], h => by cases h
  | e :: r, h => by
    cases hc : (n == e.1) with
    | true => exact ⟨e.2, by simp [lookS, hc], by simp⟩
    | false =>
      rcases List.mem_cons.1 h with h1 | h1
      · rw [h1] at hc
        have := (MapKept.bytes_beq e.1 e.1).2 rfl
        rw [this] at hc
        cases hc
      · obtain ⟨v, h2, h3⟩ := lookS_some h1
        exact ⟨v, by simp [lookS, hc, h2], by simp [h3]⟩
section
variable {P : Program} {w : World} {m : Nat} {t k e : TypeId} {l : List (ByteArray × Value)}
theorem run_lookup_str_ok (ht : P.underlying t = some (.map k e)) (hk : P.underlying k = some .string) {z : Value} (hz : (zeroValue e).run P w = .ok z w)
    (h : MapIs w m (strs l)) (s : ByteArray) : (Instr.lookup t (.map (some m)) (.string s) true).run P w = .ok (.tuple #[(lookS s l).getD z, .bool (lookS s l).isSome]) w := by
  obtain ⟨es, clock, hm, hkv, _⟩ := h
  have hc : (Instr.checkKey es.isEmpty 10000 k (.string s)).run P w = .ok () w := MapKept.run_checkKey hk (isKey_str s) _ 9999
  rcases findNow_str s es.toList l 0 hkv with ⟨r1, r2, _⟩ | ⟨j, v, r1, r2, _⟩
  · simp [Instr.lookup, run_underlying ht, MapKept.run_getObj_map hm, hc, MapKept.run_findKey hk r1, hz, Result.andThen, r2]
  · simp [Instr.lookup, run_underlying ht, MapKept.run_getObj_map hm, hc, MapKept.run_findKey hk r1, Result.andThen, r2]
end
section
variable {lo : Nat} {w w' : World}
theorem rec_nil {A B : Option Addr} {c d n : Nat} {vs : List Value} {os : List (Option (Nat × Ti))} (hB : CellsAt w B vs) (hT : TVs lo w vs os) (hm : vs.length ≤ maxLen) (hn : ∃ o ∈ os, o = none) :
    Calls Try.prog 13 #[.slice A n c, .slice B vs.length d] w (Quiet (.tuple #[.pointer none, .int .i64 1]) w) := by
  have HC := Go.Lib.hid (contains_c (c := d) hB hT hm)
  have Hn := Go.Lib.hid hn
  clear hB hT hm hn
  go_enter Try.func13, Try.ntmps13
  go_wp2_with fail
  refine HC.out.mono ?_
  rintro e w1 ⟨b, rfl, hb, rfl⟩
  obtain rfl : b = true := by
    rcases hb with ⟨_, h⟩ | ⟨h, _⟩
    · obtain ⟨o, ho, rfl⟩ := Hn.out
      exact absurd (h none ho) (by simp)
    · exact h
  clear hb
  go_wp2_with fail
  go_ret2
  exact ⟨rfl, Chg.refl _ _⟩
/-- ahead of a round of Record's loop -/
structure RecI (w : World) (l : List (ByteArray × (Nat × Ti))) (k : Nat) (fA : Option Addr) (fc : Nat) (W : World) : Prop where
  chg : Chg NoB w W
  tb : Blk W (w.heap.size + 1) TT #[.int .i64 8, .int .i64 0, .pointer none, .slice fA k fc, .map (some w.heap.size), .int .i64 0]
  row : W.ownsRow w.heap.size FT 3 (.slice fA k fc) k ((recL (l.take k)).1.flatMap Fd.cells)
  map : MapIs W w.heap.size (strs (places (recL (l.take k)).1))
/-- behind the map's writing -/
structure RecM (w : World) (l : List (ByteArray × (Nat × Ti))) (k : Nat) (fA : Option Addr) (fc : Nat) (x : ByteArray) (W : World) : Prop where
  chg : Chg NoB w W
  tb : Blk W (w.heap.size + 1) TT #[.int .i64 8, .int .i64 0, .pointer none, .slice fA k fc, .map (some w.heap.size), .int .i64 0]
  row : W.ownsRow w.heap.size FT 3 (.slice fA k fc) k ((recL (l.take k)).1.flatMap Fd.cells)
  map : MapIs W w.heap.size (strs (putS x (.int .i64 k) (places (recL (l.take k)).1)))
theorem RecI.put {l : List (ByteArray × (Nat × Ti))} {k fc : Nat} {fA : Option Addr} {W W1 : World} {x : ByteArray} (h : RecI w l k fA fc W) (hm : MapIs W1 w.heap.size (strs (putS x (.int .i64 k) (places (recL (l.take k)).1)))) (hc : Chg (fun b => b = w.heap.size) W W1) : RecM w l k fA fc x W1 :=
  ⟨h.chg.step hc fun i hi e => by omega, h.tb.chg hc (by omega), own_chg h.row hc fun b hb e => by subst e; exact h.map.own_ne h.row hb, hm⟩
theorem RecM.quiet {l : List (ByteArray × (Nat × Ti))} {k fc : Nat} {fA : Option Addr} {x : ByteArray} {W W' : World} (h : RecM w l k fA fc x W) (hc : Chg NoB W W') : RecM w l k fA fc x W' :=
  ⟨h.chg.trans hc, h.tb.chg hc id, own_chg h.row hc fun _ _ => id, h.map.chg hc id⟩
theorem RecM.grow {l : List (ByteArray × (Nat × Ti))} {k fc : Nat} {fA : Option Addr} {x : ByteArray × (Nat × Ti)} {W W5 : World} {g cp a : Nat} {o : Obj} (h : RecM w l k fA fc x.1 W) (hx : l[k]? = some x)
    (hn : ∀ v, putS x.1 v (places (recL (l.take k)).1) = places (recL (l.take k)).1 ++ [(x.1, v)]) (ha : a = if x.2.2.size ≠ 1 then ((recL (l.take k)).2 + 3) / 4 * 4 else (recL (l.take k)).2)
    (hown : W5.ownsRow w.heap.size FT 3 (.slice (some ⟨g, 0, none⟩) (k + 1) cp) (k + 1) ((recL (l.take k)).1.flatMap Fd.cells ++ [.string x.1, ptr x.2.1, .int .i64 a]))
    (hg : (W.alloc o).grownBy W5 (Value.slice fA k fc).ownBlock) :
    RecI w l (k + 1) (some ⟨g, 0, none⟩) cp (W5.setCell ⟨w.heap.size + 1, 3, none⟩ (.slice (some ⟨g, 0, none⟩) (k + 1) cp)) ∧ (recL (l.take (k + 1))).2 = min (a + x.2.2.size) 262145 ∧ W5.frozen? ⟨w.heap.size + 1, 3, none⟩ = false ∧ W5.cell? ⟨w.heap.size + 1, 3, none⟩ = some (.slice fA k fc) ∧ Chg NoB w W5 := by
  have hca : Chg NoB W (W.alloc o) := (Chg.refl NoB W).alloc _
  have hch : Chg (fun k' => (Value.slice fA k fc).ownBlock = some k') W W5 := (hca.mono (fun _ _ h => h.elim)).grown hg (fun k hk _ => hk)
  have hb5 := h.tb.chg hch (own_blk_ne h.row h.tb (by decide))
  have hc5 : Chg NoB w W5 := h.chg.step hch fun i hi hk => by have := (h.row.lt i hk).1; omega
  have hc6 : Chg (fun i => i = w.heap.size + 1) W5 (W5.setCell ⟨w.heap.size + 1, 3, none⟩ (.slice (some ⟨g, 0, none⟩) (k + 1) cp)) := (Chg.refl (fun i => i = w.heap.size + 1) _).setCell (p := ⟨w.heap.size + 1, 3, none⟩) (fun _ => rfl) _
  have hm5 := h.map.chg hch (h.map.own_ne h.row)
  have hklt : k < l.length := (List.getElem?_eq_some_iff.1 hx).1
  have htake : l.take (k + 1) = l.take k ++ [x] := by rw [List.take_add_one, hx]; rfl
  have hlen : (recL (l.take k)).1.length = k := by rw [recL_len, List.length_take]; omega
  refine ⟨⟨hc5.step hc6 fun i hi e => by omega, hb5.set_ 3 _, ?_, ?_⟩, ?_, hb5.frozen 3, hb5.cell 3, hc5⟩
  · rw [htake, recL_snoc]
    simp only [recStep, List.flatMap_append, List.flatMap_cons, List.flatMap_nil, List.append_nil, Fd.cells, ← ha]
    exact own_chg hown hc6 fun k' hk' e => by subst e; exact own_blk_ne hown hb5 (by decide) hk'
  · rw [htake, recL_snoc]
    simp only [recStep, places_snoc, hlen]
    rw [hn] at hm5
    exact hm5.chg hc6 (by omega)
  · rw [htake, recL_snoc]
    simp only [recStep, ← ha]
def RecPost (l : List (ByteArray × (Nat × Ti))) (w : World) (e : Ending) (w' : World) : Prop :=
  if recGood (l.map (·.1)) = true then
    if recSize l ≤ 262144 then ∃ b T, e = .returned (.tuple #[ptr b, .int .i64 0]) ∧ TiAt w.heap.size w' b T ∧ T.kind = 8 ∧ T.n = 0 ∧ T.base = none ∧ T.fs = (recL l).1 ∧ T.size = recSize l ∧ Chg NoB w w'
    else Quiet (.tuple #[.pointer none, .int .i64 3]) w e w'
  else Quiet (.tuple #[.pointer none, .int .i64 2]) w e w'
theorem RecI.quiet {l : List (ByteArray × (Nat × Ti))} {k fc : Nat} {fA : Option Addr} {W W' : World} (h : RecI w l k fA fc W) (hc : Chg NoB W W') : RecI w l k fA fc W' :=
  ⟨h.chg.trans hc, h.tb.chg hc id, own_chg h.row hc fun _ _ => id, h.map.chg hc id⟩
theorem recBad {l : List (ByteArray × (Nat × Ti))} (h : recGood (l.map (·.1)) = false) {e : Ending} (hq : Quiet (.tuple #[.pointer none, .int .i64 2]) w e w') : RecPost l w e w' := by
  unfold RecPost
  rw [h]
  simpa using hq
theorem RecI.done {l : List (ByteArray × (Nat × Ti))} {fc : Nat} {fA : Option Addr} {W : World} (h : RecI w l l.length fA fc W) (h1 : ∀ x ∈ l, 1 ≤ x.2.2.size) (h2 : recSize l ≤ 262144) :
    TiAt w.heap.size (W.setCell ⟨w.heap.size + 1, 5, none⟩ (.int .i64 (recSize l : Nat))) (w.heap.size + 1) ⟨8, 0, none, fA, fc, (recL l).1, some w.heap.size, recSize l⟩ ∧ Chg NoB w (W.setCell ⟨w.heap.size + 1, 5, none⟩ (.int .i64 (recSize l : Nat))) := by
  have hc6 : Chg (fun i => i = w.heap.size + 1) W (W.setCell ⟨w.heap.size + 1, 5, none⟩ (.int .i64 (recSize l : Nat))) := (Chg.refl (fun i => i = w.heap.size + 1) _).setCell (p := ⟨w.heap.size + 1, 5, none⟩) (fun _ => rfl) _
  have hat := recL_at l h1
  have hlen := recL_len l
  have hs : recSize l = max (((recL l).2 + 3) / 4 * 4) 4 := rfl
  have hr := h.row
  have hm := h.map
  rw [List.take_length] at hr hm
  refine ⟨⟨?_, ?_, (fun e => by cases e), ?_, ⟨by omega, ?_⟩, ⟨by simp only; omega, h2⟩, by simp, by simp only; omega⟩, h.chg.step hc6 fun i hi e => by omega⟩
  · have := h.tb.set_ 5 (.int .i64 (recSize l : Nat))
    simp only [hlen]
    exact this
  · simp only [hlen]
    exact own_chg hr hc6 fun k hk e => by subst e; exact own_blk_ne hr h.tb (by decide) hk
  · intro m e
    obtain rfl : w.heap.size = m := by simpa using e
    exact hm.chg hc6 (by omega)
  · intro m e
    obtain rfl : w.heap.size = m := by simpa using e
    exact Nat.le_refl _
theorem recGood_ok {l : List (ByteArray × (Nat × Ti))} {e : Ending} (h : recGood (l.map (·.1)) = true) (h2 : recSize l ≤ 262144)
    (h3 : ∃ b T, e = .returned (.tuple #[ptr b, .int .i64 0]) ∧ TiAt w.heap.size w' b T ∧ T.kind = 8 ∧ T.n = 0 ∧ T.base = none ∧ T.fs = (recL l).1 ∧ T.size = recSize l ∧ Chg NoB w w') : RecPost l w e w' := by
  unfold RecPost
  rw [if_pos h, if_pos h2]
  exact h3
theorem tinfo : (Try.prog.info? FT).map (fun i => (i.zero.map fun z => z.cells.size, i.size, i.bytes)) = some (some 3, 3, 32) := by kernel_rfl
theorem ft_parts {P : Program} (h : (P.info? FT).map (fun i => (i.zero.map fun z => z.cells.size, i.size, i.bytes)) = some (some 3, 3, 32)) : ∃ i, P.info? FT = some i ∧ (∃ z, i.zero = some z ∧ z.cells.size = 3) ∧ i.size = 3 ∧ i.bytes = 32 := by
  cases hi : P.info? FT with
  | none => rw [hi] at h; cases h
  | some i =>
    rw [hi] at h
    simp only [Option.map_some, Option.some.injEq, Prod.mk.injEq] at h
    refine ⟨i, rfl, ?_, h.2⟩
    cases hz : i.zero with
    | none => rw [hz] at h; cases h.1
    | some z => rw [hz] at h; exact ⟨z, rfl, by simpa using h.1⟩
set_option maxHeartbeats 2000000 in
set_option maxRecDepth 100000 in
theorem record_c {A B : Option Addr} {c d : Nat} {l : List (ByteArray × (Nat × Ti))} {mv : Int} (hA : CellsAt w A (l.map fun x => .string x.1)) (hB : CellsAt w B (l.map fun x => ptr x.2.1)) (hT : ∀ x ∈ l, TiAt lo w x.2.1 x.2.2 ∧ x.2.2.kind ≠ 0) (hl : l.length ≤ 1100000)
    (hs : ∀ x ∈ l, x.1.size ≤ maxLen) (hv : w.cell? ⟨0, 0, none⟩ = some (.int .i64 mv)) :
    Calls Try.prog 13 #[.slice A l.length c, .slice B l.length d] w (RecPost l w) := by
  have hTV : TVs lo w (l.map fun x => ptr x.2.1) (l.map fun x => some (x.2.1, x.2.2)) := ⟨by simp, fun i v o h1 h2 => by
    rw [List.getElem?_map] at h1 h2
    cases hx : l[i]? with
    | none => rw [hx] at h1; cases h1
    | some x =>
      rw [hx] at h1 h2
      simp only [Option.map_some, Option.some.injEq] at h1 h2
      subst h1 h2
      exact ⟨rfl, (hT x (List.mem_of_getElem? hx)).1, (hT x (List.mem_of_getElem? hx)).2⟩⟩
  have HC := Go.Lib.hid (contains_c (c := d) hB hTV (by rw [List.length_map]; unfold maxLen; omega))
  rw [List.length_map] at HC
  have HA := Go.Lib.hid hA
  have HB := Go.Lib.hid hB
  have HT := Go.Lib.hid hT
  have HS := Go.Lib.hid hs
  have HV := Go.Lib.hid hv
  clear hTV hA hB hT hs hv
  go_enter Try.func13, Try.ntmps13
  go_wp2_with fail
  refine HC.out.mono ?_
  rintro e w1 ⟨b, rfl, hb, rfl⟩
  obtain rfl : b = false := by
    rcases hb with ⟨h, _⟩ | ⟨_, o, ho, h⟩
    · exact h
    · subst h
      simp at ho
  clear hb HC
  have hmm := @run_makeMap Try.prog
  go_wp2_with fail
  clear hmm
  have hI0 : RecI w l 0 none 0 ((w.alloc (Obj.map #[] 0)).alloc (Obj.cells #[.int .i64 8, .int .i64 0, .pointer none, .slice none 0 0, .map (some w.heap.size), .int .i64 0] TT)) :=
    ⟨((Chg.refl NoB w).alloc _).alloc _, Blk.at_ _ _ _ _ (by simp), World.ownsRow_nil _ _ _ _, (MapIs.new w).alloc _⟩
  have HI0 := Go.Lib.hid hI0
  clear hI0
  go_loopw [7, 24] (fun v7 v24 wr => ∃ k : Nat, k ≤ l.length ∧ v24 = .int .i64 k ∧ v7 = .int .i64 ((recL (l.take k)).2 : Nat) ∧ ∃ fA fc, RecI w l k fA fc wr ∧ ((l.take k).map (·.1)).Nodup ∧ ∀ x ∈ l.take k, nameT x.1 = true) (fun _ v24 _ => l.length - (intOf v24).toNat)
  case atStart => exact ⟨0, Nat.zero_le _, rfl, rfl, none, 0, HI0.out, List.nodup_nil, fun x hx => by simp at hx⟩
  case round =>
    clear HI0
    obtain ⟨k, hk, rfl, rfl, fA, fc, hI, hnd, hnm⟩ := hrel
    have HI := Go.Lib.hid hI
    have Hnd := Go.Lib.hid hnd
    have Hnm := Go.Lib.hid hnm
    clear hI hnd hnm
    have hat := (recL_at (l.take k) (fun x hx => (HT.out x (List.mem_of_mem_take hx)).1.sz.1)).1
    by_cases hlt : k < l.length
    · obtain ⟨x, hx⟩ : ∃ x, l[k]? = some x := ⟨_, List.getElem?_eq_getElem hlt⟩
      have hxm : x ∈ l := List.mem_of_getElem? hx
      obtain ⟨ad, rfl, hcA⟩ := HA.out (by rw [List.length_map]; omega)
      obtain ⟨bd, rfl, hcB⟩ := HB.out (by rw [List.length_map]; omega)
      have ca := hcA k (.string x.1) (by rw [List.getElem?_map, hx]; rfl)
      have cb := hcB k (ptr x.2.1) (by rw [List.getElem?_map, hx]; rfl)
      have keep : ∀ (W : World) (p : Addr) (u : Value), Chg NoB w W → w.cell? p = some u → W.cell? p = some u := fun W p u hW hc => (World.cell?_of_block (hW.block p.block (block_lt_of_cell hc) id)).trans hc
      have HKc := Go.Lib.hid (And.intro ca (And.intro cb keep))
      have c1 : wr.cell? (ad.add k) = some (.string x.1) := keep _ _ _ HI.out.chg ca
      have m4 := HI.out.tb.cell 4
      have hlk := run_lookup_str_ok (t := 70) (k := 9) (e := 3) Try.underlying70 Try.underlying9 (z := .int .i64 0) (by kernel_rfl) HI.out.map x.1
      have Hx := Go.Lib.hid (And.intro hx hxm)
      simp only [List.getElem?_toArray, List.getElem?_cons_zero, List.getElem?_cons_succ] at m4
      clear hcA hcB ca cb keep hx hxm
      by_cases hdup : x.1 ∈ (places (recL (l.take k)).1).map (·.1)
      · obtain ⟨u, hu, huv⟩ := lookS_some hdup
        rw [hu] at hlk
        obtain ⟨j, rfl⟩ : ∃ j : Nat, u = .int .i64 j := by
          obtain ⟨e, he, rfl⟩ := List.mem_map.1 huv
          unfold places at he
          obtain ⟨q, _, rfl⟩ := List.mem_map.1 he
          exact ⟨_, rfl⟩
        have Hd := Go.Lib.hid hdup
        clear hdup hu huv
        simp only [Option.getD_some, Option.isSome_some] at hlk
        go_wp2_with fail
        go_ret2
        refine recBad ?_ ⟨rfl, HI.out.chg⟩
        have h1 := Hd.out
        rw [places_keys, recL_names] at h1
        have hnn : ¬ (l.map (·.1)).Nodup := fun hn => by
          rw [← List.take_append_drop k l, List.map_append, List.nodup_append] at hn
          refine hn.2.2 x.1 h1 x.1 ?_ rfl
          rw [List.drop_eq_getElem_cons hlt]
          have : l[k] = x := (List.getElem?_eq_some_iff.1 Hx.out.1).2
          simp [this]
        simp [recGood, hnn]
      · obtain ⟨hn1, hn2⟩ := lookS_none hdup
        rw [hn1] at hlk
        have Hn2 := Go.Lib.hid (And.intro hdup hn2)
        clear hn1 hn2 hdup
        simp only [Option.getD_none, Option.isSome_none] at hlk
        have HM := Go.Lib.hid (nameT_c x.1 (HS.out x Hx.out.2) mv wr (HKc.out.2.2 _ _ _ HI.out.chg HV.out))
        go_wp2_with fail
        refine HM.out.mono ?_
        rintro e w2 ⟨rfl, hc2⟩
        clear HM hlk c1 m4
        have HI2 := Go.Lib.hid (HI.out.quiet hc2)
        clear hc2
        cases hnx : nameT x.1 with
        | false =>
          go_wp2_with fail
          go_ret2
          refine recBad ?_ ⟨rfl, HI2.out.chg⟩
          have : ¬ (∀ n ∈ l.map (·.1), nameT n = true) := fun h => by
            have := h x.1 (List.mem_map.2 ⟨x, Hx.out.2, rfl⟩)
            rw [hnx] at this
            cases this
          simp only [recGood, Bool.and_eq_false_iff, List.all_eq_false]
          exact .inr ⟨x.1, List.mem_map.2 ⟨x, Hx.out.2, rfl⟩, by rw [hnx]; simp⟩
        | true =>
          have hTx := (HT.out x Hx.out.2).1
          have b5 : w2.cell? ⟨x.2.1, 5, none⟩ = some (.int .i64 x.2.2.size) := HKc.out.2.2 _ _ _ HI2.out.chg hTx.cells.2.2.2.2.2
          have c2 : w2.cell? (bd.add k) = some (ptr x.2.1) := HKc.out.2.2 _ _ _ HI2.out.chg HKc.out.2.1
          have hsz := hTx.sz
          obtain ⟨at', hat'⟩ : ∃ a : Nat, a = if x.2.2.size ≠ 1 then ((recL (l.take k)).2 + 3) / 4 * 4 else (recL (l.take k)).2 := ⟨_, rfl⟩
          have Hat' := Go.Lib.hid hat'
          clear hTx hat'
          unfold ptr at c2
          go_upto_if 51 with fail
          go_cut [7] from 44 to 53 (fun v7 wx => v7 = .int .i64 (at' : Nat) ∧ wx = w2)
          case first =>
            as_aux_lemma =>
              by_cases h1 : x.2.2.size = 1
              · have hz : (((x.2.2.size : Int)) != 1) = false := by simp [h1]
                go_wp2_with fail
                go_meet
                refine ⟨?_, rfl⟩
                rw [Hat'.out, if_neg (by simpa using h1)]
              · have hz : (((x.2.2.size : Int)) != 1) = true := by simp; omega
                go_wp2_with fail
                refine (up_c _ (by omega)).mono ?_
                rintro e w3 ⟨rfl, rfl⟩
                go_wp2_with fail
                go_meet
                refine ⟨?_, rfl⟩
                rw [Hat'.out, if_pos h1]
                congr 1
          case rest =>
            obtain ⟨rfl, hwx⟩ := hcut
            obtain rfl := hwx.symm
            clear hwx b5 c2
            have hAt : at' ≤ 262148 := by rw [Hat'.out]; split <;> omega
            have m4 := HI2.out.tb.cell 4
            have HMp := Go.Lib.hid HI2.out.map
            simp only [List.getElem?_toArray, List.getElem?_cons_zero, List.getElem?_cons_succ] at m4
            go_wp2_with (at_mapUpdate; go_must (refine wpList_update_str _ rfl _ _ _ _ rfl 9 3 Try.underlying70 Try.underlying9 w.heap.size (places (recL (l.take k)).1) x.1 (.int .i64 k) rfl rfl rfl HMp.out ?_); intro w3 hm3 hc3 hz3)
            have HG := Go.Lib.hid (RecI.put HI2.out hm3 hc3)
            clear hm3 hc3 hz3 m4 HMp
            have Hkeep : Hid (∀ W', RecM w l k fA fc x.1 W' → W'.cell? (bd.add k) = some (.pointer (some ⟨x.2.1, 0, none⟩)) ∧ W'.cell? ⟨w.heap.size + 1, 3, none⟩ = some (.slice fA k fc)) := Go.Lib.hid fun W' hW => ⟨HKc.out.2.2 _ _ _ hW.chg HKc.out.2.1, hW.tb.cell 3⟩
            go_upto_region 16 with fail
            dsimp only [Act.put]
            refine regionT 16 (fun W' => W'.cell? (bd.add k) = some (.pointer (some ⟨x.2.1, 0, none⟩)) ∧ W'.cell? ⟨w.heap.size + 1, 3, none⟩ = some (.slice fA k fc)) (by kernel_rfl) (by decide) (Hkeep.out _ (HG.out.quiet ((Chg.refl NoB _).drew))) (fun inv0 hHeld => ?_)
            refine takeT (i := 0) (t := 60) (v := ?v0) rfl (by kernel_rfl) (by kernel_rfl) (by kernel_rfl) (fun _ _ _ h => h) (by kernel_rfl) (by kernel_rfl) (by decide) (by decide) rfl (Or.inl ⟨by rfl, ?h0⟩) inv0 hHeld ?r0
            case h0 => (intro w hSw; (try dsimp only at hSw); go_simp; try with_reducible rfl)
            intro inv01
            clear inv0
            try simp only [List.setIfInBounds_toArray, List.set_cons_zero, List.set_cons_succ]
            refine takeT (i := 1) (t := 61) (v := ?v1) rfl (by kernel_rfl) (by kernel_rfl) (by kernel_rfl) (fun _ _ _ h => h) (by kernel_rfl) (by kernel_rfl) (by decide) (by decide) rfl (Or.inl ⟨by rfl, ?h1⟩) inv01 hHeld ?r1
            case h1 => (intro w hSw; (try dsimp only at hSw); go_simp; try with_reducible rfl)
            intro inv11
            clear inv01
            try simp only [List.setIfInBounds_toArray, List.set_cons_zero, List.set_cons_succ]
            refine takeT (i := 2) (t := 62) (v := ?v2) rfl (by kernel_rfl) (by kernel_rfl) (by kernel_rfl) (fun _ _ _ h => h) (by kernel_rfl) (by kernel_rfl) (by decide) (by decide) rfl (Or.inl ⟨by rfl, ?h2⟩) inv11 hHeld ?r2
            case h2 => (intro w hSw; (try dsimp only at hSw); go_simp; try with_reducible rfl)
            intro inv21
            clear inv11
            try simp only [List.setIfInBounds_toArray, List.set_cons_zero, List.set_cons_succ]
            refine takeT (i := 3) (t := 63) (v := ?v3) rfl (by kernel_rfl) (by kernel_rfl) (by kernel_rfl) (fun _ _ _ h => h) (by kernel_rfl) (by kernel_rfl) (by decide) (by decide) rfl (Or.inl ⟨by rfl, ?h3⟩) inv21 hHeld ?r3
            case h3 => (intro w hSw; (try dsimp only at hSw); go_simp; try with_reducible rfl)
            intro inv31
            clear inv21
            try simp only [List.setIfInBounds_toArray, List.set_cons_zero, List.set_cons_succ]
            refine takeT (i := 4) (t := 64) (v := ?v4) rfl (by kernel_rfl) (by kernel_rfl) (by kernel_rfl) (fun _ _ _ h => h) (by kernel_rfl) (by kernel_rfl) (by decide) (by decide) rfl (Or.inl ⟨by rfl, ?h4⟩) inv31 hHeld ?r4
            case h4 => (intro w hSw; (try dsimp only at hSw); go_simp; try with_reducible rfl)
            intro inv41
            clear inv31
            try simp only [List.setIfInBounds_toArray, List.set_cons_zero, List.set_cons_succ]
            refine takeT (i := 5) (t := 65) (v := ?v5) rfl (by kernel_rfl) (by kernel_rfl) (by kernel_rfl) (fun _ _ _ h => h) (by kernel_rfl) (by kernel_rfl) (by decide) (by decide) rfl (Or.inl ⟨by rfl, ?h5⟩) inv41 hHeld ?r5
            case h5 => (intro w hSw; (try dsimp only at hSw); go_simp; try with_reducible rfl)
            intro inv51
            clear inv41
            try simp only [List.setIfInBounds_toArray, List.set_cons_zero, List.set_cons_succ]
            refine takeT (i := 6) (t := 66) (v := ?v6) rfl (by kernel_rfl) (by kernel_rfl) (by kernel_rfl) (fun _ _ _ h => h) (by kernel_rfl) (by kernel_rfl) (by decide) (by decide) rfl (Or.inl ⟨by rfl, ?h6⟩) inv51 hHeld ?r6
            case h6 => (intro w hSw; (try dsimp only at hSw); go_simp; try with_reducible rfl)
            intro inv61
            clear inv51
            try simp only [List.setIfInBounds_toArray, List.set_cons_zero, List.set_cons_succ]
            refine takeT (i := 7) (t := 67) (v := ?v7) rfl (by kernel_rfl) (by kernel_rfl) (by kernel_rfl) (fun _ _ _ h => h) (by kernel_rfl) (by kernel_rfl) (by decide) (by decide) rfl (Or.inl ⟨by rfl, ?h7⟩) inv61 hHeld ?r7
            case h7 => (intro w hSw; (try dsimp only at hSw); go_simp; try with_reducible rfl)
            intro inv71
            clear inv61
            try simp only [List.setIfInBounds_toArray, List.set_cons_zero, List.set_cons_succ]
            refine takeT (i := 8) (t := 68) (v := ?v8) rfl (by kernel_rfl) (by kernel_rfl) (by kernel_rfl) (fun _ _ _ h => h) (by kernel_rfl) (by kernel_rfl) (by decide) (by decide) rfl (Or.inl ⟨by rfl, ?h8⟩) inv71 hHeld ?r8
            case h8 => (intro w hSw; (try dsimp only at hSw); go_simp; try with_reducible rfl)
            intro inv81
            clear inv71
            try simp only [List.setIfInBounds_toArray, List.set_cons_zero, List.set_cons_succ]
            refine takeT (i := 9) (t := 69) (v := ?v9) rfl (by kernel_rfl) (by kernel_rfl) (by kernel_rfl) (fun _ _ _ h => h) (by kernel_rfl) (by kernel_rfl) (by decide) (by decide) rfl (Or.inl ⟨by rfl, ?h9⟩) inv81 hHeld ?r9
            case h9 => (intro w hSw; (try dsimp only at hSw); go_simp; try with_reducible rfl)
            intro inv91
            clear inv81
            try simp only [List.setIfInBounds_toArray, List.set_cons_zero, List.set_cons_succ]
            refine takeT (i := 10) (t := 70) (v := ?v10) rfl (by kernel_rfl) (by kernel_rfl) (by kernel_rfl) (fun _ _ _ h => h) (by kernel_rfl) (by kernel_rfl) (by decide) (by decide) rfl (Or.inl ⟨by rfl, ?h10⟩) inv91 hHeld ?r10
            case h10 => (intro w hSw; (try dsimp only at hSw); go_simp; try with_reducible rfl)
            intro inv101
            clear inv91
            try simp only [List.setIfInBounds_toArray, List.set_cons_zero, List.set_cons_succ]
            refine takeT (i := 11) (t := 71) (v := ?v11) rfl (by kernel_rfl) (by kernel_rfl) (by kernel_rfl) (fun _ _ _ h => h) (by kernel_rfl) (by kernel_rfl) (by decide) (by decide) rfl (Or.inl ⟨by rfl, ?h11⟩) inv101 hHeld ?r11
            case h11 => (intro w hSw; (try dsimp only at hSw); go_simp; try with_reducible rfl)
            intro inv111
            clear inv101
            try simp only [List.setIfInBounds_toArray, List.set_cons_zero, List.set_cons_succ]
            refine valT (i := 12) (t := 72) (v := ?v12) (w' := w3.drew.alloc (Obj.cells #[.string x.1, .pointer (some ⟨x.2.1, 0, none⟩), .int .i64 at'] FT)) rfl (by kernel_rfl) rfl (by rfl) ?hx12 inv111 (by decide) (Hkeep.out _ (HG.out.quiet (((Chg.refl NoB _).drew).alloc _))) ?r12
            case hx12 => (go_simp; try with_reducible rfl)
            intro inv121 hHeld12
            clear inv111
            try simp only [List.setIfInBounds_toArray, List.set_cons_zero, List.set_cons_succ]
            obtain ⟨i0, hi0, hz0, hz1, hz2⟩ := ft_parts tinfo
            refine oneTI (i := 13) rfl (by kernel_rfl) inv121 (by decide) (fun inv131 => ?_)
            clear inv121
            refine step_append_lies _ (by rfl) (.tmp 64) (.tmp 72) 69 (by rfl) w.heap.size FT i0 _ 3 32 Try.underlying69 hi0 hz0.choose_spec.1 hz1 hz2 hz0.choose_spec.2 (by omega) (.slice fA k fc) k ((recL (l.take k)).1.flatMap Fd.cells) (by rfl) (HG.out.row.alloc _) ⟨w3.heap.size, 0, none⟩ 1 1 [.string x.1, .pointer (some ⟨x.2.1, 0, none⟩), .int .i64 at'] (by rfl) (by rfl) (World.news_of_block (Blk.new w3.drew _ _)) (by simp [Value.oneCell']) (by omega) (by unfold maxLen; omega) (by omega) (by have := HG.out.chg.size; simp; omega) (w3.heap.size + 1) (by simp) ?_
            intro gg cap w5 hown hgrow hgat hlt2
            have hgr := RecM.grow (W := w3.drew) (HG.out.quiet ((Chg.refl NoB _).drew)) Hx.out.1 Hn2.out.2 Hat'.out hown hgrow
            have hf5 := hgr.2.2.1
            have hc5 := hgr.2.2.2.1
            have cb5 := HKc.out.2.2 _ _ _ hgr.2.2.2.2 HKc.out.2.1
            refine ⟨fun _ => ⟨cb5, hc5⟩, ?_⟩
            try simp only [Act.put, List.setIfInBounds_toArray, List.set_cons_zero, List.set_cons_succ]
            refine takeT (i := 14) (t := 74) (v := ?v14) rfl (by kernel_rfl) (by kernel_rfl) (by kernel_rfl) (fun _ _ _ h => h) (by kernel_rfl) (by kernel_rfl) (by decide) (by decide) rfl (Or.inl ⟨by rfl, ?h14⟩) inv131 ⟨cb5, hc5⟩ ?r14
            case h14 => (intro w hSw; (try dsimp only at hSw); go_simp; try with_reducible rfl)
            intro inv141
            clear inv131
            try simp only [List.setIfInBounds_toArray, List.set_cons_zero, List.set_cons_succ]
            refine takeT (i := 15) (t := 75) (v := ?v15) rfl (by kernel_rfl) (by kernel_rfl) (by kernel_rfl) (fun _ _ _ h => h) (by kernel_rfl) (by kernel_rfl) (by decide) (by decide) rfl (Or.inl ⟨by rfl, ?h15⟩) inv141 ⟨cb5, hc5⟩ ?r15
            case h15 => (intro w hSw; (try dsimp only at hSw); go_simp; try with_reducible rfl)
            intro inv151
            clear inv141
            try simp only [List.setIfInBounds_toArray, List.set_cons_zero, List.set_cons_succ]
            refine lastT (i := 16) (w' := w5.setCell ⟨w.heap.size + 1, 3, none⟩ (.slice (some ⟨gg, 0, none⟩) (k + 1) cap)) rfl (by kernel_rfl) rfl (by rfl) ?hx16 (by decide) (by kernel_rfl) ?_
            case hx16 => (go_simp; try with_reducible rfl)
            have HI3 := Go.Lib.hid hgr.1
            have Hat3 := Go.Lib.hid hgr.2.1
            have c3 := HKc.out.2.2 _ _ _ hgr.1.chg HKc.out.2.1
            have b3 := HKc.out.2.2 _ _ _ hgr.1.chg (HT.out x Hx.out.2).1.cells.2.2.2.2.2
            unfold ptr at c3
            clear hHeld hHeld12 inv151 hgr hown hgrow hgat hlt2 hf5 hc5 cb5 hi0 hz0 hz1 hz2
            generalize w5.setCell ⟨w.heap.size + 1, 3, none⟩ (.slice (some ⟨gg, 0, none⟩) (k + 1) cap) = w6 at *
            have hmin : min ((at' : Int) + x.2.2.size) 262145 = ((min (at' + x.2.2.size) 262145 : Nat) : Int) := by omega
            go_wp2_with fail
            go_roundw
            case rel =>
              have hkn : l.take (k + 1) = l.take k ++ [x] := by rw [List.take_add_one, Hx.out.1]; rfl
              refine ⟨k + 1, by omega, by go_num, by rw [Hat3.out], _, _, HI3.out, ?_, ?_⟩
              · rw [hkn, List.map_append, List.nodup_append]
                refine ⟨Hnd.out, by simp, ?_⟩
                intro a ha b hb
                simp only [List.map_cons, List.map_nil, List.mem_singleton] at hb
                subst hb
                rintro rfl
                exact Hn2.out.1 (by rw [places_keys, recL_names]; exact ha)
              · intro y hy
                rw [hkn, List.mem_append] at hy
                rcases hy with hy | hy
                · exact Hnm.out y hy
                · obtain rfl : y = x := by simpa using hy
                  exact hnx
            case measure => simp [intOf]; omega
            
    · obtain rfl : k = l.length := by omega
      rw [List.take_length] at hat Hnd Hnm
      have hgood : recGood (l.map (·.1)) = true := by
        simp only [recGood, Bool.and_eq_true, decide_eq_true_eq, List.all_eq_true]
        refine ⟨Hnd.out, fun n hn => ?_⟩
        obtain ⟨x, hx, rfl⟩ := List.mem_map.1 hn
        exact Hnm.out x hx
      have Hgood := Go.Lib.hid hgood
      have m5 := HI.out.tb.cell 5
      have f5 : wr.frozen? ⟨w.heap.size + 1, 5, none⟩ = false := HI.out.tb.frozen 5
      simp only [List.getElem?_toArray, List.getElem?_cons_zero, List.getElem?_cons_succ] at m5
      rw [List.take_length]
      clear hgood
      obtain ⟨sz, hszz⟩ : ∃ s, s = recSize l := ⟨_, rfl⟩
      have hmax : max (((recL l).2 + 3) / 4 * 4) 4 = sz := hszz.symm
      have Hs := Go.Lib.hid hszz
      have hmax' : max ((((recL l).2 : Int) + 3) / 4 * 4) 4 = ((sz : Nat) : Int) := by rw [← hmax]; omega
      clear hszz hmax
      have HU := Go.Lib.hid (up_c (recL l).2 (by omega) (w := wr))
      generalize (recL l).2 = at2 at *
      go_wp2_with fail
      refine HU.out.mono ?_
      rintro e w3 ⟨rfl, rfl⟩
      clear HU
      have HB := Go.Lib.hid HI.out.tb
      by_cases hbig : sz ≤ 262144
      · have hgt : decide ((262144 : Int) < (sz : Int)) = false := by simp; omega
        go_wp2_with fail
        go_ret2
        refine recGood_ok Hgood.out (by rw [← Hs.out]; exact hbig) ?_
        have hd := RecI.done HI.out (fun x hx => (HT.out x hx).1.sz.1) (by rw [← Hs.out]; exact hbig)
        rw [← Hs.out] at hd
        exact ⟨_, _, rfl, hd.1, rfl, rfl, rfl, rfl, Hs.out, hd.2⟩
      · have hgt : decide ((262144 : Int) < (sz : Int)) = true := by simp; omega
        go_wp2_with fail
        go_ret2
        unfold RecPost
        rw [if_pos Hgood.out, if_neg (by rw [← Hs.out]; exact hbig)]
        refine ⟨rfl, ?_⟩
        exact HI.out.chg.step (G := fun i => i = w.heap.size + 1) ((Chg.refl (fun i => i = w.heap.size + 1) _).setCell (p := ⟨w.heap.size + 1, 5, none⟩) (fun _ => rfl) _) fun i hi e => by omega
end
end Go.Proofs.Ytholeloedihkoaa
