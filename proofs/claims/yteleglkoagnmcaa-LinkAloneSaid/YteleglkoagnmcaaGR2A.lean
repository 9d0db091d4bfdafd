/- What is proved: rows whose elements are several cells grow as the kit says; what it means that memory holds the reference's store. Conditions: as each theorem says. · What is proved: the reference's riders: Is, Length, At, EOF, stand, Read, ReadWord, Seek. Conditions: the memory holds the reference's store. · What is proved: the reference's ReadWord, Seek, at, Old. Conditions: the memory holds the reference's store. · What is proved: the reference's at, Old. Conditions: the memory holds the reference's store. -/
import Derived.Test.YteleglkoagnmcaaStoreW
import Derived.Test.YteleglkoagnmcaaStoreS
import Derived.Test.YteleglkoagnmcaaGStC
import Derived.Test.YteleglkoagnmcaaTail2
import Derived.Laws.Rows
import Derived.Test.YteleglkoagnmcaaApp
import Derived.Test.YteleglkoagnmcaaTkH
import Derived.Deep.RegionHeld3
set_option linter.unusedSimpArgs false
set_option linter.unusedVariables false
namespace Go.Proofs.Yteleglkoagnmcaa
open Go Go.RowKit
abbrev ET : TypeId := 152
abbrev QT : TypeId := 154
abbrev RST : TypeId := 81
abbrev BT : TypeId := 22
theorem etinfo : (Try.prog.info? ET).map (fun i => (i.zero, i.size, i.bytes)) = some (some (.agg #[.string ⟨#[]⟩, .int .i64 0]), 2, 24) := by kernel_rfl
theorem qtinfo : (Try.prog.info? QT).map (fun i => (i.zero, i.size, i.bytes)) = some (some (.agg #[.int .i64 0, .int .i64 0, .string ⟨#[]⟩]), 3, 32) := by kernel_rfl
theorem btinfo : (Try.prog.info? BT).map (fun i => (i.zero, i.size, i.bytes)) = some (some (.slice none 0 0), 1, 24) := by kernel_rfl
def dcells (l : List (ByteArray × Nat)) : List Value := l.flatMap fun e => [.string e.1, .int .i64 e.2]
def rcells (l : List VR) : List Value := l.flatMap fun q => [.int .i64 q.n, .int .i64 q.pos, .string q.name]
theorem dcells_len : ∀ l, (dcells l).length = l.length * 2
  | [] => rfl
  | e :: r => by
    have := dcells_len r
    simp only [dcells, List.flatMap_cons, List.length_append, List.length_cons, List.length_nil] at this ⊢
    omega
theorem rcells_len : ∀ l, (rcells l).length = l.length * 3
  | [] => rfl
  | e :: r => by
    have := rcells_len r
    simp only [rcells, List.flatMap_cons, List.length_append, List.length_cons, List.length_nil] at this ⊢
    omega
theorem dcells_get : ∀ (l : List (ByteArray × Nat)) (i : Nat) (e : ByteArray × Nat), l[i]? = some e → (dcells l)[i * 2]? = some (.string e.1) ∧ (dcells l)[i * 2 + 1]? = some (.int .i64 e.2)
  | [], i, e, h => by simp at h
  | x :: r, 0, e, h => by
    obtain rfl : x = e := by simpa using h
    simp [dcells]
  | x :: r, i + 1, e, h => by
    have := dcells_get r i e (by simpa using h)
    have e2 : (i + 1) * 2 = i * 2 + 2 := by omega
    rw [e2]
    simpa [dcells] using this
theorem rcells_get : ∀ (l : List VR) (i : Nat) (q : VR), l[i]? = some q → (rcells l)[i * 3]? = some (.int .i64 q.n) ∧ (rcells l)[i * 3 + 1]? = some (.int .i64 q.pos) ∧ (rcells l)[i * 3 + 2]? = some (.string q.name)
  | [], i, e, h => by simp at h
  | x :: r, 0, e, h => by
    obtain rfl : x = e := by simpa using h
    simp [rcells]
  | x :: r, i + 1, e, h => by
    have := rcells_get r i e (by simpa using h)
    have e2 : (i + 1) * 3 = i * 3 + 3 := by omega
    rw [e2]
    simpa [rcells] using this
theorem dcells_app (l m : List (ByteArray × Nat)) : dcells (l ++ m) = dcells l ++ dcells m := by simp [dcells]
theorem rcells_app (l m : List VR) : rcells (l ++ m) = rcells l ++ rcells m := by simp [rcells]
/-- where the reference's rows lie -/
structure RA where
  F : Value
  D : Value
  R : Value
  f : List Value
/-- the memory holds the reference's store, as data; its rows lie apart from X -/
structure RefAt (W : World) (r : Nat) (U : V) (X : Nat → Prop) (a : RA) : Prop where
  blk : Blk W r RST #[a.F, a.D, a.R, .int .i64 U.cap]
  F : W.ownsRow 0 BT 1 a.F U.F.length a.f
  f : ∀ (i : Nat) (b : List UInt8), U.F[i]? = some b → ∃ v, a.f[i]? = some v ∧ W.ownsRow 0 5 1 v b.length (bv b) ∧ ∀ k, v.ownBlock = some k → ¬ X k ∧ k ≠ r
  D : W.ownsRow 0 ET 2 a.D U.dir.length (dcells U.dir)
  R : W.ownsRow 0 QT 3 a.R U.rd.length (rcells U.rd)
  xF : ∀ k, a.F.ownBlock = some k → ¬ X k ∧ k ≠ r
  xD : ∀ k, a.D.ownBlock = some k → ¬ X k ∧ k ≠ r
  xR : ∀ k, a.R.ownBlock = some k → ¬ X k ∧ k ≠ r
  xr : ¬ X r
  db : ∀ e ∈ U.dir, e.2 < U.F.length
  rb : ∀ q ∈ U.rd, q.n < U.F.length
section
variable {W W' : World} {r : Nat} {U : V} {X X' F : Nat → Prop} {a : RA}
theorem RefAt.chg (h : RefAt W r U X a) (hc : Chg F W W') (hF : ∀ k, F k → X k) : RefAt W' r U X a where
  blk := h.blk.chg hc (fun hx => h.xr (hF _ hx))
  F := own_chg h.F hc (fun k hk hx => (h.xF k hk).1 (hF _ hx))
  f := fun i b hb => by
    obtain ⟨v, h1, h2, h3⟩ := h.f i b hb
    exact ⟨v, h1, own_chg h2 hc (fun k hk hx => (h3 k hk).1 (hF _ hx)), h3⟩
  D := own_chg h.D hc (fun k hk hx => (h.xD k hk).1 (hF _ hx))
  R := own_chg h.R hc (fun k hk hx => (h.xR k hk).1 (hF _ hx))
  xF := h.xF
  xD := h.xD
  xR := h.xR
  xr := h.xr
  db := h.db
  rb := h.rb
theorem RefAt.quiet (h : RefAt W r U X a) (hc : Chg NoB W W') : RefAt W' r U X a := h.chg hc (fun _ hx => hx.elim)
theorem RefAt.lt (h : RefAt W r U X a) : r < W.heap.size := h.blk.lt
theorem RefAt.apart (h : RefAt W r U X a) (hX : ∀ k, X' k → X k ∨ W.heap.size ≤ k) : RefAt W r U X' a where
  blk := h.blk
  F := h.F
  f := fun i b hb => by
    obtain ⟨v, h1, h2, h3⟩ := h.f i b hb
    exact ⟨v, h1, h2, fun k hk => ⟨fun hx => (hX k hx).elim (h3 k hk).1 (fun hl => by have := (h2.lt k hk).2; omega), (h3 k hk).2⟩⟩
  D := h.D
  R := h.R
  xF := fun k hk => ⟨fun hx => (hX k hx).elim (h.xF k hk).1 (fun hl => by have := (h.F.lt k hk).2; omega), (h.xF k hk).2⟩
  xD := fun k hk => ⟨fun hx => (hX k hx).elim (h.xD k hk).1 (fun hl => by have := (h.D.lt k hk).2; omega), (h.xD k hk).2⟩
  xR := fun k hk => ⟨fun hx => (hX k hx).elim (h.xR k hk).1 (fun hl => by have := (h.R.lt k hk).2; omega), (h.xR k hk).2⟩
  xr := fun hx => (hX r hx).elim h.xr (fun hl => by have := h.lt; omega)
  db := h.db
  rb := h.rb
theorem RefAt.cells (h : RefAt W r U X a) : W.cell? ⟨r, 0, none⟩ = some a.F ∧ W.cell? ⟨r, 1, none⟩ = some a.D ∧ W.cell? ⟨r, 2, none⟩ = some a.R ∧ W.cell? ⟨r, 3, none⟩ = some (.int .i64 U.cap) :=
  ⟨h.blk.cell 0, h.blk.cell 1, h.blk.cell 2, h.blk.cell 3⟩
/-- the row of riders, where there is one -/
theorem RefAt.rider (h : RefAt W r U X a) {i : Nat} {q : VR} (hq : U.rd[i]? = some q) : ∃ g c, a.R = .slice (some ⟨g, 0, none⟩) U.rd.length c ∧ W.cell? ⟨g, i * 3, none⟩ = some (.int .i64 q.n) ∧ W.cell? ⟨g, i * 3 + 1, none⟩ = some (.int .i64 q.pos) ∧ W.cell? ⟨g, i * 3 + 2, none⟩ = some (.string q.name) := by
  have hl := (List.getElem?_eq_some_iff.1 hq).1
  obtain ⟨g, c, hv, _, _⟩ := h.R.form (by omega)
  have hc := h.R.cells (g := g) (by rw [hv]; rfl)
  obtain ⟨h1, h2, h3⟩ := rcells_get _ _ _ hq
  refine ⟨g, c, hv, ?_, ?_, ?_⟩
  · have := hc _ _ h1; rwa [add_lit] at this
  · have := hc _ _ h2; rwa [add_lit] at this
  · have := hc _ _ h3; rwa [add_lit] at this
theorem RefAt.entry (h : RefAt W r U X a) {i : Nat} {e : ByteArray × Nat} (he : U.dir[i]? = some e) : ∃ g c, a.D = .slice (some ⟨g, 0, none⟩) U.dir.length c ∧ W.cell? ⟨g, i * 2, none⟩ = some (.string e.1) ∧ W.cell? ⟨g, i * 2 + 1, none⟩ = some (.int .i64 e.2) := by
  have hl := (List.getElem?_eq_some_iff.1 he).1
  obtain ⟨g, c, hv, _, _⟩ := h.D.form (by omega)
  have hc := h.D.cells (g := g) (by rw [hv]; rfl)
  obtain ⟨h1, h2⟩ := dcells_get _ _ _ he
  refine ⟨g, c, hv, ?_, ?_⟩
  · have := hc _ _ h1; rwa [add_lit] at this
  · have := hc _ _ h2; rwa [add_lit] at this
theorem RefAt.file (h : RefAt W r U X a) {i : Nat} {b : List UInt8} (hb : U.F[i]? = some b) : ∃ g c A cc, a.F = .slice (some ⟨g, 0, none⟩) U.F.length c ∧ W.cell? ⟨g, i, none⟩ = some (.slice A b.length cc) ∧ W.ownsRow 0 5 1 (.slice A b.length cc) b.length (bv b) := by
  have hl := (List.getElem?_eq_some_iff.1 hb).1
  obtain ⟨g, c, hv, _, _⟩ := h.F.form (by omega)
  have hc := h.F.cells (g := g) (by rw [hv]; rfl)
  obtain ⟨v, h1, h2, _⟩ := h.f i b hb
  obtain ⟨A, cc, rfl⟩ := own_slice h2
  refine ⟨g, c, A, cc, hv, ?_, h2⟩
  have := hc _ _ h1; rwa [add_lit] at this
theorem RefAt.bytes (h : RefAt W r U X a) {q : VR} {i : Nat} (hq : U.rd[i]? = some q) : U.F[q.n]? = some (U.bytes q.n) := by
  have := h.rb q (List.mem_of_getElem? hq)
  unfold V.bytes
  rw [List.getD_eq_getElem?_getD, List.getElem?_eq_getElem this]
  rfl
theorem RefAt.dbytes (h : RefAt W r U X a) {e : ByteArray × Nat} (he : e ∈ U.dir) : U.F[e.2]? = some (U.bytes e.2) := by
  have := h.db e he
  unfold V.bytes
  rw [List.getD_eq_getElem?_getD, List.getElem?_eq_getElem this]
  rfl
theorem cell_q {w w' : World} {p : Addr} {v : Value} (hc : Chg NoB w w') (h : w.cell? p = some v) : w'.cell? p = some v := (World.cell?_of_block (hc.block _ (World.block_lt_of_cell? w _ h) id)).trans h
/-- riders are laid anew -/
theorem RefAt.putR (h : RefAt W r U X a) (hX : ∀ k, X k → k < W.heap.size) (hc : Chg (fun k => k = r) W W') {v1 : Value} (hb : Blk W' r RST #[a.F, a.D, v1, .int .i64 U.cap]) {rd' : List VR}
    (ho : W'.ownsRow W.heap.size QT 3 v1 rd'.length (rcells rd')) (hrb : ∀ q ∈ rd', q.n < U.F.length) : RefAt W' r { U with rd := rd' } X { a with R := v1 } where
  blk := hb
  F := own_chg h.F hc (fun k hk hx => (h.xF k hk).2 hx)
  f := fun i b hb => by
    obtain ⟨v, h1, h2, h3⟩ := h.f i b hb
    exact ⟨v, h1, own_chg h2 hc (fun k hk hx => (h3 k hk).2 hx), h3⟩
  D := own_chg h.D hc (fun k hk hx => (h.xD k hk).2 hx)
  R := own_base ho (Nat.zero_le _)
  xF := h.xF
  xD := h.xD
  xR := fun k hk => ⟨fun hx => by have := (ho.lt k hk).1; have := hX k hx; omega, fun e => by have := (ho.lt k hk).1; have := h.lt; omega⟩
  xr := h.xr
  db := h.db
  rb := hrb
/-- the directory is laid anew -/
theorem RefAt.putD (h : RefAt W r U X a) (hX : ∀ k, X k → k < W.heap.size) (hc : Chg (fun k => k = r) W W') {v1 : Value} (hb : Blk W' r RST #[a.F, v1, a.R, .int .i64 U.cap]) {d' : List (ByteArray × Nat)}
    (ho : W'.ownsRow W.heap.size ET 2 v1 d'.length (dcells d')) (hdb : ∀ e ∈ d', e.2 < U.F.length) : RefAt W' r { U with dir := d' } X { a with D := v1 } where
  blk := hb
  F := own_chg h.F hc (fun k hk hx => (h.xF k hk).2 hx)
  f := fun i b hb => by
    obtain ⟨v, h1, h2, h3⟩ := h.f i b hb
    exact ⟨v, h1, own_chg h2 hc (fun k hk hx => (h3 k hk).2 hx), h3⟩
  D := own_base ho (Nat.zero_le _)
  R := own_chg h.R hc (fun k hk hx => (h.xR k hk).2 hx)
  xF := h.xF
  xD := fun k hk => ⟨fun hx => by have := (ho.lt k hk).1; have := hX k hx; omega, fun e => by have := (ho.lt k hk).1; have := h.lt; omega⟩
  xR := h.xR
  xr := h.xr
  db := hdb
  rb := h.rb
/-- the files are laid anew: each is an elder one, or lies in a row of its own -/
theorem RefAt.putF (h : RefAt W r U X a) (hX : ∀ k, X k → k < W.heap.size) (hc : Chg (fun k => k = r) W W') {v1 : Value} (hb : Blk W' r RST #[v1, a.D, a.R, .int .i64 U.cap]) {F' : List (List UInt8)} {f' : List Value}
    (ho : W'.ownsRow W.heap.size BT 1 v1 F'.length f') (hl : U.F.length ≤ F'.length)
    (hf : ∀ (i : Nat) (b : List UInt8), F'[i]? = some b → (U.F[i]? = some b ∧ f'[i]? = a.f[i]?) ∨ ∃ v, f'[i]? = some v ∧ W'.ownsRow W.heap.size 5 1 v b.length (bv b)) : RefAt W' r { U with F := F' } X { a with F := v1, f := f' } where
  blk := hb
  F := own_base ho (Nat.zero_le _)
  f := fun i b hb => by
    rcases hf i b hb with ⟨h1, h2⟩ | ⟨v, h1, h2⟩
    · obtain ⟨v, h1, h3, h4⟩ := h.f i b h1
      exact ⟨v, h2.trans h1, own_chg h3 hc (fun k hk hx => (h4 k hk).2 hx), h4⟩
    · exact ⟨v, h1, own_base h2 (Nat.zero_le _), fun k hk => ⟨fun hx => by have := (h2.lt k hk).1; have := hX k hx; omega, fun e => by have := (h2.lt k hk).1; have := h.lt; omega⟩⟩
  D := own_chg h.D hc (fun k hk hx => (h.xD k hk).2 hx)
  R := own_chg h.R hc (fun k hk hx => (h.xR k hk).2 hx)
  xF := fun k hk => ⟨fun hx => by have := (ho.lt k hk).1; have := hX k hx; omega, fun e => by have := (ho.lt k hk).1; have := h.lt; omega⟩
  xD := h.xD
  xR := h.xR
  xr := h.xr
  db := fun e he => Nat.lt_of_lt_of_le (h.db e he) hl
  rb := fun e he => Nat.lt_of_lt_of_le (h.rb e he) hl
end
end Go.Proofs.Yteleglkoagnmcaa
set_option linter.unusedSimpArgs false
set_option linter.unusedVariables false
namespace Go.Proofs.Yteleglkoagnmcaa
open Go Go.RowKit
theorem own_setK {W : World} {base : Nat} {e : TypeId} {size n g cap : Nat} {xs : List Value} (h : W.ownsRow base e size (.slice (some ⟨g, 0, none⟩) n cap) n xs) {i : Nat} (hi : i < n * size) (u : Value) :
    (W.setCell ⟨g, i, none⟩ u).ownsRow base e size (.slice (some ⟨g, 0, none⟩) n cap) n (xs.set i u) := by
  refine ⟨by simpa using h.1, .inr ?_⟩
  rcases h.2 with ⟨h0, _⟩ | ⟨g', cap', cur, hv, hb, hgg, hn, hm, hs, ht⟩
  · cases h0
  · obtain ⟨rfl, rfl⟩ : g = g' ∧ cap = cap' := by simpa using hv
    refine ⟨g, cap, cur.setIfInBounds i u, rfl, hb, Blk.set_ hgg i u, hn, hm, by simpa using hs, ?_⟩
    rw [← ht, Array.toList_setIfInBounds, List.take_set]
theorem own_cellK {W : World} {base : Nat} {e : TypeId} {size n g cap : Nat} {xs : List Value} (h : W.ownsRow base e size (.slice (some ⟨g, 0, none⟩) n cap) n xs) {i : Nat} {u : Value} (hu : xs[i]? = some u) : W.cell? ⟨g, i, none⟩ = some u ∧ W.frozen? ⟨g, i, none⟩ = false := by
  have := h.cells (g := g) rfl i u hu
  rw [add_lit] at this
  refine ⟨this, ?_⟩
  rcases h.2 with ⟨h0, _⟩ | ⟨g', cap', cur, hv, hb, hgg, _⟩
  · cases h0
  · obtain ⟨rfl, rfl⟩ : g = g' ∧ cap = cap' := by simpa using hv
    exact Blk.frozen hgg i
theorem cells_ownK {W : World} {base : Nat} {e : TypeId} {size n : Nat} {A : Option Addr} {c : Nat} {xs : List Value} (h : W.ownsRow base e size (.slice A n c) n xs) : CellsAt W A xs := by
  intro hl
  have hn : 0 < n := by
    have := h.1
    rcases Nat.eq_zero_or_pos n with h0 | h0
    · subst h0; rw [Nat.zero_mul] at this; omega
    · exact h0
  obtain ⟨g, cap, hv, _⟩ := h.form hn
  injection hv with hA
  subst hA
  exact ⟨_, rfl, h.cells rfl⟩
theorem rcells_one (l : List VR) : ∀ u ∈ rcells l, u.oneCell' = true := by
  intro u hu
  simp only [rcells, List.mem_flatMap, List.mem_cons, List.not_mem_nil, or_false] at hu
  obtain ⟨q, _, rfl | rfl | rfl⟩ := hu <;> rfl
theorem dcells_one (l : List (ByteArray × Nat)) : ∀ u ∈ dcells l, u.oneCell' = true := by
  intro u hu
  simp only [dcells, List.mem_flatMap, List.mem_cons, List.not_mem_nil, or_false] at hu
  obtain ⟨q, _, rfl | rfl⟩ := hu <;> rfl
theorem rcells_set : ∀ (l : List VR) (i p : Nat), i < l.length → (rcells l).set (i * 3 + 1) (.int .i64 p) = rcells (l.modify i fun q => { q with pos := p })
  | [], i, p, h => by simp at h
  | x :: r, 0, p, h => by simp [rcells]
  | x :: r, i + 1, p, h => by
    have := rcells_set r i p (by simpa using h)
    have e2 : (i + 1) * 3 + 1 = i * 3 + 1 + 1 + 1 + 1 := by omega
    rw [e2]
    simp only [rcells, List.flatMap_cons, List.cons_append, List.nil_append, List.set_cons_succ, List.modify_succ_cons] at this ⊢
    rw [this]
theorem modify_n : ∀ (l : List VR) (i p : Nat), (l.modify i fun q => { q with pos := p }).map (·.n) = l.map (·.n)
  | [], i, p => by simp
  | x :: r, 0, p => by simp
  | x :: r, i + 1, p => by simp [modify_n r i p]
theorem modify_rb {l : List VR} {i p m : Nat} (h : ∀ q ∈ l, q.n < m) : ∀ q ∈ l.modify i fun q => { q with pos := p }, q.n < m := fun q hq => by
  have : q.n ∈ (l.modify i fun q => { q with pos := p }).map (·.n) := List.mem_map_of_mem hq
  rw [modify_n] at this
  obtain ⟨q', h1, h2⟩ := List.mem_map.1 this
  rw [← h2]; exact h q' h1
theorem setPos_succ (U : V) (i p : Nat) : U.setPos ((i : Int) + 1) p = { U with rd := U.rd.modify i fun q => { q with pos := p } } := by
  unfold V.setPos
  rw [if_pos (by omega)]
  congr 2
/-- what a call on the reference's store leaves -/
def RPost (r : Nat) (X : Nat → Prop) (res : Value) (U' : V) (W : World) (e : Ending) (W' : World) : Prop := e = .returned res ∧ (∃ a', RefAt W' r U' X a') ∧ Chg (fun k => k = r) W W'
theorem rdAt_cases (U : V) (f : Int) : (∃ (i : Nat) (q : VR), f = (i : Int) + 1 ∧ U.rd[i]? = some q ∧ U.rdAt f = some q) ∨ (¬ (1 ≤ f ∧ f ≤ U.rd.length) ∧ U.rdAt f = none) := by
  unfold V.rdAt
  by_cases h : 1 ≤ f
  · rw [if_pos h]
    by_cases h2 : f ≤ U.rd.length
    · left
      have hl : f.toNat - 1 < U.rd.length := by omega
      exact ⟨f.toNat - 1, U.rd[f.toNat - 1], by omega, List.getElem?_eq_getElem hl, List.getElem?_eq_getElem hl⟩
    · right
      exact ⟨fun hh => h2 hh.2, List.getElem?_eq_none (by omega)⟩
  · rw [if_neg h]
    exact .inr ⟨fun hh => h hh.1, rfl⟩
section
variable {W W' : World} {r : Nat} {U : V} {X F : Nat → Prop} {a : RA}
theorem RPost.mk' {res : Value} {U' : V} {w' : World} (h : ∃ a', RefAt w' r U' X a') (hc : Chg (fun k => k = r) W w') : RPost r X res U' W (.returned res) w' := ⟨rfl, h, hc⟩
end
end Go.Proofs.Yteleglkoagnmcaa
set_option linter.unusedSimpArgs false
set_option linter.unusedVariables false
namespace Go.Proofs.Yteleglkoagnmcaa
open Go Go.RowKit
section
variable {P : Program} {ops : Array Oper} {Q : Exit → Act → World → Prop} {md : Region.Mode} {S : World → Prop} {n : Nat}
variable {i t fuel : Nat} {oi : Oper} {v : Value} {listed : Array Bool} {a : Act} {w w' : World} {T : Act → World → Prop}
theorem opWpT (hi : ops[i]? = some oi) (hw : Region.wanted oi (yielded ops a.tmps) = true) (h : oi.wp P a w (fun a' w' => (i < n → S w') ∧ T a' w') Q) : wpOp P ops Q i (fun a' w' => (i < n → S w') ∧ T a' w') a w := by
  unfold wpOp
  rw [hi]
  simp only
  rw [if_pos hw]
  exact .inl h
end
theorem read_F (U : V) (f : Int) : (U.read f).2.F = U.F ∧ (U.read f).2.rd.length = U.rd.length := by
  unfold V.read
  split
  · exact ⟨rfl, rfl⟩
  · split
    · exact ⟨rfl, rfl⟩
    · unfold V.setPos
      split
      · exact ⟨rfl, by simp⟩
      · exact ⟨rfl, rfl⟩
section
variable {W W' : World} {r : Nat} {U : V} {X F : Nat → Prop} {a : RA}
/-- the reference's seek, to a signed place -/
def seekZ (U : V) (f z : Int) : V := match U.rdAt f with | none => U | some q => U.setPos f (min z.toNat (U.bytes q.n).length)
theorem seekZ_sgn (U : V) (f : Int) (n : Nat) : seekZ U f (sgn n) = U.seek f n := by unfold seekZ V.seek seekTo; rfl
end
end Go.Proofs.Yteleglkoagnmcaa
set_option linter.unusedSimpArgs false
set_option linter.unusedVariables false
namespace Go.Proofs.Yteleglkoagnmcaa
open Go Go.RowKit
theorem toList_ne {a b : ByteArray} (h : a.toList = b.toList) : a = b := by
  rw [ByteArray.toList_eq a, ByteArray.toList_eq b] at h
  cases a; cases b
  congr 1
  exact Array.toList_inj.1 h
theorem toList_beq (a b : ByteArray) : (a.toList == b.toList) = (a == b) := by
  rw [ByteArray.toList_eq a, ByteArray.toList_eq b]
  obtain ⟨⟨x⟩⟩ := a
  obtain ⟨⟨y⟩⟩ := b
  show (x == y) = ((⟨x⟩ : Array UInt8) == ⟨y⟩)
  simp
def lessN (a b : ByteArray) : Bool := Op.bytesLess a.toList b.toList
def posD (nm : ByteArray) (l : List (ByteArray × Nat)) : Nat := (l.takeWhile fun e => lessN e.1 nm).length
def isD (nm : ByteArray) (l : List (ByteArray × Nat)) : Bool := match l[posD nm l]? with | none => false | some e => e.1 == nm
theorem posD_le (nm : ByteArray) : ∀ l, posD nm l ≤ l.length
  | [] => by simp [posD]
  | e :: r => by
    have := posD_le nm r
    unfold posD at this ⊢
    rw [List.takeWhile_cons]
    split <;> simp <;> omega
theorem posD_lt (nm : ByteArray) : ∀ (l : List (ByteArray × Nat)) (i : Nat), i < posD nm l → ∃ e, l[i]? = some e ∧ lessN e.1 nm = true
  | [], i, h => by simp [posD] at h
  | e :: r, i, h => by
    unfold posD at h
    rw [List.takeWhile_cons] at h
    by_cases he : lessN e.1 nm = true
    · rw [if_pos he] at h
      cases i with
      | zero => exact ⟨e, rfl, he⟩
      | succ i => exact posD_lt nm r i (by simpa [posD] using h)
    · rw [if_neg he] at h
      simp at h
theorem posD_at (nm : ByteArray) : ∀ (l : List (ByteArray × Nat)) (e : ByteArray × Nat), l[posD nm l]? = some e → lessN e.1 nm = false
  | [], e, h => by simp at h
  | x :: r, e, h => by
    unfold posD at h
    rw [List.takeWhile_cons] at h
    by_cases he : lessN x.1 nm = true
    · rw [if_pos he] at h
      exact posD_at nm r e (by simpa [posD] using h)
    · rw [if_neg he] at h
      simp at h
      subst h
      simpa using he
section
variable {W W' : World} {r : Nat} {U : V} {X F : Nat → Prop} {a : RA}
set_option maxRecDepth 100000 in
set_option maxHeartbeats 2000000 in
theorem rpos_c (h : RefAt W r U X a) (hn : U.dir.length < 1000000) (nm : ByteArray) : Calls Try.prog 55 #[.pointer (some ⟨r, 0, none⟩), .string nm] W (Quiet (.tuple #[.int .i64 (posD nm U.dir), .bool (isD nm U.dir)]) W) := by
  have hle := posD_le nm U.dir
  have HP := Go.Lib.hid (posD_lt nm U.dir)
  have HA := Go.Lib.hid (posD_at nm U.dir)
  have hisd : isD nm U.dir = (match U.dir[posD nm U.dir]? with | none => false | some e => e.1 == nm) := rfl
  obtain ⟨A, c, hv⟩ := own_slice h.D
  obtain ⟨_, c1, _, _⟩ := h.cells
  rw [hv] at c1
  have HE : Hid (∀ (i : Nat) (e : ByteArray × Nat), U.dir[i]? = some e → ∃ g c', a.D = .slice (some ⟨g, 0, none⟩) U.dir.length c' ∧ W.cell? ⟨g, i * 2, none⟩ = some (.string e.1)) := Go.Lib.hid fun i e he => by
    obtain ⟨g, c', h1, h2, _⟩ := h.entry he
    exact ⟨g, c', h1, h2⟩
  rw [hv] at HE
  clear h hv
  generalize posD nm U.dir = k at *
  generalize isD nm U.dir = b at *
  generalize hd : U.dir = dir at *
  go_enter Try.func55, Try.ntmps55
  go_wp2_with fail
  go_loopw [6] (fun v6 wr => ∃ j : Nat, j ≤ k ∧ v6 = .int .i64 j ∧ wr = W) (fun v6 _ => k - (intOf v6).toNat)
  case atStart => exact ⟨0, Nat.zero_le _, rfl, rfl⟩
  case round =>
    obtain ⟨j, hj, rfl, rfl⟩ := hrel
    by_cases hlt : j < k
    · obtain ⟨e, he, hle2⟩ := HP.out j hlt
      obtain ⟨g, c', hA, ce⟩ := HE.out j e he
      obtain ⟨rfl, rfl⟩ : A = some ⟨g, 0, none⟩ ∧ c = c' := by simpa using hA
      have hjl := (List.getElem?_eq_some_iff.1 he).1
      have gl : decide ((j : Int) < (dir.length : Int)) = true := by simp; omega
      have hls : Op.bytesLess e.1.toList nm.toList = true := hle2
      clear he hA hle2
      generalize e.1 = en at *
      generalize dir.length = n at *
      go_wp2_with fail
      refine ⟨⟨j + 1, hlt, by simp, by first | rfl | trivial⟩, by simp only [intOf]; omega⟩
    · obtain rfl : j = k := by omega
      by_cases hjl : j < dir.length
      · have he := List.getElem?_eq_getElem hjl
        obtain ⟨g, c', hA, ce⟩ := HE.out j _ he
        obtain ⟨rfl, rfl⟩ : A = some ⟨g, 0, none⟩ ∧ c = c' := by simpa using hA
        have hls : Op.bytesLess dir[j].1.toList nm.toList = false := HA.out _ he
        rw [he] at hisd
        simp only at hisd
        have gl : decide ((j : Int) < (dir.length : Int)) = true := by simp; omega
        clear he hA
        generalize dir[j].1 = en at *
        subst hisd
        generalize dir.length = n at *
        go_wp2_with fail
        go_quiet (fail)
        go_wp2_with fail
        go_ret2
        refine ⟨?_, (Chg.refl _ _).drewN _⟩
        first | rfl | (simp only [toList_beq]; done) | (simp [toList_beq]; done)
      · have he : dir[j]? = none := List.getElem?_eq_none (by omega)
        rw [he] at hisd
        simp only at hisd
        subst hisd
        have gl : decide ((j : Int) < (dir.length : Int)) = false := by simp; omega
        clear he
        generalize dir.length = n at *
        go_wp2_with fail
        go_quiet (fail)
        go_wp2_with fail
        go_ret2
        exact ⟨rfl, (Chg.refl _ _).drewN _⟩
end
end Go.Proofs.Yteleglkoagnmcaa
