import Derived.Test.YtggknljlibhkjaaGreatStoreW
import Derived.Test.YtggknljlibhkjaaGreatStoreS
import Derived.Test.YtggknljlibhkjaaGreatGStC
import Derived.Test.YtggknljlibhkjaaGreatTail2
import Derived.Laws.Rows
import Derived.Test.YtggknljlibhkjaaGreatTail3
import Derived.Deep.RegionHeld3
set_option linter.unusedSimpArgs false
set_option linter.unusedVariables false
namespace Go.Proofs.YtggknljlibhkjaaGreat
open Go Go.RowKit
section
variable {P : Program} (w : World)
theorem run_app_nil (base : Nat) (t ty e : TypeId) (i : TypeInfo) (size : Nat) (ht : P.underlying t = some (.slice e)) (hi : P.info? e = some i)
  (v : Value) (n : Nat) (xs : List Value) (hown : w.ownsRow base e size v n xs) (A : Option Addr) (c : Nat) : (Builtin.append_ #[t, t] ty #[v, .slice A 0 c]).run P w = .ok v w := by
 have hf : (Builtin.firstCells i.size 0 (.slice A 0 c)).run P w = .ok #[] w := by
  cases A <;> simp [Builtin.firstCells, loadCells, loadCellsFrom]
 rcases hown.2 with ⟨rfl, rfl⟩ | ⟨g, cap, cur, rfl, _, _, hnc, _⟩
 ·simp [Builtin.append_, run_underlying ht, sizeOf, typeInfo, hi, Builtin.lenOf, hf]
 ·simp [Builtin.append_, run_underlying ht, sizeOf, typeInfo, hi, Builtin.lenOf, hf, hnc, storeCells]
theorem run_appK (base : Nat) (t ty e : TypeId) (i : TypeInfo) (z : Value) (size bytes : Nat) (ht : P.underlying t = some (.slice e)) (hi : P.info? e = some i) (hz : i.zero = some z)
  (hsize : i.size = size) (hby : i.bytes = bytes) (hzs : z.cells.size = size) (hsz : 0 < size)
  (v : Value) (n : Nat) (xs : List Value) (hown : w.ownsRow base e size v n xs)
  (A : Option Addr) (m c : Nat) (news : List Value) (hm : news.length = m * size) (hr : CellsAt w A news) (h1 : ∀ u ∈ news, u.oneCell' = true)
  (h63 : n + m ≤ maxLen) (hbytes : (n + m) * bytes ≤ 140737488355328) (hbase : base ≤ w.heap.size) :
  ∃ v' w', (Builtin.append_ #[t, t] ty #[v, .slice A m c]).run P w = .ok v' w' ∧ w'.ownsRow base e size v' (n + m) (xs ++ news) ∧ w.grownBy w' v.ownBlock ∧
   (v'.ownBlock = v.ownBlock ∨ v'.ownBlock = some w.heap.size) := by
 rcases Nat.eq_zero_or_pos m with h0 | h0
 ·subst h0
  have hn : news = [] := List.eq_nil_of_length_eq_zero (by simpa using hm)
  subst hn
  exact ⟨v, w, run_app_nil w base t ty e i size ht hi v n xs hown A c, by simpa using hown, World.grownBy.refl w _, .inl rfl⟩
 ·obtain ⟨ad, rfl, hc⟩ := hr (by rw [hm]; exact Nat.mul_pos h0 hsz)
  obtain ⟨v', w', hrun, h2, h3, _, h5⟩ := run_append_own_at (P := P) w base t ty e i z size bytes ht hi hz hsize hby hzs hsz v n xs hown ad m c news hm hc h1 h63 hbytes hbase
  exact ⟨v', w', hrun, h2, h3, h5⟩
theorem wp_appK {o : Oper} {a : Act} {K : Act → World → Prop} {Q : Exit → Act → World → Prop} (s x : Operand) (t : TypeId)
  (ho : o.op = .call { callee := .builtin .append, args := #[s, x], argTypes := #[t, t] })
  (base : Nat) (e : TypeId) (i : TypeInfo) (z : Value) (size bytes : Nat) (ht : P.underlying t = some (.slice e)) (hi : P.info? e = some i) (hz : i.zero = some z)
  (hsize : i.size = size) (hby : i.bytes = bytes) (hzs : z.cells.size = size) (hsz : 0 < size)
  (v : Value) (n : Nat) (xs : List Value) (hs : a.eval s = v) (hown : w.ownsRow base e size v n xs)
  (A : Option Addr) (m c : Nat) (news : List Value) (hx : a.eval x = .slice A m c) (hm : news.length = m * size) (hr : CellsAt w A news) (h1 : ∀ u ∈ news, u.oneCell' = true)
  (h63 : n + m ≤ maxLen) (hbytes : (n + m) * bytes ≤ 140737488355328) (hbase : base ≤ w.heap.size)
  (h : ∀ v' w', w'.ownsRow base e size v' (n + m) (xs ++ news) → w.grownBy w' v.ownBlock → (v'.ownBlock = v.ownBlock ∨ v'.ownBlock = some w.heap.size) → K (a.put o.dst v') w') : o.wp P a w K Q := by
 obtain ⟨v', w', hrun, h2, h3, h4⟩ := run_appK (P := P) w base t o.type e i z size bytes ht hi hz hsize hby hzs hsz v n xs hown A m c news hm hr h1 h63 hbytes hbase
 unfold Oper.wp execOp
 simp only [ho, resolve, invoke, builtin, Sem.run_bind, Sem.run_pure, Result.andThen_ok, List.map_toArray, List.map_cons, List.map_nil, hs, hx, hrun]
 exact h v' w' h2 h3 h4
theorem wpList_appK {ops : Array Oper} {rest : List Oper} {o : Oper} {a : Act} {Q : Exit → Act → World → Prop} (hgd : o.guard = none) (s x : Operand) (t : TypeId)
  (ho : o.op = .call { callee := .builtin .append, args := #[s, x], argTypes := #[t, t] })
  (base : Nat) (e : TypeId) (i : TypeInfo) (z : Value) (size bytes : Nat) (ht : P.underlying t = some (.slice e)) (hi : P.info? e = some i) (hz : i.zero = some z)
  (hsize : i.size = size) (hby : i.bytes = bytes) (hzs : z.cells.size = size) (hsz : 0 < size)
  (v : Value) (n : Nat) (xs : List Value) (hs : a.eval s = v) (hown : w.ownsRow base e size v n xs)
  (A : Option Addr) (m c : Nat) (news : List Value) (hx : a.eval x = .slice A m c) (hm : news.length = m * size) (hr : CellsAt w A news) (h1 : ∀ u ∈ news, u.oneCell' = true)
  (h63 : n + m ≤ maxLen) (hbytes : (n + m) * bytes ≤ 140737488355328) (hbase : base ≤ w.heap.size)
  (h : ∀ v' w', w'.ownsRow base e size v' (n + m) (xs ++ news) → w.grownBy w' v.ownBlock → (v'.ownBlock = v.ownBlock ∨ v'.ownBlock = some w.heap.size) → wpList P ops Q rest (a.put o.dst v') w') : wpList P ops Q (o :: rest) a w :=
 wpList_plain hgd fun _ hK => wp_appK w s x t ho base e i z size bytes ht hi hz hsize hby hzs hsz v n xs hs hown A m c news hx hm hr h1 h63 hbytes hbase fun v' w' h2 h3 h4 => hK _ _ (h v' w' h2 h3 h4)
end
abbrev ET : TypeId := 166
abbrev QT : TypeId := 172
abbrev RST : TypeId := 67
abbrev BT : TypeId := 44
theorem etinfo : (Tryz.prog.info? ET).map (fun i => (i.zero, i.size, i.bytes)) = some (some (.agg #[.string ⟨#[]⟩, .int .i64 0]), 2, 24) := by kernel_rfl
theorem qtinfo : (Tryz.prog.info? QT).map (fun i => (i.zero, i.size, i.bytes)) = some (some (.agg #[.int .i64 0, .int .i64 0, .string ⟨#[]⟩]), 3, 32) := by kernel_rfl
theorem btinfo : (Tryz.prog.info? BT).map (fun i => (i.zero, i.size, i.bytes)) = some (some (.slice none 0 0), 1, 24) := by kernel_rfl
def dcells (l : List (ByteArray × Nat)) : List Value := l.flatMap fun e => [.string e.1, .int .i64 e.2]
def rcells (l : List VR) : List Value := l.flatMap fun q => [.int .i64 q.n, .int .i64 q.pos, .string q.name]
theorem dcells_len : ∀ l, (dcells l).length = l.length * 2
 | [] => rfl
 | e :: r => by
  have := dcells_len r
  simp only [dcells, List.flatMap_cons, List.length_append, List.length_cons, List.length_nil] at this ⊢
  omega
theorem rcells_len : ∀ l, (rcells l).length = l.length * 3
 | [] => rfl
 | e :: r => by
  have := rcells_len r
  simp only [rcells, List.flatMap_cons, List.length_append, List.length_cons, List.length_nil] at this ⊢
  omega
theorem dcells_get : ∀ (l : List (ByteArray × Nat)) (i : Nat) (e : ByteArray × Nat), l[i]? = some e → (dcells l)[i * 2]? = some (.string e.1) ∧ (dcells l)[i * 2 + 1]? = some (.int .i64 e.2)
 | [], i, e, h => by simp at h
 | x :: r, 0, e, h => by
  obtain rfl : x = e := by simpa using h
  simp [dcells]
 | x :: r, i + 1, e, h => by
  have := dcells_get r i e (by simpa using h)
  have e2 : (i + 1) * 2 = i * 2 + 2 := by omega
  rw [e2]
  simpa [dcells] using this
theorem rcells_get : ∀ (l : List VR) (i : Nat) (q : VR), l[i]? = some q → (rcells l)[i * 3]? = some (.int .i64 q.n) ∧ (rcells l)[i * 3 + 1]? = some (.int .i64 q.pos) ∧ (rcells l)[i * 3 + 2]? = some (.string q.name)
 | [], i, e, h => by simp at h
 | x :: r, 0, e, h => by
  obtain rfl : x = e := by simpa using h
  simp [rcells]
 | x :: r, i + 1, e, h => by
  have := rcells_get r i e (by simpa using h)
  have e2 : (i + 1) * 3 = i * 3 + 3 := by omega
  rw [e2]
  simpa [rcells] using this
theorem dcells_app (l m : List (ByteArray × Nat)) : dcells (l ++ m) = dcells l ++ dcells m := by simp [dcells]
theorem rcells_app (l m : List VR) : rcells (l ++ m) = rcells l ++ rcells m := by simp [rcells]
structure RA where
 F : Value
 D : Value
 R : Value
 f : List Value
structure RefAt (W : World) (r : Nat) (U : V) (X : Nat → Prop) (a : RA) : Prop where
 blk : Blk W r RST #[a.F, a.D, a.R, .int .i64 U.cap]
 F : W.ownsRow 0 BT 1 a.F U.F.length a.f
 f : ∀ (i : Nat) (b : List UInt8), U.F[i]? = some b → ∃ v, a.f[i]? = some v ∧ W.ownsRow 0 5 1 v b.length (bv b) ∧ ∀ k, v.ownBlock = some k → ¬ X k ∧ k ≠ r
 D : W.ownsRow 0 ET 2 a.D U.dir.length (dcells U.dir)
 R : W.ownsRow 0 QT 3 a.R U.rd.length (rcells U.rd)
 xF : ∀ k, a.F.ownBlock = some k → ¬ X k ∧ k ≠ r
 xD : ∀ k, a.D.ownBlock = some k → ¬ X k ∧ k ≠ r
 xR : ∀ k, a.R.ownBlock = some k → ¬ X k ∧ k ≠ r
 xr : ¬ X r
 db : ∀ e ∈ U.dir, e.2 < U.F.length
 rb : ∀ q ∈ U.rd, q.n < U.F.length
section
variable {W W' : World} {r : Nat} {U : V} {X X' F : Nat → Prop} {a : RA}
theorem RefAt.chg (h : RefAt W r U X a) (hc : Chg F W W') (hF : ∀ k, F k → X k) : RefAt W' r U X a where
 blk := h.blk.chg hc (fun hx => h.xr (hF _ hx))
 F := own_chg h.F hc (fun k hk hx => (h.xF k hk).1 (hF _ hx))
 f := fun i b hb => by
  obtain ⟨v, h1, h2, h3⟩ := h.f i b hb
  exact ⟨v, h1, own_chg h2 hc (fun k hk hx => (h3 k hk).1 (hF _ hx)), h3⟩
 D := own_chg h.D hc (fun k hk hx => (h.xD k hk).1 (hF _ hx))
 R := own_chg h.R hc (fun k hk hx => (h.xR k hk).1 (hF _ hx))
 xF := h.xF
 xD := h.xD
 xR := h.xR
 xr := h.xr
 db := h.db
 rb := h.rb
theorem RefAt.quiet (h : RefAt W r U X a) (hc : Chg NoB W W') : RefAt W' r U X a := h.chg hc (fun _ hx => hx.elim)
theorem RefAt.lt (h : RefAt W r U X a) : r < W.heap.size := h.blk.lt
theorem RefAt.apart (h : RefAt W r U X a) (hX : ∀ k, X' k → X k ∨ W.heap.size ≤ k) : RefAt W r U X' a where
 blk := h.blk
 F := h.F
 f := fun i b hb => by
  obtain ⟨v, h1, h2, h3⟩ := h.f i b hb
  exact ⟨v, h1, h2, fun k hk => ⟨fun hx => (hX k hx).elim (h3 k hk).1 (fun hl => by have := (h2.lt k hk).2; omega), (h3 k hk).2⟩⟩
 D := h.D
 R := h.R
 xF := fun k hk => ⟨fun hx => (hX k hx).elim (h.xF k hk).1 (fun hl => by have := (h.F.lt k hk).2; omega), (h.xF k hk).2⟩
 xD := fun k hk => ⟨fun hx => (hX k hx).elim (h.xD k hk).1 (fun hl => by have := (h.D.lt k hk).2; omega), (h.xD k hk).2⟩
 xR := fun k hk => ⟨fun hx => (hX k hx).elim (h.xR k hk).1 (fun hl => by have := (h.R.lt k hk).2; omega), (h.xR k hk).2⟩
 xr := fun hx => (hX r hx).elim h.xr (fun hl => by have := h.lt; omega)
 db := h.db
 rb := h.rb
theorem RefAt.cells (h : RefAt W r U X a) : W.cell? ⟨r, 0, none⟩ = some a.F ∧ W.cell? ⟨r, 1, none⟩ = some a.D ∧ W.cell? ⟨r, 2, none⟩ = some a.R ∧ W.cell? ⟨r, 3, none⟩ = some (.int .i64 U.cap) :=
 ⟨h.blk.cell 0, h.blk.cell 1, h.blk.cell 2, h.blk.cell 3⟩
theorem RefAt.rider (h : RefAt W r U X a) {i : Nat} {q : VR} (hq : U.rd[i]? = some q) : ∃ g c, a.R = .slice (some ⟨g, 0, none⟩) U.rd.length c ∧ W.cell? ⟨g, i * 3, none⟩ = some (.int .i64 q.n) ∧ W.cell? ⟨g, i * 3 + 1, none⟩ = some (.int .i64 q.pos) ∧ W.cell? ⟨g, i * 3 + 2, none⟩ = some (.string q.name) := by
 have hl := (List.getElem?_eq_some_iff.1 hq).1
 obtain ⟨g, c, hv, _, _⟩ := h.R.form (by omega)
 have hc := h.R.cells (g := g) (by rw [hv]; rfl)
 obtain ⟨h1, h2, h3⟩ := rcells_get _ _ _ hq
 refine ⟨g, c, hv, ?_, ?_, ?_⟩
 ·have := hc _ _ h1; rwa [add_lit] at this
 ·have := hc _ _ h2; rwa [add_lit] at this
 ·have := hc _ _ h3; rwa [add_lit] at this
theorem RefAt.entry (h : RefAt W r U X a) {i : Nat} {e : ByteArray × Nat} (he : U.dir[i]? = some e) : ∃ g c, a.D = .slice (some ⟨g, 0, none⟩) U.dir.length c ∧ W.cell? ⟨g, i * 2, none⟩ = some (.string e.1) ∧ W.cell? ⟨g, i * 2 + 1, none⟩ = some (.int .i64 e.2) := by
 have hl := (List.getElem?_eq_some_iff.1 he).1
 obtain ⟨g, c, hv, _, _⟩ := h.D.form (by omega)
 have hc := h.D.cells (g := g) (by rw [hv]; rfl)
 obtain ⟨h1, h2⟩ := dcells_get _ _ _ he
 refine ⟨g, c, hv, ?_, ?_⟩
 ·have := hc _ _ h1; rwa [add_lit] at this
 ·have := hc _ _ h2; rwa [add_lit] at this
theorem RefAt.file (h : RefAt W r U X a) {i : Nat} {b : List UInt8} (hb : U.F[i]? = some b) : ∃ g c A cc, a.F = .slice (some ⟨g, 0, none⟩) U.F.length c ∧ W.cell? ⟨g, i, none⟩ = some (.slice A b.length cc) ∧ W.ownsRow 0 5 1 (.slice A b.length cc) b.length (bv b) := by
 have hl := (List.getElem?_eq_some_iff.1 hb).1
 obtain ⟨g, c, hv, _, _⟩ := h.F.form (by omega)
 have hc := h.F.cells (g := g) (by rw [hv]; rfl)
 obtain ⟨v, h1, h2, _⟩ := h.f i b hb
 obtain ⟨A, cc, rfl⟩ := own_slice h2
 refine ⟨g, c, A, cc, hv, ?_, h2⟩
 have := hc _ _ h1; rwa [add_lit] at this
theorem RefAt.bytes (h : RefAt W r U X a) {q : VR} {i : Nat} (hq : U.rd[i]? = some q) : U.F[q.n]? = some (U.bytes q.n) := by
 have := h.rb q (List.mem_of_getElem? hq)
 unfold V.bytes
 rw [List.getD_eq_getElem?_getD, List.getElem?_eq_getElem this]
 rfl
theorem RefAt.dbytes (h : RefAt W r U X a) {e : ByteArray × Nat} (he : e ∈ U.dir) : U.F[e.2]? = some (U.bytes e.2) := by
 have := h.db e he
 unfold V.bytes
 rw [List.getD_eq_getElem?_getD, List.getElem?_eq_getElem this]
 rfl
theorem cell_q {w w' : World} {p : Addr} {v : Value} (hc : Chg NoB w w') (h : w.cell? p = some v) : w'.cell? p = some v := (World.cell?_of_block (hc.block _ (World.block_lt_of_cell? w _ h) id)).trans h
theorem RefAt.putR (h : RefAt W r U X a) (hX : ∀ k, X k → k < W.heap.size) (hc : Chg (fun k => k = r) W W') {v1 : Value} (hb : Blk W' r RST #[a.F, a.D, v1, .int .i64 U.cap]) {rd' : List VR}
  (ho : W'.ownsRow W.heap.size QT 3 v1 rd'.length (rcells rd')) (hrb : ∀ q ∈ rd', q.n < U.F.length) : RefAt W' r { U with rd := rd' } X { a with R := v1 } where
 blk := hb
 F := own_chg h.F hc (fun k hk hx => (h.xF k hk).2 hx)
 f := fun i b hb => by
  obtain ⟨v, h1, h2, h3⟩ := h.f i b hb
  exact ⟨v, h1, own_chg h2 hc (fun k hk hx => (h3 k hk).2 hx), h3⟩
 D := own_chg h.D hc (fun k hk hx => (h.xD k hk).2 hx)
 R := own_base ho (Nat.zero_le _)
 xF := h.xF
 xD := h.xD
 xR := fun k hk => ⟨fun hx => by have := (ho.lt k hk).1; have := hX k hx; omega, fun e => by have := (ho.lt k hk).1; have := h.lt; omega⟩
 xr := h.xr
 db := h.db
 rb := hrb
theorem RefAt.putD (h : RefAt W r U X a) (hX : ∀ k, X k → k < W.heap.size) (hc : Chg (fun k => k = r) W W') {v1 : Value} (hb : Blk W' r RST #[a.F, v1, a.R, .int .i64 U.cap]) {d' : List (ByteArray × Nat)}
  (ho : W'.ownsRow W.heap.size ET 2 v1 d'.length (dcells d')) (hdb : ∀ e ∈ d', e.2 < U.F.length) : RefAt W' r { U with dir := d' } X { a with D := v1 } where
 blk := hb
 F := own_chg h.F hc (fun k hk hx => (h.xF k hk).2 hx)
 f := fun i b hb => by
  obtain ⟨v, h1, h2, h3⟩ := h.f i b hb
  exact ⟨v, h1, own_chg h2 hc (fun k hk hx => (h3 k hk).2 hx), h3⟩
 D := own_base ho (Nat.zero_le _)
 R := own_chg h.R hc (fun k hk hx => (h.xR k hk).2 hx)
 xF := h.xF
 xD := fun k hk => ⟨fun hx => by have := (ho.lt k hk).1; have := hX k hx; omega, fun e => by have := (ho.lt k hk).1; have := h.lt; omega⟩
 xR := h.xR
 xr := h.xr
 db := hdb
 rb := h.rb
theorem RefAt.putF (h : RefAt W r U X a) (hX : ∀ k, X k → k < W.heap.size) (hc : Chg (fun k => k = r) W W') {v1 : Value} (hb : Blk W' r RST #[v1, a.D, a.R, .int .i64 U.cap]) {F' : List (List UInt8)} {f' : List Value}
  (ho : W'.ownsRow W.heap.size BT 1 v1 F'.length f') (hl : U.F.length ≤ F'.length)
  (hf : ∀ (i : Nat) (b : List UInt8), F'[i]? = some b → (U.F[i]? = some b ∧ f'[i]? = a.f[i]?) ∨ ∃ v, f'[i]? = some v ∧ W'.ownsRow W.heap.size 5 1 v b.length (bv b)) : RefAt W' r { U with F := F' } X { a with F := v1, f := f' } where
 blk := hb
 F := own_base ho (Nat.zero_le _)
 f := fun i b hb => by
  rcases hf i b hb with ⟨h1, h2⟩ | ⟨v, h1, h2⟩
  ·obtain ⟨v, h1, h3, h4⟩ := h.f i b h1
   exact ⟨v, h2.trans h1, own_chg h3 hc (fun k hk hx => (h4 k hk).2 hx), h4⟩
  ·exact ⟨v, h1, own_base h2 (Nat.zero_le _), fun k hk => ⟨fun hx => by have := (h2.lt k hk).1; have := hX k hx; omega, fun e => by have := (h2.lt k hk).1; have := h.lt; omega⟩⟩
 D := own_chg h.D hc (fun k hk hx => (h.xD k hk).2 hx)
 R := own_chg h.R hc (fun k hk hx => (h.xR k hk).2 hx)
 xF := fun k hk => ⟨fun hx => by have := (ho.lt k hk).1; have := hX k hx; omega, fun e => by have := (ho.lt k hk).1; have := h.lt; omega⟩
 xD := h.xD
 xR := h.xR
 xr := h.xr
 db := fun e he => Nat.lt_of_lt_of_le (h.db e he) hl
 rb := fun e he => Nat.lt_of_lt_of_le (h.rb e he) hl
end
end Go.Proofs.YtggknljlibhkjaaGreat
set_option linter.unusedSimpArgs false
set_option linter.unusedVariables false
namespace Go.Proofs.YtggknljlibhkjaaGreat
open Go Go.RowKit
theorem own_setK {W : World} {base : Nat} {e : TypeId} {size n g cap : Nat} {xs : List Value} (h : W.ownsRow base e size (.slice (some ⟨g, 0, none⟩) n cap) n xs) {i : Nat} (hi : i < n * size) (u : Value) :
  (W.setCell ⟨g, i, none⟩ u).ownsRow base e size (.slice (some ⟨g, 0, none⟩) n cap) n (xs.set i u) := by
 refine ⟨by simpa using h.1, .inr ?_⟩
 rcases h.2 with ⟨h0, _⟩ | ⟨g', cap', cur, hv, hb, hgg, hn, hm, hs, ht⟩
 ·cases h0
 ·obtain ⟨rfl, rfl⟩ : g = g' ∧ cap = cap' := by simpa using hv
  refine ⟨g, cap, cur.setIfInBounds i u, rfl, hb, Blk.set_ hgg i u, hn, hm, by simpa using hs, ?_⟩
  rw [← ht, Array.toList_setIfInBounds, List.take_set]
theorem own_cellK {W : World} {base : Nat} {e : TypeId} {size n g cap : Nat} {xs : List Value} (h : W.ownsRow base e size (.slice (some ⟨g, 0, none⟩) n cap) n xs) {i : Nat} {u : Value} (hu : xs[i]? = some u) : W.cell? ⟨g, i, none⟩ = some u ∧ W.frozen? ⟨g, i, none⟩ = false := by
 have := h.cells (g := g) rfl i u hu
 rw [add_lit] at this
 refine ⟨this, ?_⟩
 rcases h.2 with ⟨h0, _⟩ | ⟨g', cap', cur, hv, hb, hgg, _⟩
 ·cases h0
 ·obtain ⟨rfl, rfl⟩ : g = g' ∧ cap = cap' := by simpa using hv
  exact Blk.frozen hgg i
theorem cells_ownK {W : World} {base : Nat} {e : TypeId} {size n : Nat} {A : Option Addr} {c : Nat} {xs : List Value} (h : W.ownsRow base e size (.slice A n c) n xs) : CellsAt W A xs := by
 intro hl
 have hn : 0 < n := by
  have := h.1
  rcases Nat.eq_zero_or_pos n with h0 | h0
  ·subst h0; rw [Nat.zero_mul] at this; omega
  ·exact h0
 obtain ⟨g, cap, hv, _⟩ := h.form hn
 injection hv with hA
 subst hA
 exact ⟨_, rfl, h.cells rfl⟩
theorem rcells_one (l : List VR) : ∀ u ∈ rcells l, u.oneCell' = true := by
 intro u hu
 simp only [rcells, List.mem_flatMap, List.mem_cons, List.not_mem_nil, or_false] at hu
 obtain ⟨q, _, rfl | rfl | rfl⟩ := hu <;> rfl
theorem dcells_one (l : List (ByteArray × Nat)) : ∀ u ∈ dcells l, u.oneCell' = true := by
 intro u hu
 simp only [dcells, List.mem_flatMap, List.mem_cons, List.not_mem_nil, or_false] at hu
 obtain ⟨q, _, rfl | rfl⟩ := hu <;> rfl
theorem rcells_set : ∀ (l : List VR) (i p : Nat), i < l.length → (rcells l).set (i * 3 + 1) (.int .i64 p) = rcells (l.modify i fun q => { q with pos := p })
 | [], i, p, h => by simp at h
 | x :: r, 0, p, h => by simp [rcells]
 | x :: r, i + 1, p, h => by
  have := rcells_set r i p (by simpa using h)
  have e2 : (i + 1) * 3 + 1 = i * 3 + 1 + 1 + 1 + 1 := by omega
  rw [e2]
  simp only [rcells, List.flatMap_cons, List.cons_append, List.nil_append, List.set_cons_succ, List.modify_succ_cons] at this ⊢
  rw [this]
theorem modify_n : ∀ (l : List VR) (i p : Nat), (l.modify i fun q => { q with pos := p }).map (·.n) = l.map (·.n)
 | [], i, p => by simp
 | x :: r, 0, p => by simp
 | x :: r, i + 1, p => by simp [modify_n r i p]
theorem modify_rb {l : List VR} {i p m : Nat} (h : ∀ q ∈ l, q.n < m) : ∀ q ∈ l.modify i fun q => { q with pos := p }, q.n < m := fun q hq => by
 have : q.n ∈ (l.modify i fun q => { q with pos := p }).map (·.n) := List.mem_map_of_mem hq
 rw [modify_n] at this
 obtain ⟨q', h1, h2⟩ := List.mem_map.1 this
 rw [← h2]; exact h q' h1
theorem setPos_succ (U : V) (i p : Nat) : U.setPos ((i : Int) + 1) p = { U with rd := U.rd.modify i fun q => { q with pos := p } } := by
 unfold V.setPos
 rw [if_pos (by omega)]
 congr 2
def RPost (r : Nat) (X : Nat → Prop) (res : Value) (U' : V) (W : World) (e : Ending) (W' : World) : Prop := e = .returned res ∧ (∃ a', RefAt W' r U' X a') ∧ Chg (fun k => k = r) W W'
theorem rdAt_cases (U : V) (f : Int) : (∃ (i : Nat) (q : VR), f = (i : Int) + 1 ∧ U.rd[i]? = some q ∧ U.rdAt f = some q) ∨ (¬ (1 ≤ f ∧ f ≤ U.rd.length) ∧ U.rdAt f = none) := by
 unfold V.rdAt
 by_cases h : 1 ≤ f
 ·rw [if_pos h]
  by_cases h2 : f ≤ U.rd.length
  ·left
   have hl : f.toNat - 1 < U.rd.length := by omega
   exact ⟨f.toNat - 1, U.rd[f.toNat - 1], by omega, List.getElem?_eq_getElem hl, List.getElem?_eq_getElem hl⟩
  ·right
   exact ⟨fun hh => h2 hh.2, List.getElem?_eq_none (by omega)⟩
 ·rw [if_neg h]
  exact .inr ⟨fun hh => h hh.1, rfl⟩
section
variable {W W' : World} {r : Nat} {U : V} {X F : Nat → Prop} {a : RA}
theorem ris_c (h : RefAt W r U X a) (hn : U.rd.length < 1000000) (f : Int) : Calls Tryz.prog 115 #[.pointer (some ⟨r, 0, none⟩), .int .i64 f] W fun e w' => e = .returned (.bool (decide (1 ≤ f ∧ f ≤ U.rd.length))) ∧ W = w' := by
 obtain ⟨A, c, hv⟩ := own_slice h.R
 obtain ⟨_, _, c2, _⟩ := h.cells
 rw [hv] at c2
 clear h hv
 generalize U.rd.length = n at *
 by_cases h1 : 1 ≤ f
 ·have g1 : decide (f ≥ 1) = true := by simpa using h1
  by_cases h2 : f ≤ n
  ·have g2 : decide (f ≤ (n : Int)) = true := by simpa using h2
   rw [decide_eq_true (show 1 ≤ f ∧ f ≤ n from ⟨h1, h2⟩)]
   clear h1 h2
   go_enter Tryz.func115, Tryz.ntmps115
   go_wp2_with fail
   go_ret
   exact ⟨rfl, rfl⟩
  ·have g2 : decide (f ≤ (n : Int)) = false := by simpa using h2
   rw [decide_eq_false (show ¬ (1 ≤ f ∧ f ≤ n) from fun h => h2 h.2)]
   clear h1 h2
   go_enter Tryz.func115, Tryz.ntmps115
   go_wp2_with fail
   go_ret
   exact ⟨rfl, rfl⟩
 ·have g1 : decide (f ≥ 1) = false := by simpa using h1
  rw [decide_eq_false (show ¬ (1 ≤ f ∧ f ≤ n) from fun h => h1 h.1)]
  clear h1
  go_enter Tryz.func115, Tryz.ntmps115
  go_wp2_with fail
  go_ret
  exact ⟨rfl, rfl⟩
theorem ris_some (h : RefAt W r U X a) (hn : U.rd.length < 1000000) {i : Nat} {q : VR} (hq : U.rd[i]? = some q) : Calls Tryz.prog 115 #[.pointer (some ⟨r, 0, none⟩), .int .i64 ((i : Int) + 1)] W fun e w' => e = .returned (.bool true) ∧ W = w' := by
 have := ris_c h hn ((i : Int) + 1)
 have hl := (List.getElem?_eq_some_iff.1 hq).1
 rw [decide_eq_true (show 1 ≤ ((i : Int) + 1) ∧ ((i : Int) + 1) ≤ U.rd.length by omega)] at this
 exact this
theorem ris_none (h : RefAt W r U X a) (hn : U.rd.length < 1000000) {f : Int} (hf : ¬ (1 ≤ f ∧ f ≤ U.rd.length)) : Calls Tryz.prog 115 #[.pointer (some ⟨r, 0, none⟩), .int .i64 f] W fun e w' => e = .returned (.bool false) ∧ W = w' := by
 have := ris_c h hn f
 rw [decide_eq_false hf] at this
 exact this
theorem rat_c (h : RefAt W r U X a) (hn : U.rd.length < 1000000) (f : Int) : Calls Tryz.prog 113 #[.pointer (some ⟨r, 0, none⟩), .int .i64 f] W fun e w' => e = .returned (.int .i64 (U.posOf f)) ∧ W = w' := by
 rcases rdAt_cases U f with ⟨i, q, rfl, hq, hr⟩ | ⟨hf, hr⟩
 ·have HI := Go.Lib.hid (ris_some h hn hq)
  have hp : U.posOf ((i : Int) + 1) = q.pos := by unfold V.posOf; rw [hr]
  rw [hp]
  obtain ⟨g, c, hv, _, k1, _⟩ := h.rider hq
  obtain ⟨_, _, c2, _⟩ := h.cells
  rw [hv] at c2
  have hl := (List.getElem?_eq_some_iff.1 hq).1
  clear h hv hr hq hp
  generalize U.rd.length = n at *
  generalize q.pos = p at *
  go_enter Tryz.func113, Tryz.ntmps113
  go_wp2_with fail
  refine HI.out.mono ?_
  rintro e w1 ⟨rfl, rfl⟩
  go_wp2_with fail
  go_ret
  exact ⟨rfl, rfl⟩
 ·have HI := Go.Lib.hid (ris_none h hn hf)
  have hp : U.posOf f = 0 := by unfold V.posOf; rw [hr]
  rw [hp]
  clear h hf hr hp
  go_enter Tryz.func113, Tryz.ntmps113
  go_wp2_with fail
  refine HI.out.mono ?_
  rintro e w1 ⟨rfl, rfl⟩
  go_wp2_with fail
  go_ret
  exact ⟨rfl, rfl⟩
theorem rlen_c (h : RefAt W r U X a) (hn : U.rd.length < 1000000) (f : Int) : Calls Tryz.prog 116 #[.pointer (some ⟨r, 0, none⟩), .int .i64 f] W (Quiet (.int .i64 (U.length f)) W) := by
 rcases rdAt_cases U f with ⟨i, q, rfl, hq, hr⟩ | ⟨hf, hr⟩
 ·have HI := Go.Lib.hid (ris_some h hn hq)
  have hp : U.length ((i : Int) + 1) = (U.bytes q.n).length := by unfold V.length; rw [hr]
  rw [hp]
  obtain ⟨g, c, hv, k0, _, _⟩ := h.rider hq
  obtain ⟨g2, cc, A, c3, hv2, k2, _⟩ := h.file (h.bytes hq)
  obtain ⟨c0, _, c2, _⟩ := h.cells
  rw [hv] at c2
  rw [hv2] at c0
  have hl := (List.getElem?_eq_some_iff.1 hq).1
  have hl2 := h.rb q (List.mem_of_getElem? hq)
  clear h hv hr hq hp hv2
  generalize U.rd.length = n at *
  generalize (U.bytes q.n).length = p at *
  generalize U.F.length = m at *
  generalize q.n = qn at *
  go_enter Tryz.func116, Tryz.ntmps116
  go_wp2_with fail
  refine HI.out.mono ?_
  rintro e w1 ⟨rfl, rfl⟩
  go_wp2_with fail
  go_quiet (fail)
  go_wp2_with fail
  go_ret
  exact ⟨rfl, (Chg.refl _ _).drewN _⟩
 ·have HI := Go.Lib.hid (ris_none h hn hf)
  have hp : U.length f = 0 := by unfold V.length; rw [hr]
  rw [hp]
  clear h hf hr hp
  go_enter Tryz.func116, Tryz.ntmps116
  go_wp2_with fail
  refine HI.out.mono ?_
  rintro e w1 ⟨rfl, rfl⟩
  go_wp2_with fail
  go_ret
  exact ⟨rfl, Chg.refl _ _⟩
theorem reof_c (h : RefAt W r U X a) (hn : U.rd.length < 1000000) (f : Int) : Calls Tryz.prog 112 #[.pointer (some ⟨r, 0, none⟩), .int .i64 f] W (Quiet (.bool (decide (U.length f ≤ U.posOf f))) W) := by
 have H1 := Go.Lib.hid (rat_c h hn f)
 have H2 := Go.Lib.hid (rlen_c h hn f)
 clear h
 generalize U.posOf f = p at *
 generalize U.length f = l at *
 go_enter Tryz.func112, Tryz.ntmps112
 go_wp2_with fail
 refine H1.out.mono ?_
 rintro e w1 ⟨rfl, rfl⟩
 go_wp2_with fail
 refine H2.out.mono ?_
 rintro e w2 ⟨rfl, hq⟩
 have HQ := Go.Lib.hid hq
 clear hq
 go_wp2_with fail
 go_ret
 exact ⟨rfl, HQ.out⟩
set_option maxHeartbeats 1000000 in
theorem rstand_c (h : RefAt W r U X a) (hX : ∀ k, X k → k < W.heap.size) (hn : U.rd.length < 1000000) {i : Nat} {q : VR} (hq : U.rd[i]? = some q) (p : Nat) : Calls Tryz.prog 114 #[.pointer (some ⟨r, 0, none⟩), .int .i64 ((i : Int) + 1), .int .i64 p] W (RPost r X (.tuple #[]) { U with rd := U.rd.modify i fun q => { q with pos := p } } W) := by
 have hi := (List.getElem?_eq_some_iff.1 hq).1
 obtain ⟨A, c, hv⟩ := own_slice h.R
 obtain ⟨_, _, c2, _⟩ := h.cells
 have z2 := h.blk.frozen 2
 rw [hv] at c2
 have hown := h.R
 rw [hv] at hown
 have H := Go.Lib.hid h
 have HCl := Go.Lib.hid (cells_ownK hown)
 obtain ⟨i0, hi0, hz0, hz1, hz2⟩ := info_parts qtinfo
 have Hi := Go.Lib.hid (And.intro hi0 (And.intro hz0 (And.intro hz1 hz2)))
 have hrl := h.lt
 clear h hown hv hi0 hz0 hz1 hz2
 go_enter Tryz.func114, Tryz.ntmps114
 go_wp2_with (at_builtin; go_must (refine wpList_appK _ rfl (.const (.slice none 0 0)) (.tmp 10) _ rfl W.heap.size QT i0 _ 3 32 Tryz.underlying65 Hi.out.1 Hi.out.2.1 Hi.out.2.2.1 Hi.out.2.2.2 rfl (by decide) (.slice none 0 0) 0 [] rfl (World.ownsRow_nil _ _ _ _) A U.rd.length c (rcells U.rd) rfl (rcells_len _) HCl.out (rcells_one _) (by unfold maxLen; omega) (by omega) (Nat.le_refl _) ?_); go_must (intro v1 w1 own1 gr1 at1; rw [List.nil_append, Nat.zero_add] at own1; obtain ⟨g1, cap1, rfl, hb1, hlt1⟩ := own1.form (by omega); have hg1 : Chg NoB W w1 := (Chg.refl NoB W).grown gr1 (by simp [Value.ownBlock]); have c2 := cell_q hg1 c2; have z2 := (H.out.quiet hg1).blk.frozen 2; have hk5 := own_cellK own1 (rcells_get _ _ _ hq).2.1; have k5 := hk5.1; have z5 := hk5.2; have hne1 : ¬ g1 = r := (by omega); have hne2 : ¬ r = g1 := (by omega); have HO := Go.Lib.hid own1; have HG := Go.Lib.hid hg1; clear own1 gr1 at1 hg1 hk5))
 go_end0
 have hc2 : Chg (fun k => k = r) W (w1.setCell ⟨r, 2, none⟩ (.slice (some ⟨g1, 0, none⟩) U.rd.length cap1)) := (HG.out.mono (G := fun k => k = r) (fun _ _ h => h.elim)).setCell (p := ⟨r, 2, none⟩) (fun _ => rfl) _
 have hc3 := hc2.setCell (p := ⟨g1, i * 3 + 1, none⟩) (fun h => absurd h (show ¬ g1 < W.heap.size by omega)) (.int .i64 (p : Int))
 have hb3 := ((H.out.quiet HG.out).blk.set_ 2 (.slice (some ⟨g1, 0, none⟩) U.rd.length cap1)).far (p := ⟨g1, i * 3 + 1, none⟩) (show r ≠ g1 from hne2) (.int .i64 (p : Int))
 have ho3 := own_setK (own_chg HO.out ((Chg.refl (fun k => k = r) w1).setCell (p := ⟨r, 2, none⟩) (fun _ => rfl) (.slice (some ⟨g1, 0, none⟩) U.rd.length cap1)) (fun k hk => by
  have : g1 = k := by simpa [Value.ownBlock] using hk
  omega)) (i := i * 3 + 1) (by omega) (.int .i64 (p : Int))
 rw [rcells_set _ _ _ hi] at ho3
 have hl : (U.rd.modify i fun q => { q with pos := p }).length = U.rd.length := List.length_modify ..
 exact ⟨rfl, ⟨_, H.out.putR hX hc3 hb3 (by rw [hl]; exact ho3) (modify_rb H.out.rb)⟩, hc3⟩
set_option maxRecDepth 100000 in
set_option maxHeartbeats 2000000 in
theorem rread_c (h : RefAt W r U X a) (hX : ∀ k, X k → k < W.heap.size) (hn : U.rd.length < 1000000) (hp : ∀ n, (U.bytes n).length < 1000000000) (f : Int) : Calls Tryz.prog 82 #[.pointer (some ⟨r, 0, none⟩), .int .i64 f] W (RPost r X (.int .u8 (U.read f).1.toNat) (U.read f).2 W) := by
 have HE := Go.Lib.hid (reof_c h hn f)
 have H := Go.Lib.hid h
 by_cases he : U.length f ≤ U.posOf f
 ·have hr : U.read f = (0, U) := by
   unfold V.read
   unfold V.length V.posOf at he
   rcases hq : U.rdAt f with _ | q
   ·rfl
   ·rw [hq] at he
    simp only at he ⊢
    rw [List.getElem?_eq_none he]
  rw [hr]
  rw [decide_eq_true he] at HE
  clear he hr h
  go_enter Tryz.func82, Tryz.ntmps82
  go_wp2_with fail
  refine HE.out.mono ?_
  rintro e w1 ⟨rfl, hq⟩
  have HQ := Go.Lib.hid hq
  clear hq
  go_wp2_with fail
  go_ret
  exact ⟨rfl, ⟨a, H.out.quiet HQ.out⟩, HQ.out.mono (fun _ _ h => h.elim)⟩
 ·rw [decide_eq_false he] at HE
  rcases rdAt_cases U f with ⟨i, q, rfl, hq, hr⟩ | ⟨hf, hr⟩
  ·have hlt : q.pos < (U.bytes q.n).length := by unfold V.length V.posOf at he; rw [hr] at he; simp only at he; omega
   have hrd : U.read ((i : Int) + 1) = ((U.bytes q.n)[q.pos], U.setPos ((i : Int) + 1) (q.pos + 1)) := by
    unfold V.read
    rw [hr]
    simp only
    rw [List.getElem?_eq_getElem hlt]
   have hpo : U.posOf ((i : Int) + 1) = q.pos := by unfold V.posOf; rw [hr]
   rw [hrd, setPos_succ]
   obtain ⟨g, c, hv, k0, _, _⟩ := h.rider hq
   obtain ⟨g2, c2', A, c3, hv2, k2, hown⟩ := h.file (h.bytes hq)
   obtain ⟨c0, _, c2, _⟩ := h.cells
   rw [hv] at c2
   rw [hv2] at c0
   have hl := (List.getElem?_eq_some_iff.1 hq).1
   have hl2 := h.rb q (List.mem_of_getElem? hq)
   have hpq := Nat.lt_trans hlt (hp q.n)
   obtain ⟨ad, rfl, hcl⟩ := cells_ownK hown (by simp [bv]; omega)
   have hby := hcl q.pos (.int .u8 ((U.bytes q.n)[q.pos].toNat)) (by simp [bv, hlt])
   have K := Go.Lib.hid (And.intro c0 (And.intro c2 (And.intro k0 (And.intro k2 hby))))
   have HA := Go.Lib.hid (fun (W' : World) (hc : Chg NoB W W') => rat_c (h.quiet hc) hn ((i : Int) + 1))
   rw [hpo] at HA
   have HSt := Go.Lib.hid (fun (W' : World) (hc : Chg NoB W W') => rstand_c (h.quiet hc) (fun k hk => Nat.lt_of_lt_of_le (hX k hk) hc.size) hn hq (q.pos + 1))
   clear h hv hv2 c0 c2 k0 k2 hby hcl hown he hr hrd hpo hp
   generalize (U.bytes q.n)[q.pos] = b at *
   generalize (U.bytes q.n).length = bl at *
   generalize hqp : q.pos = pq at *
   generalize q.n = qn at *
   have hwi : IntKind.i64.wrap (i : Int) = i := by rw [IntKind.wrap_i64]; omega
   have hwp : IntKind.i64.wrap ((pq : Int) + 1) = ((pq + 1 : Nat) : Int) := by rw [IntKind.wrap_i64]; omega
   go_enter Tryz.func82, Tryz.ntmps82
   go_wp2_with fail
   refine HE.out.mono ?_
   rintro e w1 ⟨rfl, hq1⟩
   have HQ := Go.Lib.hid hq1
   clear hq1
   go_wp2_with fail
   refine regionH (fun V' => Chg NoB W V') (by kernel_rfl) HQ.out.drew (fun hS => ?_)
   refine takeH (i := 0) (t := 9) (v := ?v0y1) rfl (by kernel_rfl) (fun _ _ _ h => h) rfl (Or.inl ⟨by rfl, ?h0y1⟩) hS ?r0y1
   case h0y1 => (intro V' hSw; clear hSw; go_simp; try with_reducible rfl)
   try simp only [sw1, sw2, sw3]
   refine takeH (i := 1) (t := 10) (v := ?v1y2) rfl (by kernel_rfl) (fun _ _ _ h => h) rfl (Or.inl ⟨by rfl, ?h1y2⟩) hS ?r1y2
   case h1y2 => (intro V' hSw; clear hSw; go_simp; try with_reducible rfl)
   try simp only [sw1, sw2, sw3]
   refine takeH (i := 2) (t := 11) (v := ?v2y3) rfl (by kernel_rfl) (fun _ _ _ h => h) rfl (Or.inl ⟨by rfl, ?h2y3⟩) hS ?r2y3
   case h2y3 => (intro V' hSw; clear hSw; go_simp; try with_reducible rfl)
   try simp only [sw1, sw2, sw3]
   refine takeH (i := 3) (t := 12) (v := ?v3y4) rfl (by kernel_rfl) (fun _ _ _ h => h) rfl (Or.inl ⟨by rfl, ?h3y4⟩) hS ?r3y4
   case h3y4 => (intro V' hSw; have q := cell_q hSw K.out.1; clear hSw; go_simp; try with_reducible rfl)
   try simp only [sw1, sw2, sw3]
   refine takeH (i := 4) (t := 13) (v := ?v4y5) rfl (by kernel_rfl) (fun _ _ _ h => h) rfl (Or.inl ⟨by rfl, ?h4y5⟩) hS ?r4y5
   case h4y5 => (intro V' hSw; clear hSw; go_simp; try with_reducible rfl)
   try simp only [sw1, sw2, sw3]
   refine takeH (i := 5) (t := 14) (v := ?v5y6) rfl (by kernel_rfl) (fun _ _ _ h => h) rfl (Or.inl ⟨by rfl, ?h5y6⟩) hS ?r5y6
   case h5y6 => (intro V' hSw; clear hSw; go_simp; try with_reducible rfl)
   try simp only [sw1, sw2, sw3]
   refine takeH (i := 6) (t := 15) (v := ?v6y7) rfl (by kernel_rfl) (fun _ _ _ h => h) rfl (Or.inl ⟨by rfl, ?h6y7⟩) hS ?r6y7
   case h6y7 => (intro V' hSw; clear hSw; go_simp; try with_reducible rfl)
   try simp only [sw1, sw2, sw3]
   refine takeH (i := 7) (t := 16) (v := ?v7y8) rfl (by kernel_rfl) (fun _ _ _ h => h) rfl (Or.inl ⟨by rfl, ?h7y8⟩) hS ?r7y8
   case h7y8 => (intro V' hSw; have q := cell_q hSw K.out.2.1; clear hSw; go_simp; try with_reducible rfl)
   try simp only [sw1, sw2, sw3]
   refine takeH (i := 8) (t := 17) (v := ?v8y9) rfl (by kernel_rfl) (fun _ _ _ h => h) rfl (Or.inl ⟨by rfl, ?h8y9⟩) hS ?r8y9
   case h8y9 => (intro V' hSw; clear hSw; go_simp; try with_reducible rfl)
   try simp only [sw1, sw2, sw3]
   refine takeH (i := 9) (t := 18) (v := .int .i64 (i : Int)) rfl (by kernel_rfl) (fun _ _ _ h => h) rfl (Or.inl ⟨by rfl, ?h9y10⟩) hS ?r9y10
   case h9y10 => (intro V' hSw; clear hSw; go_simp; try simp only [hwi])
   try simp only [sw1, sw2, sw3]
   refine takeH (i := 10) (t := 19) (v := ?v10y11) rfl (by kernel_rfl) (fun _ _ _ h => h) rfl (Or.inl ⟨by rfl, ?h10y11⟩) hS ?r10y11
   case h10y11 => (intro V' hSw; clear hSw; go_simp; try with_reducible rfl)
   try simp only [sw1, sw2, sw3]
   refine takeH (i := 11) (t := 20) (v := ?v11y12) rfl (by kernel_rfl) (fun _ _ _ h => h) rfl (Or.inl ⟨by rfl, ?h11y12⟩) hS ?r11y12
   case h11y12 => (intro V' hSw; clear hSw; go_simp; try with_reducible rfl)
   try simp only [sw1, sw2, sw3]
   refine takeH (i := 12) (t := 21) (v := ?v12y13) rfl (by kernel_rfl) (fun _ _ _ h => h) rfl (Or.inl ⟨by rfl, ?h12y13⟩) hS ?r12y13
   case h12y13 => (intro V' hSw; have q := cell_q hSw K.out.2.2.1; clear hSw; go_simp; try with_reducible rfl)
   try simp only [sw1, sw2, sw3]
   refine takeH (i := 13) (t := 22) (v := ?v13y14) rfl (by kernel_rfl) (fun _ _ _ h => h) rfl (Or.inl ⟨by rfl, ?h13y14⟩) hS ?r13y14
   case h13y14 => (intro V' hSw; clear hSw; go_simp; try with_reducible rfl)
   try simp only [sw1, sw2, sw3]
   refine takeH (i := 14) (t := 23) (v := ?v14y15) rfl (by kernel_rfl) (fun _ _ _ h => h) rfl (Or.inl ⟨by rfl, ?h14y15⟩) hS ?r14y15
   case h14y15 => (intro V' hSw; have q := cell_q hSw K.out.2.2.2.1; clear hSw; go_simp; try with_reducible rfl)
   try simp only [sw1, sw2, sw3]
   refine takeH (i := 15) (t := 24) (v := ?v15y16) rfl (by kernel_rfl) (fun _ _ _ h => h) rfl (Or.inl ⟨by rfl, ?h15y16⟩) hS ?r15y16
   case h15y16 => (intro V' hSw; clear hSw; go_simp; try with_reducible rfl)
   try simp only [sw1, sw2, sw3]
   refine takeH (i := 16) (t := 25) (v := ?v16y17) rfl (by kernel_rfl) (fun _ _ _ h => h) rfl (Or.inl ⟨by rfl, ?h16y17⟩) hS ?r16y17
   case h16y17 => (intro V' hSw; clear hSw; go_simp; try with_reducible rfl)
   try simp only [sw1, sw2, sw3]
   refine manyH (i := 17) (l := []) (by kernel_rfl) ?hm
   case hm =>
    intro j hj
    obtain rfl : j = 17 := by simpa using hj
    refine opCallH (t := 26) (f := 113) (args := #[.pointer (some ⟨r, 0, none⟩), .int .i64 ((i : Int) + 1)]) rfl rfl (by rfl) ?hx ?hc
    case hx => (go_simp; try rfl)
    case hc =>
     refine (HA.out _ hS).mono ?_
     rintro ee w2 ⟨rfl, rfl⟩
     refine ⟨_, rfl, hS, ?_⟩
     try simp only [sw1, sw2, sw3]
     refine takeH (i := 18) (t := 27) (v := ?v18y18) rfl (by kernel_rfl) (fun _ _ _ h => h) rfl (Or.inl ⟨by rfl, ?h18y18⟩) hS ?r18y18
     case h18y18 => (intro V' hSw; clear hSw; go_simp; try with_reducible rfl)
     try simp only [sw1, sw2, sw3]
     refine takeH (i := 19) (t := 28) (v := ?v19y19) rfl (by kernel_rfl) (fun _ _ _ h => h) rfl (Or.inl ⟨by rfl, ?h19y19⟩) hS ?r19y19
     case h19y19 => (intro V' hSw; have q := cell_q hSw K.out.2.2.2.2; clear hSw; go_simp; try with_reducible rfl)
     try simp only [sw1, sw2, sw3]
     refine takeH (i := 20) (t := 5) (v := ?v20y20) rfl (by kernel_rfl) (fun _ _ _ h => h) rfl (Or.inl ⟨by rfl, ?h20y20⟩) hS ?r20y20
     case h20y20 => (intro V' hSw; clear hSw; go_simp; try with_reducible rfl)
     try simp only [sw1, sw2, sw3]
     refine wpAnyH_done (by kernel_rfl) ?_ _
     have HS := Go.Lib.hid hS
     clear hS
     go_wp2_with fail
     refine (HA.out _ HS.out).mono ?_
     rintro e w3 ⟨rfl, rfl⟩
     go_wp2_with fail
     refine (HSt.out _ HS.out).mono ?_
     rintro e w4 ⟨rfl, hr4, hc4⟩
     have HR := Go.Lib.hid (And.intro hr4 ((HS.out.mono (fun _ _ h => h.elim)).trans hc4))
     clear hr4 hc4
     go_wp2_with fail
     go_ret
     exact ⟨rfl, HR.out.1, HR.out.2⟩
  ·exfalso
   unfold V.length V.posOf at he
   rw [hr] at he
   simp at he
end
end Go.Proofs.YtggknljlibhkjaaGreat
set_option linter.unusedSimpArgs false
set_option linter.unusedVariables false
namespace Go.Proofs.YtggknljlibhkjaaGreat
open Go Go.RowKit
section
variable {P : Program} {ops : Array Oper} {Q : Exit → Act → World → Prop} {md : Region.Mode} {S : World → Prop} {n : Nat}
variable {i t fuel : Nat} {oi : Oper} {v : Value} {listed : Array Bool} {a : Act} {w w' : World} {T : Act → World → Prop}
theorem opWpT (hi : ops[i]? = some oi) (hw : Region.wanted oi (yielded ops a.tmps) = true) (h : oi.wp P a w (fun a' w' => (i < n → S w') ∧ T a' w') Q) : wpOp P ops Q i (fun a' w' => (i < n → S w') ∧ T a' w') a w := by
 unfold wpOp
 rw [hi]
 simp only
 rw [if_pos hw]
 exact .inl h
end
theorem read_F (U : V) (f : Int) : (U.read f).2.F = U.F ∧ (U.read f).2.rd.length = U.rd.length := by
 unfold V.read
 split
 ·exact ⟨rfl, rfl⟩
 ·split
  ·exact ⟨rfl, rfl⟩
  ·unfold V.setPos
   split
   ·exact ⟨rfl, by simp⟩
   ·exact ⟨rfl, rfl⟩
section
variable {W W' : World} {r : Nat} {U : V} {X F : Nat → Prop} {a : RA}
set_option maxHeartbeats 1000000 in
theorem rreadWord_c (h : RefAt W r U X a) (hX : ∀ k, X k → k < W.heap.size) (hn : U.rd.length < 1000000) (hp : ∀ n, (U.bytes n).length < 1000000000) (f : Int) : Calls Tryz.prog 83 #[.pointer (some ⟨r, 0, none⟩), .int .i64 f] W (RPost r X (.int .u32 (U.readWord f).1) (U.readWord f).2 W) := by
 have H0 := Go.Lib.hid (And.intro h hX)
 unfold V.readWord
 obtain ⟨U1, hU1⟩ : ∃ y, y = (U.read f).2 := ⟨_, rfl⟩
 obtain ⟨U2, hU2⟩ : ∃ y, y = (U1.read f).2 := ⟨_, rfl⟩
 obtain ⟨U3, hU3⟩ : ∃ y, y = (U2.read f).2 := ⟨_, rfl⟩
 have e1 := read_F U f
 have e2 := read_F U1 f
 have e3 := read_F U2 f
 rw [← hU1] at e1
 rw [← hU2] at e2
 rw [← hU3] at e3
 have p1 : ∀ n, (U1.bytes n).length < 1000000000 := fun n => by unfold V.bytes; rw [e1.1]; exact hp n
 have p2 : ∀ n, (U2.bytes n).length < 1000000000 := fun n => by unfold V.bytes; rw [e2.1]; exact p1 n
 have p3 : ∀ n, (U3.bytes n).length < 1000000000 := fun n => by unfold V.bytes; rw [e3.1]; exact p2 n
 have n1 : U1.rd.length < 1000000 := by omega
 have n2 : U2.rd.length < 1000000 := by omega
 have n3 : U3.rd.length < 1000000 := by omega
 have C0 := Go.Lib.hid (rread_c h hX hn hp f)
 have C1 := Go.Lib.hid (fun (W1 : World) (a1 : RA) (h1 : RefAt W1 r U1 X a1) (hX1 : ∀ k, X k → k < W1.heap.size) => rread_c h1 hX1 n1 p1 f)
 have C2 := Go.Lib.hid (fun (W1 : World) (a1 : RA) (h1 : RefAt W1 r U2 X a1) (hX1 : ∀ k, X k → k < W1.heap.size) => rread_c h1 hX1 n2 p2 f)
 have C3 := Go.Lib.hid (fun (W1 : World) (a1 : RA) (h1 : RefAt W1 r U3 X a1) (hX1 : ∀ k, X k → k < W1.heap.size) => rread_c h1 hX1 n3 p3 f)
 rw [← hU1] at C0 ⊢
 rw [← hU2] at C1 ⊢
 rw [← hU3] at C2 ⊢
 have b0 := (U.read f).1.toNat_lt
 have b1 := (U1.read f).1.toNat_lt
 have b2 := (U2.read f).1.toNat_lt
 have b3 := (U3.read f).1.toNat_lt
 unfold word4
 generalize (U.read f).1.toNat = x0 at *
 generalize (U1.read f).1.toNat = x1 at *
 generalize (U2.read f).1.toNat = x2 at *
 generalize (U3.read f).1.toNat = x3 at *
 obtain ⟨U4, hU4⟩ : ∃ y, y = (U3.read f).2 := ⟨_, rfl⟩
 rw [← hU4] at C3 ⊢
 clear hU1 hU2 hU3 hU4 e1 e2 e3 p1 p2 p3 n1 n2 n3 h hX hp
 have hval : ((x0 + 256 * x1 + 65536 * x2 + 16777216 * x3 : Nat) : Int) = (x0 : Int) + 256 * ((x1 : Int) + 256 * ((x2 : Int) + 256 * (x3 : Int))) := by omega
 have hb0 : (x0 : Int) + 256 * ((x1 : Int) + 256 * ((x2 : Int) + 256 * (x3 : Int))) < 4294967296 := by omega
 go_enter Tryz.func83, Tryz.ntmps83
 go_wp2_with fail
 refine C0.out.mono ?_
 rintro e w1 ⟨rfl, ⟨a1, h1⟩, hc1⟩
 have H1 := Go.Lib.hid (And.intro h1 (And.intro (fun k hk => Nat.lt_of_lt_of_le (H0.out.2 k hk) hc1.size) hc1))
 clear h1 hc1 C0
 go_wp2_with fail
 refine (C1.out _ _ H1.out.1 H1.out.2.1).mono ?_
 rintro e w2 ⟨rfl, ⟨a2, h1⟩, hc1⟩
 have H2 := Go.Lib.hid (And.intro h1 (And.intro (fun k hk => Nat.lt_of_lt_of_le (H1.out.2.1 k hk) hc1.size) (H1.out.2.2.trans hc1)))
 clear h1 hc1 C1 H1
 go_wp2_with fail
 refine (C2.out _ _ H2.out.1 H2.out.2.1).mono ?_
 rintro e w3 ⟨rfl, ⟨a3, h1⟩, hc1⟩
 have H3 := Go.Lib.hid (And.intro h1 (And.intro (fun k hk => Nat.lt_of_lt_of_le (H2.out.2.1 k hk) hc1.size) (H2.out.2.2.trans hc1)))
 clear h1 hc1 C2 H2
 go_wp2_with fail
 refine (C3.out _ _ H3.out.1 H3.out.2.1).mono ?_
 rintro e w4 ⟨rfl, ⟨a4, h1⟩, hc1⟩
 have H4 := Go.Lib.hid (And.intro h1 (H3.out.2.2.trans hc1))
 clear h1 hc1 C3 H3
 go_wp2_with fail
 go_ret
 refine ⟨?_, ⟨a4, H4.out.1⟩, H4.out.2⟩
 rw [hval]
 try rfl
theorem rsigned_c (n : Nat) (hn : n < 4294967296) (W : World) : Calls Tryz.prog 86 #[.int .u32 n] W fun e w' => e = .returned (.int .i64 (sgn n)) ∧ W = w' := by
 by_cases h : n < 2147483648
 ·have g : decide ((n : Int) ≥ 2147483648) = false := by simp; omega
  have e : sgn n = (n : Int) := by unfold sgn; split <;> omega
  rw [e]
  go_enter Tryz.func86, Tryz.ntmps86
  go_wp2_with fail
  go_ret
  exact ⟨rfl, rfl⟩
 ·have g : decide ((n : Int) ≥ 2147483648) = true := by simp; omega
  have e : sgn n = (n : Int) - 4294967296 := by unfold sgn; split <;> omega
  rw [e]
  go_enter Tryz.func86, Tryz.ntmps86
  go_wp2_with fail
  go_ret
  exact ⟨rfl, rfl⟩
def seekZ (U : V) (f z : Int) : V := match U.rdAt f with | none => U | some q => U.setPos f (min z.toNat (U.bytes q.n).length)
theorem seekZ_sgn (U : V) (f : Int) (n : Nat) : seekZ U f (sgn n) = U.seek f n := by unfold seekZ V.seek seekTo; rfl
set_option maxHeartbeats 1000000 in
theorem rseek_c (h : RefAt W r U X a) (hX : ∀ k, X k → k < W.heap.size) (hn : U.rd.length < 1000000) (f z : Int) (hz : -2147483648 ≤ z ∧ z < 2147483648) : Calls Tryz.prog 85 #[.pointer (some ⟨r, 0, none⟩), .int .i64 f, .int .i64 z] W (RPost r X (.tuple #[]) (seekZ U f z) W) := by
 have H := Go.Lib.hid h
 rcases rdAt_cases U f with ⟨i, q, rfl, hq, hr⟩ | ⟨hf, hr⟩
 ·have HI := Go.Lib.hid (ris_some h hn hq)
  have hlen : U.length ((i : Int) + 1) = (U.bytes q.n).length := by unfold V.length; rw [hr]
  have HL := Go.Lib.hid (fun (W' : World) (hc : Chg NoB W W') => rlen_c (h.quiet hc) hn ((i : Int) + 1))
  rw [hlen] at HL
  have HS := Go.Lib.hid (fun (W' : World) (hc : Chg NoB W W') (p : Nat) => rstand_c (h.quiet hc) (fun k hk => Nat.lt_of_lt_of_le (hX k hk) hc.size) hn hq p)
  have hres : seekZ U ((i : Int) + 1) z = { U with rd := U.rd.modify i fun q' => { q' with pos := min z.toNat (U.bytes q.n).length } } := by unfold seekZ; rw [hr]; simp only; rw [setPos_succ]
  rw [hres]
  clear h hr hres hlen
  generalize (U.bytes q.n).length = l at *
  by_cases z0 : z < 0
  ·have g0 : decide (z < 0) = true := by simpa using z0
   have gl : decide ((0 : Int) > (l : Int)) = false := by (first | (simp; done) | (simp; omega))
   have HS0 := Go.Lib.hid (fun (W' : World) (hc : Chg NoB W W') => HS.out W' hc 0)
   rw [show min z.toNat l = 0 by omega]
   clear HS z0
   go_enter Tryz.func85, Tryz.ntmps85
   go_wp2_with fail
   refine HI.out.mono ?_
   rintro e w1 ⟨rfl, rfl⟩
   go_wp2_with fail
   refine (HL.out _ (Chg.refl _ _)).mono ?_
   rintro e w2 ⟨rfl, hq2⟩
   have HQ := Go.Lib.hid hq2
   clear hq2
   go_wp2_with fail
   refine (HS0.out _ HQ.out).mono ?_
   rintro e w3 ⟨rfl, h3, hc3⟩
   have HR := Go.Lib.hid (And.intro h3 ((HQ.out.mono (fun _ _ h => h.elim)).trans hc3))
   clear h3 hc3
   go_wp2_with fail
   go_end0
   exact ⟨rfl, HR.out.1, HR.out.2⟩
  ·obtain ⟨m, rfl⟩ : ∃ m : Nat, z = m := ⟨z.toNat, by omega⟩
   have g0 : decide ((m : Int) < 0) = false := by simp
   by_cases ml : l < m
   ·have gl : decide ((m : Int) > (l : Int)) = true := by (first | (simp; done) | (simp; omega))
    have HS0 := Go.Lib.hid (fun (W' : World) (hc : Chg NoB W W') => HS.out W' hc l)
    rw [show min (m : Int).toNat l = l by omega]
    clear HS z0
    go_enter Tryz.func85, Tryz.ntmps85
    go_wp2_with fail
    refine HI.out.mono ?_
    rintro e w1 ⟨rfl, rfl⟩
    go_wp2_with fail
    refine (HL.out _ (Chg.refl _ _)).mono ?_
    rintro e w2 ⟨rfl, hq2⟩
    have HQ := Go.Lib.hid hq2
    clear hq2
    go_wp2_with fail
    refine (HL.out _ HQ.out).mono ?_
    rintro e w2' ⟨rfl, hq2⟩
    have HQ2 := Go.Lib.hid (HQ.out.trans hq2)
    clear hq2 HQ
    go_wp2_with fail
    refine (HS0.out _ HQ2.out).mono ?_
    rintro e w3 ⟨rfl, h3, hc3⟩
    have HR := Go.Lib.hid (And.intro h3 ((HQ2.out.mono (fun _ _ h => h.elim)).trans hc3))
    clear h3 hc3
    go_wp2_with fail
    go_end0
    exact ⟨rfl, HR.out.1, HR.out.2⟩
   ·have gl : decide ((m : Int) > (l : Int)) = false := by (first | (simp; done) | (simp; omega))
    have HS0 := Go.Lib.hid (fun (W' : World) (hc : Chg NoB W W') => HS.out W' hc m)
    rw [show min (m : Int).toNat l = m by omega]
    clear HS z0
    go_enter Tryz.func85, Tryz.ntmps85
    go_wp2_with fail
    refine HI.out.mono ?_
    rintro e w1 ⟨rfl, rfl⟩
    go_wp2_with fail
    refine (HL.out _ (Chg.refl _ _)).mono ?_
    rintro e w2 ⟨rfl, hq2⟩
    have HQ := Go.Lib.hid hq2
    clear hq2
    go_wp2_with fail
    refine (HS0.out _ HQ.out).mono ?_
    rintro e w3 ⟨rfl, h3, hc3⟩
    have HR := Go.Lib.hid (And.intro h3 ((HQ.out.mono (fun _ _ h => h.elim)).trans hc3))
    clear h3 hc3
    go_wp2_with fail
    go_end0
    exact ⟨rfl, HR.out.1, HR.out.2⟩
 ·have HI := Go.Lib.hid (ris_none h hn hf)
  have hres : seekZ U f z = U := by unfold seekZ; rw [hr]
  rw [hres]
  clear h hf hr hres
  go_enter Tryz.func85, Tryz.ntmps85
  go_wp2_with fail
  refine HI.out.mono ?_
  rintro e w1 ⟨rfl, rfl⟩
  go_wp2_with fail
  go_end0
  exact ⟨rfl, ⟨a, H.out⟩, Chg.refl _ _⟩
end
end Go.Proofs.YtggknljlibhkjaaGreat
set_option linter.unusedSimpArgs false
set_option linter.unusedVariables false
namespace Go.Proofs.YtggknljlibhkjaaGreat
open Go Go.RowKit
theorem toList_ne {a b : ByteArray} (h : a.toList = b.toList) : a = b := by
 rw [ByteArray.toList_eq a, ByteArray.toList_eq b] at h
 cases a; cases b
 congr 1
 exact Array.toList_inj.1 h
theorem toList_beq (a b : ByteArray) : (a.toList == b.toList) = (a == b) := by
 rw [ByteArray.toList_eq a, ByteArray.toList_eq b]
 obtain ⟨⟨x⟩⟩ := a
 obtain ⟨⟨y⟩⟩ := b
 show (x == y) = ((⟨x⟩ : Array UInt8) == ⟨y⟩)
 simp
def lessN (a b : ByteArray) : Bool := Op.bytesLess a.toList b.toList
def posD (nm : ByteArray) (l : List (ByteArray × Nat)) : Nat := (l.takeWhile fun e => lessN e.1 nm).length
def isD (nm : ByteArray) (l : List (ByteArray × Nat)) : Bool := match l[posD nm l]? with | none => false | some e => e.1 == nm
theorem posD_le (nm : ByteArray) : ∀ l, posD nm l ≤ l.length
 | [] => by simp [posD]
 | e :: r => by
  have := posD_le nm r
  unfold posD at this ⊢
  rw [List.takeWhile_cons]
  split <;> simp <;> omega
theorem posD_lt (nm : ByteArray) : ∀ (l : List (ByteArray × Nat)) (i : Nat), i < posD nm l → ∃ e, l[i]? = some e ∧ lessN e.1 nm = true
 | [], i, h => by simp [posD] at h
 | e :: r, i, h => by
  unfold posD at h
  rw [List.takeWhile_cons] at h
  by_cases he : lessN e.1 nm = true
  ·rw [if_pos he] at h
   cases i with
   | zero => exact ⟨e, rfl, he⟩
   | succ i => exact posD_lt nm r i (by simpa [posD] using h)
  ·rw [if_neg he] at h
   simp at h
theorem posD_at (nm : ByteArray) : ∀ (l : List (ByteArray × Nat)) (e : ByteArray × Nat), l[posD nm l]? = some e → lessN e.1 nm = false
 | [], e, h => by simp at h
 | x :: r, e, h => by
  unfold posD at h
  rw [List.takeWhile_cons] at h
  by_cases he : lessN x.1 nm = true
  ·rw [if_pos he] at h
   exact posD_at nm r e (by simpa [posD] using h)
  ·rw [if_neg he] at h
   simp at h
   subst h
   simpa using he
section
variable {W W' : World} {r : Nat} {U : V} {X F : Nat → Prop} {a : RA}
set_option maxRecDepth 100000 in
set_option maxHeartbeats 2000000 in
theorem rpos_c (h : RefAt W r U X a) (hn : U.dir.length < 1000000) (nm : ByteArray) : Calls Tryz.prog 110 #[.pointer (some ⟨r, 0, none⟩), .string nm] W (Quiet (.tuple #[.int .i64 (posD nm U.dir), .bool (isD nm U.dir)]) W) := by
 have hle := posD_le nm U.dir
 have HP := Go.Lib.hid (posD_lt nm U.dir)
 have HA := Go.Lib.hid (posD_at nm U.dir)
 have hisd : isD nm U.dir = (match U.dir[posD nm U.dir]? with | none => false | some e => e.1 == nm) := rfl
 obtain ⟨A, c, hv⟩ := own_slice h.D
 obtain ⟨_, c1, _, _⟩ := h.cells
 rw [hv] at c1
 have HE : Hid (∀ (i : Nat) (e : ByteArray × Nat), U.dir[i]? = some e → ∃ g c', a.D = .slice (some ⟨g, 0, none⟩) U.dir.length c' ∧ W.cell? ⟨g, i * 2, none⟩ = some (.string e.1)) := Go.Lib.hid fun i e he => by
  obtain ⟨g, c', h1, h2, _⟩ := h.entry he
  exact ⟨g, c', h1, h2⟩
 rw [hv] at HE
 clear h hv
 generalize posD nm U.dir = k at *
 generalize isD nm U.dir = b at *
 generalize hd : U.dir = dir at *
 go_enter Tryz.func110, Tryz.ntmps110
 go_wp2_with fail
 go_loopw [6] (fun v6 wr => ∃ j : Nat, j ≤ k ∧ v6 = .int .i64 j ∧ wr = W) (fun v6 _ => k - (intOf v6).toNat)
 case atStart => exact ⟨0, Nat.zero_le _, rfl, rfl⟩
 case round =>
  obtain ⟨j, hj, rfl, rfl⟩ := hrel
  by_cases hlt : j < k
  ·obtain ⟨e, he, hle2⟩ := HP.out j hlt
   obtain ⟨g, c', hA, ce⟩ := HE.out j e he
   obtain ⟨rfl, rfl⟩ : A = some ⟨g, 0, none⟩ ∧ c = c' := by simpa using hA
   have hjl := (List.getElem?_eq_some_iff.1 he).1
   have gl : decide ((j : Int) < (dir.length : Int)) = true := by simp; omega
   have hls : Op.bytesLess e.1.toList nm.toList = true := hle2
   clear he hA hle2
   generalize e.1 = en at *
   generalize dir.length = n at *
   go_wp2_with fail
   refine ⟨⟨j + 1, hlt, by simp, by first | rfl | trivial⟩, by simp only [intOf]; omega⟩
  ·obtain rfl : j = k := by omega
   by_cases hjl : j < dir.length
   ·have he := List.getElem?_eq_getElem hjl
    obtain ⟨g, c', hA, ce⟩ := HE.out j _ he
    obtain ⟨rfl, rfl⟩ : A = some ⟨g, 0, none⟩ ∧ c = c' := by simpa using hA
    have hls : Op.bytesLess dir[j].1.toList nm.toList = false := HA.out _ he
    rw [he] at hisd
    simp only at hisd
    have gl : decide ((j : Int) < (dir.length : Int)) = true := by simp; omega
    clear he hA
    generalize dir[j].1 = en at *
    subst hisd
    generalize dir.length = n at *
    go_wp2_with fail
    go_quiet (fail)
    go_wp2_with fail
    go_ret2
    refine ⟨?_, (Chg.refl _ _).drewN _⟩
    first | rfl | (simp only [toList_beq]; done) | (simp [toList_beq]; done)
   ·have he : dir[j]? = none := List.getElem?_eq_none (by omega)
    rw [he] at hisd
    simp only at hisd
    subst hisd
    have gl : decide ((j : Int) < (dir.length : Int)) = false := by simp; omega
    clear he
    generalize dir.length = n at *
    go_wp2_with fail
    go_quiet (fail)
    go_wp2_with fail
    go_ret2
    exact ⟨rfl, (Chg.refl _ _).drewN _⟩
end
end Go.Proofs.YtggknljlibhkjaaGreat
