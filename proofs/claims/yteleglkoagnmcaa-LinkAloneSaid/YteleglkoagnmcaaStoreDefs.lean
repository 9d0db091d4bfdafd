/- What is proved: what it means that memory holds a store; plain laws of it; what it is for a name to be allowed. Conditions: as each theorem says. -/
import Derived.Test.YteleglkoagnmcaaMaps
import Derived.Test.YteleglkoagnmcaaRows
set_option linter.unusedSimpArgs false
set_option linter.unusedVariables false
namespace Go.Proofs.Yteleglkoagnmcaa
open Go.RowKit

def bv (l : List UInt8) : List Value := l.map fun c => .int .u8 c.toNat
structure Rd where
  blk : Nat
  f : Nat
  name : ByteArray
  pos : Nat
structure Fl where
  A : Option Addr
  c : Nat
  b : List UInt8
def Fl.v (x : Fl) : Value := .slice x.A x.b.length x.c
structure Sto where
  cap : Nat
  mb : Nat
  rA : Option Addr
  rc : Nat
  dir : List (ByteArray × Nat)
  rd : List Rd
  fl : Nat → Option Fl
def Sto.rv (S : Sto) : Value := .slice S.rA S.rd.length S.rc

/-! ### names -/
def isLetter (c : UInt8) : Bool := (97 ≤ c && c ≤ 122) || (65 ≤ c && c ≤ 90)
def nameByte (c : UInt8) : Bool := isLetter c || (48 ≤ c && c ≤ 57) || c == 46
def mayName (s : ByteArray) : Bool := decide (1 ≤ s.size) && decide (s.size ≤ 31) && ((s.data.toList.head?).map isLetter).getD false && s.data.toList.all nameByte

/-! ### sums over what is held -/
def dedup : List Nat → List Nat
  | [] => []
  | x :: l => if x ∈ dedup l then dedup l else x :: dedup l
theorem mem_dedup {x : Nat} : ∀ {l : List Nat}, x ∈ dedup l ↔ x ∈ l
  | [] => by simp [dedup]
  | y :: l => by
    unfold dedup
    split
    · rename_i h
      rw [mem_dedup (l := l), List.mem_cons]
      exact ⟨.inr, fun h' => h'.elim (fun e => by subst e; exact mem_dedup.1 h) id⟩
    · simp [mem_dedup (l := l)]
theorem nodup_dedup : ∀ l : List Nat, (dedup l).Nodup
  | [] => by simp [dedup]
  | y :: l => by
    unfold dedup
    split
    · exact nodup_dedup l
    · rename_i h; exact List.nodup_cons.2 ⟨h, nodup_dedup l⟩
def sumOf (g : Nat → Nat) (l : List Nat) : Nat := (l.map g).sum
theorem sumOf_cons (g : Nat → Nat) (x : Nat) (l : List Nat) : sumOf g (x :: l) = g x + sumOf g l := by simp [sumOf]
theorem sumOf_append (g : Nat → Nat) (l m : List Nat) : sumOf g (l ++ m) = sumOf g l + sumOf g m := by simp [sumOf]
theorem sumOf_perm (g : Nat → Nat) {l m : List Nat} (h : l.Perm m) : sumOf g l = sumOf g m := (h.map g).sum_nat
theorem sumOf_same (g : Nat → Nat) : ∀ {l m : List Nat}, l.Nodup → m.Nodup → (∀ x, x ∈ l ↔ x ∈ m) → sumOf g l = sumOf g m := fun hl hm h =>
  sumOf_perm g ((List.perm_ext_iff_of_nodup hl hm).2 h)
theorem sumOf_congr {g g' : Nat → Nat} {l : List Nat} (h : ∀ x ∈ l, g x = g' x) : sumOf g l = sumOf g' l := by
  unfold sumOf; rw [List.map_congr_left h]
theorem sumOf_le_sub {g : Nat → Nat} : ∀ {l m : List Nat}, l.Nodup → (∀ x ∈ l, x ∈ m) → sumOf g l ≤ sumOf g m
  | [], m, _, _ => by simp [sumOf]
  | x :: l, m, hn, h => by
    have hx : x ∈ m := h x (by simp)
    obtain ⟨m1, m2, rfl⟩ := List.append_of_mem hx
    have hn' := List.nodup_cons.1 hn
    have ih := sumOf_le_sub (g := g) (l := l) (m := m1 ++ m2) hn'.2 (fun y hy => by
      have := h y (by simp [hy])
      simp at this ⊢
      rcases this with h1 | h1 | h1
      · exact .inl h1
      · subst h1; exact absurd hy hn'.1
      · exact .inr h1)
    rw [sumOf_append] at ih
    rw [sumOf_cons, sumOf_append, sumOf_cons]
    omega

def Sto.held (S : Sto) : List Nat := S.dir.map (·.2) ++ S.rd.map (·.f)
def Sto.len (S : Sto) (f : Nat) : Nat := ((S.fl f).map (·.b.length)).getD 0
def Sto.used (S : Sto) : Nat := sumOf S.len (dedup S.held)
def Sto.room (S : Sto) : Nat := S.cap - S.used

/-- The blocks that a store is made of. -/
def foot (s : Nat) (S : Sto) (k : Nat) : Prop :=
  k = s ∨ k = S.mb ∨ S.rv.ownBlock = some k ∨ (∃ r ∈ S.rd, k = r.blk) ∨ ∃ f x, S.fl f = some x ∧ (k = f ∨ x.v.ownBlock = some k)

/-- Block s is a store, made of blocks from base on. -/
structure StoreAt (base : Nat) (w : World) (s : Nat) (S : Sto) : Prop where
  blk : Blk w s 67 #[.map (some S.mb), S.rv, .int .i64 S.cap]
  map : MapIs w S.mb (strs (S.dir.map fun e => (e.1, ptr e.2)))
  row : w.ownsRow base 144 1 S.rv S.rd.length (S.rd.map fun r => ptr r.blk)
  rdb : ∀ r ∈ S.rd, Blk w r.blk 146 #[ptr r.f, .string r.name, .int .i64 r.pos]
  rdn : (S.rd.map (·.blk)).Nodup
  rdf : ∀ r ∈ S.rd, ∃ x, S.fl r.f = some x ∧ r.pos ≤ x.b.length
  dirf : ∀ e ∈ S.dir, ∃ x, S.fl e.2 = some x
  flb : ∀ f x, S.fl f = some x → Blk w f 99 #[x.v]
  flo : ∀ f x, S.fl f = some x → w.ownsRow base 5 1 x.v x.b.length (bv x.b)
  sep : ∀ f g x y k, S.fl f = some x → S.fl g = some y → f ≠ g → x.v.ownBlock = some k → y.v.ownBlock ≠ some k
  low : ∀ k, foot s S k → base ≤ k
  keys : (S.dir.map (·.1)).Nodup
  dnames : ∀ e ∈ S.dir, mayName e.1 = true
  rnames : ∀ r ∈ S.rd, mayName r.name = true
  small : S.cap ≤ 67108864
  fits : S.used ≤ S.cap
  nrd : S.rd.length ≤ 255
  ndir : S.dir.length ≤ 200

section
variable {base : Nat} {w w' : World} {s : Nat} {S : Sto} {F : Nat → Prop}
theorem StoreAt.lt (h : StoreAt base w s S) : ∀ k, foot s S k → k < w.heap.size := by
  intro k hk
  rcases hk with rfl | rfl | hk | ⟨r, hr, rfl⟩ | ⟨f, x, hf, rfl | hk⟩
  · exact h.blk.lt
  · exact h.map.lt
  · exact (h.row.lt k hk).2
  · exact (h.rdb r hr).lt
  · exact (h.flb _ _ hf).lt
  · exact ((h.flo _ _ hf).lt k hk).2
theorem StoreAt.chg (h : StoreAt base w s S) (hc : Chg F w w') (hF : ∀ k, foot s S k → ¬ F k) : StoreAt base w' s S where
  blk := h.blk.chg hc (hF _ (.inl rfl))
  map := h.map.chg hc (hF _ (.inr (.inl rfl)))
  row := own_chg h.row hc fun _ hk => hF _ (.inr (.inr (.inl hk)))
  rdb := fun r hr => (h.rdb r hr).chg hc (hF _ (.inr (.inr (.inr (.inl ⟨r, hr, rfl⟩)))))
  rdn := h.rdn
  rdf := h.rdf
  dirf := h.dirf
  flb := fun f x hf => (h.flb f x hf).chg hc (hF _ (.inr (.inr (.inr (.inr ⟨f, x, hf, .inl rfl⟩)))))
  flo := fun f x hf => own_chg (h.flo f x hf) hc fun _ hk => hF _ (.inr (.inr (.inr (.inr ⟨f, x, hf, .inr hk⟩))))
  sep := h.sep
  low := h.low
  keys := h.keys
  dnames := h.dnames
  rnames := h.rnames
  small := h.small
  fits := h.fits
  nrd := h.nrd
  ndir := h.ndir
theorem StoreAt.len_le (h : StoreAt base w s S) {f : Nat} (hf : f ∈ S.held) : S.len f ≤ 67108864 := by
  have h1 : sumOf S.len [f] ≤ S.used := sumOf_le_sub (by simp) (fun x hx => by simp at hx; subst hx; exact mem_dedup.2 hf)
  simp [sumOf] at h1
  have := h.fits
  have := h.small
  omega
theorem StoreAt.rd_held {r : Rd} (hr : r ∈ S.rd) : r.f ∈ S.held := by
  unfold Sto.held; exact List.mem_append.2 (.inr (List.mem_map.2 ⟨r, hr, rfl⟩))
def Sto.rdAt (S : Sto) (f : Int) : Option Rd := if 1 ≤ f then S.rd[f.toNat - 1]? else none
theorem rdAt_some {S : Sto} {f : Int} {r : Rd} (h : S.rdAt f = some r) : 1 ≤ f ∧ f ≤ S.rd.length ∧ S.rd[f.toNat - 1]? = some r ∧ r ∈ S.rd := by
  unfold Sto.rdAt at h
  split at h
  · rename_i h1
    have := (List.getElem?_eq_some_iff.1 h).1
    exact ⟨h1, by omega, h, List.mem_of_getElem? h⟩
  · cases h
theorem rdAt_none {S : Sto} {f : Int} (h : S.rdAt f = none) : f < 1 ∨ (S.rd.length : Int) < f := by
  unfold Sto.rdAt at h
  split at h
  · rename_i h1
    rw [List.getElem?_eq_none_iff] at h
    omega
  · omega
theorem StoreAt.rcell (h : StoreAt base w s S) {f : Int} {r : Rd} (hr : S.rdAt f = some r) :
    ∃ g, S.rA = some ⟨g, 0, none⟩ ∧ w.cell? ⟨g, f.toNat - 1, none⟩ = some (ptr r.blk) := by
  obtain ⟨h1, h2, h3, h4⟩ := rdAt_some hr
  obtain ⟨g, cap, hv, _⟩ := h.row.form (by omega)
  have hA : S.rA = some ⟨g, 0, none⟩ := by unfold Sto.rv at hv; injection hv
  refine ⟨g, hA, ?_⟩
  have hrow := h.row
  rw [hv] at hrow
  rw [hrow.cellAt _ (by omega), List.getElem?_map, h3]
  rfl
theorem StoreAt.cell0 (h : StoreAt base w s S) : w.cell? ⟨s, 0, none⟩ = some (.map (some S.mb)) := h.blk.cell 0
theorem StoreAt.cell1 (h : StoreAt base w s S) : w.cell? ⟨s, 1, none⟩ = some (.slice S.rA S.rd.length S.rc) := h.blk.cell 1
theorem StoreAt.cell2 (h : StoreAt base w s S) : w.cell? ⟨s, 2, none⟩ = some (.int .i64 S.cap) := h.blk.cell 2
theorem StoreAt.rfacts (h : StoreAt base w s S) {f : Int} {r : Rd} (hr : S.rdAt f = some r) : ∃ x, S.fl r.f = some x ∧ r.pos ≤ x.b.length ∧ x.b.length ≤ 67108864 ∧
    w.cell? ⟨r.blk, 0, none⟩ = some (ptr r.f) ∧ w.cell? ⟨r.blk, 1, none⟩ = some (.string r.name) ∧ w.cell? ⟨r.blk, 2, none⟩ = some (.int .i64 r.pos) ∧ w.frozen? ⟨r.blk, 2, none⟩ = false ∧
    w.cell? ⟨r.f, 0, none⟩ = some (.slice x.A x.b.length x.c) := by
  obtain ⟨_, _, _, hm⟩ := rdAt_some hr
  obtain ⟨x, hx, hp⟩ := h.rdf r hm
  have hl := h.len_le (StoreAt.rd_held hm)
  have hl' : S.len r.f = x.b.length := by simp [Sto.len, hx]
  have hb := h.rdb r hm
  exact ⟨x, hx, hp, by omega, hb.cell 0, hb.cell 1, hb.cell 2, hb.frozen 2, (h.flb _ _ hx).cell 0⟩
/-- the place of a file's byte -/
theorem StoreAt.dcell (h : StoreAt base w s S) {f : Nat} {x : Fl} (hx : S.fl f = some x) {p : Nat} (hp : p < x.b.length) :
    ∃ g, x.A = some ⟨g, 0, none⟩ ∧ x.b.length ≤ x.c ∧ w.cell? ⟨g, p, none⟩ = some (.int .u8 (x.b[p]).toNat) ∧ (∀ t cs k, Blk w k t cs → t ≠ 5 → g ≠ k) := by
  have ho := h.flo _ _ hx
  obtain ⟨g, cap, hv, hc, _⟩ := ho.form (by omega)
  have hA : x.A = some ⟨g, 0, none⟩ := by unfold Fl.v at hv; injection hv
  have hcap : x.b.length ≤ x.c := by
    rcases ho.2 with ⟨h1, h2⟩ | ⟨g, cap, cur, h1, h2, h3, h4, _⟩
    · omega
    · unfold Fl.v at h1; injection h1 with _ _ h5; omega
  refine ⟨g, hA, hcap, ?_, fun t cs k hk ht hgk => ?_⟩
  · have ho' := ho
    rw [hv] at ho'
    rw [ho'.cellAt _ (by omega)]
    unfold bv
    rw [List.getElem?_map, List.getElem?_eq_getElem hp]
    rfl
  · subst hgk
    exact own_blk_ne ho hk (Ne.symm ht) (by unfold Fl.v; rw [hA]; rfl)

def Sto.setPos (S : Sto) (f : Int) (p : Nat) : Sto := if 1 ≤ f then { S with rd := S.rd.modify (f.toNat - 1) fun r => { r with pos := p } } else S
theorem map_modify_same {α β : Type} (g : α → β) (u : α → α) (hu : ∀ x, g (u x) = g x) (l : List α) (i : Nat) : (l.modify i u).map g = l.map g := by
  apply List.ext_getElem?
  intro j
  simp only [List.getElem?_map, List.getElem?_modify]
  cases l[j]? with
  | none => rfl
  | some y => by_cases hij : i = j <;> simp [hij, hu]
theorem mem_modify {α : Type} {u : α → α} {l : List α} {i : Nat} {x : α} (h : x ∈ l.modify i u) : x ∈ l ∨ ∃ y, l[i]? = some y ∧ x = u y := by
  obtain ⟨j, hj⟩ := List.mem_iff_getElem?.1 h
  rw [List.getElem?_modify] at hj
  by_cases hij : i = j
  · subst hij
    cases hl : l[i]? with
    | none => rw [hl] at hj; simp at hj
    | some y => rw [hl] at hj; simp at hj; exact .inr ⟨y, rfl, hj.symm⟩
  · simp [hij] at hj
    exact .inl (List.mem_of_getElem? hj)
theorem StoreAt.blk_inj (h : StoreAt base w s S) {r q : Rd} {i : Nat} (hi : S.rd[i]? = some r) {j : Nat} (hj : S.rd[j]? = some q) (e : r.blk = q.blk) : i = j := by
  have hn := h.rdn
  have h1 : (S.rd.map (·.blk))[i]? = some r.blk := by rw [List.getElem?_map, hi]; rfl
  have h2 : (S.rd.map (·.blk))[j]? = some r.blk := by rw [List.getElem?_map, hj, e]; rfl
  exact (List.getElem?_inj (by rw [List.getElem?_eq_some_iff] at h1; exact h1.1) hn).1 (h1.trans h2.symm)

theorem StoreAt.setPos (h : StoreAt base w s S) {f : Int} {r : Rd} {x : Fl} (hr : S.rdAt f = some r) (hx : S.fl r.f = some x) {p : Nat} (hp : p ≤ x.b.length) :
    StoreAt base (w.setCell ⟨r.blk, 2, none⟩ (.int .i64 p)) s (S.setPos f p) ∧ Chg (· = r.blk) w (w.setCell ⟨r.blk, 2, none⟩ (.int .i64 p)) := by
  obtain ⟨h1, h2, h3, h4⟩ := rdAt_some hr
  have hb := h.rdb r h4
  have hch : Chg (· = r.blk) w (w.setCell ⟨r.blk, 2, none⟩ (.int .i64 p)) := (Chg.refl (fun k => k = r.blk) _).setCell (p := ⟨r.blk, 2, none⟩) (fun _ => rfl) _
  have hS : S.setPos f p = { S with rd := S.rd.modify (f.toNat - 1) fun r => { r with pos := p } } := by unfold Sto.setPos; rw [if_pos h1]
  have hheld : (S.setPos f p).held = S.held := by
    rw [hS]; unfold Sto.held
    simp only
    rw [map_modify_same (fun r : Rd => r.f) (fun r : Rd => { r with pos := p }) (fun _ => rfl)]
  have hlen : (S.setPos f p).rd.length = S.rd.length := by rw [hS]; simp
  have hrv : (S.setPos f p).rv = S.rv := by rw [hS]; unfold Sto.rv; simp
  have hfl : (S.setPos f p).fl = S.fl := by rw [hS]
  have hblks : (S.setPos f p).rd.map (·.blk) = S.rd.map (·.blk) := by rw [hS]; exact map_modify_same (fun r : Rd => r.blk) (fun r : Rd => { r with pos := p }) (fun _ => rfl) _ _
  have hmem : ∀ q ∈ (S.setPos f p).rd, (q ∈ S.rd ∧ q.blk ≠ r.blk) ∨ q = { r with pos := p } := by
    intro q hq
    rw [hS] at hq
    obtain ⟨j, hj⟩ := List.mem_iff_getElem?.1 hq
    simp only [List.getElem?_modify] at hj
    by_cases hij : f.toNat - 1 = j
    · subst hij
      rw [h3] at hj
      simp at hj
      exact .inr hj.symm
    · simp [hij] at hj
      exact .inl ⟨List.mem_of_getElem? hj, fun e => hij (h.blk_inj hj h3 e).symm⟩
  have hne : ∀ k, (k = s ∨ k = S.mb ∨ S.rv.ownBlock = some k ∨ (∃ f x, S.fl f = some x ∧ (k = f ∨ x.v.ownBlock = some k))) → ¬ (k = r.blk) := by
    intro k hk
    rcases hk with rfl | rfl | hk | ⟨f, x, hf, rfl | hk⟩
    · exact h.blk.ne_ hb (by decide)
    · exact h.map.blk_ne hb
    · rintro rfl; exact own_blk_ne h.row hb (by decide) hk
    · exact (h.flb _ _ hf).ne_ hb (by decide)
    · rintro rfl; exact own_blk_ne (h.flo _ _ hf) hb (by decide) hk
  refine ⟨?_, hch⟩
  exact {
    blk := by rw [hrv, hS]; exact h.blk.chg hch (hne _ (.inl rfl))
    map := by rw [hS]; exact h.map.chg hch (hne _ (.inr (.inl rfl)))
    row := by
      have e : (S.setPos f p).rd.map (fun r => ptr r.blk) = S.rd.map (fun r => ptr r.blk) := by
        have := congrArg (List.map ptr) hblks
        rw [List.map_map, List.map_map] at this
        exact this
      rw [hrv, hlen, e]; exact own_chg h.row hch fun k hk => hne _ (.inr (.inr (.inl hk)))
    rdb := fun q hq => by
      rcases hmem q hq with ⟨hq', hqb⟩ | rfl
      · exact (h.rdb q hq').chg hch hqb
      · exact hb.set_ 2 _
    rdn := by rw [hblks]; exact h.rdn
    rdf := fun q hq => by
      rw [hfl]
      rcases hmem q hq with ⟨hq', hqb⟩ | rfl
      · exact h.rdf q hq'
      · exact ⟨x, hx, hp⟩
    dirf := by rw [hS]; exact h.dirf
    flb := fun f x hf => by rw [hfl] at hf; exact (h.flb f x hf).chg hch (hne _ (.inr (.inr (.inr ⟨f, x, hf, .inl rfl⟩))))
    flo := fun f x hf => by rw [hfl] at hf; exact own_chg (h.flo f x hf) hch fun k hk => hne _ (.inr (.inr (.inr ⟨f, x, hf, .inr hk⟩)))
    sep := by rw [hfl]; exact h.sep
    low := fun k hk => by
      apply h.low
      rcases hk with rfl | rfl | hk | ⟨q, hq, rfl⟩ | ⟨f, x, hf, hk⟩
      · exact .inl rfl
      · exact .inr (.inl (by rw [hS]))
      · exact .inr (.inr (.inl (by rw [hrv] at hk; exact hk)))
      · rcases hmem q hq with ⟨hq', hqb⟩ | rfl
        · exact .inr (.inr (.inr (.inl ⟨q, hq', rfl⟩)))
        · exact .inr (.inr (.inr (.inl ⟨r, h4, rfl⟩)))
      · exact .inr (.inr (.inr (.inr ⟨f, x, by rw [hfl] at hf; exact hf, hk⟩)))
    keys := by rw [hS]; exact h.keys
    dnames := by rw [hS]; exact h.dnames
    rnames := fun q hq => by
      rcases hmem q hq with ⟨hq', hqb⟩ | rfl
      · exact h.rnames q hq'
      · exact h.rnames r h4
    small := by rw [hS]; exact h.small
    fits := by
      have e : (S.setPos f p).used = S.used := by unfold Sto.used; rw [hheld]; unfold Sto.len; rw [hfl]
      rw [e, hS]; exact h.fits
    nrd := by rw [hlen]; exact h.nrd
    ndir := by rw [hS]; exact h.ndir }
theorem foot_setPos {f : Int} {p k : Nat} (h : foot s (S.setPos f p) k) : foot s S k := by
  unfold Sto.setPos at h
  split at h
  · rcases h with rfl | rfl | hk | ⟨q, hq, rfl⟩ | hk
    · exact .inl rfl
    · exact .inr (.inl rfl)
    · exact .inr (.inr (.inl (by simpa [Sto.rv] using hk)))
    · rcases mem_modify hq with h' | ⟨y, hy, rfl⟩
      · exact .inr (.inr (.inr (.inl ⟨q, h', rfl⟩)))
      · exact .inr (.inr (.inr (.inl ⟨y, List.mem_of_getElem? hy, rfl⟩)))
    · exact .inr (.inr (.inr (.inr hk)))
  · exact h
end

end Go.Proofs.Yteleglkoagnmcaa
