/- What is proved: laws of trees of nodes as they lie in memory; no program. Conditions: as each theorem says. -/
import Derived.Test.YtnihjkcniddepaaHeap
namespace Go.Proofs.Ytnihjkcniddepaa
open Go.RowKit

/-- a node's own parts -/
structure Own where
  kind : Int
  nm : ByteArray
  val : Int
  mark : Bool

/-- a row of nodes: the first one's own parts, the nodes below it, the rest of the row -/
inductive F where
  | nil
  | cons (d : Own) (kids : F) (rest : F)

namespace F
def len : F → Nat
  | .nil => 0
  | .cons _ _ r => r.len + 1
def drop : Nat → F → F
  | 0, f => f
  | _ + 1, .nil => .nil
  | k + 1, .cons _ _ r => r.drop k
def take : Nat → F → F
  | 0, _ => .nil
  | _ + 1, .nil => .nil
  | k + 1, .cons d ks r => .cons d ks (r.take k)
def app : F → F → F
  | .nil, g => g
  | .cons d ks r, g => .cons d ks (r.app g)
/-- all nodes of a row -/
def all (p : Own → F → Bool) : F → Bool
  | .nil => true
  | .cons d ks r => p d ks && r.all p
/-- a property of all nodes of a row -/
def All (p : Own → F → Prop) : F → Prop
  | .nil => True
  | .cons d ks r => p d ks ∧ r.All p
def at? : F → Nat → Option (Own × F)
  | .nil, _ => none
  | .cons d ks _, 0 => some (d, ks)
  | .cons _ _ r, k + 1 => r.at? k

theorem drop_nil (k : Nat) : drop k .nil = .nil := by cases k <;> rfl
theorem drop_succ (f : F) (k : Nat) : ∀ {d ks r}, f.drop k = .cons d ks r → f.drop (k + 1) = r := by
  induction f generalizing k with
  | nil => intro d ks r h; rw [drop_nil] at h; cases h
  | cons d0 k0 r0 _ ih =>
    intro d ks r h
    cases k with
    | zero => exact congrArg (fun f => match f with | .nil => F.nil | .cons _ _ r => r) h
    | succ k => exact ih k h
theorem at_drop (f : F) (k : Nat) : ∀ {d ks r}, f.drop k = .cons d ks r → f.at? k = some (d, ks) := by
  induction f generalizing k with
  | nil => intro d ks r h; rw [drop_nil] at h; cases h
  | cons d0 k0 r0 _ ih =>
    intro d ks r h
    cases k with
    | zero => simp only [drop] at h; injection h with h1 h2 _; subst h1; subst h2; rfl
    | succ k => exact ih k h
theorem drop_of_lt (f : F) (k : Nat) (h : k < f.len) : ∃ d ks r, f.drop k = .cons d ks r := by
  induction f generalizing k with
  | nil => simp [len] at h
  | cons d0 k0 r0 _ ih =>
    cases k with
    | zero => exact ⟨d0, k0, r0, rfl⟩
    | succ k => exact ih k (by simp [len] at h; omega)
theorem All.drop {p : Own → F → Prop} {f : F} (h : f.All p) (k : Nat) : (f.drop k).All p := by
  induction f generalizing k with
  | nil => rw [drop_nil]; trivial
  | cons d ks r _ ih =>
    cases k with
    | zero => exact h
    | succ k => exact ih h.2 k
theorem All.take {p : Own → F → Prop} {f : F} (h : f.All p) (k : Nat) : (f.take k).All p := by
  induction f generalizing k with
  | nil => cases k <;> trivial
  | cons d ks r _ ih =>
    cases k with
    | zero => trivial
    | succ k => exact ⟨h.1, ih h.2 k⟩
theorem All.at_ {p : Own → F → Prop} {f : F} (h : f.All p) {k : Nat} {d : Own} {ks : F} (hk : f.at? k = some (d, ks)) : p d ks := by
  induction f generalizing k with
  | nil => cases hk
  | cons d0 k0 r _ ih =>
    cases k with
    | zero => simp only [at?] at hk; injection hk with hk; injection hk with h1 h2; subst h1; subst h2; exact h.1
    | succ k => exact ih h.2 hk
theorem All.imp_ {p q : Own → F → Prop} {f : F} (h : f.All p) (hpq : ∀ d ks, p d ks → q d ks) : f.All q := by
  induction f with
  | nil => trivial
  | cons d ks r _ ih => exact ⟨hpq _ _ h.1, ih h.2⟩
theorem All.of_at {p : Own → F → Prop} {f : F} (h : ∀ k d ks, f.at? k = some (d, ks) → p d ks) : f.All p := by
  induction f with
  | nil => trivial
  | cons d ks r _ ih => exact ⟨h 0 d ks rfl, ih fun k d ks hk => h (k + 1) d ks hk⟩
theorem all_eq (p : Own → F → Bool) (f : F) (k : Nat) : ∀ {d ks r}, f.drop k = .cons d ks r → (f.take (k + 1)).all p = ((f.take k).all p && p d ks) := by
  induction f generalizing k with
  | nil => intro d ks r h; rw [drop_nil] at h; cases h
  | cons d0 k0 r0 _ ih =>
    intro d ks r h
    cases k with
    | zero => simp only [drop] at h; injection h with h1 h2 _; subst h1; subst h2; simp [take, all]
    | succ k => simp only [take, all]; rw [ih k h, Bool.and_assoc]
theorem take_len (f : F) : f.take f.len = f := by
  induction f with
  | nil => rfl
  | cons d ks r _ ih => simp [len, take, ih]
theorem all_false (p : Own → F → Bool) (f : F) (k : Nat) (h : (f.take k).all p = false) : f.all p = false := by
  induction f generalizing k with
  | nil => cases k <;> simp [take, all] at h
  | cons d ks r _ ih =>
    cases k with
    | zero => simp [take, all] at h
    | succ k =>
      simp only [take, all, Bool.and_eq_false_iff] at h ⊢
      rcases h with h | h
      · exact .inl h
      · exact .inr (ih k h)
theorem len_drop (f : F) (k : Nat) : (f.drop k).len = f.len - k := by
  induction f generalizing k with
  | nil => rw [drop_nil]; simp [len]
  | cons d ks r _ ih =>
    cases k with
    | zero => simp [drop]
    | succ k => simp [drop, len, ih]
theorem len_take (f : F) (k : Nat) (h : k ≤ f.len) : (f.take k).len = k := by
  induction f generalizing k with
  | nil => simp [len] at h; subst h; rfl
  | cons d ks r _ ih =>
    cases k with
    | zero => rfl
    | succ k => simp [take, len] at h ⊢; exact ih k h
/-- induction over a row and all below it -/
theorem each {p : Own → F → Prop} (h : ∀ d ks, ks.All p → p d ks) (f : F) : f.All p := by
  induction f with
  | nil => trivial
  | cons d ks r ihk ihr => exact ⟨h d ks ihk, ihr⟩
end F

/-- what Go holds of a node's own parts -/
def OwnOk (d : Own) : Prop := (-9223372036854775808 ≤ d.kind ∧ d.kind ≤ 9223372036854775807) ∧ d.nm.size ≤ maxLen ∧ (0 ≤ d.val ∧ d.val ≤ 4294967295)

/-- a row of nodes lies in memory from an address on -/
def IsL (w : World) : Option Addr → Nat → F → Prop
  | _, n, .nil => n = 0
  | A, n, .cons d kids rest => ∃ b o kA kn kc m, A = some ⟨b, o, none⟩ ∧ n = m + 1 ∧ OwnOk d ∧ kn ≤ kc ∧ kc ≤ maxLen ∧
      w.cell? ⟨b, o, none⟩ = some (.int .i64 d.kind) ∧ w.cell? ⟨b, o + 1, none⟩ = some (.string d.nm) ∧ w.cell? ⟨b, o + 2, none⟩ = some (.int .u32 d.val) ∧
      w.cell? ⟨b, o + 3, none⟩ = some (.bool d.mark) ∧ w.cell? ⟨b, o + 4, none⟩ = some (.slice kA kn kc) ∧ IsL w kA kn kids ∧ IsL w (some ⟨b, o + 5, none⟩) m rest

theorem Chg.cell {F : Nat → Prop} {w w' : World} (h : Chg F w w') {p : Addr} {v : Value} (hc : w.cell? p = some v) (hp : ¬ F p.block) : w'.cell? p = some v := by
  have hb := h.block p.block (block_lt_of_cell hc) hp
  rw [← hc]
  unfold World.cell?
  rw [hb]

theorem IsL.chg {w w' : World} (h : Chg NoB w w') : ∀ {A n} {f : F}, IsL w A n f → IsL w' A n f := by
  intro A n f
  induction f generalizing A n with
  | nil => exact fun hh => hh
  | cons d ks r ihk ihr =>
    rintro ⟨b, o, kA, kn, kc, m, rfl, rfl, ok, h1, h2, c0, c1, c2, c3, c4, hk, hr⟩
    exact ⟨b, o, kA, kn, kc, m, rfl, rfl, ok, h1, h2, h.cell c0 id, h.cell c1 id, h.cell c2 id, h.cell c3 id, h.cell c4 id, ihk hk, ihr hr⟩

theorem IsL.len {w : World} : ∀ {A n} {f : F}, IsL w A n f → n = f.len := by
  intro A n f
  induction f generalizing A n with
  | nil => exact fun hh => hh
  | cons d ks r ihk ihr =>
    rintro ⟨b, o, kA, kn, kc, m, rfl, rfl, ok, h1, h2, c0, c1, c2, c3, c4, hk, hr⟩
    simp [F.len, ihr hr]

/-- the node of a number -/
theorem IsL.at_ {w : World} : ∀ {f : F} {A n} {k : Nat}, IsL w A n f → k < n → ∃ b o d ks r kA kn kc, A = some ⟨b, o, none⟩ ∧ f.drop k = .cons d ks r ∧ OwnOk d ∧ kn ≤ kc ∧ kc ≤ maxLen ∧
      w.cell? ⟨b, o + k * 5, none⟩ = some (.int .i64 d.kind) ∧ w.cell? ⟨b, o + k * 5 + 1, none⟩ = some (.string d.nm) ∧ w.cell? ⟨b, o + k * 5 + 2, none⟩ = some (.int .u32 d.val) ∧
      w.cell? ⟨b, o + k * 5 + 3, none⟩ = some (.bool d.mark) ∧ w.cell? ⟨b, o + k * 5 + 4, none⟩ = some (.slice kA kn kc) ∧ IsL w kA kn ks := by
  intro f
  induction f with
  | nil => intro A n k h hk; have : n = 0 := h; omega
  | cons d ks r ihk ihr =>
    rintro A n k ⟨b, o, kA, kn, kc, m, rfl, rfl, ok, h1, h2, c0, c1, c2, c3, c4, hk, hr⟩ hlt
    cases k with
    | zero => exact ⟨b, o, d, ks, r, kA, kn, kc, rfl, rfl, ok, h1, h2, by simpa using c0, by simpa using c1, by simpa using c2, by simpa using c3, by simpa using c4, hk⟩
    | succ k =>
      obtain ⟨b', o', d', ks', r', kA', kn', kc', hA, hd, ok', h1', h2', e0, e1, e2, e3, e4, hk'⟩ := ihr (k := k) hr (by omega)
      injection hA with hA
      injection hA with hb ho
      subst hb; subst ho
      have hs : o + (k + 1) * 5 = o + 5 + k * 5 := by omega
      exact ⟨b, o, d', ks', r', kA', kn', kc', rfl, hd, ok', h1', h2', by rw [hs]; exact e0, by rw [hs]; exact e1, by rw [hs]; exact e2, by rw [hs]; exact e3, by rw [hs]; exact e4, hk'⟩

theorem IsL.drop {w : World} : ∀ {f : F} {b o n} {k : Nat}, IsL w (some ⟨b, o, none⟩) n f → k ≤ n → IsL w (some ⟨b, o + k * 5, none⟩) (n - k) (f.drop k) := by
  intro f
  induction f with
  | nil => intro b o n k h hk; have : n = 0 := h; rw [F.drop_nil]; show n - k = 0; omega
  | cons d ks r ihk ihr =>
    intro b o n k h hlt
    cases k with
    | zero => simpa [F.drop] using h
    | succ k =>
      obtain ⟨b', o', kA, kn, kc, m, hA, rfl, ok, h1, h2, c0, c1, c2, c3, c4, hk, hr⟩ := h
      injection hA with hA
      injection hA with hb ho
      subst hb; subst ho
      have hs : o + (k + 1) * 5 = o + 5 + k * 5 := by omega
      rw [hs, show m + 1 - (k + 1) = m - k by omega]
      exact ihr hr (by omega)
theorem IsL.take {w : World} : ∀ {f : F} {A n} {k : Nat}, IsL w A n f → k ≤ n → IsL w A k (f.take k) := by
  intro f
  induction f with
  | nil => intro A n k h hk; have : n = 0 := h; cases k with
    | zero => exact rfl
    | succ k => omega
  | cons d ks r ihk ihr =>
    intro A n k h hlt
    cases k with
    | zero => exact rfl
    | succ k =>
      obtain ⟨b, o, kA, kn, kc, m, rfl, rfl, ok, h1, h2, c0, c1, c2, c3, c4, hk, hr⟩ := h
      exact ⟨b, o, kA, kn, kc, k, rfl, rfl, ok, h1, h2, c0, c1, c2, c3, c4, hk, ihr hr (by omega)⟩
/-- a node as a value -/
@[reducible] def nodeV (d : Own) (kA : Option Addr) (kn kc : Nat) : Value := .agg #[.int .i64 d.kind, .string d.nm, .int .u32 d.val, .bool d.mark, .slice kA kn kc]
/-- a value is a node -/
structure IsN (w : World) (d : Own) (ks : F) (kA : Option Addr) (kn kc : Nat) : Prop where
  ok : OwnOk d
  le : kn ≤ kc
  most : kc ≤ maxLen
  kids : IsL w kA kn ks
theorem IsN.chg {w w' : World} {d : Own} {ks : F} {kA : Option Addr} {kn kc : Nat} (h : IsN w d ks kA kn kc) (hc : Chg NoB w w') : IsN w' d ks kA kn kc := ⟨h.ok, h.le, h.most, h.kids.chg hc⟩
theorem IsN.alloc {w : World} {d : Own} {ks : F} {kA : Option Addr} {kn kc : Nat} (h : IsN w d ks kA kn kc) (o : Obj) : IsN (w.alloc o) d ks kA kn kc := h.chg ((Chg.refl _ _).alloc o)
/-- the library's variable holds a number -/
def Var0 (w : World) : Prop := ∃ m : Int, w.cell? ⟨0, 0, none⟩ = some (.int .i64 m)
theorem Var0.chg {w w' : World} (h : Var0 w) (hc : Chg NoB w w') : Var0 w' := by
  obtain ⟨m, hm⟩ := h
  exact ⟨m, hc.cell hm id⟩
end Go.Proofs.Ytnihjkcniddepaa
