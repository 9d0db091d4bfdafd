/- What is proved: laws of trees in memory of their own, the places of their rows known; no program. Conditions: as each theorem says. -/
import Derived.Test.YtnihjkcniddepaaTree
import Derived.Test.YtnihjkcniddepaaOps
namespace Go.Proofs.Ytnihjkcniddepaa
open Go.RowKit

/-- a row of nodes, each with the place where those below it lie -/
inductive G where
  | nil
  | cons (d : Own) (kA : Option Addr) (kn kc : Nat) (kids : G) (rest : G)
def rowOf (A : Option Addr) (n : Nat) : List Nat := if n = 0 then [] else (A.map (·.block)).toList
def nodeL (d : Own) (kA : Option Addr) (kn kc : Nat) : List Value := [.int .i64 d.kind, .string d.nm, .int .u32 d.val, .bool d.mark, .slice kA kn kc]
namespace G
def erase : G → F
  | .nil => .nil
  | .cons d _ _ _ ks r => .cons d ks.erase r.erase
def len : G → Nat
  | .nil => 0
  | .cons _ _ _ _ _ r => r.len + 1
def rows : G → List Nat
  | .nil => []
  | .cons _ kA kn _ ks r => rowOf kA kn ++ (ks.rows ++ r.rows)
def cells : G → List Value
  | .nil => []
  | .cons d kA kn kc _ r => nodeL d kA kn kc ++ r.cells
def app : G → G → G
  | .nil, g => g
  | .cons d kA kn kc ks r, g => .cons d kA kn kc ks (r.app g)
theorem cells_len (g : G) : g.cells.length = g.len * 5 := by
  induction g with
  | nil => rfl
  | cons d kA kn kc ks r _ ih => simp [cells, nodeL, len, ih]; omega
theorem cells_app (g h : G) : (g.app h).cells = g.cells ++ h.cells := by
  induction g with
  | nil => rfl
  | cons d kA kn kc ks r _ ih => simp [app, cells, ih]
theorem rows_app (g h : G) : (g.app h).rows = g.rows ++ h.rows := by
  induction g with
  | nil => rfl
  | cons d kA kn kc ks r _ ih => simp [app, rows, ih]
theorem len_app (g h : G) : (g.app h).len = g.len + h.len := by
  induction g with
  | nil => simp [app, len]
  | cons d kA kn kc ks r _ ih => simp [app, len, ih]; omega
theorem erase_app (g h : G) : (g.app h).erase = g.erase.app h.erase := by
  induction g with
  | nil => rfl
  | cons d kA kn kc ks r _ ih => simp [app, erase, F.app, ih]
theorem len_erase (g : G) : g.erase.len = g.len := by
  induction g with
  | nil => rfl
  | cons d kA kn kc ks r _ ih => simp [erase, F.len, len, ih]
end G
theorem F.take_app (f : F) (k : Nat) : ∀ {d ks r}, f.drop k = .cons d ks r → f.take (k + 1) = (f.take k).app (.cons d ks .nil) := by
  induction f generalizing k with
  | nil => intro d ks r h; rw [F.drop_nil] at h; cases h
  | cons d0 k0 r0 _ ih =>
    intro d ks r h
    cases k with
    | zero => simp only [F.drop] at h; injection h with h1 h2 _; subst h1; subst h2; simp [F.take, F.app]
    | succ k => simp only [F.take, F.app]; rw [ih k h]

/-- a row's cells lie at the head of a block -/
def RowAt (w : World) (T : TypeId) (A : Option Addr) (g : G) : Prop := ∃ b cur, A = some ⟨b, 0, none⟩ ∧ w.heap[b]? = some (.cells cur T (0, 0)) ∧ cur.toList.take g.cells.length = g.cells
/-- all that is below the nodes of a row lies in memory -/
def SubG (w : World) (T : TypeId) : G → Prop
  | .nil => True
  | .cons d kA kn kc ks r => OwnOk d ∧ kn ≤ kc ∧ kc ≤ maxLen ∧ kn = ks.len ∧ (0 < kn → RowAt w T kA ks) ∧ SubG w T ks ∧ SubG w T r

theorem RowAt.mem {w : World} {T : TypeId} {A : Option Addr} {g : G} {n : Nat} (h : RowAt w T A g) (hn : 0 < n) : ∃ b, A = some ⟨b, 0, none⟩ ∧ rowOf A n = [b] ∧ b < w.heap.size := by
  obtain ⟨b, cur, rfl, hb, _⟩ := h
  refine ⟨b, rfl, ?_, (Array.getElem?_eq_some_iff.1 hb).1⟩
  unfold rowOf
  rw [if_neg (by omega)]; rfl
theorem RowAt.keep {w w' : World} {T : TypeId} {A : Option Addr} {g : G} {n : Nat} (h : RowAt w T A g) (hn : 0 < n) (hk : ∀ b ∈ rowOf A n, w'.heap[b]? = w.heap[b]?) : RowAt w' T A g := by
  obtain ⟨b, hA, hr, _⟩ := h.mem hn
  obtain ⟨b', cur, hA', hb, hc⟩ := h
  rw [hA] at hA'
  injection hA' with hA'
  injection hA' with hA'
  subst hA'
  exact ⟨b, cur, hA, by rw [hk b (by rw [hr]; simp)]; exact hb, hc⟩
theorem SubG.keep {w w' : World} {T : TypeId} : ∀ {g : G}, SubG w T g → (∀ b ∈ g.rows, w'.heap[b]? = w.heap[b]?) → SubG w' T g := by
  intro g
  induction g with
  | nil => exact fun _ _ => trivial
  | cons d kA kn kc ks r ihk ihr =>
    rintro ⟨h1, h2, h3, h4, h5, h6, h7⟩ hk
    simp only [G.rows, List.mem_append] at hk
    exact ⟨h1, h2, h3, h4, fun hn => (h5 hn).keep hn fun b hb => hk b (.inl hb), ihk h6 fun b hb => hk b (.inr (.inl hb)), ihr h7 fun b hb => hk b (.inr (.inr hb))⟩
theorem SubG.app {w : World} {T : TypeId} : ∀ {g h : G}, SubG w T g → SubG w T h → SubG w T (g.app h) := by
  intro g
  induction g with
  | nil => exact fun _ h => h
  | cons d kA kn kc ks r ihk ihr =>
    rintro h ⟨h1, h2, h3, h4, h5, h6, h7⟩ hh
    exact ⟨h1, h2, h3, h4, h5, h6, ihr h7 hh⟩
theorem take_get {α : Type} {xs ys : List α} {n : Nat} (h : xs.take n = ys) (j : Nat) (hj : j < ys.length) : xs[j]? = ys[j]? := by
  subst h
  rw [List.getElem?_take, if_pos]
  simp at hj; omega
/-- it is a row of nodes as the functions read it -/
theorem isL_of_sub {w : World} {T : TypeId} : ∀ {g : G}, SubG w T g → ∀ b o cur, w.heap[b]? = some (.cells cur T (0, 0)) → (∀ j u, g.cells[j]? = some u → cur.toList[o + j]? = some u) → IsL w (some ⟨b, o, none⟩) g.len g.erase := by
  intro g
  induction g with
  | nil => intro _ b o cur _ _; rfl
  | cons d kA kn kc ks r ihk ihr =>
    rintro ⟨h1, h2, h3, h4, h5, h6, h7⟩ b o cur hb hc
    have hcell : ∀ j u, (G.cons d kA kn kc ks r).cells[j]? = some u → w.cell? ⟨b, o + j, none⟩ = some u := fun j u hu => by
      rw [cell_of_row w b (o + j) cur T (0, 0) hb]
      have := hc j u hu
      simpa using this
    refine ⟨b, o, kA, kn, kc, r.len, rfl, rfl, h1, h2, h3, hcell 0 _ rfl, hcell 1 _ rfl, hcell 2 _ rfl, hcell 3 _ rfl, hcell 4 _ rfl, ?_, ?_⟩
    · rcases Nat.eq_zero_or_pos kn with h0 | h0
      · have hnil : ks = .nil := by
          cases ks with
          | nil => rfl
          | cons => rw [h4] at h0; simp [G.len] at h0
        subst hnil
        exact h0
      · obtain ⟨b', cur', rfl, hb', hcur⟩ := h5 h0
        rw [h4]
        exact ihk h6 b' 0 cur' hb' fun j u hu => by
          rw [Nat.zero_add]
          have hj := (List.getElem?_eq_some_iff.1 hu).1
          rw [take_get hcur j hj]; exact hu
    · exact ihr h7 b (o + 5) cur hb fun j u hu => by
        have := hc (5 + j) u (by rw [Nat.add_comm 5 j]; simpa [G.cells, nodeL] using hu)
        rw [← this]
        congr 1; omega
theorem isL_own {w : World} {T : TypeId} {g : G} {A : Option Addr} {n : Nat} (hs : SubG w T g) (hn : n = g.len) (hr : 0 < n → RowAt w T A g) : IsL w A n g.erase := by
  subst hn
  rcases Nat.eq_zero_or_pos g.len with h0 | h0
  · have hnil : g = .nil := by
      cases g with
      | nil => rfl
      | cons => simp [G.len] at h0
    subst hnil
    rfl
  · obtain ⟨b, cur, rfl, hb, hcur⟩ := hr h0
    exact isL_of_sub hs b 0 cur hb fun j u hu => by
      rw [Nat.zero_add]
      have hj := (List.getElem?_eq_some_iff.1 hu).1
      rw [take_get hcur j hj]; exact hu
theorem RowAt.of_own {w : World} {T : TypeId} {base : Nat} {A : Option Addr} {n c : Nat} {g : G} (h : w.ownsRow base T 5 (.slice A n c) n g.cells) (hn : 0 < n) : RowAt w T A g := by
  rcases h.2 with ⟨_, h0⟩ | ⟨b, cap, cur, hv, _, hb, _, _, _, hcur⟩
  · omega
  · injection hv with hA
    exact ⟨b, cur, hA, hb, by rw [h.1]; exact hcur⟩
end Go.Proofs.Ytnihjkcniddepaa
