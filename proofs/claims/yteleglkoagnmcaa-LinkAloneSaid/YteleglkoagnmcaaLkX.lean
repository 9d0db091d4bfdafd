/- What is proved: what it means that an image lies in memory while it is made. Conditions: none (definitions and laws of memory). -/
import Derived.Test.YteleglkoagnmcaaLkW
set_option linter.unusedSimpArgs false
set_option linter.unusedVariables false
namespace Go.Proofs.Yteleglkoagnmcaa
open Go Go.RowKit
/-- a placed module's entries lie in memory -/
structure EntAt (W : World) (p : Pl) (a : PA) : Prop where
  row : CellsAt W a.1 (entCells p.ents)
  cap : p.ents.length ≤ a.2 ∧ a.2 ≤ maxLen
  tag : ∀ ad, a.1 = some ad → ∃ cs fr, W.heap[ad.block]? = some (.cells cs INT fr)
/-- an image that is being made -/
structure ImB (B W : World) (ib : Nat) (wv mv : Value) (ws : List Nat) (l : List (Pl × PA)) : Prop where
  box : Blk W ib IMT #[wv, mv]
  row : W.ownsRow B.heap.size U32T 1 wv ws.length (codeCells ws)
  mods : W.ownsRow B.heap.size PLT 5 mv l.length (plsCells l)
  ent : ∀ x ∈ l, EntAt W x.1 x.2
  chg : Chg NoB B W
  ibs : B.heap.size ≤ ib
  num : ∀ x ∈ ws, x < 4294967296
section
variable {B W W' : World} {ib g wc : Nat} {wv mv : Value} {ws : List Nat} {l : List (Pl × PA)} {p : Pl} {a : PA}
theorem EntAt.quiet (h : EntAt W p a) (hc : Chg NoB W W') : EntAt W' p a :=
  ⟨h.row.chg hc fun _ _ => id, h.cap, fun ad ha => by
    obtain ⟨cs, fr, h1⟩ := h.tag ad ha
    exact ⟨cs, fr, (hc.block _ (Array.getElem?_eq_some_iff.1 h1).1 id).trans h1⟩⟩
theorem EntAt.off {F : Nat → Prop} (h : EntAt W p a) (hc : Chg F W W') (hF : Off INT F W) : EntAt W' p a := by
  have key : ∀ ad, a.1 = some ad → ¬ F ad.block := fun ad ha hk => by
    obtain ⟨cs, fr, h1⟩ := h.tag ad ha
    obtain ⟨cs2, u, fr2, h2, hne⟩ := hF _ hk (Array.getElem?_eq_some_iff.1 h1).1
    rw [h1] at h2
    injection h2 with h2
    injection h2 with _ h2
    exact hne h2.symm
  exact ⟨h.row.chg hc key, h.cap, fun ad ha => by
    obtain ⟨cs, fr, h1⟩ := h.tag ad ha
    exact ⟨cs, fr, (hc.block _ (Array.getElem?_eq_some_iff.1 h1).1 (key ad ha)).trans h1⟩⟩
theorem ImB.quiet (h : ImB B W ib wv mv ws l) (hc : Chg NoB W W') : ImB B W' ib wv mv ws l :=
  ⟨h.box.chg hc id, own_chg h.row hc fun _ _ => id, own_chg h.mods hc fun _ _ => id, fun x hx => (h.ent x hx).quiet hc, h.chg.trans hc, h.ibs, h.num⟩
theorem codeCells_set (ws : List Nat) (i v : Nat) : codeCells (ws.set i v) = (codeCells ws).set i (.int .u32 (v : Int)) := by
  simp [codeCells, List.map_set]
/-- a word of the image is turned -/
theorem ImB.setWord (h : ImB B W ib (.slice (some ⟨g, 0, none⟩) ws.length wc) mv ws l) {i v : Nat} (hi : i < ws.length) (hv : v < 4294967296) : ImB B (W.drew.setCell ⟨g, i, none⟩ (.int .u32 (v : Int))) ib (.slice (some ⟨g, 0, none⟩) ws.length wc) mv (ws.set i v) l where
  box := (h.box.drew).far (p := ⟨g, i, none⟩) (fun e => own_blk_ne h.row h.box (by decide) (by rw [e]; rfl)) _
  row := by
    have h1 := own_setK (own_chg h.row (Chg.refl NoB W).drew fun _ _ => id) (i := i) (by omega) (.int .u32 (v : Int))
    rw [codeCells_set, List.length_set]
    exact h1
  mods := own_chg h.mods (((Chg.refl (fun k => k = g) W).drew).setCell (p := ⟨g, i, none⟩) (fun _ => rfl) _) fun k hk e => own_own_ne h.mods h.row (by decide) hk (by rw [e]; rfl)
  ent := fun x hx => (h.ent x hx).off (((Chg.refl (fun k => k = g) W).drew).setCell (p := ⟨g, i, none⟩) (fun _ => rfl) _) (by
    have := off_own h.row (t := INT) (by decide)
    intro k hk hlt
    exact this k (by rw [hk]; rfl) hlt)
  chg := h.chg.step (((Chg.refl (fun k => k = g) W).drew).setCell (p := ⟨g, i, none⟩) (fun _ => rfl) _) fun k hk e => by
    have := own_at_ h.row (k := g) rfl
    omega
  ibs := h.ibs
  num := fun x hx => by
    rcases List.mem_or_eq_of_mem_set hx with hx | hx
    · exact h.num x hx
    · rw [hx]; exact hv
theorem ImB.word (h : ImB B W ib (.slice (some ⟨g, 0, none⟩) ws.length wc) mv ws l) {i w : Nat} (hi : ws[i]? = some w) : W.cell? ⟨g, i, none⟩ = some (.int .u32 (w : Int)) ∧ W.frozen? ⟨g, i, none⟩ = false :=
  own_cellK h.row (by simp [codeCells, hi])
/-- a box that stands beside the image's words -/
theorem ImB.far (h : ImB B W ib (.slice (some ⟨g, 0, none⟩) ws.length wc) mv ws l) {b : Nat} {t : TypeId} {cs : Array Value} (hb : Blk W b t cs) (ht : U32T ≠ t) (i : Nat) (v : Value) : Blk (W.drew.setCell ⟨g, i, none⟩ v) b t cs :=
  (hb.drew).far (p := ⟨g, i, none⟩) (fun e => own_blk_ne h.row hb ht (by rw [e]; rfl)) _
/-- a module of the image -/
theorem ImB.mod (h : ImB B W ib wv mv ws l) (h0 : 0 < l.length) : ∃ g c, mv = .slice (some ⟨g, 0, none⟩) l.length c ∧ ∀ (i : Nat) (x : Pl × PA), l[i]? = some x → ∀ W', Chg NoB W W' → W'.cell? ⟨g, i * 5, none⟩ = some (.string x.1.name) ∧ W'.cell? ⟨g, i * 5 + 1, none⟩ = some (.int .u32 x.1.key) ∧ W'.cell? ⟨g, i * 5 + 2, none⟩ = some (.int .i64 x.1.code) ∧ W'.cell? ⟨g, i * 5 + 3, none⟩ = some (.int .i64 x.1.data) ∧ W'.cell? ⟨g, i * 5 + 4, none⟩ = some (.slice x.2.1 x.1.ents.length x.2.2) := by
  obtain ⟨g, c, hm, _, _⟩ := h.mods.form h0
  refine ⟨g, c, hm, fun i x hx W' hW => ?_⟩
  have ho := h.mods
  rw [hm] at ho
  have key : ∀ k u, k < 5 → (plArr x.1 x.2)[k]? = some u → W'.cell? ⟨g, i * 5 + k, none⟩ = some u := fun k u hk hu => keepQ hW (own_cellK ho ((plsCells_get l i x hx k hk).trans hu)).1
  exact ⟨key 0 _ (by omega) rfl, key 1 _ (by omega) rfl, key 2 _ (by omega) rfl, key 3 _ (by omega) rfl, key 4 _ (by omega) rfl⟩
end
theorem findPl_first {nm : ByteArray} {x : Pl × PA} : ∀ {l : List (Pl × PA)} {i : Nat}, l[i]? = some x → decide (x.1.name = nm) = true → (∀ (j : Nat) y, j < i → l[j]? = some y → decide (y.1.name = nm) = false) → plFind (l.map (·.1)) nm = some x.1
  | [], i, h, _, _ => by simp at h
  | y :: l, 0, h, h1, _ => by
    simp at h
    subst h
    unfold plFind
    rw [List.map_cons, List.find?_cons, h1]
  | y :: l, i + 1, h, h1, h2 => by
    have h3 := h2 0 y (by omega) rfl
    unfold plFind
    rw [List.map_cons, List.find?_cons, h3]
    exact findPl_first (l := l) (i := i) (by simpa using h) h1 fun j z hj hz => h2 (j + 1) z (by omega) (by simpa using hz)
theorem findPl_none {nm : ByteArray} : ∀ {l : List (Pl × PA)}, (∀ y ∈ l, decide (y.1.name = nm) = false) → plFind (l.map (·.1)) nm = none
  | [], _ => rfl
  | y :: l, h => by
    unfold plFind
    rw [List.map_cons, List.find?_cons, h y (List.mem_cons_self ..)]
    exact findPl_none (l := l) fun z hz => h z (List.mem_cons_of_mem _ hz)
end Go.Proofs.Yteleglkoagnmcaa
