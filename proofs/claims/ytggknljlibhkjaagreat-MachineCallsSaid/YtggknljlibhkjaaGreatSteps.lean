import Derived.Test.YtggknljlibhkjaaGreatMuch
import Derived.Test.YtggknljlibhkjaaGreatLawRow
import Derived.Deep.Slices
import Derived.Deep.Fields
import Derived.ChangeSame
import Derived.ProofKit
import Derived.OpenShut
set_option linter.unusedSimpArgs false
set_option linter.unusedVariables false
namespace Go.Proofs.YtggknljlibhkjaaGreat
open Go.RowKit Go.ChangeShapes Go.WideShapes Go.Deep
theorem list_of {α : Type} {P : Nat → α → Prop} : ∀ n : Nat, (∀ i, i < n → ∃ x, P i x) → ∃ L : List α, L.length = n ∧ ∀ i x, L[i]? = some x → P i x
 | 0, _ => ⟨[], rfl, fun i x h => by simp at h⟩
 | n + 1, h => by
  obtain ⟨L, h1, h2⟩ := list_of n fun i hi => h i (by omega)
  obtain ⟨x, hx⟩ := h n (by omega)
  refine ⟨L ++ [x], by simp [h1], fun i y hy => ?_⟩
  rcases Nat.lt_or_ge i n with hlt | hge
  ·rw [List.getElem?_append_left (by omega)] at hy
   exact h2 i y hy
  ·have hi : i < (L ++ [x]).length := (List.getElem?_eq_some_iff.1 hy).1
   have : i = n := by simp at hi; omega
   subst this
   rw [List.getElem?_append_right (by omega), h1, Nat.sub_self] at hy
   simp at hy
   subst hy
   exact hx
section
variable {H : Type} {enc : TypeId × Value → H} {w : World} {base : Nat} {held : Bool}
theorem add_none (b o n : Nat) : (⟨b, o, none⟩ : Addr).add n = ⟨b, o + n, none⟩ := by unfold Addr.add; split <;> simp_all
theorem spot_none {a : Addr} {v : Value} (h : w.cell? a = some v) : a.spot = none := by
 unfold World.cell? at h
 split at h
 ·split at h
  ·cases h
  ·rename_i hn; cases hs : a.spot with
   | none => rfl
   | some _ => rw [hs] at hn; simp at hn
 ·cases h
theorem step_cells : Tryz.prog.cellsOf 80 = 5 := by kernel_rfl
theorem five {α : Type} {l : List α} (h : l.length = 5) : ∃ a b c d e, l = [a, b, c, d, e] := by
 match l, h with
 | [a, b, c, d, e], _ => exact ⟨a, b, c, d, e, rfl⟩
theorem wf_i64 {n : Int} (h : (Lit.int .i64 n).wf = true) : -9223372036854775808 ≤ n ∧ n ≤ 9223372036854775807 := by
 have := bounds_i64 h; omega
theorem wf_u32 {n : Int} (h : (Lit.int .u32 n).wf = true) : 0 ≤ n ∧ n ≤ 4294967295 := by
 have := bounds_u32 h; omega
theorem open_step {fuel : Nat} {cs : List Value} {x : DataW H × List MemPlace} (h : DataW.trod enc Tryz.prog w base (fun _ => true) held fuel 80 cs = some x) :
  ∃ y : St, cs = [.int .i64 y.kind, .int .i64 y.f, .int .u32 y.w, .string y.nm, .slice y.A y.b.length y.c] ∧ StRaw w y := by
 cases fuel with
 | zero => simp [DataW.trod] at h
 | succ fuel =>
  obtain ⟨xs, n, hn, _, hlen, hxs, hg⟩ := DataW.trod_struct Tryz.underlying80 h
  obtain rfl : n = fuel := by omega
  rw [step_cells] at hlen
  obtain ⟨v0, v1, v2, v3, v4, rfl⟩ := five hlen
  have hx : ∀ i, i < 5 → ∃ y, xs[i]? = some y := fun i hi => ⟨_, List.getElem?_eq_getElem (by rw [hxs]; exact hi)⟩
  obtain ⟨y0, e0⟩ := hx 0 (by omega)
  obtain ⟨y1, e1⟩ := hx 1 (by omega)
  obtain ⟨y2, e2⟩ := hx 2 (by omega)
  obtain ⟨y3, e3⟩ := hx 3 (by omega)
  obtain ⟨y4, e4⟩ := hx 4 (by omega)
  have g0 : DataW.trod enc Tryz.prog w base (fun _ => true) held n 3 (([v0, v1, v2, v3, v4].drop 0).take (Tryz.prog.cellsOf 3)) = xs[0]? := hg 0 _ rfl
  have g1 : DataW.trod enc Tryz.prog w base (fun _ => true) held n 3 (([v0, v1, v2, v3, v4].drop 1).take (Tryz.prog.cellsOf 3)) = xs[1]? := hg 1 _ rfl
  have g2 : DataW.trod enc Tryz.prog w base (fun _ => true) held n 23 (([v0, v1, v2, v3, v4].drop 2).take (Tryz.prog.cellsOf 23)) = xs[2]? := hg 2 _ rfl
  have g3 : DataW.trod enc Tryz.prog w base (fun _ => true) held n 9 (([v0, v1, v2, v3, v4].drop 3).take (Tryz.prog.cellsOf 9)) = xs[3]? := hg 3 _ rfl
  have g4 : DataW.trod enc Tryz.prog w base (fun _ => true) held n 44 (([v0, v1, v2, v3, v4].drop 4).take (Tryz.prog.cellsOf 44)) = xs[4]? := hg 4 _ rfl
  rw [e0] at g0
  rw [e1] at g1
  rw [e2] at g2
  rw [e3] at g3
  rw [e4] at g4
  have c3 : Tryz.prog.cellsOf 3 = 1 := by kernel_rfl
  have c9 : Tryz.prog.cellsOf 9 = 1 := by kernel_rfl
  have c23 : Tryz.prog.cellsOf 23 = 1 := by kernel_rfl
  have c22 : Tryz.prog.cellsOf 44 = 1 := by kernel_rfl
  simp only [c3, c9, c23, c22, List.drop_zero, List.drop_succ_cons, List.take_succ_cons, List.take_zero] at g0 g1 g2 g3 g4
  obtain ⟨k, hk, _, wk⟩ := DataW.trod_int Tryz.underlying3 g0
  obtain ⟨f, hf, _, wf⟩ := DataW.trod_int Tryz.underlying3 g1
  obtain ⟨u, hu, _, wu⟩ := DataW.trod_int Tryz.underlying23 g2
  obtain ⟨s, hs, _, ws⟩ := DataW.trod_string Tryz.underlying9 g3
  simp only [List.cons.injEq, and_true] at hk hf hu hs
  subst hk hf hu hs
  have hu2 := wf_u32 wu
  obtain ⟨A, len, cap, zs, hv, hrow⟩ : ∃ A len cap zs, v4 = .slice A len cap ∧ ((A = none ∧ len = 0 ∧ cap = 0 ∧ zs = []) ∨
    ∃ x, A = some x ∧ len ≤ cap ∧ cap ≤ maxLen ∧ zs.length = cap ∧ (∀ i, i < zs.length → w.cell? (x.add i) = some (.int .u8 (zs.getD i 0))) ∧ ∀ n ∈ zs, (Lit.int .u8 n).wf = true) := by
   rcases open_ints Tryz.underlying44 Tryz.underlying5 (by kernel_rfl) g4 with ⟨hcs, _⟩ | ⟨x, l, c, zs, hcs, _, hl, hm, hz, _, hcell, hwz⟩
   ·simp only [List.cons.injEq, and_true] at hcs
    exact ⟨none, 0, 0, [], hcs, .inl ⟨rfl, rfl, rfl, rfl⟩⟩
   ·simp only [List.cons.injEq, and_true] at hcs
    exact ⟨some x, l, c, zs, hcs, .inr ⟨x, rfl, hl, hm, by simpa using hz, hcell, hwz⟩⟩
  obtain ⟨l, hl, _, hc, _⟩ := row_bytes hrow
  have hle : len ≤ cap ∧ cap ≤ maxLen := by
   rcases hrow with ⟨_, rfl, rfl, _⟩ | ⟨_, _, h1, h2, _⟩
   ·exact ⟨Nat.le_refl _, Nat.zero_le _⟩
   ·exact ⟨h1, h2⟩
  have hun : u.toNat < 4294967296 := by omega
  have hll : l.length ≤ cap := by omega
  refine ⟨⟨k, f, u.toNat, s, A, cap, l⟩, ?_, ⟨hun, ws, hll, hle.2, hc, wf_i64 wk, wf_i64 wf⟩⟩
  rw [hv]
  simp only
  rw [hl, show ((u.toNat : Nat) : Int) = u from by omega]
set_option maxRecDepth 100000 in
theorem open_steps {v : Value} {d : DataW H} {p : List MemPlace} {b0 : Nat} (hv : Value.okWide Tryz.prog w .any b0 22 v) (h : DataW.Trod enc Tryz.prog w base (fun _ => true) held 22 v d p) :
  ∃ A L c, v = .slice A (L : List St).length c ∧ StepsAt w A L ∧ L.length ≤ c ∧ c ≤ maxLen := by
 obtain ⟨a0, len0, cap0, rfl⟩ := Go.WideShapes.okWide_slice Tryz.underlying22 hv
 obtain ⟨fuel, hf⟩ := h
 rcases DataW.trod_slice Tryz.underlying22 hf with ⟨hcs, _⟩ | ⟨a, len, cap, elems, rest, n, hn, hcs, _, _, hl, hm, hlen, hel, _, _⟩
 ·simp [Value.cells] at hcs
  obtain ⟨rfl, rfl, rfl⟩ := hcs
  exact ⟨none, [], 0, rfl, fun h => absurd h (by simp), Nat.le_refl _, Nat.zero_le _⟩
 ·simp [Value.cells] at hcs
  obtain ⟨rfl, rfl, rfl⟩ := hcs
  have hN : ∀ i, i < len0 → ∃ y : St, w.cells? base (a.add (i * 5)) 5 = some [.int .i64 y.kind, .int .i64 y.f, .int .u32 y.w, .string y.nm, .slice y.A y.b.length y.c] ∧ StRaw w y := fun i hi => by
   have h1 := hel i hi
   rw [step_cells] at h1
   have h2 : elems[i]? = some (elems[i]'(by omega)) := List.getElem?_eq_getElem (by omega)
   rw [h2, Option.bind_eq_some_iff] at h1
   obtain ⟨cs, hc, ht⟩ := h1
   obtain ⟨y, rfl, hy⟩ := open_step ht
   exact ⟨y, hc, hy⟩
  obtain ⟨L, hL, hx⟩ := list_of len0 hN
  subst hL
  refine ⟨some a, L, cap0, rfl, fun h0 => ?_, hl, hm⟩
  have hs : a.spot = none := by
   obtain ⟨y, hy, _⟩ := hN 0 h0
   obtain ⟨_, _, hat⟩ := World.cells?_some hy
   have := hat 0 (by omega)
   exact spot_none (by simpa [Addr.add] using this)
  obtain ⟨b, o, s⟩ := a
  simp only at hs
  subst hs
  refine ⟨b, o, rfl, fun i x hi => ?_⟩
  obtain ⟨hc, hr⟩ := hx i x hi
  rw [add_none] at hc
  obtain ⟨_, _, hat⟩ := World.cells?_some hc
  have hg : ∀ j, j < 5 → w.cell? ⟨b, o + i * 5 + j, none⟩ = [Value.int .i64 x.kind, .int .i64 x.f, .int .u32 x.w, .string x.nm, .slice x.A x.b.length x.c][j]? := fun j hj => by
   have := hat j hj
   rwa [add_none] at this
  exact ⟨hr, hg 0 (by omega), hg 1 (by omega), hg 2 (by omega), hg 3 (by omega), hg 4 (by omega)⟩
end
end Go.Proofs.YtggknljlibhkjaaGreat
