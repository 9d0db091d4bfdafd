/- What is proved: a node that came in lies in memory as a tree. Conditions: none. -/
import Derived.Test.YtnihjkcniddepaaKnown
import Derived.Deep.Slices
import Derived.Deep.Fields
import Derived.ChangeSame
import Derived.ProofKit
import Derived.OpenShut
namespace Go.Proofs.Ytnihjkcniddepaa
open Go.RowKit Go.ChangeShapes Go.WideShapes Go.Deep
section
variable {H : Type} {enc : TypeId × Value → H} {w : World} {base : Nat} {spare : Nat → Bool} {held : Bool}
theorem add_none (b o n : Nat) : (⟨b, o, none⟩ : Addr).add n = ⟨b, o + n, none⟩ := by unfold Addr.add; split <;> simp_all
theorem spot_none {a : Addr} {v : Value} (h : w.cell? a = some v) : a.spot = none := by
  unfold World.cell? at h
  split at h
  · split at h
    · cases h
    · rename_i hn; cases hs : a.spot with
      | none => rfl
      | some _ => rw [hs] at hn; simp at hn
  · cases h
def OpenL (w : World) (cs : List Value) : Prop := ∃ A n c f, cs = [.slice A n c] ∧ n ≤ c ∧ c ≤ maxLen ∧ IsL w A n f
def OpenN (w : World) (cs : List Value) : Prop := ∃ d ks kA kn kc, cs = [.int .i64 d.kind, .string d.nm, .int .u32 d.val, .bool d.mark, .slice kA kn kc] ∧ IsN w d ks kA kn kc
theorem node_cells : Try.prog.cellsOf 28 = 5 := by kernel_rfl
theorem five {α : Type} {l : List α} (h : l.length = 5) : ∃ a b c d e, l = [a, b, c, d, e] := by
  match l, h with
  | [a, b, c, d, e], _ => exact ⟨a, b, c, d, e, rfl⟩
theorem wf_i64 {n : Int} (h : (Lit.int .i64 n).wf = true) : -9223372036854775808 ≤ n ∧ n ≤ 9223372036854775807 := by
  have := bounds_i64 h; omega
theorem wf_u32 {n : Int} (h : (Lit.int .u32 n).wf = true) : 0 ≤ n ∧ n ≤ 4294967295 := by
  have := bounds_u32 h; omega
theorem row_isL {a : Addr} {len : Nat} (hN : ∀ i, i < len → ∃ cs, w.cells? base (a.add (i * 5)) 5 = some cs ∧ OpenN w cs) : ∃ f, IsL w (some a) len f := by
  rcases Nat.eq_zero_or_pos len with h0 | h0
  · subst h0; exact ⟨.nil, rfl⟩
  have hs : a.spot = none := by
    obtain ⟨cs, hc, d, ks, kA, kn, kc, rfl, _⟩ := hN 0 h0
    obtain ⟨_, _, hat⟩ := World.cells?_some hc
    have := hat 0 (by omega)
    exact spot_none (by simpa [Addr.add] using this)
  obtain ⟨b, o, s⟩ := a
  simp only at hs
  subst hs
  have key : ∀ m, m ≤ len → ∃ f, IsL w (some ⟨b, o + (len - m) * 5, none⟩) m f := by
    intro m
    induction m with
    | zero => exact fun _ => ⟨.nil, rfl⟩
    | succ m ih =>
      intro hm
      obtain ⟨f, hf⟩ := ih (by omega)
      obtain ⟨cs, hc, d, ks, kA, kn, kc, rfl, hn⟩ := hN (len - (m + 1)) (by omega)
      rw [add_none] at hc
      obtain ⟨_, _, hat⟩ := World.cells?_some hc
      have hg : ∀ j, j < 5 → w.cell? ⟨b, o + (len - (m + 1)) * 5 + j, none⟩ = [Value.int .i64 d.kind, .string d.nm, .int .u32 d.val, .bool d.mark, .slice kA kn kc][j]? := fun j hj => by
        have := hat j hj
        rwa [add_none] at this
      have e : o + (len - m) * 5 = o + (len - (m + 1)) * 5 + 5 := by omega
      rw [e] at hf
      exact ⟨.cons d ks f, b, _, kA, kn, kc, m, rfl, rfl, hn.ok, hn.le, hn.most, hg 0 (by omega), hg 1 (by omega), hg 2 (by omega), hg 3 (by omega), hg 4 (by omega), hn.kids, hf⟩
  have := key len (Nat.le_refl _)
  simpa using this
theorem open_both (fuel : Nat) : (∀ cs x, DataW.trod enc Try.prog w base spare held fuel 26 cs = some x → OpenL w cs) ∧ (∀ cs x, DataW.trod enc Try.prog w base spare held fuel 28 cs = some x → OpenN w cs) := by
  induction fuel with
  | zero => exact ⟨fun cs x h => by simp [DataW.trod] at h, fun cs x h => by simp [DataW.trod] at h⟩
  | succ fuel ih =>
    obtain ⟨ihL, ihN⟩ := ih
    refine ⟨fun cs x h => ?_, fun cs x h => ?_⟩
    · rcases DataW.trod_slice Try.underlying26 h with ⟨rfl, _⟩ | ⟨a, len, cap, elems, rest, n, hn, rfl, _, _, hl, hm, hlen, hel, _, _⟩
      · exact ⟨none, 0, 0, .nil, rfl, Nat.le_refl _, Nat.zero_le _, rfl⟩
      · obtain rfl : n = fuel := by omega
        obtain ⟨f, hf⟩ := row_isL (w := w) (base := base) (a := a) (len := len) (fun i hi => by
          have h1 := hel i hi
          rw [node_cells] at h1
          have h2 : elems[i]? = some (elems[i]'(by omega)) := List.getElem?_eq_getElem (by omega)
          rw [h2, Option.bind_eq_some_iff] at h1
          obtain ⟨cs, hc, ht⟩ := h1
          exact ⟨cs, hc, ihN cs _ ht⟩)
        exact ⟨some a, len, cap, f, rfl, hl, hm, hf⟩
    · obtain ⟨xs, n, hn, _, hlen, hxs, hg⟩ := DataW.trod_struct Try.underlying28 h
      obtain rfl : n = fuel := by omega
      rw [node_cells] at hlen
      obtain ⟨v0, v1, v2, v3, v4, rfl⟩ := five hlen
      have hx : ∀ i, i < 5 → ∃ y, xs[i]? = some y := fun i hi => ⟨_, List.getElem?_eq_getElem (by rw [hxs]; exact hi)⟩
      obtain ⟨y0, e0⟩ := hx 0 (by omega)
      obtain ⟨y1, e1⟩ := hx 1 (by omega)
      obtain ⟨y2, e2⟩ := hx 2 (by omega)
      obtain ⟨y3, e3⟩ := hx 3 (by omega)
      obtain ⟨y4, e4⟩ := hx 4 (by omega)
      have g0 : DataW.trod enc Try.prog w base spare held n 24 (([v0, v1, v2, v3, v4].drop 0).take (Try.prog.cellsOf 24)) = xs[0]? := hg 0 _ rfl
      have g1 : DataW.trod enc Try.prog w base spare held n 9 (([v0, v1, v2, v3, v4].drop 1).take (Try.prog.cellsOf 9)) = xs[1]? := hg 1 _ rfl
      have g2 : DataW.trod enc Try.prog w base spare held n 25 (([v0, v1, v2, v3, v4].drop 2).take (Try.prog.cellsOf 25)) = xs[2]? := hg 2 _ rfl
      have g3 : DataW.trod enc Try.prog w base spare held n 4 (([v0, v1, v2, v3, v4].drop 3).take (Try.prog.cellsOf 4)) = xs[3]? := hg 3 _ rfl
      have g4 : DataW.trod enc Try.prog w base spare held n 26 (([v0, v1, v2, v3, v4].drop 4).take (Try.prog.cellsOf 26)) = xs[4]? := hg 4 _ rfl
      rw [e0] at g0
      rw [e1] at g1
      rw [e2] at g2
      rw [e3] at g3
      rw [e4] at g4
      have c24 : Try.prog.cellsOf 24 = 1 := by kernel_rfl
      have c9 : Try.prog.cellsOf 9 = 1 := by kernel_rfl
      have c25 : Try.prog.cellsOf 25 = 1 := by kernel_rfl
      have c4 : Try.prog.cellsOf 4 = 1 := by kernel_rfl
      have c26 : Try.prog.cellsOf 26 = 1 := by kernel_rfl
      simp only [c24, c9, c25, c4, c26, List.drop_zero, List.drop_succ_cons, List.take_succ_cons, List.take_zero] at g0 g1 g2 g3 g4
      obtain ⟨k, hk, _, wk⟩ := DataW.trod_int Try.underlying24 g0
      obtain ⟨s, hs, _, ws⟩ := DataW.trod_string Try.underlying9 g1
      obtain ⟨v, hv, _, wv⟩ := DataW.trod_int Try.underlying25 g2
      obtain ⟨m, hm, _⟩ := DataW.trod_bool Try.underlying4 g3
      obtain ⟨A, nn, c, f, hA, hl, hmax, hL⟩ := ihL _ _ g4
      simp only [List.cons.injEq, and_true] at hk hs hv hm hA
      subst hk hs hv hm hA
      exact ⟨⟨k, s, v, m⟩, f, A, nn, c, rfl, ⟨wf_i64 wk, ws, wf_u32 wv⟩, hl, hmax, hL⟩
/-- a node that came in -/
theorem open_node {v : Value} {d : DataW H} {p : List MemPlace} {b0 : Nat} (hv : Value.okWide Try.prog w .any b0 28 v) (h : DataW.Trod enc Try.prog w base spare held 28 v d p) :
    ∃ d ks kA kn kc, v = nodeV d kA kn kc ∧ IsN w d ks kA kn kc := by
  obtain ⟨cs, rfl, hsz⟩ := okWide_struct Try.underlying28 hv
  obtain ⟨fuel, hf⟩ := h
  obtain ⟨d, ks, kA, kn, kc, hcs, hN⟩ := (open_both fuel).2 _ _ hf
  refine ⟨d, ks, kA, kn, kc, ?_, hN⟩
  unfold nodeV
  congr 1
  exact Array.toList_inj.1 hcs
end
end Go.Proofs.Ytnihjkcniddepaa
