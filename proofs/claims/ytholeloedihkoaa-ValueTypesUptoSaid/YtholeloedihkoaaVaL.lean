/- What is proved: a shape that came in lies in memory as a tree of shapes. Conditions: none. -/
import Derived.Test.YtholeloedihkoaaVaF
import Derived.Deep.Slices
import Derived.Deep.Fields
import Derived.Deep.Strs
import Derived.ChangeSame
import Derived.ProofKit
import Derived.OpenShut
set_option linter.unusedSimpArgs false
set_option linter.unusedVariables false
namespace Go.Proofs.Ytholeloedihkoaa
open Go.RowKit Go.ChangeShapes Go.WideShapes Go.Deep
/-- shapes in a row, each with its parts -/
inductive SF where
  | nil : SF
  | cons (s : Sv) (ns : List ByteArray) (ks : SF) (r : SF) : SF
def SF.len : SF → Nat
  | .nil => 0
  | .cons _ _ _ r => r.len + 1
/-- a shape's own cells and names -/
structure SvOk (w : World) (s : Sv) (ns : List ByteArray) : Prop where
  k : -9223372036854775808 ≤ s.k ∧ s.k ≤ 9223372036854775807
  n : -9223372036854775808 ≤ s.n ∧ s.n ≤ 9223372036854775807
  nl : s.nl = ns.length
  nc : s.nl ≤ s.nc ∧ s.nc ≤ maxLen
  names : CellsAt w s.nA (ns.map .string)
  short : ∀ x ∈ ns, x.size ≤ maxLen
  pc : s.pl ≤ s.pc ∧ s.pc ≤ maxLen
def IsF (w : World) : Option Addr → SF → Prop
  | _, .nil => True
  | A, .cons s ns ks r => ∃ b o, A = some ⟨b, o, none⟩ ∧ w.cell? ⟨b, o, none⟩ = some (.int .i64 s.k) ∧ w.cell? ⟨b, o + 1, none⟩ = some (.int .i64 s.n) ∧ w.cell? ⟨b, o + 2, none⟩ = some (.slice s.nA s.nl s.nc) ∧ w.cell? ⟨b, o + 3, none⟩ = some (.slice s.pA s.pl s.pc) ∧ SvOk w s ns ∧ s.pl = ks.len ∧ IsF w s.pA ks ∧ IsF w (some ⟨b, o + 4, none⟩) r
/-- a shape, its parts -/
structure IsS (w : World) (s : Sv) (ns : List ByteArray) (ks : SF) : Prop where
  ok : SvOk w s ns
  len : s.pl = ks.len
  parts : IsF w s.pA ks
theorem SvOk.quiet {w w' : World} {s : Sv} {ns : List ByteArray} (h : SvOk w s ns) (hc : Chg NoB w w') : SvOk w' s ns :=
  ⟨h.k, h.n, h.nl, h.nc, h.names.chg hc fun _ _ => id, h.short, h.pc⟩
theorem IsF.quiet {w w' : World} (hc : Chg NoB w w') : ∀ (f : SF) {A : Option Addr}, IsF w A f → IsF w' A f
  | .nil, _, _ => trivial
  | .cons s ns ks r, _, ⟨b, o, hA, h0, h1, h2, h3, hs, hl, hk, hr⟩ =>
    ⟨b, o, hA, keepC hc h0, keepC hc h1, keepC hc h2, keepC hc h3, hs.quiet hc, hl, IsF.quiet hc ks hk, IsF.quiet hc r hr⟩
theorem IsS.quiet {w w' : World} {s : Sv} {ns : List ByteArray} {ks : SF} (h : IsS w s ns ks) (hc : Chg NoB w w') : IsS w' s ns ks :=
  ⟨h.ok.quiet hc, h.len, IsF.quiet hc ks h.parts⟩
section
variable {H : Type} {enc : TypeId × Value → H} {w : World} {base : Nat} {spare : Nat → Bool} {held : Bool}
theorem spot_none {a : Addr} {v : Value} (h : w.cell? a = some v) : a.spot = none := by
  unfold World.cell? at h
  split at h
  · split at h
    · cases h
    · rename_i hn; cases hs : a.spot with
      | none => rfl
      | some _ => rw [hs] at hn; simp at hn
  · cases h
def OpenL (w : World) (cs : List Value) : Prop := ∃ A n c f, cs = [.slice A n c] ∧ n ≤ c ∧ c ≤ maxLen ∧ n = f.len ∧ IsF w A f
def OpenS (w : World) (cs : List Value) : Prop := ∃ s ns ks, cs = [.int .i64 s.k, .int .i64 s.n, .slice s.nA s.nl s.nc, .slice s.pA s.pl s.pc] ∧ IsS w s ns ks
theorem shape_cells : Try.prog.cellsOf 25 = 4 := by kernel_rfl
theorem four {α : Type} {l : List α} (h : l.length = 4) : ∃ a b c d, l = [a, b, c, d] := by
  match l, h with
  | [a, b, c, d], _ => exact ⟨a, b, c, d, rfl⟩
theorem wf_i64 {n : Int} (h : (Lit.int .i64 n).wf = true) : -9223372036854775808 ≤ n ∧ n ≤ 9223372036854775807 := by
  have := bounds_i64 h; omega
theorem row_isF {a : Addr} {len : Nat} (hN : ∀ i, i < len → ∃ cs, w.cells? base (a.add (i * 4)) 4 = some cs ∧ OpenS w cs) : ∃ f, IsF w (some a) f ∧ f.len = len := by
  rcases Nat.eq_zero_or_pos len with h0 | h0
  · subst h0; exact ⟨.nil, trivial, rfl⟩
  have hs : a.spot = none := by
    obtain ⟨cs, hc, s, ns, ks, rfl, _⟩ := hN 0 h0
    obtain ⟨_, _, hat⟩ := World.cells?_some hc
    have := hat 0 (by omega)
    exact spot_none (by simpa [Addr.add] using this)
  obtain ⟨b, o, s⟩ := a
  simp only at hs
  subst hs
  have key : ∀ m, m ≤ len → ∃ f, IsF w (some ⟨b, o + (len - m) * 4, none⟩) f ∧ f.len = m := by
    intro m
    induction m with
    | zero => exact fun _ => ⟨.nil, trivial, rfl⟩
    | succ m ih =>
      intro hm
      obtain ⟨f, hf, hfl⟩ := ih (by omega)
      obtain ⟨cs, hc, s, ns, ks, rfl, hn⟩ := hN (len - (m + 1)) (by omega)
      rw [add_none] at hc
      obtain ⟨_, _, hat⟩ := World.cells?_some hc
      have hg : ∀ j, j < 4 → w.cell? ⟨b, o + (len - (m + 1)) * 4 + j, none⟩ = [Value.int .i64 s.k, .int .i64 s.n, .slice s.nA s.nl s.nc, .slice s.pA s.pl s.pc][j]? := fun j hj => by
        have := hat j hj
        rwa [add_none] at this
      have e : o + (len - m) * 4 = o + (len - (m + 1)) * 4 + 4 := by omega
      rw [e] at hf
      exact ⟨.cons s ns ks f, ⟨b, _, rfl, hg 0 (by omega), hg 1 (by omega), hg 2 (by omega), hg 3 (by omega), hn.ok, hn.len, hn.parts, hf⟩, by simp [SF.len, hfl]⟩
  have := key len (Nat.le_refl _)
  simpa using this
theorem open_both (fuel : Nat) : (∀ cs x, DataW.trod enc Try.prog w base spare held fuel 23 cs = some x → OpenL w cs) ∧ (∀ cs x, DataW.trod enc Try.prog w base spare held fuel 25 cs = some x → OpenS w cs) := by
  induction fuel with
  | zero => exact ⟨fun cs x h => by simp [DataW.trod] at h, fun cs x h => by simp [DataW.trod] at h⟩
  | succ fuel ih =>
    obtain ⟨ihL, ihN⟩ := ih
    refine ⟨fun cs x h => ?_, fun cs x h => ?_⟩
    · rcases DataW.trod_slice Try.underlying23 h with ⟨rfl, _⟩ | ⟨a, len, cap, elems, rest, n, hn, rfl, _, _, hl, hm, hlen, hel, _, _⟩
      · exact ⟨none, 0, 0, .nil, rfl, Nat.le_refl _, Nat.zero_le _, rfl, trivial⟩
      · obtain rfl : n = fuel := by omega
        obtain ⟨f, hf, hfl⟩ := row_isF (w := w) (base := base) (a := a) (len := len) (fun i hi => by
          have h1 := hel i hi
          rw [shape_cells] at h1
          have h2 : elems[i]? = some (elems[i]'(by omega)) := List.getElem?_eq_getElem (by omega)
          rw [h2, Option.bind_eq_some_iff] at h1
          obtain ⟨cs, hc, ht⟩ := h1
          exact ⟨cs, hc, ihN cs _ ht⟩)
        exact ⟨some a, len, cap, f, rfl, hl, hm, hfl.symm, hf⟩
    · obtain ⟨xs, n, hn, _, hlen, hxs, hg⟩ := DataW.trod_struct Try.underlying25 h
      obtain rfl : n = fuel := by omega
      rw [shape_cells] at hlen
      obtain ⟨v0, v1, v2, v3, rfl⟩ := four hlen
      have hx : ∀ i, i < 4 → ∃ y, xs[i]? = some y := fun i hi => ⟨_, List.getElem?_eq_getElem (by rw [hxs]; exact hi)⟩
      obtain ⟨y0, e0⟩ := hx 0 (by omega)
      obtain ⟨y1, e1⟩ := hx 1 (by omega)
      obtain ⟨y2, e2⟩ := hx 2 (by omega)
      obtain ⟨y3, e3⟩ := hx 3 (by omega)
      have g0 : DataW.trod enc Try.prog w base spare held n 3 (([v0, v1, v2, v3].drop 0).take (Try.prog.cellsOf 3)) = xs[0]? := hg 0 _ rfl
      have g1 : DataW.trod enc Try.prog w base spare held n 3 (([v0, v1, v2, v3].drop 1).take (Try.prog.cellsOf 3)) = xs[1]? := hg 1 _ rfl
      have g2 : DataW.trod enc Try.prog w base spare held n 22 (([v0, v1, v2, v3].drop 2).take (Try.prog.cellsOf 22)) = xs[2]? := hg 2 _ rfl
      have g3 : DataW.trod enc Try.prog w base spare held n 23 (([v0, v1, v2, v3].drop 3).take (Try.prog.cellsOf 23)) = xs[3]? := hg 3 _ rfl
      rw [e0] at g0
      rw [e1] at g1
      rw [e2] at g2
      rw [e3] at g3
      have c3 : Try.prog.cellsOf 3 = 1 := by kernel_rfl
      have c22 : Try.prog.cellsOf 22 = 1 := by kernel_rfl
      have c23 : Try.prog.cellsOf 23 = 1 := by kernel_rfl
      simp only [c3, c22, c23, List.drop_zero, List.drop_succ_cons, List.take_succ_cons, List.take_zero] at g0 g1 g2 g3
      obtain ⟨k, hk, _, wk⟩ := DataW.trod_int Try.underlying3 g0
      obtain ⟨m, hm, _, wm⟩ := DataW.trod_int Try.underlying3 g1
      obtain ⟨A, nn, c, f, hA, hl, hmax, hfl, hL⟩ := ihL _ _ g3
      have hnames : ∃ A len cap ns, v2 = .slice A len cap ∧ len = (ns : List ByteArray).length ∧ len ≤ cap ∧ cap ≤ maxLen ∧ CellsAt w A (ns.map .string) ∧ ∀ x ∈ ns, x.size ≤ maxLen := by
        rcases open_strs Try.underlying22 Try.underlying9 (by kernel_rfl) g2 with ⟨hcs, _⟩ | ⟨a, len, cap, mm, Sx, hcs, _, h1, h2, h3, _, h4⟩
        · simp only [List.cons.injEq, and_true] at hcs
          exact ⟨none, 0, 0, [], hcs, rfl, Nat.le_refl _, Nat.zero_le _, fun h => by simp at h, fun x hx => by simp at hx⟩
        · simp only [List.cons.injEq, and_true] at hcs
          have hlm : len ≤ mm := by rw [h3]; split <;> omega
          refine ⟨some a, len, cap, (List.range len).map Sx, hcs, by simp, h1, h2, fun _ => ⟨a, rfl, fun j u hu => ?_⟩, fun x hx => ?_⟩
          · rw [List.getElem?_map, List.getElem?_map] at hu
            rcases Nat.lt_or_ge j len with hj | hj
            · rw [List.getElem?_range hj] at hu
              obtain rfl : Value.string (Sx j) = u := by simpa using hu
              exact (h4 j (by omega)).1
            · rw [List.getElem?_eq_none (by simpa using hj)] at hu
              simp at hu
          · obtain ⟨j, hj, rfl⟩ := List.mem_map.1 hx
            exact (h4 j (by have := List.mem_range.1 hj; omega)).2
      obtain ⟨B, len, cap, ns, hB, h1, h2, h3, h4, h5⟩ := hnames
      simp only [List.cons.injEq, and_true] at hk hm hA
      subst hk hm hA hB
      exact ⟨⟨k, m, B, len, cap, A, nn, c⟩, ns, f, rfl, ⟨wf_i64 wk, wf_i64 wm, h1, ⟨h2, h3⟩, h4, h5, ⟨hl, hmax⟩⟩, hfl, hL⟩
/-- a shape that came in -/
theorem open_shape {v : Value} {d : DataW H} {p : List MemPlace} {b0 : Nat} (hv : Value.okWide Try.prog w .any b0 25 v) (h : DataW.Trod enc Try.prog w base spare held 25 v d p) :
    ∃ s ns ks, v = s.val ∧ IsS w s ns ks := by
  obtain ⟨cs, rfl, hsz⟩ := okWide_struct Try.underlying25 hv
  obtain ⟨fuel, hf⟩ := h
  obtain ⟨s, ns, ks, hcs, hN⟩ := (open_both fuel).2 _ _ hf
  refine ⟨s, ns, ks, ?_, hN⟩
  unfold Sv.val
  congr 1
  exact Array.toList_inj.1 hcs
end
end Go.Proofs.Ytholeloedihkoaa
