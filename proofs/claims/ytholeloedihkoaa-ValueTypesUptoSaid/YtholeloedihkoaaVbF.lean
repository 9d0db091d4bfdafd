/- What is proved: shapes and acts that came in, and what the bound gives of them. Conditions: the bound. -/
import Derived.Test.YtholeloedihkoaaVbC
set_option linter.unusedSimpArgs false
set_option linter.unusedVariables false
namespace Go.Proofs.Ytholeloedihkoaa
open Go.RowKit Go.ChangeShapes Go.WideShapes Go.Deep
theorem bulk_one {H : Type} (d : DataW H) : 1 ≤ Rows.uptoBulk d := by
  cases d with
  | lit l => cases l <;> simp [Rows.uptoBulk]
  | nil => simp [Rows.uptoBulk]
  | ptr d => simp [Rows.uptoBulk]
  | slice elems spare => simp [Rows.uptoBulk]
  | agg parts => simp [Rows.uptoBulk]
  | iface t d => simp [Rows.uptoBulk]
  | map entries => simp [Rows.uptoBulk]
  | held h => simp [Rows.uptoBulk]
theorem bulk_part {H : Type} {d : DataW H} {l : List (DataW H)} (h : d ∈ l) : Rows.uptoBulk d ≤ Rows.uptoBulkAll l := by
  induction l with
  | nil => cases h
  | cons x r ih =>
    simp only [Rows.uptoBulkAll]
    cases List.mem_cons.1 h with
    | inl e => subst e; omega
    | inr e => have := ih e; omega
theorem bulk_five {H : Type} {l : List (DataW H)} (h : ∀ d ∈ l, 5 ≤ Rows.uptoBulk d) : 5 * l.length ≤ Rows.uptoBulkAll l := by
  induction l with
  | nil => simp
  | cons x r ih =>
    simp only [Rows.uptoBulkAll, List.length_cons]
    have := h x (by simp)
    have := ih fun d hd => h d (by simp [hd])
    omega
theorem bulk_app {H : Type} (l r : List (DataW H)) : Rows.uptoBulkAll (l ++ r) = Rows.uptoBulkAll l + Rows.uptoBulkAll r := by
  induction l with
  | nil => simp [Rows.uptoBulkAll]
  | cons x l ih => simp only [List.cons_append, Rows.uptoBulkAll, ih]; omega
section
variable {H : Type} {enc : TypeId × Value → H} {w : World} {base : Nat} {spare : Nat → Bool} {held : Bool}
def OpenL2 (w : World) (cs : List Value) : Prop := ∃ A n c f, cs = [.slice A n c] ∧ n ≤ c ∧ c ≤ maxLen ∧ n = f.len ∧ IsF w A f ∧ f.len ≤ 209715 ∧ f.small
def OpenS2 (w : World) (cs : List Value) : Prop := ∃ s ns ks, cs = [.int .i64 s.k, .int .i64 s.n, .slice s.nA s.nl s.nc, .slice s.pA s.pl s.pc] ∧ IsS w s ns ks ∧ ks.len ≤ 209715 ∧ ks.small
theorem five_shape {fuel : Nat} {cs : List Value} {x : DataW H × List MemPlace} (h : DataW.trod enc Try.prog w base spare held fuel 25 cs = some x) : 5 ≤ Rows.uptoBulk x.1 := by
  obtain ⟨xs, n, hn, rfl, _, hxs, _⟩ := DataW.trod_struct Try.underlying25 h
  match xs, hxs with
  | [a, b, c, d], _ =>
    simp only [Rows.uptoBulk, List.map_cons, List.map_nil, Rows.uptoBulkAll]
    have := bulk_one a.1
    have := bulk_one b.1
    have := bulk_one c.1
    have := bulk_one d.1
    omega
theorem row_isF2 {a : Addr} {len : Nat} (hN : ∀ i, i < len → ∃ cs, w.cells? base (a.add (i * 4)) 4 = some cs ∧ OpenS2 w cs) : ∃ f, IsF w (some a) f ∧ f.len = len ∧ f.small := by
  rcases Nat.eq_zero_or_pos len with h0 | h0
  · subst h0; exact ⟨.nil, trivial, rfl, trivial⟩
  have hs : a.spot = none := by
    obtain ⟨cs, hc, s, ns, ks, rfl, _, _⟩ := hN 0 h0
    obtain ⟨_, _, hat⟩ := World.cells?_some hc
    have := hat 0 (by omega)
    exact spot_none (by simpa [Addr.add] using this)
  obtain ⟨b, o, s⟩ := a
  simp only at hs
  subst hs
  have key : ∀ m, m ≤ len → ∃ f, IsF w (some ⟨b, o + (len - m) * 4, none⟩) f ∧ f.len = m ∧ f.small := by
    intro m
    induction m with
    | zero => exact fun _ => ⟨.nil, trivial, rfl, trivial⟩
    | succ m ih =>
      intro hm
      obtain ⟨f, hf, hfl, hfs⟩ := ih (by omega)
      obtain ⟨cs, hc, s, ns, ks, rfl, hn, hsm⟩ := hN (len - (m + 1)) (by omega)
      rw [add_none] at hc
      obtain ⟨_, _, hat⟩ := World.cells?_some hc
      have hg : ∀ j, j < 4 → w.cell? ⟨b, o + (len - (m + 1)) * 4 + j, none⟩ = [Value.int .i64 s.k, .int .i64 s.n, .slice s.nA s.nl s.nc, .slice s.pA s.pl s.pc][j]? := fun j hj => by
        have := hat j hj
        rwa [add_none] at this
      have e : o + (len - m) * 4 = o + (len - (m + 1)) * 4 + 4 := by omega
      rw [e] at hf
      exact ⟨.cons s ns ks f, ⟨b, _, rfl, hg 0 (by omega), hg 1 (by omega), hg 2 (by omega), hg 3 (by omega), hn.ok, hn.len, hn.parts, hf⟩, by simp [SF.len, hfl], ⟨hsm.1, hsm.2, hfs⟩⟩
  have := key len (Nat.le_refl _)
  simpa using this
theorem open_both2 (fuel : Nat) : (∀ cs x, DataW.trod enc Try.prog w base spare held fuel 23 cs = some x → Rows.uptoBulk x.1 ≤ 1048576 → OpenL2 w cs) ∧ (∀ cs x, DataW.trod enc Try.prog w base spare held fuel 25 cs = some x → Rows.uptoBulk x.1 ≤ 1048576 → OpenS2 w cs) := by
  induction fuel with
  | zero => exact ⟨fun cs x h _ => by simp [DataW.trod] at h, fun cs x h _ => by simp [DataW.trod] at h⟩
  | succ fuel ih =>
    obtain ⟨ihL, ihN⟩ := ih
    refine ⟨fun cs x h hbk => ?_, fun cs x h hbk => ?_⟩
    · rcases DataW.trod_slice Try.underlying23 h with ⟨rfl, _⟩ | ⟨a, len, cap, elems, rest, n, hn, rfl, hxe, _, hl, hm, hlen, hel, _, _⟩
      · exact ⟨none, 0, 0, .nil, rfl, Nat.le_refl _, Nat.zero_le _, rfl, trivial, by simp [SF.len], trivial⟩
      · obtain rfl : n = fuel := by omega
        subst hxe
        have hbe : ∀ (i : Nat) y, elems[i]? = some y → Rows.uptoBulk y.1 ≤ 1048576 := fun i y hy => by
          have := bulk_part (List.mem_map_of_mem (f := (·.1)) (List.mem_of_getElem? hy))
          simp only [Rows.uptoBulk] at hbk
          omega
        have hb5 : 5 * elems.length + 1 ≤ Rows.uptoBulk (DataW.slice (elems.map (·.1)) (rest.map (·.1))) := by
          simp only [Rows.uptoBulk]
          have := bulk_five (l := elems.map (·.1)) (fun d hd => by
            obtain ⟨y, hy, rfl⟩ := List.mem_map.1 hd
            obtain ⟨i, hi⟩ := List.mem_iff_getElem?.1 hy
            have h1 := hel i (by have := (List.getElem?_eq_some_iff.1 hi).1; omega)
            rw [hi, Option.bind_eq_some_iff] at h1
            obtain ⟨cs, _, ht⟩ := h1
            exact five_shape ht)
          rw [List.length_map] at this
          omega
        obtain ⟨f, hf, hfl, hfs⟩ := row_isF2 (w := w) (base := base) (a := a) (len := len) (fun i hi => by
          have h1 := hel i hi
          rw [shape_cells] at h1
          have h2 : elems[i]? = some (elems[i]'(by omega)) := List.getElem?_eq_getElem (by omega)
          rw [h2, Option.bind_eq_some_iff] at h1
          obtain ⟨cs, hc, ht⟩ := h1
          exact ⟨cs, hc, ihN cs _ ht (hbe i _ h2)⟩)
        exact ⟨some a, len, cap, f, rfl, hl, hm, hfl.symm, hf, by simp only at hbk; omega, hfs⟩
    · obtain ⟨xs, n, hn, hxe, hlen, hxs, hg⟩ := DataW.trod_struct Try.underlying25 h
      obtain rfl : n = fuel := by omega
      rw [shape_cells] at hlen
      obtain ⟨v0, v1, v2, v3, rfl⟩ := four hlen
      have hx : ∀ i, i < 4 → ∃ y, xs[i]? = some y := fun i hi => ⟨_, List.getElem?_eq_getElem (by rw [hxs]; exact hi)⟩
      obtain ⟨y0, e0⟩ := hx 0 (by omega)
      obtain ⟨y1, e1⟩ := hx 1 (by omega)
      obtain ⟨y2, e2⟩ := hx 2 (by omega)
      obtain ⟨y3, e3⟩ := hx 3 (by omega)
      have g0 : DataW.trod enc Try.prog w base spare held n 3 (([v0, v1, v2, v3].drop 0).take (Try.prog.cellsOf 3)) = xs[0]? := hg 0 _ rfl
      have g1 : DataW.trod enc Try.prog w base spare held n 3 (([v0, v1, v2, v3].drop 1).take (Try.prog.cellsOf 3)) = xs[1]? := hg 1 _ rfl
      have g2 : DataW.trod enc Try.prog w base spare held n 22 (([v0, v1, v2, v3].drop 2).take (Try.prog.cellsOf 22)) = xs[2]? := hg 2 _ rfl
      have g3 : DataW.trod enc Try.prog w base spare held n 23 (([v0, v1, v2, v3].drop 3).take (Try.prog.cellsOf 23)) = xs[3]? := hg 3 _ rfl
      rw [e0] at g0
      rw [e1] at g1
      rw [e2] at g2
      rw [e3] at g3
      have c3 : Try.prog.cellsOf 3 = 1 := by kernel_rfl
      have c22 : Try.prog.cellsOf 22 = 1 := by kernel_rfl
      have c23 : Try.prog.cellsOf 23 = 1 := by kernel_rfl
      simp only [c3, c22, c23, List.drop_zero, List.drop_succ_cons, List.take_succ_cons, List.take_zero] at g0 g1 g2 g3
      obtain ⟨k, hk, _, wk⟩ := DataW.trod_int Try.underlying3 g0
      obtain ⟨m, hm, _, wm⟩ := DataW.trod_int Try.underlying3 g1
      subst hxe
      have hb3 : Rows.uptoBulk y3.1 ≤ 1048576 := by
        have := bulk_part (List.mem_map_of_mem (f := (·.1)) (List.mem_of_getElem? e3))
        simp only [Rows.uptoBulk] at hbk
        omega
      obtain ⟨A, nn, c, f, hA, hl, hmax, hfl, hL, hfw, hfs⟩ := ihL _ _ g3 hb3
      have hnames : ∃ A len cap ns, v2 = .slice A len cap ∧ len = (ns : List ByteArray).length ∧ len ≤ cap ∧ cap ≤ maxLen ∧ CellsAt w A (ns.map .string) ∧ ∀ x ∈ ns, x.size ≤ maxLen := by
        rcases open_strs Try.underlying22 Try.underlying9 (by kernel_rfl) g2 with ⟨hcs, _⟩ | ⟨a, len, cap, mm, Sx, hcs, _, h1, h2, h3, _, h4⟩
        · simp only [List.cons.injEq, and_true] at hcs
          exact ⟨none, 0, 0, [], hcs, rfl, Nat.le_refl _, Nat.zero_le _, fun h => by simp at h, fun x hx => by simp at hx⟩
        · simp only [List.cons.injEq, and_true] at hcs
          have hlm : len ≤ mm := by rw [h3]; split <;> omega
          refine ⟨some a, len, cap, (List.range len).map Sx, hcs, by simp, h1, h2, fun _ => ⟨a, rfl, fun j u hu => ?_⟩, fun x hx => ?_⟩
          · rw [List.getElem?_map, List.getElem?_map] at hu
            rcases Nat.lt_or_ge j len with hj | hj
            · rw [List.getElem?_range hj] at hu
              obtain rfl : Value.string (Sx j) = u := by simpa using hu
              exact (h4 j (by omega)).1
            · rw [List.getElem?_eq_none (by simpa using hj)] at hu
              simp at hu
          · obtain ⟨j, hj, rfl⟩ := List.mem_map.1 hx
            exact (h4 j (by have := List.mem_range.1 hj; omega)).2
      obtain ⟨B, len, cap, ns, hB, h1, h2, h3, h4, h5⟩ := hnames
      simp only [List.cons.injEq, and_true] at hk hm hA
      subst hk hm hA hB
      exact ⟨⟨k, m, B, len, cap, A, nn, c⟩, ns, f, rfl, ⟨⟨wf_i64 wk, wf_i64 wm, h1, ⟨h2, h3⟩, h4, h5, ⟨hl, hmax⟩⟩, hfl, hL⟩, hfw, hfs⟩
/-- a shape that came in -/
theorem open_shape2 {v : Value} {d : DataW H} {p : List MemPlace} {b0 : Nat} (hv : Value.okWide Try.prog w .any b0 25 v) (h : DataW.Trod enc Try.prog w base spare held 25 v d p) (hb : Rows.uptoBulk d ≤ 1048576) :
    ∃ s ns ks, v = s.val ∧ IsS w s ns ks ∧ ks.len ≤ 209715 ∧ ks.small := by
  obtain ⟨cs, rfl, hsz⟩ := okWide_struct Try.underlying25 hv
  obtain ⟨fuel, hf⟩ := h
  obtain ⟨s, ns, ks, hcs, hN, hsm⟩ := (open_both2 fuel).2 _ _ hf hb
  refine ⟨s, ns, ks, ?_, hN, hsm⟩
  unfold Sv.val
  congr 1
  exact Array.toList_inj.1 hcs
/-- an act -/
structure ActD where
  pA : Option Addr
  path : List Int
  pc : Nat
  word : Int
  tgt : Int
structure IsAct (w : World) (a : ActD) : Prop where
  row : CellsAt w a.pA (a.path.map (.int .i64))
  pc : a.path.length ≤ a.pc ∧ a.pc ≤ maxLen
  ints : ∀ x ∈ a.path, -9223372036854775808 ≤ x ∧ x ≤ 9223372036854775807
  word : 0 ≤ a.word ∧ a.word < 4294967296
def IsActs (w : World) (A : Option Addr) (l : List ActD) : Prop := ∀ (i : Nat) a, l[i]? = some a → ∃ b o, A = some ⟨b, o, none⟩ ∧ w.cell? ⟨b, o + i * 3, none⟩ = some (.slice a.pA a.path.length a.pc) ∧ w.cell? ⟨b, o + i * 3 + 1, none⟩ = some (.int .u32 a.word) ∧ w.cell? ⟨b, o + i * 3 + 2, none⟩ = some (.int .i64 a.tgt) ∧ IsAct w a
theorem three_ {α : Type} {l : List α} (h : l.length = 3) : ∃ a b c, l = [a, b, c] := by
  match l, h with
  | [a, b, c], _ => exact ⟨a, b, c, rfl⟩
theorem act_cells : Try.prog.cellsOf 62 = 3 := by kernel_rfl
theorem open_act {fuel : Nat} {cs : List Value} {x : DataW H × List MemPlace} (h : DataW.trod enc Try.prog w base spare held fuel 62 cs = some x) : ∃ a : ActD, cs = [.slice a.pA a.path.length a.pc, .int .u32 a.word, .int .i64 a.tgt] ∧ IsAct w a := by
  obtain ⟨xs, n, hn, _, hlen, hxs, hg⟩ := DataW.trod_struct Try.underlying62 h
  rw [act_cells] at hlen
  obtain ⟨v0, v1, v2, rfl⟩ := three_ hlen
  have hx : ∀ i, i < 3 → ∃ y, xs[i]? = some y := fun i hi => ⟨_, List.getElem?_eq_getElem (by rw [hxs]; exact hi)⟩
  obtain ⟨y0, e0⟩ := hx 0 (by omega)
  obtain ⟨y1, e1⟩ := hx 1 (by omega)
  obtain ⟨y2, e2⟩ := hx 2 (by omega)
  have g0 : DataW.trod enc Try.prog w base spare held n 60 (([v0, v1, v2].drop 0).take (Try.prog.cellsOf 60)) = xs[0]? := hg 0 _ rfl
  have g1 : DataW.trod enc Try.prog w base spare held n 33 (([v0, v1, v2].drop 1).take (Try.prog.cellsOf 33)) = xs[1]? := hg 1 _ rfl
  have g2 : DataW.trod enc Try.prog w base spare held n 3 (([v0, v1, v2].drop 2).take (Try.prog.cellsOf 3)) = xs[2]? := hg 2 _ rfl
  rw [e0] at g0
  rw [e1] at g1
  rw [e2] at g2
  have c3 : Try.prog.cellsOf 3 = 1 := by kernel_rfl
  have c33 : Try.prog.cellsOf 33 = 1 := by kernel_rfl
  have c60 : Try.prog.cellsOf 60 = 1 := by kernel_rfl
  simp only [c3, c33, c60, List.drop_zero, List.drop_succ_cons, List.take_succ_cons, List.take_zero] at g0 g1 g2
  obtain ⟨wd, hw, _, ww⟩ := DataW.trod_int Try.underlying33 g1
  obtain ⟨m, hm, _, wm⟩ := DataW.trod_int Try.underlying3 g2
  have hints : ∃ A len cap ns, v0 = .slice A len cap ∧ len = (ns : List Int).length ∧ len ≤ cap ∧ cap ≤ maxLen ∧ CellsAt w A (ns.map (.int .i64)) ∧ ∀ x ∈ ns, -9223372036854775808 ≤ x ∧ x ≤ 9223372036854775807 := by
    rcases open_ints Try.underlying60 Try.underlying3 c3 g0 with ⟨hcs, _⟩ | ⟨a, len, cap, zs, hcs, _, h1, h2, h3, _, h4, h5⟩
    · simp only [List.cons.injEq, and_true] at hcs
      exact ⟨none, 0, 0, [], hcs, rfl, Nat.le_refl _, Nat.zero_le _, fun h => by simp at h, fun x hx => by simp at hx⟩
    · simp only [List.cons.injEq, and_true] at hcs
      have hlm : len ≤ zs.length := by rw [h3]; split <;> omega
      refine ⟨some a, len, cap, zs.take len, hcs, by rw [List.length_take]; omega, h1, h2, fun _ => ⟨a, rfl, fun j u hu => ?_⟩, fun x hx => wf_i64 (h5 x (List.mem_of_mem_take hx))⟩
      rw [List.getElem?_map, List.getElem?_take] at hu
      split at hu
      · rename_i hj
        rw [h4 j (by omega)]
        have : zs[j]? = some (zs.getD j 0) := by rw [List.getD_eq_getElem?_getD, List.getElem?_eq_getElem (by omega)]; rfl
        rw [this] at hu
        simpa using hu
      · cases hu
  obtain ⟨A, len, cap, ns, hA, h1, h2, h3, h4, h5⟩ := hints
  simp only [List.cons.injEq, and_true] at hw hm
  subst hw hm hA h1
  exact ⟨⟨A, ns, cap, wd, m⟩, rfl, h4, ⟨h2, h3⟩, h5, by have := bounds_u32 ww; show 0 ≤ wd ∧ wd < 4294967296; omega⟩
theorem open_acts {v : Value} {d : DataW H} {p : List MemPlace} {b0 : Nat} (hv : Value.okWide Try.prog w .any b0 56 v) (h : DataW.Trod enc Try.prog w base spare held 56 v d p) :
    ∃ A c l, v = .slice A (l : List ActD).length c ∧ l.length ≤ c ∧ c ≤ maxLen ∧ IsActs w A l := by
  obtain ⟨a0, len0, cap0, rfl⟩ := okWide_slice Try.underlying56 hv
  obtain ⟨fuel, hf⟩ := h
  rcases DataW.trod_slice Try.underlying56 hf with ⟨hcs, _⟩ | ⟨a, len, cap, elems, rest, n, hn, hcs, _, _, hl, hm, hlen, hel, _, _⟩
  · simp [Value.cells] at hcs
    obtain ⟨rfl, rfl, rfl⟩ := hcs
    exact ⟨none, 0, [], rfl, Nat.le_refl _, Nat.zero_le _, fun i a h => by simp at h⟩
  · simp [Value.cells] at hcs
    obtain ⟨rfl, rfl, rfl⟩ := hcs
    have hA : ∀ i, ∃ x : ActD, i < len0 → ∃ cs, w.cells? base (a.add (i * 3)) 3 = some cs ∧ cs = [.slice x.pA x.path.length x.pc, .int .u32 x.word, .int .i64 x.tgt] ∧ IsAct w x := fun i => by
      by_cases hi : i < len0
      · have h1 := hel i hi
        rw [act_cells] at h1
        have h2 : elems[i]? = some (elems[i]'(by omega)) := List.getElem?_eq_getElem (by omega)
        rw [h2, Option.bind_eq_some_iff] at h1
        obtain ⟨cs, hc, ht⟩ := h1
        obtain ⟨x, h3, h4⟩ := open_act ht
        exact ⟨x, fun _ => ⟨cs, hc, h3, h4⟩⟩
      · exact ⟨⟨none, [], 0, 0, 0⟩, fun h => absurd h hi⟩
    obtain ⟨F, hF⟩ := Classical.axiomOfChoice hA
    refine ⟨some a, cap0, (List.range len0).map F, by simp, by simpa using hl, hm, fun i x hx => ?_⟩
    rw [List.getElem?_map] at hx
    have hi : i < len0 := by
      rcases Nat.lt_or_ge i len0 with h | h
      · exact h
      · rw [List.getElem?_eq_none (by simpa using h)] at hx; cases hx
    rw [List.getElem?_range hi] at hx
    simp only [Option.map_some, Option.some.injEq] at hx
    subst hx
    obtain ⟨cs, hc, rfl, h4⟩ := hF i hi
    obtain ⟨_, _, hat⟩ := World.cells?_some hc
    have h0 := hat 0 (by omega)
    have h1 := hat 1 (by omega)
    have h2 := hat 2 (by omega)
    simp only [List.getElem?_cons_zero, List.getElem?_cons_succ] at h0 h1 h2
    have hs : a.spot = none := by
      obtain ⟨cs, hc, rfl, _⟩ := hF 0 (by omega)
      obtain ⟨_, _, hat⟩ := World.cells?_some hc
      have h0 := hat 0 (by omega)
      exact spot_none (by simpa [Addr.add] using h0)
    obtain ⟨b, o, s⟩ := a
    simp only at hs
    subst hs
    rw [add_none, add_none] at h0 h1 h2
    exact ⟨b, o, rfl, h0, h1, h2, h4⟩
end
end Go.Proofs.Ytholeloedihkoaa
