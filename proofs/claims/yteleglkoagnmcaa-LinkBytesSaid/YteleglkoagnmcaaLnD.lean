/- What is proved: objects that came in lie in memory as a list of objects. Conditions: none. -/
import Derived.Test.YteleglkoagnmcaaLkD
import Derived.Deep.Slices
import Derived.Deep.Fields
import Derived.ChangeSame
import Derived.ProofKit
import Derived.OpenShut
set_option linter.unusedSimpArgs false
set_option linter.unusedVariables false
namespace Go.Proofs.Yteleglkoagnmcaa
open Go Go.RowKit Go.ChangeShapes Go.WideShapes Go.Deep
theorem list_of' {α : Type} {P : Nat → α → Prop} : ∀ n : Nat, (∀ i, i < n → ∃ x, P i x) → ∃ L : List α, L.length = n ∧ ∀ i x, L[i]? = some x → P i x
  | 0, _ => ⟨[], rfl, fun i x h => by simp at h⟩
  | n + 1, h => by
    obtain ⟨L, h1, h2⟩ := list_of' n fun i hi => h i (by omega)
    obtain ⟨x, hx⟩ := h n (by omega)
    refine ⟨L ++ [x], by simp [h1], fun i y hy => ?_⟩
    rcases Nat.lt_or_ge i n with hlt | hge
    · rw [List.getElem?_append_left (by omega)] at hy
      exact h2 i y hy
    · have hi : i < (L ++ [x]).length := (List.getElem?_eq_some_iff.1 hy).1
      have : i = n := by simp at hi; omega
      subst this
      rw [List.getElem?_append_right (by omega), h1, Nat.sub_self] at hy
      simp at hy
      subst hy
      exact hx
theorem add_add (a : Addr) (i j : Nat) : (a.add i).add j = a.add (i + j) := by
  unfold Addr.add
  by_cases hi : i = 0
  · subst hi
    simp
  · by_cases hj : j = 0
    · subst hj
      simp
    · rw [if_neg hi, if_neg hj, if_neg (by omega)]
      simp [Nat.add_assoc]
theorem flatm_get {α β : Type} {f : α → List β} {k : Nat} (hf : ∀ x, (f x).length = k) (hk : 0 < k) : ∀ (l : List α) (j : Nat) (u : β), (l.flatMap f)[j]? = some u → ∃ x, l[j / k]? = some x ∧ (f x)[j % k]? = some u
  | [], j, u, h => by simp at h
  | x :: l, j, u, h => by
    rw [List.flatMap_cons] at h
    rcases Nat.lt_or_ge j k with hlt | hge
    · rw [List.getElem?_append_left (by rw [hf]; exact hlt)] at h
      exact ⟨x, by rw [Nat.div_eq_of_lt hlt]; rfl, by rw [Nat.mod_eq_of_lt hlt]; exact h⟩
    · rw [List.getElem?_append_right (by rw [hf]; exact hge), hf] at h
      obtain ⟨y, h1, h2⟩ := flatm_get hf hk l (j - k) u h
      have e1 : j / k = (j - k) / k + 1 := by rw [← Nat.div_eq_sub_div hk hge]
      have e2 : j % k = (j - k) % k := (Nat.mod_eq_sub_mod hge)
      exact ⟨y, by rw [e1]; exact h1, by rw [e2]; exact h2⟩
section
variable {H : Type} {enc : TypeId × Value → H} {w : World} {base : Nat} {held : Bool}
/-- rows of things of k cells each -/
theorem open_rows {α : Type} {T E : TypeId} {k : Nat} {cells : α → List Value} {ok : α → Prop} (hu : Try.prog.underlying T = some (.slice E)) (hk : Try.prog.cellsOf E = k) (h0 : 0 < k) (hlen : ∀ y, (cells y).length = k)
    (hel : ∀ {fuel : Nat} {cs : List Value} {x : DataW H × List MemPlace}, DataW.trod enc Try.prog w base (fun _ => true) held fuel E cs = some x → ∃ y, cs = cells y ∧ ok y)
    {fuel : Nat} {v : Value} {x : DataW H × List MemPlace} (h : DataW.trod enc Try.prog w base (fun _ => true) held fuel T [v] = some x) :
    ∃ (A : Option Addr) (l : List α) (c : Nat), v = .slice A l.length c ∧ CellsAt w A (l.flatMap cells) ∧ (∀ y ∈ l, ok y) ∧ l.length ≤ c ∧ c ≤ maxLen := by
  rcases DataW.trod_slice hu h with ⟨hcs, _⟩ | ⟨a, len, cap, elems, rest, n, hn, hcs, _, _, hl, hm, hlen2, hel2, _, _⟩
  · simp only [List.cons.injEq, and_true] at hcs
    exact ⟨none, [], 0, hcs, fun h => by simp at h, by simp, Nat.le_refl _, Nat.zero_le _⟩
  · simp only [List.cons.injEq, and_true] at hcs
    have hN : ∀ i, i < len → ∃ y : α, w.cells? base (a.add (i * k)) k = some (cells y) ∧ ok y := fun i hi => by
      have h1 := hel2 i hi
      rw [hk] at h1
      have h2 : elems[i]? = some (elems[i]'(by omega)) := List.getElem?_eq_getElem (by omega)
      rw [h2, Option.bind_eq_some_iff] at h1
      obtain ⟨cs, hc, ht⟩ := h1
      obtain ⟨y, rfl, hy⟩ := hel ht
      exact ⟨y, hc, hy⟩
    obtain ⟨L, hL, hx⟩ := list_of' len hN
    subst hL
    refine ⟨some a, L, cap, hcs, fun hne => ⟨a, rfl, fun j u hj => ?_⟩, fun y hy => ?_, hl, hm⟩
    · obtain ⟨y, h1, h2⟩ := flatm_get hlen h0 L j u hj
      obtain ⟨hc, _⟩ := hx _ y h1
      obtain ⟨_, _, hat⟩ := World.cells?_some hc
      have := hat (j % k) (Nat.mod_lt _ h0)
      rw [h2] at this
      have e : (a.add (j / k * k)).add (j % k) = a.add j := by
        have hd : j / k * k + j % k = j := by rw [Nat.mul_comm]; exact Nat.div_add_mod j k
        rw [add_add, hd]
      rw [e] at this
      exact this
    · obtain ⟨i, hi⟩ := List.mem_iff_getElem?.1 hy
      exact (hx i y hi).2
theorem ints_row {k : IntKind} {v : Value} {T E : TypeId} {fuel : Nat} {x : DataW H × List MemPlace} (hu : Try.prog.underlying T = some (.slice E)) (he : Try.prog.underlying E = some (.int k)) (hc : Try.prog.cellsOf E = 1)
    (h : DataW.trod enc Try.prog w base (fun _ => true) held fuel T [v] = some x) :
    ∃ (A : Option Addr) (l : List Int) (c : Nat), v = .slice A l.length c ∧ CellsAt w A (l.map (Value.int k ·)) ∧ (∀ n ∈ l, (Lit.int k n).wf = true) ∧ (l.length ≤ c ∧ c ≤ maxLen) ∧ (A = none → l = [] ∧ c = 0) := by
  rcases open_ints hu he hc h with ⟨hcs, _⟩ | ⟨a, l, c, zs, hcs, _, hl, hm, hz, _, hcell, hwz⟩
  · simp only [List.cons.injEq, and_true] at hcs
    exact ⟨none, [], 0, hcs, fun h => by simp at h, by simp, ⟨Nat.le_refl _, Nat.zero_le _⟩, fun _ => ⟨rfl, rfl⟩⟩
  · simp only [List.cons.injEq, and_true] at hcs
    simp only [if_true] at hz
    have hlt : (zs.take l).length = l := by simp; omega
    refine ⟨some a, zs.take l, c, by rw [hlt]; exact hcs, fun hne => ⟨a, rfl, fun j u hj => ?_⟩, fun n hn => hwz n (List.mem_of_mem_take hn), ⟨by omega, hm⟩, fun h => by cases h⟩
    have hjl : j < l ∧ j < zs.length := by
      have := (List.getElem?_eq_some_iff.1 hj).1
      simp at this
      omega
    rw [hcell j hjl.2]
    have hg : zs.getD j 0 = zs[j]'hjl.2 := by simp [List.getD, List.getElem?_eq_getElem hjl.2]
    simp [hjl.1, List.getElem?_eq_getElem hjl.2] at hj
    rw [← hj, hg]
theorem nat_of {n : Int} (h : 0 ≤ n) : ((n.toNat : Nat) : Int) = n := by omega
/-- natural numbers out of such -/
theorem nats_row {A : Option Addr} {l : List Int} {k : IntKind} (h : CellsAt w A (l.map (Value.int k ·))) (h0 : ∀ n ∈ l, 0 ≤ n) : CellsAt w A ((l.map Int.toNat).map fun (n : Nat) => Value.int k (n : Int)) := by
  have : (l.map Int.toNat).map (fun (n : Nat) => Value.int k (n : Int)) = l.map (Value.int k ·) := by
    rw [List.map_map]
    exact List.map_congr_left fun n hn => by simp [nat_of (h0 n hn)]
  rw [this]
  exact h
theorem bytes_row {A : Option Addr} {l : List Int} (h : CellsAt w A (l.map (Value.int .u8 ·))) (h0 : ∀ n ∈ l, 0 ≤ n ∧ n < 256) : CellsAt w A (bv (l.map fun n => UInt8.ofNat n.toNat)) := by
  have : bv (l.map fun n => UInt8.ofNat n.toNat) = l.map (Value.int .u8 ·) := by
    unfold bv
    rw [List.map_map]
    refine List.map_congr_left fun n hn => ?_
    have := h0 n hn
    simp
    omega
  rw [this]
  exact h
theorem i64_of {n : Int} (h : (Lit.int .i64 n).wf = true) : isI64 n := by
  have := bounds_i64 h
  unfold isI64
  omega
theorem u32_of {n : Int} (h : (Lit.int .u32 n).wf = true) : 0 ≤ n ∧ n ≤ 4294967295 := by
  have := bounds_u32 h
  omega
theorem u8_of {n : Int} (h : (Lit.int .u8 n).wf = true) : 0 ≤ n ∧ n < 256 := by
  have := bounds_u8 h
  omega
theorem two_of {α : Type} {l : List α} (h : l.length = 2) : ∃ a b, l = [a, b] := by
  match l, h with
  | [a, b], _ => exact ⟨a, b, rfl⟩
theorem three_of {α : Type} {l : List α} (h : l.length = 3) : ∃ a b c, l = [a, b, c] := by
  match l, h with
  | [a, b, c], _ => exact ⟨a, b, c, rfl⟩
theorem imp_cells : Try.prog.cellsOf 54 = 2 := by kernel_rfl
theorem fix_cells : Try.prog.cellsOf 60 = 3 := by kernel_rfl
theorem obj_cells : Try.prog.cellsOf 50 = 8 := by kernel_rfl
theorem c_int : Try.prog.cellsOf 3 = 1 := by kernel_rfl
theorem c_str : Try.prog.cellsOf 9 = 1 := by kernel_rfl
theorem c_u32 : Try.prog.cellsOf 29 = 1 := by kernel_rfl
theorem c_u8 : Try.prog.cellsOf 5 = 1 := by kernel_rfl
theorem open_imp {fuel : Nat} {cs : List Value} {x : DataW H × List MemPlace} (h : DataW.trod enc Try.prog w base (fun _ => true) held fuel 54 cs = some x) :
    ∃ y : ByteArray × Nat, cs = [.string y.1, .int .u32 y.2] ∧ (y.1.size ≤ maxLen ∧ y.2 < 4294967296) := by
  cases fuel with
  | zero => simp [DataW.trod] at h
  | succ fuel =>
    obtain ⟨xs, n, hn, _, hlen, hxs, hg⟩ := DataW.trod_struct Try.underlying54 h
    rw [imp_cells] at hlen
    obtain ⟨v0, v1, rfl⟩ := two_of hlen
    have hx : ∀ i, i < 2 → ∃ y, xs[i]? = some y := fun i hi => ⟨_, List.getElem?_eq_getElem (by rw [hxs]; exact hi)⟩
    obtain ⟨y0, e0⟩ := hx 0 (by omega)
    obtain ⟨y1, e1⟩ := hx 1 (by omega)
    have g0 : DataW.trod enc Try.prog w base (fun _ => true) held n 9 (([v0, v1].drop 0).take (Try.prog.cellsOf 9)) = xs[0]? := hg 0 _ rfl
    have g1 : DataW.trod enc Try.prog w base (fun _ => true) held n 29 (([v0, v1].drop 1).take (Try.prog.cellsOf 29)) = xs[1]? := hg 1 _ rfl
    rw [e0] at g0
    rw [e1] at g1
    simp only [c_str, c_u32, List.drop_zero, List.drop_succ_cons, List.take_succ_cons, List.take_zero] at g0 g1
    obtain ⟨s, hs, _, ws⟩ := DataW.trod_string Try.underlying9 g0
    obtain ⟨u, hu, _, wu⟩ := DataW.trod_int Try.underlying29 g1
    simp only [List.cons.injEq, and_true] at hs hu
    subst hs hu
    have hu2 := u32_of wu
    exact ⟨(s, u.toNat), by rw [nat_of hu2.1], ws, by show u.toNat < _; omega⟩
theorem open_fix {fuel : Nat} {cs : List Value} {x : DataW H × List MemPlace} (h : DataW.trod enc Try.prog w base (fun _ => true) held fuel 60 cs = some x) :
    ∃ y : Int × Int × Int, cs = [.int .i64 y.1, .int .i64 y.2.1, .int .i64 y.2.2] ∧ (isI64 y.1 ∧ isI64 y.2.1 ∧ isI64 y.2.2) := by
  cases fuel with
  | zero => simp [DataW.trod] at h
  | succ fuel =>
    obtain ⟨xs, n, hn, _, hlen, hxs, hg⟩ := DataW.trod_struct Try.underlying60 h
    rw [fix_cells] at hlen
    obtain ⟨v0, v1, v2, rfl⟩ := three_of hlen
    have hx : ∀ i, i < 3 → ∃ y, xs[i]? = some y := fun i hi => ⟨_, List.getElem?_eq_getElem (by rw [hxs]; exact hi)⟩
    obtain ⟨y0, e0⟩ := hx 0 (by omega)
    obtain ⟨y1, e1⟩ := hx 1 (by omega)
    obtain ⟨y2, e2⟩ := hx 2 (by omega)
    have g0 : DataW.trod enc Try.prog w base (fun _ => true) held n 3 (([v0, v1, v2].drop 0).take (Try.prog.cellsOf 3)) = xs[0]? := hg 0 _ rfl
    have g1 : DataW.trod enc Try.prog w base (fun _ => true) held n 3 (([v0, v1, v2].drop 1).take (Try.prog.cellsOf 3)) = xs[1]? := hg 1 _ rfl
    have g2 : DataW.trod enc Try.prog w base (fun _ => true) held n 3 (([v0, v1, v2].drop 2).take (Try.prog.cellsOf 3)) = xs[2]? := hg 2 _ rfl
    rw [e0] at g0
    rw [e1] at g1
    rw [e2] at g2
    simp only [c_int, List.drop_zero, List.drop_succ_cons, List.take_succ_cons, List.take_zero] at g0 g1 g2
    obtain ⟨a, ha, _, wa⟩ := DataW.trod_int Try.underlying3 g0
    obtain ⟨b, hb, _, wb⟩ := DataW.trod_int Try.underlying3 g1
    obtain ⟨c, hc, _, wc⟩ := DataW.trod_int Try.underlying3 g2
    simp only [List.cons.injEq, and_true] at ha hb hc
    subst ha hb hc
    exact ⟨(a, b, c), rfl, i64_of wa, i64_of wb, i64_of wc⟩
theorem eight {α : Type} {l : List α} (h : l.length = 8) : ∃ a b c d e f g i, l = [a, b, c, d, e, f, g, i] := by
  match l, h with
  | [a, b, c, d, e, f, g, i], _ => exact ⟨a, b, c, d, e, f, g, i, rfl⟩
theorem c_imps : Try.prog.cellsOf 47 = 1 := by kernel_rfl
theorem c_text : Try.prog.cellsOf 22 = 1 := by kernel_rfl
theorem c_code : Try.prog.cellsOf 33 = 1 := by kernel_rfl
theorem c_ents : Try.prog.cellsOf 41 = 1 := by kernel_rfl
theorem c_fixs : Try.prog.cellsOf 48 = 1 := by kernel_rfl
set_option maxRecDepth 100000 in
theorem open_obj {fuel : Nat} {cs : List Value} {x : DataW H × List MemPlace} (h : DataW.trod enc Try.prog w base (fun _ => true) held fuel 50 cs = some x) :
    ∃ y : Ob × OA, cs = (obArr y.1 y.2).toList ∧ ObIs w y.1 y.2 := by
  cases fuel with
  | zero => simp [DataW.trod] at h
  | succ fuel =>
    obtain ⟨xs, n, hn, _, hlen, hxs, hg⟩ := DataW.trod_struct Try.underlying50 h
    rw [obj_cells] at hlen
    obtain ⟨v0, v1, v2, v3, v4, v5, v6, v7, rfl⟩ := eight hlen
    have hx : ∀ i, i < 8 → ∃ y, xs[i]? = some y := fun i hi => ⟨_, List.getElem?_eq_getElem (by rw [hxs]; exact hi)⟩
    obtain ⟨y0, e0⟩ := hx 0 (by omega)
    obtain ⟨y1, e1⟩ := hx 1 (by omega)
    obtain ⟨y2, e2⟩ := hx 2 (by omega)
    obtain ⟨y3, e3⟩ := hx 3 (by omega)
    obtain ⟨y4, e4⟩ := hx 4 (by omega)
    obtain ⟨y5, e5⟩ := hx 5 (by omega)
    obtain ⟨y6, e6⟩ := hx 6 (by omega)
    obtain ⟨y7, e7⟩ := hx 7 (by omega)
    have g0 : DataW.trod enc Try.prog w base (fun _ => true) held n 9 (([v0, v1, v2, v3, v4, v5, v6, v7].drop 0).take (Try.prog.cellsOf 9)) = xs[0]? := hg 0 _ rfl
    have g1 : DataW.trod enc Try.prog w base (fun _ => true) held n 29 (([v0, v1, v2, v3, v4, v5, v6, v7].drop 1).take (Try.prog.cellsOf 29)) = xs[1]? := hg 1 _ rfl
    have g2 : DataW.trod enc Try.prog w base (fun _ => true) held n 47 (([v0, v1, v2, v3, v4, v5, v6, v7].drop 2).take (Try.prog.cellsOf 47)) = xs[2]? := hg 2 _ rfl
    have g3 : DataW.trod enc Try.prog w base (fun _ => true) held n 3 (([v0, v1, v2, v3, v4, v5, v6, v7].drop 3).take (Try.prog.cellsOf 3)) = xs[3]? := hg 3 _ rfl
    have g4 : DataW.trod enc Try.prog w base (fun _ => true) held n 22 (([v0, v1, v2, v3, v4, v5, v6, v7].drop 4).take (Try.prog.cellsOf 22)) = xs[4]? := hg 4 _ rfl
    have g5 : DataW.trod enc Try.prog w base (fun _ => true) held n 33 (([v0, v1, v2, v3, v4, v5, v6, v7].drop 5).take (Try.prog.cellsOf 33)) = xs[5]? := hg 5 _ rfl
    have g6 : DataW.trod enc Try.prog w base (fun _ => true) held n 41 (([v0, v1, v2, v3, v4, v5, v6, v7].drop 6).take (Try.prog.cellsOf 41)) = xs[6]? := hg 6 _ rfl
    have g7 : DataW.trod enc Try.prog w base (fun _ => true) held n 48 (([v0, v1, v2, v3, v4, v5, v6, v7].drop 7).take (Try.prog.cellsOf 48)) = xs[7]? := hg 7 _ rfl
    rw [e0] at g0
    rw [e1] at g1
    rw [e2] at g2
    rw [e3] at g3
    rw [e4] at g4
    rw [e5] at g5
    rw [e6] at g6
    rw [e7] at g7
    simp only [c_int, c_str, c_u32, c_imps, c_text, c_code, c_ents, c_fixs, List.drop_zero, List.drop_succ_cons, List.take_succ_cons, List.take_zero] at g0 g1 g2 g3 g4 g5 g6 g7
    obtain ⟨s, hs, _, ws⟩ := DataW.trod_string Try.underlying9 g0
    obtain ⟨u, hu, _, wu⟩ := DataW.trod_int Try.underlying29 g1
    obtain ⟨vr, hvr, _, wv⟩ := DataW.trod_int Try.underlying3 g3
    simp only [List.cons.injEq, and_true] at hs hu hvr
    subst hs hu hvr
    have hu2 := u32_of wu
    obtain ⟨iA, il, ic, rfl, i1, i2, i3⟩ := open_rows (k := 2) (cells := fun y : ByteArray × Nat => [.string y.1, .int .u32 y.2]) (ok := fun y => y.1.size ≤ maxLen ∧ y.2 < 4294967296) Try.underlying47 imp_cells (by omega) (fun _ => rfl) open_imp g2
    obtain ⟨tA, tl, tc, rfl, t1, t2, t3, _⟩ := ints_row Try.underlying22 Try.underlying5 c_u8 g4
    obtain ⟨cA, cl, cc, rfl, k1, k2, k3, _⟩ := ints_row Try.underlying33 Try.underlying29 c_u32 g5
    obtain ⟨eA, el, ec, rfl, n1, n2, n3, _⟩ := ints_row Try.underlying41 Try.underlying3 c_int g6
    obtain ⟨fA, fl, fc, rfl, f1, f2, f3⟩ := open_rows (k := 3) (cells := fun y : Int × Int × Int => [.int .i64 y.1, .int .i64 y.2.1, .int .i64 y.2.2]) (ok := fun y => isI64 y.1 ∧ isI64 y.2.1 ∧ isI64 y.2.2) Try.underlying48 fix_cells (by omega) (fun _ => rfl) open_fix g7
    refine ⟨(⟨s, u.toNat, il, vr, tl.map fun n => UInt8.ofNat n.toNat, cl.map Int.toNat, el, fl⟩, ⟨iA, ic, tA, tc, cA, cc, eA, ec, fA, fc⟩), ?_, ?_⟩
    · simp only [obArr, List.length_map, nat_of hu2.1]
    · exact {
        imps := i1
        text := bytes_row t1 fun n hn => u8_of (t2 n hn)
        code := nats_row k1 fun n hn => (u32_of (k2 n hn)).1
        ents := n1
        fixs := f1
        icap := i3
        tcap := by rw [List.length_map]; exact t3
        ccap := by rw [List.length_map]; exact k3
        ecap := n3
        fcap := f3
        nm := ws
        key := by show u.toNat < _; omega
        vars := i64_of wv
        inm := i2
        cn := fun x hx => by
          obtain ⟨n, hn, rfl⟩ := List.mem_map.1 hx
          have := u32_of (k2 n hn)
          omega
        en := fun x hx => i64_of (n2 x hx)
        fn := f2 }
/-- objects that came in -/
theorem open_objs {v : Value} {d : DataW H} {p : List MemPlace} (h : DataW.Trod enc Try.prog w base (fun _ => true) held 45 v d p) (hs : ∃ A n c, v = .slice A n c) :
    ∃ (A : Option Addr) (L : List (Ob × OA)) (c : Nat), v = .slice A L.length c ∧ CellsAt w A (L.flatMap fun x => (obArr x.1 x.2).toList) ∧ (∀ x ∈ L, ObIs w x.1 x.2) ∧ L.length ≤ c ∧ c ≤ maxLen := by
  obtain ⟨fuel, hf⟩ := h
  obtain ⟨A, n, c, rfl⟩ := hs
  exact open_rows (k := 8) (cells := fun x : Ob × OA => (obArr x.1 x.2).toList) (ok := fun x => ObIs w x.1 x.2) Try.underlying45 obj_cells (by omega) (fun _ => rfl) open_obj hf
/-- bytes that came in -/
theorem open_bytes {v : Value} {d : DataW H} {p : List MemPlace} (h : DataW.Trod enc Try.prog w base (fun _ => true) held 22 v d p) (hs : ∃ A n c, v = .slice A n c) :
    ∃ (A : Option Addr) (l : List UInt8) (c : Nat), v = .slice A l.length c ∧ CellsAt w A (bv l) ∧ (A = none → l = [] ∧ c = 0) ∧ l.length ≤ c ∧ c ≤ maxLen := by
  obtain ⟨fuel, hf⟩ := h
  obtain ⟨A, n, c, rfl⟩ := hs
  obtain ⟨tA, tl, tc, h1, h2, h3, h4, h5⟩ := ints_row Try.underlying22 Try.underlying5 c_u8 hf
  exact ⟨tA, tl.map fun n => UInt8.ofNat n.toNat, tc, by rw [List.length_map]; exact h1, bytes_row h2 fun n hn => u8_of (h3 n hn), fun ha => by rw [(h5 ha).1, (h5 ha).2]; exact ⟨rfl, rfl⟩, by rw [List.length_map]; exact h4.1, h4.2⟩
end
end Go.Proofs.Yteleglkoagnmcaa
