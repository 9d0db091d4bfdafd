/- What is proved: the contract of build. Conditions: the memory holds the shape. -/
import Derived.Test.YtholeloedihkoaaVaD
import Derived.Deep.CutRange
import Derived.Deep.CutBlock
set_option linter.unusedSimpArgs false
set_option linter.unusedVariables false
namespace Go.Proofs.Ytholeloedihkoaa
open Go.RowKit
abbrev ShT : TypeId := 25
abbrev PT : TypeId := 28
/-- a shape's value -/
structure Sv where
  k : Int
  n : Int
  nA : Option Addr
  nl : Nat
  nc : Nat
  pA : Option Addr
  pl : Nat
  pc : Nat
def Sv.val (s : Sv) : Value := .agg #[.int .i64 s.k, .int .i64 s.n, .slice s.nA s.nl s.nc, .slice s.pA s.pl s.pc]
section
variable {lo : Nat} {w w' : World} {b : Nat} {T : Ti}
theorem own_base {w : World} {base base' : Nat} {e : TypeId} {size n : Nat} {v : Value} {xs : List Value} (h : w.ownsRow base e size v n xs) (hl : base' ≤ base) : w.ownsRow base' e size v n xs := by
  refine ⟨h.1, ?_⟩
  rcases h.2 with h1 | ⟨g, cap, cur, e, hg, r⟩
  · exact .inl h1
  · exact .inr ⟨g, cap, cur, e, Nat.le_trans hl hg, r⟩
theorem TiAt.mono {lo' : Nat} (h : TiAt lo w b T) (hl : lo' ≤ lo) : TiAt lo' w b T :=
  ⟨h.blk, own_base h.row hl, h.mbn, h.map, ⟨by have := h.lo.1; omega, fun m hm => by have := h.lo.2 m hm; omega⟩, h.sz, h.nn, h.nf⟩
theorem TiAt.chg2 {F : Nat → Prop} (h : TiAt lo w b T) (hc : Chg F w w') (hb : ¬ F b) (hr : ∀ k, (Value.slice T.fA T.fs.length T.fc).ownBlock = some k → ¬ F k) (hm : ∀ m, T.mb = some m → ¬ F m) : TiAt lo w' b T :=
  ⟨h.blk.chg hc hb, own_chg h.row hc hr, h.mbn, fun m hm' => (h.map m hm').chg hc (hm m hm'), h.lo, h.sz, h.nn, h.nf⟩
theorem keepC {p : Addr} {u : Value} (hW : Chg NoB w w') (hc : w.cell? p = some u) : w'.cell? p = some u := (World.cell?_of_block (hW.block p.block (block_lt_of_cell hc) id)).trans hc
theorem num_c (x : Int) : Calls Try.prog 14 #[.int .i64 x] w fun e w' => e = .returned (.int .i64 x) ∧ w = w' := by
  go_enter Try.func14, Try.ntmps14
  go_wp2_with fail
  go_ret
  exact ⟨rfl, rfl⟩
/-- a type that was built -/
def Built (lo : Nat) (Q : Ti → Prop) (w : World) (e : Ending) (w' : World) : Prop :=
  ∃ b T, e = .returned (.tuple #[ptr b, .int .i64 0]) ∧ TiAt lo w' b T ∧ T.kind ≠ 0 ∧ Q T ∧ Chg NoB w w'
theorem pinfo : (Try.prog.info? PT).map (fun i => (i.zero, i.size, i.bytes)) = some (some (.pointer none), 1, 8) := by kernel_rfl
theorem info_parts3 {P : Program} {t : TypeId} {z : Value} {s b : Nat} (h : (P.info? t).map (fun i => (i.zero, i.size, i.bytes)) = some (some z, s, b)) : ∃ i, P.info? t = some i ∧ i.zero = some z ∧ i.size = s ∧ i.bytes = b := by
  cases hi : P.info? t with
  | none => rw [hi] at h; cases h
  | some i =>
    rw [hi] at h
    simp only [Option.map_some, Option.some.injEq, Prod.mk.injEq] at h
    exact ⟨i, rfl, h.1, h.2⟩
theorem own_slice1' {w : World} {base : Nat} {e : TypeId} {size n : Nat} {v : Value} {xs : List Value} (h : w.ownsRow base e size v n xs) : ∃ A c, v = .slice A n c := by
  obtain ⟨_, h⟩ := h
  rcases h with ⟨rfl, hx⟩ | ⟨g, cap, cur, rfl, _⟩
  · rw [hx]; exact ⟨_, _, rfl⟩
  · exact ⟨_, _, rfl⟩
theorem one_get {α : Type} {a x : α} {i : Nat} (h : [a][i]? = some x) : i = 0 ∧ a = x := by
  cases i with
  | zero => exact ⟨rfl, by simpa using h⟩
  | succ i => simp at h
theorem add_none (b o n : Nat) : (⟨b, o, none⟩ : Addr).add n = ⟨b, o + n, none⟩ := by unfold Addr.add; split <;> simp_all
/-- ahead of a round of build's loop -/
structure BI (w w0 : World) (k : Nat) (ts : List (Nat × Ti)) (Q : Nat → Ti → Prop) (v : Value) (W : World) : Prop where
  chg : Chg NoB w0 W
  row : W.ownsRow (w.heap.size + 1) PT 1 v k (ts.map fun t => ptr t.1)
  len : ts.length = k
  ok : ∀ (i : Nat) t, ts[i]? = some t → TiAt w.heap.size W t.1 t.2 ∧ t.2.kind ≠ 0 ∧ Q i t.2
  size : w0.heap.size = w.heap.size + 1
variable {w0 W W' : World} {k : Nat} {ts : List (Nat × Ti)} {Q : Nat → Ti → Prop} {v : Value}
theorem BI.start (Q : Nat → Ti → Prop) (w0 : World) (h : Chg NoB w w0) (hs : w0.heap.size = w.heap.size + 1) : BI w w0 0 [] Q (.slice none 0 0) w0 :=
  ⟨Chg.refl _ _, World.ownsRow_nil _ _ _ _, rfl, fun i t h => by simp at h, hs⟩
/-- behind the call: the type is there, not yet in the row -/
structure BN (w w0 : World) (k : Nat) (ts : List (Nat × Ti)) (Q : Nat → Ti → Prop) (v : Value) (b : Nat) (T : Ti) (W : World) : Prop where
  chg : Chg NoB w0 W
  row : W.ownsRow (w.heap.size + 1) PT 1 v k (ts.map fun t => ptr t.1)
  len : ts.length = k
  ok : ∀ (i : Nat) t, (ts ++ [(b, T)])[i]? = some t → TiAt w.heap.size W t.1 t.2 ∧ t.2.kind ≠ 0 ∧ Q i t.2
  size : w.heap.size + 1 ≤ W.heap.size
  size0 : w0.heap.size = w.heap.size + 1
theorem BI.built (h : BI w w0 k ts Q v W) (hT : TiAt w.heap.size W' b T) (h0 : T.kind ≠ 0) (hQ : Q k T) (hc : Chg NoB W W') : BN w w0 k ts Q v b T W' :=
  ⟨h.chg.trans hc, own_chg h.row hc fun _ _ => id, h.len, fun i t hi => by
    rcases Nat.lt_or_ge i ts.length with hl | hl
    · rw [List.getElem?_append_left hl] at hi
      have := h.ok i t hi
      exact ⟨this.1.quiet hc, this.2⟩
    · rw [List.getElem?_append_right hl] at hi
      have hi0 : i - ts.length = 0 := by
        rcases Nat.eq_zero_or_pos (i - ts.length) with h | h
        · exact h
        · rw [List.getElem?_eq_none (by simp; omega)] at hi; cases hi
      rw [hi0] at hi
      obtain rfl : (b, T) = t := by simpa using hi
      have : i = k := by have := h.len; omega
      subst this
      exact ⟨hT, h0, hQ⟩, by have := h.chg.size; have := hc.size; have := h.size; omega, h.size⟩
theorem BN.grow {o : Obj} {v' : Value} (h : BN w w0 k ts Q v b T W) (hown : W'.ownsRow (w.heap.size + 1) PT 1 v' (k + 1) ((ts.map fun t => ptr t.1) ++ [.pointer (some ⟨b, 0, none⟩)])) (hg : (W.alloc o).grownBy W' v.ownBlock) :
    BI w w0 (k + 1) (ts ++ [(b, T)]) Q v' W' := by
  have hca : Chg NoB W (W.alloc o) := (Chg.refl NoB W).alloc _
  have hch : Chg (fun k' => v.ownBlock = some k') W W' := (hca.mono (fun _ _ h => h.elim)).grown hg (fun k hk _ => hk)
  refine ⟨h.chg.step hch fun i hi hk => by have := (h.row.lt i hk).1; have := h.size0; omega, by rw [List.map_append]; exact hown, by simp [h.len], fun i t hi => ?_, h.size0⟩
  have hk := h.ok i t hi
  exact ⟨hk.1.chg2 hch (own_blk_ne h.row hk.1.blk (by decide)) (fun k' hk' => own_own_ne hk.1.row (own_base h.row (Nat.le_succ _)) (by decide) hk') (fun m hm => (hk.1.map m hm).own_ne h.row), hk.2⟩
set_option maxHeartbeats 2000000 in
set_option maxRecDepth 100000 in
theorem buildArr_c {nn : Int} {nA : Option Addr} {nl nc pc pb po : Nat} {pA : Option Addr} {svs : List Sv} {Q : Nat → Ti → Prop}
    (hS : ∀ (i : Nat) sv, svs[i]? = some sv → ∀ W, Chg NoB w W → W.cell? ⟨pb, po + i * 4, none⟩ = some (.int .i64 sv.k) ∧ W.cell? ⟨pb, po + i * 4 + 1, none⟩ = some (.int .i64 sv.n) ∧ W.cell? ⟨pb, po + i * 4 + 2, none⟩ = some (.slice sv.nA sv.nl sv.nc) ∧ W.cell? ⟨pb, po + i * 4 + 3, none⟩ = some (.slice sv.pA sv.pl sv.pc))
    (hB : ∀ (i : Nat) sv, svs[i]? = some sv → ∀ W, Chg NoB w W → Calls Try.prog 9 #[sv.val] W (Built w.heap.size (Q i) W)) (hl : svs.length ≤ 1000000) (HP : Hid (0 < svs.length → pA = some ⟨pb, po, none⟩)) (h1 : Hid (svs.length = 1)) {n : Nat} (hn : nn = (n : Int)) (Hn : Hid (1 ≤ n ∧ n ≤ 65535 ∧ ∀ T, Q 0 T → n * T.size ≤ 262144)) :
    Calls Try.prog 9 #[.agg #[.int .i64 7, .int .i64 nn, .slice nA nl nc, .slice pA svs.length pc]] w (Built w.heap.size (fun T => T.kind = 7 ∧ ∃ T0, Q 0 T0 ∧ T.n = n ∧ T.size = (n * T0.size + 3) / 4 * 4) w) := by
  subst hn
  have HS := Go.Lib.hid hS
  have HB := Go.Lib.hid hB
  clear hS hB
  unfold Sv.val at HB
  go_enter Try.func9, Try.ntmps9
  go_wp2_with fail
  go_loopw [4, 5, 6, 7] (fun v4 v5 _ _ wr => ∃ (k : Nat) (ts : List (Nat × Ti)), k ≤ svs.length ∧ v5 = .int .i64 k ∧ BI w (w.alloc (Obj.cells #[.int .i64 7, .int .i64 n, .slice nA nl nc, .slice pA svs.length pc] ShT)) k ts Q v4 wr) (fun _ v5 _ _ _ => svs.length - (intOf v5).toNat)
  case atStart => exact ⟨0, [], Nat.zero_le _, rfl, BI.start _ _ ((Chg.refl NoB w).alloc _) (by simp)⟩
  case round =>
    obtain ⟨k, ts, hk, rfl, hI⟩ := hrel
    have HI := Go.Lib.hid hI
    clear hI
    have hbx := (Blk.new w ShT #[.int .i64 7, .int .i64 n, .slice nA nl nc, .slice pA svs.length pc]).chg HI.out.chg id
    have p0 : wr.cell? ⟨w.heap.size, 0, none⟩ = some (.int .i64 7) := hbx.cell 0
    have p1 : wr.cell? ⟨w.heap.size, 1, none⟩ = some (.int .i64 n) := hbx.cell 1
    have p2 : wr.cell? ⟨w.heap.size, 2, none⟩ = some (.slice nA nl nc) := hbx.cell 2
    have p3 : wr.cell? ⟨w.heap.size, 3, none⟩ = some (.slice pA svs.length pc) := hbx.cell 3
    clear hbx
    by_cases hlt : k < svs.length
    · have hpa := HP.out (by omega)
      subst hpa
      obtain ⟨sv, hsv⟩ : ∃ sv, svs[k]? = some sv := ⟨_, List.getElem?_eq_getElem hlt⟩
      have hw0 : Chg NoB w wr := ((Chg.refl NoB w).alloc _).trans HI.out.chg
      obtain ⟨q0, q1, q2, q3⟩ := HS.out k sv hsv wr hw0
      have HC := Go.Lib.hid (HB.out k sv hsv wr hw0)
      have Hsv := Go.Lib.hid hsv
      clear hw0 hsv
      go_wp2_with fail
      refine HC.out.mono ?_
      rintro e w1 ⟨b, T, rfl, hT, hT0, hQ, hc⟩
      clear HC q0 q1 q2 q3 p0 p1 p2 p3
      have HN := Go.Lib.hid (HI.out.built hT hT0 hQ hc)
      clear hT hT0 hQ hc
      obtain ⟨i0, hi0, hz0, hz1, hz2⟩ := info_parts3 pinfo
      have Hi := Go.Lib.hid (And.intro hi0 (And.intro hz0 (And.intro hz1 hz2)))
      clear hi0 hz0 hz1 hz2
      unfold ptr
      go_wp2_with (at_builtin; refine wpList_append_own _ rfl _ _ 38 rfl (w.heap.size + 1) PT i0 (.pointer none) 1 8 Try.underlying38 Hi.out.1 Hi.out.2.1 Hi.out.2.2.1 Hi.out.2.2.2 rfl (by decide) _ k (ts.map fun t => ptr t.1) rfl (HN.out.row.alloc _) ⟨w1.heap.size, 0, none⟩ 1 1 [.pointer (some ⟨b, 0, none⟩)] rfl rfl (cell_one_new _ _ _) (by simp [Value.oneCell']) (by unfold maxLen; omega) (by omega) (by have := HN.out.size; simp; omega) ?_; intro v' w6 hown' hgrow _)
      have HN2 := Go.Lib.hid (HN.out.grow hown' hgrow)
      clear hown' hgrow HN
      go_wp2_with fail
      go_roundw
      case rel => exact ⟨k + 1, ts ++ [(b, T)], by omega, by go_num, HN2.out⟩
      case measure => simp [intOf]; omega
    · obtain rfl : k = svs.length := by omega
      clear HB HS
      obtain ⟨A, c, rfl⟩ := own_slice1' HI.out.row
      have hl := HI.out.len
      go_upto_region 9 with fail
      obtain ⟨⟨b0, T0⟩, rfl⟩ : ∃ t, ts = [t] := by
        rw [h1.out] at hl
        match ts, hl with
        | [t], _ => exact ⟨t, rfl⟩
      have hc := CellsAt.of_own HI.out.row
      have h1' := h1.out
      obtain ⟨ad, rfl, hcell⟩ := hc (by simp)
      have r0 : wr.cell? (ad.add 0) = some (ptr b0) := hcell 0 _ rfl
      have hok := HI.out.ok 0 (b0, T0) rfl
      have HA := Go.Lib.hid (array_c hok.1 hok.2.1 n Hn.out.1 Hn.out.2.1 (Hn.out.2.2 T0 hok.2.2))
      have Hq := Go.Lib.hid hok.2.2
      clear hc hcell hok
      unfold ptr at r0 HA
      have r0' : wr.cell? ad = some (.pointer (some ⟨b0, 0, none⟩)) := by rw [← r0]; rfl
      rw [h1'] at p3 ⊢
      go_wp2_with fail
      refine HA.out.mono ?_
      rintro e w1 ⟨b, rfl, hT, hc⟩
      have HR := Go.Lib.hid (And.intro hT hc)
      clear hT hc HA
      have HNm := Go.Lib.hid (num_c 0 (w := w1))
      unfold ptr
      go_wp2_with fail
      refine HNm.out.mono ?_
      rintro e w2 ⟨rfl, rfl⟩
      go_wp2_with fail
      go_ret2
      have hsz : w.heap.size ≤ wr.heap.size := by have := HI.out.chg.size; have := HI.out.size; omega
      exact ⟨_, _, rfl, HR.out.1.mono hsz, by simp, ⟨rfl, T0, Hq.out, rfl, rfl⟩, (((Chg.refl NoB w).alloc _).trans HI.out.chg).trans HR.out.2⟩
set_option maxHeartbeats 2000000 in
set_option maxRecDepth 100000 in
theorem buildRec_c {nn : Int} {nA : Option Addr} {nl nc pc pb po : Nat} {pA : Option Addr} {svs : List Sv} {Q : Nat → Ti → Prop}
    (hS : ∀ (i : Nat) sv, svs[i]? = some sv → ∀ W, Chg NoB w W → W.cell? ⟨pb, po + i * 4, none⟩ = some (.int .i64 sv.k) ∧ W.cell? ⟨pb, po + i * 4 + 1, none⟩ = some (.int .i64 sv.n) ∧ W.cell? ⟨pb, po + i * 4 + 2, none⟩ = some (.slice sv.nA sv.nl sv.nc) ∧ W.cell? ⟨pb, po + i * 4 + 3, none⟩ = some (.slice sv.pA sv.pl sv.pc))
    (hB : ∀ (i : Nat) sv, svs[i]? = some sv → ∀ W, Chg NoB w W → Calls Try.prog 9 #[sv.val] W (Built w.heap.size (Q i) W)) (hl : svs.length ≤ 1000000) (HP : Hid (0 < svs.length → pA = some ⟨pb, po, none⟩)) {ns : List ByteArray} {mv : Int} (Hn : Hid (ns.length = svs.length ∧ (∀ n ∈ ns, n.size ≤ maxLen) ∧ (recGood ns = true ∧ ∀ ts : List (Nat × Ti), ts.length = ns.length → (∀ (i : Nat) t, ts[i]? = some t → Q i t.2) → recSize (ns.zip ts) ≤ 262144) ∧ w.cell? ⟨0, 0, none⟩ = some (.int .i64 mv) ∧ ∀ W, Chg NoB w W → CellsAt W nA (ns.map .string))) :
    Calls Try.prog 9 #[.agg #[.int .i64 8, .int .i64 nn, .slice nA svs.length nc, .slice pA svs.length pc]] w (Built w.heap.size (fun T => T.kind = 8 ∧ ∃ ts : List (Nat × Ti), ts.length = ns.length ∧ (∀ (i : Nat) t, ts[i]? = some t → Q i t.2) ∧ T.fs = (recL (ns.zip ts)).1 ∧ T.size = recSize (ns.zip ts)) w) := by
  have HS := Go.Lib.hid hS
  have HB := Go.Lib.hid hB
  clear hS hB
  unfold Sv.val at HB
  go_enter Try.func9, Try.ntmps9
  go_wp2_with fail
  go_loopw [4, 5, 6, 7] (fun v4 v5 _ _ wr => ∃ (k : Nat) (ts : List (Nat × Ti)), k ≤ svs.length ∧ v5 = .int .i64 k ∧ BI w (w.alloc (Obj.cells #[.int .i64 8, .int .i64 nn, .slice nA svs.length nc, .slice pA svs.length pc] ShT)) k ts Q v4 wr) (fun _ v5 _ _ _ => svs.length - (intOf v5).toNat)
  case atStart => exact ⟨0, [], Nat.zero_le _, rfl, BI.start _ _ ((Chg.refl NoB w).alloc _) (by simp)⟩
  case round =>
    obtain ⟨k, ts, hk, rfl, hI⟩ := hrel
    have HI := Go.Lib.hid hI
    clear hI
    have hbx := (Blk.new w ShT #[.int .i64 8, .int .i64 nn, .slice nA svs.length nc, .slice pA svs.length pc]).chg HI.out.chg id
    have p0 : wr.cell? ⟨w.heap.size, 0, none⟩ = some (.int .i64 8) := hbx.cell 0
    have p1 : wr.cell? ⟨w.heap.size, 1, none⟩ = some (.int .i64 nn) := hbx.cell 1
    have p2 : wr.cell? ⟨w.heap.size, 2, none⟩ = some (.slice nA svs.length nc) := hbx.cell 2
    have p3 : wr.cell? ⟨w.heap.size, 3, none⟩ = some (.slice pA svs.length pc) := hbx.cell 3
    clear hbx
    by_cases hlt : k < svs.length
    · have hpa := HP.out (by omega)
      subst hpa
      obtain ⟨sv, hsv⟩ : ∃ sv, svs[k]? = some sv := ⟨_, List.getElem?_eq_getElem hlt⟩
      have hw0 : Chg NoB w wr := ((Chg.refl NoB w).alloc _).trans HI.out.chg
      obtain ⟨q0, q1, q2, q3⟩ := HS.out k sv hsv wr hw0
      have HC := Go.Lib.hid (HB.out k sv hsv wr hw0)
      have Hsv := Go.Lib.hid hsv
      clear hw0 hsv
      go_wp2_with fail
      refine HC.out.mono ?_
      rintro e w1 ⟨b, T, rfl, hT, hT0, hQ, hc⟩
      clear HC q0 q1 q2 q3 p0 p1 p2 p3
      have HN := Go.Lib.hid (HI.out.built hT hT0 hQ hc)
      clear hT hT0 hQ hc
      obtain ⟨i0, hi0, hz0, hz1, hz2⟩ := info_parts3 pinfo
      have Hi := Go.Lib.hid (And.intro hi0 (And.intro hz0 (And.intro hz1 hz2)))
      clear hi0 hz0 hz1 hz2
      unfold ptr
      go_wp2_with (at_builtin; refine wpList_append_own _ rfl _ _ 38 rfl (w.heap.size + 1) PT i0 (.pointer none) 1 8 Try.underlying38 Hi.out.1 Hi.out.2.1 Hi.out.2.2.1 Hi.out.2.2.2 rfl (by decide) _ k (ts.map fun t => ptr t.1) rfl (HN.out.row.alloc _) ⟨w1.heap.size, 0, none⟩ 1 1 [.pointer (some ⟨b, 0, none⟩)] rfl rfl (cell_one_new _ _ _) (by simp [Value.oneCell']) (by unfold maxLen; omega) (by omega) (by have := HN.out.size; simp; omega) ?_; intro v' w6 hown' hgrow _)
      have HN2 := Go.Lib.hid (HN.out.grow hown' hgrow)
      clear hown' hgrow HN
      go_wp2_with fail
      go_roundw
      case rel => exact ⟨k + 1, ts ++ [(b, T)], by omega, by go_num, HN2.out⟩
      case measure => simp [intOf]; omega
    · obtain rfl : k = svs.length := by omega
      clear HB HS
      obtain ⟨A, c, rfl⟩ := own_slice1' HI.out.row
      have hl := HI.out.len
      go_upto_region 9 with fail
      have hlen : ns.length = ts.length := by rw [Hn.out.1, hl]
      have hT : ∀ x ∈ ns.zip ts, TiAt w.heap.size wr x.2.1 x.2.2 ∧ x.2.2.kind ≠ 0 := fun x hx => by
        obtain ⟨i, hi⟩ := List.mem_iff_getElem?.1 (List.of_mem_zip hx).2
        exact ⟨(HI.out.ok i _ hi).1, (HI.out.ok i _ hi).2.1⟩
      have hQ : ∀ (i : Nat) t, ts[i]? = some t → Q i t.2 := fun i t h => (HI.out.ok i t h).2.2
      have hcA : CellsAt wr nA ((ns.zip ts).map fun x => .string x.1) := by
        have h := Hn.out.2.2.2.2 wr (((Chg.refl NoB w).alloc _).trans HI.out.chg)
        have e : (ns.zip ts).map (fun x => Value.string x.1) = ns.map .string := by
          have := congrArg (List.map Value.string) (List.map_fst_zip (l₁ := ns) (l₂ := ts) (by omega))
          rw [List.map_map] at this
          exact this
        rwa [e]
      have hcB : CellsAt wr A ((ns.zip ts).map fun x => ptr x.2.1) := by
        have h := CellsAt.of_own HI.out.row
        have e : (ns.zip ts).map (fun x => ptr x.2.1) = ts.map fun t => ptr t.1 := by
          have := congrArg (List.map fun t : Nat × Ti => ptr t.1) (List.map_snd_zip (l₁ := ns) (l₂ := ts) (by omega))
          rw [List.map_map] at this
          exact this
        rwa [e]
      have hlz : (ns.zip ts).length = svs.length := by rw [List.length_zip]; omega
      have hR := record_c (c := nc) (d := c) (mv := mv) hcA hcB hT (by omega) (fun x hx => Hn.out.2.1 _ (List.of_mem_zip hx).1) (keepC (((Chg.refl NoB w).alloc _).trans HI.out.chg) Hn.out.2.2.2.1)
      have e1 : (ns.zip ts).map (·.1) = ns := List.map_fst_zip (by omega)
      unfold RecPost at hR
      rw [e1, hlz] at hR
      simp only [if_pos Hn.out.2.2.1.1, if_pos (Hn.out.2.2.1.2 ts hlen.symm hQ)] at hR
      have HR := Go.Lib.hid hR
      have HQ := Go.Lib.hid hQ
      clear hcA hcB hT hR e1 hQ
      go_wp2_with fail
      refine HR.out.mono ?_
      rintro e w1 ⟨b, T, rfl, hT, k1, k2, k3, k4, k5, hc⟩
      have HRR := Go.Lib.hid (And.intro hT (And.intro k1 (And.intro k4 (And.intro k5 hc))))
      clear hT k1 k2 k3 k4 k5 hc HR
      have HNm := Go.Lib.hid (num_c 0 (w := w1))
      unfold ptr
      go_wp2_with fail
      refine HNm.out.mono ?_
      rintro e w2 ⟨rfl, rfl⟩
      go_wp2_with fail
      go_ret2
      have hsz : w.heap.size ≤ wr.heap.size := by have := HI.out.chg.size; have := HI.out.size; omega
      exact ⟨_, _, rfl, HRR.out.1.mono hsz, by rw [HRR.out.2.1]; simp, ⟨HRR.out.2.1, ts, hlen.symm, HQ.out, HRR.out.2.2.1, HRR.out.2.2.2.1⟩, (((Chg.refl NoB w).alloc _).trans HI.out.chg).trans HRR.out.2.2.2.2⟩
set_option maxHeartbeats 2000000 in
theorem buildLeaf_c (k : Nat) (h1 : 1 ≤ k) (h5 : k ≤ 5) {nn : Int} {nA : Option Addr} {nl nc : Nat} :
    Calls Try.prog 9 #[.agg #[.int .i64 k, .int .i64 nn, .slice nA nl nc, .slice none 0 0]] w (Built w.heap.size (fun T => T = basicT k) w) := by
  have HB := Go.Lib.hid (basic_c k h1 h5 (w := w.alloc (Obj.cells #[.int .i64 k, .int .i64 nn, .slice nA nl nc, .slice none 0 0] ShT)))
  have d7 : ((k : Int) == 7) = false := by simp; omega
  have d8 : ((k : Int) == 8) = false := by simp; omega
  have d9 : ((k : Int) == 9) = false := by simp; omega
  have hk0 := Go.Lib.hid (show (basicT k).kind ≠ 0 from by show k ≠ 0; omega)
  clear h1 h5
  go_enter Try.func9, Try.ntmps9
  go_wp2_with fail
  go_loopw [4, 5, 6, 7] (fun v4 v5 _ _ wr => v4 = .slice none 0 0 ∧ v5 = .int .i64 0 ∧ wr = w.alloc (Obj.cells #[.int .i64 k, .int .i64 nn, .slice nA nl nc, .slice none 0 0] ShT)) (fun _ _ _ _ _ => 0)
  case atStart => exact ⟨rfl, rfl, rfl⟩
  case round =>
    obtain ⟨rfl, rfl, rfl⟩ := hrel
    go_wp2_with fail
    refine HB.out.mono ?_
    rintro e w1 ⟨b, rfl, hT, hc⟩
    have HR := Go.Lib.hid (And.intro hT hc)
    clear hT hc HB
    have HNm := Go.Lib.hid (num_c 0 (w := w1))
    unfold ptr
    go_wp2_with fail
    refine HNm.out.mono ?_
    rintro e w2 ⟨rfl, rfl⟩
    go_wp2_with fail
    go_ret2
    exact ⟨_, _, rfl, HR.out.1.mono (by simp), hk0.out, rfl, ((Chg.refl NoB w).alloc _).trans HR.out.2⟩
end
end Go.Proofs.Ytholeloedihkoaa
