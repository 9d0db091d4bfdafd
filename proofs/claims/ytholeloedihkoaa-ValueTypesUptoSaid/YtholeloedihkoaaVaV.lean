/- What is proved: the contracts of a variable's Elem, Field, Get, Set, and of Fit. Conditions: the memory holds the variable. -/
import Derived.Test.YtholeloedihkoaaVaU
import Derived.Test.YtholeloedihkoaaVaN
import Derived.Laws.ResultCell
import Derived.Laws.BitsAllLaws
set_option linter.unusedSimpArgs false
set_option linter.unusedVariables false
namespace Go.Proofs.Ytholeloedihkoaa
open Go Go.RowKit
section
variable {C : Int → Option Addr → Prop} {w w' W : World} {lo b tb c n : Nat} {x : Int} {p A : Option Addr} {t : Ty} {ks r : VF}
theorem vthere_c {tp : Addr} (h : Blk w b VT #[.pointer (some tp), .int .u32 x, .pointer p, .slice A n c]) : Calls Try.prog 49 #[ptr b] w fun e w' => e = .returned (.bool true) ∧ w = w' := by
  have c0 : w.cell? ⟨b, 0, none⟩ = some (.pointer (some tp)) := h.cell 0
  clear h
  unfold ptr
  go_enter Try.func49, Try.ntmps49
  go_wp2_with fail
  go_ret
  exact ⟨rfl, rfl⟩
theorem vtype_c {tp : Addr} (h : Blk w b VT #[.pointer (some tp), .int .u32 x, .pointer p, .slice A n c]) : Calls Try.prog 53 #[ptr b] w fun e w' => e = .returned (.pointer (some tp)) ∧ w = w' := by
  have c0 : w.cell? ⟨b, 0, none⟩ = some (.pointer (some tp)) := h.cell 0
  have Hth := Go.Lib.hid (vthere_c h)
  clear h
  unfold ptr at Hth ⊢
  go_enter Try.func53, Try.ntmps53
  go_wp2_with fail
  refine Hth.out.mono ?_
  rintro e w1 ⟨rfl, rfl⟩
  go_wp2_with fail
  go_ret
  exact ⟨rfl, rfl⟩
/-- what is kept of a word -/
def fitK (k : Nat) (x : Int) : Int := if k = 2 then (if x < 1 then x else 1) else if k = 3 ∨ k = 4 then x % 256 else if k = 1 ∨ k = 5 then x else 0
theorem fitK_in (k : Nat) {x : Int} (h : 0 ≤ x ∧ x < 4294967296) : 0 ≤ fitK k x ∧ fitK k x < 4294967296 := by
  unfold fitK
  split
  · split <;> omega
  split
  · omega
  split <;> omega
theorem min_one (x : Int) : min x 1 = if x < 1 then x else 1 := by
  rw [Int.min_def]
  split <;> split <;> omega
theorem and255 (x : Int) (h : 0 ≤ x ∧ x < 4294967296) : bits BinOp.and IntKind.u32 x 255 = x % 256 := by
  rw [u32_and x 255 h.1 h.2 (by decide) (by decide)]
  have : x.toNat &&& (255 : Int).toNat = x.toNat % 256 := Nat.and_two_pow_sub_one_eq_mod x.toNat 8
  rw [this]
  omega
theorem fit_c {b : Nat} {T : Ti} (h : TiAt lo w b T) (hk : T.kind = 1 ∨ T.kind = 2 ∨ T.kind = 3 ∨ T.kind = 4 ∨ T.kind = 5 ∨ T.kind = 9) (x : Int) (hx : 0 ≤ x ∧ x < 4294967296) : Calls Try.prog 48 #[ptr b, .int .u32 x] w fun e w' => e = .returned (.int .u32 (fitK T.kind x)) ∧ w = w' := by
  have Hth := Go.Lib.hid (kind_c h (by omega))
  clear h
  unfold ptr at Hth ⊢
  obtain ⟨k, hkk⟩ : ∃ k, T.kind = k := ⟨_, rfl⟩
  rw [hkk] at hk Hth ⊢
  clear hkk
  rcases hk with rfl | rfl | rfl | rfl | rfl | rfl
  all_goals
    go_enter Try.func48, Try.ntmps48
    go_wp2_with fail
    refine Hth.out.mono ?_
    rintro e w1 ⟨rfl, rfl⟩
    go_wp2_with fail
    go_ret
    first | exact ⟨rfl, rfl⟩ | (refine ⟨?_, rfl⟩; have e1 := min_one x; have e2 := and255 x hx; simp [fitK] at e1 e2 ⊢; (first | exact e1 | exact e2 | trace_state))
/-- a variable's block -/
structure VC (w : World) (b tb : Nat) (x : Int) (p A : Option Addr) (n c : Nat) (bs : List Nat) : Prop where
  blk : Blk w b VT #[ptr tb, .int .u32 x, .pointer p, .slice A n c]
  row : w.ownsRow (b + 1) PV 1 (.slice A n c) n (bs.map ptr)
theorem VsAt.vc (h : VsAt C w lo (.cons b t A c ks r)) : ∃ x p, VC w b t.b x p A ks.len c ks.blks ∧ (0 ≤ x ∧ x < 4294967296) ∧ C x p := by
  obtain ⟨_, ⟨x, p, h2, h3, h4⟩, h5, _⟩ := h
  exact ⟨x, p, ⟨h2, h5⟩, h3, h4⟩
theorem VC.part {bs : List Nat} (h : VC w b tb x p A n c bs) {i kb : Nat} (hi : bs[i]? = some kb) (hn : 0 < n) : ∃ g, A = some ⟨g, 0, none⟩ ∧ w.cell? ⟨g, i, none⟩ = some (ptr kb) := by
  obtain ⟨g, hg, hc⟩ := row_cells h.row hn
  exact ⟨g, hg, hc i (ptr kb) (by rw [List.getElem?_map, hi]; rfl)⟩
theorem elem_c {T : Ti} {bs : List Nat} (h : VC w b tb x p A n c bs) (hT : TiAt lo w tb T) (hk : T.kind = 7) {i kb : Nat} (hi : i < T.n) (hn : i < n) (hb : bs[i]? = some kb) :
    Calls Try.prog 24 #[ptr b, .int .i64 i] w fun e w' => e = .returned (.tuple #[ptr kb, .int .i64 0]) ∧ w = w' := by
  have c0 : w.cell? ⟨b, 0, none⟩ = some (ptr tb) := h.blk.cell 0
  have c3 : w.cell? ⟨b, 3, none⟩ = some (.slice A n c) := h.blk.cell 3
  obtain ⟨t0, t1, _⟩ := hT.cells
  rw [hk] at t0
  obtain ⟨g, rfl, cp⟩ := h.part hb (by omega)
  have hnn := hT.nn
  have Hth := Go.Lib.hid (vthere_c h.blk)
  have d0 : decide ((i : Int) < 0) = false := by simp
  have d1 : decide ((T.n : Int) ≤ (i : Int)) = false := by simp; omega
  clear h hT hk hb
  unfold ptr at *
  go_enter Try.func24, Try.ntmps24
  go_wp2_with fail
  refine Hth.out.mono ?_
  rintro e w1 ⟨rfl, rfl⟩
  go_wp2_with fail
  go_ret2
  exact ⟨rfl, rfl⟩
theorem elem_arg {T : Ti} {bs : List Nat} (h : VC w b tb x p A n c bs) (hT : TiAt lo w tb T) (hk : T.kind = 7) {i : Int} (hi : i < 0 ∨ T.n ≤ i) :
    Calls Try.prog 24 #[ptr b, .int .i64 i] w fun e w' => e = .returned (.tuple #[.pointer none, .int .i64 2]) ∧ w = w' := by
  have c0 : w.cell? ⟨b, 0, none⟩ = some (ptr tb) := h.blk.cell 0
  obtain ⟨t0, t1, _⟩ := hT.cells
  rw [hk] at t0
  have hnn := hT.nn
  have Hth := Go.Lib.hid (vthere_c h.blk)
  clear h hT hk
  unfold ptr at *
  go_enter Try.func24, Try.ntmps24
  by_cases h0 : i < 0
  · go_wp2_with fail
    refine Hth.out.mono ?_
    rintro e w1 ⟨rfl, rfl⟩
    go_wp2_with fail
    go_ret2
    exact ⟨rfl, rfl⟩
  · have d0 : decide (i < 0) = false := by simpa using h0
    have d1 : decide ((T.n : Int) ≤ i) = true := by simp; omega
    go_wp2_with fail
    refine Hth.out.mono ?_
    rintro e w1 ⟨rfl, rfl⟩
    go_wp2_with fail
    go_ret2
    exact ⟨rfl, rfl⟩
theorem elem_state {T : Ti} {bs : List Nat} (h : VC w b tb x p A n c bs) (hT : TiAt lo w tb T) (hk : T.kind ≠ 7) {i : Int} :
    Calls Try.prog 24 #[ptr b, .int .i64 i] w fun e w' => e = .returned (.tuple #[.pointer none, .int .i64 7]) ∧ w = w' := by
  have c0 : w.cell? ⟨b, 0, none⟩ = some (ptr tb) := h.blk.cell 0
  obtain ⟨t0, t1, _⟩ := hT.cells
  have d0 : ((T.kind : Int) == 7) = false := by simp; omega
  have d1 : ((T.kind : Int) != 7) = true := by simp; omega
  have Hth := Go.Lib.hid (vthere_c h.blk)
  clear h hT hk
  unfold ptr at *
  go_enter Try.func24, Try.ntmps24
  go_wp2_with fail
  refine Hth.out.mono ?_
  rintro e w1 ⟨rfl, rfl⟩
  go_wp2_with fail
  go_ret2
  exact ⟨rfl, rfl⟩
theorem field_c {bs : List Nat} (h : VC w b tb x p A n c bs) {s : ByteArray} {i kb : Nat} (hn : i < n) (hl : n ≤ 400000) (hb : bs[i]? = some kb)
    (hF : Calls Try.prog 50 #[ptr tb, .string s] w fun e w' => e = .returned (.tuple #[.int .i64 i, .int .i64 0]) ∧ w = w') :
    Calls Try.prog 20 #[ptr b, .string s] w fun e w' => e = .returned (.tuple #[ptr kb, .int .i64 0]) ∧ w = w' := by
  have c0 : w.cell? ⟨b, 0, none⟩ = some (ptr tb) := h.blk.cell 0
  have c3 : w.cell? ⟨b, 3, none⟩ = some (.slice A n c) := h.blk.cell 3
  obtain ⟨g, rfl, cp⟩ := h.part hb (by omega)
  have Hth := Go.Lib.hid (vthere_c h.blk)
  have HF := Go.Lib.hid hF
  clear h hb hF
  unfold ptr at *
  go_enter Try.func20, Try.ntmps20
  go_wp2_with fail
  refine Hth.out.mono ?_
  rintro e w1 ⟨rfl, rfl⟩
  go_wp2_with fail
  refine HF.out.mono ?_
  rintro e w1 ⟨rfl, rfl⟩
  go_wp2_with fail
  go_ret2
  exact ⟨rfl, rfl⟩
theorem field_err {bs : List Nat} (h : VC w b tb x p A n c bs) {s : ByteArray} {y : Int} (hy : y ≠ 0)
    (hF : Calls Try.prog 50 #[ptr tb, .string s] w fun e w' => e = .returned (.tuple #[.int .i64 0, .int .i64 y]) ∧ w = w') :
    Calls Try.prog 20 #[ptr b, .string s] w fun e w' => e = .returned (.tuple #[.pointer none, .int .i64 y]) ∧ w = w' := by
  have c0 : w.cell? ⟨b, 0, none⟩ = some (ptr tb) := h.blk.cell 0
  have Hth := Go.Lib.hid (vthere_c h.blk)
  have HF := Go.Lib.hid hF
  have d0 : (y != 0) = true := by simpa using hy
  clear h hF hy
  unfold ptr at *
  go_enter Try.func20, Try.ntmps20
  go_wp2_with fail
  refine Hth.out.mono ?_
  rintro e w1 ⟨rfl, rfl⟩
  go_wp2_with fail
  refine HF.out.mono ?_
  rintro e w1 ⟨rfl, rfl⟩
  go_wp2_with fail
  go_ret2
  exact ⟨rfl, rfl⟩
theorem get_c {T : Ti} {bs : List Nat} (h : VC w b tb x p A n c bs) (hT : TiAt lo w tb T) (hk0 : T.kind ≠ 0) (hk : T.kind ≠ 7 ∧ T.kind ≠ 8) :
    Calls Try.prog 19 #[ptr b] w (Quiet (.tuple #[.agg #[.int .u32 x, .pointer p], .int .i64 0]) w) := by
  have c0 : w.cell? ⟨b, 0, none⟩ = some (ptr tb) := h.blk.cell 0
  have c1 : w.cell? ⟨b, 1, none⟩ = some (.int .u32 x) := h.blk.cell 1
  have c2 : w.cell? ⟨b, 2, none⟩ = some (.pointer p) := h.blk.cell 2
  have hal : Chg NoB w (w.alloc (Obj.cells #[.int .u32 0, .pointer none] 47)) := (Chg.refl NoB w).alloc _
  have Hth := Go.Lib.hid (vthere_c (h.blk.chg hal id))
  have Hsc := Go.Lib.hid (scalar_c (hT.quiet hal) hk0)
  have c0' := keepC hal c0
  have c1' := keepC hal c1
  have c2' := keepC hal c2
  have e1 : decide (T.kind ≠ 7 ∧ T.kind ≠ 8) = true := decide_eq_true hk
  rw [e1] at Hsc
  clear h hT hk0 hk e1 hal c0 c1 c2
  unfold ptr at *
  go_enter Try.func19, Try.ntmps19
  go_wp2_with fail
  refine Hth.out.mono ?_
  rintro e w1 ⟨rfl, rfl⟩
  go_wp2_with fail
  refine Hsc.out.mono ?_
  rintro e w1 ⟨rfl, rfl⟩
  go_wp2_with fail
  try simp only [Exit.inBlock, Exit.then]
  refine bodyPost_ret (v := .tuple #[.agg #[.int .u32 x, .pointer p], .int .i64 0]) ?_ rfl ?_
  · rw [results_cell_tmp rfl]
    go_simp
  exact ⟨rfl, (Chg.refl NoB w).alloc _⟩
theorem get_state {T : Ti} {bs : List Nat} (h : VC w b tb x p A n c bs) (hT : TiAt lo w tb T) (hk0 : T.kind ≠ 0) (hk : ¬ (T.kind ≠ 7 ∧ T.kind ≠ 8)) :
    Calls Try.prog 19 #[ptr b] w (Quiet (.tuple #[.agg #[.int .u32 0, .pointer none], .int .i64 7]) w) := by
  have c0 : w.cell? ⟨b, 0, none⟩ = some (ptr tb) := h.blk.cell 0
  have hal : Chg NoB w (w.alloc (Obj.cells #[.int .u32 0, .pointer none] 47)) := (Chg.refl NoB w).alloc _
  have Hth := Go.Lib.hid (vthere_c (h.blk.chg hal id))
  have Hsc := Go.Lib.hid (scalar_c (hT.quiet hal) hk0)
  have c0' := keepC hal c0
  have e1 : decide (T.kind ≠ 7 ∧ T.kind ≠ 8) = false := decide_eq_false hk
  rw [e1] at Hsc
  clear h hT hk0 hk e1 hal c0
  unfold ptr at *
  go_enter Try.func19, Try.ntmps19
  go_wp2_with fail
  refine Hth.out.mono ?_
  rintro e w1 ⟨rfl, rfl⟩
  go_wp2_with fail
  refine Hsc.out.mono ?_
  rintro e w1 ⟨rfl, rfl⟩
  go_wp2_with fail
  try simp only [Exit.inBlock, Exit.then]
  refine bodyPost_ret (v := .tuple #[.agg #[.int .u32 0, .pointer none], .int .i64 7]) ?_ rfl ?_
  · rw [results_cell_tmp rfl]
    go_simp
  exact ⟨rfl, (Chg.refl NoB w).alloc _⟩
theorem vthere_cell {tp : Addr} (c0 : w.cell? ⟨b, 0, none⟩ = some (.pointer (some tp))) : Calls Try.prog 49 #[.pointer (some ⟨b, 0, none⟩)] w fun e w' => e = .returned (.bool true) ∧ w = w' := by
  go_enter Try.func49, Try.ntmps49
  go_wp2_with fail
  go_ret
  exact ⟨rfl, rfl⟩
/-- what Set leaves -/
def SetPost (b tb : Nat) (k : Nat) (x' : Int) (p' : Option Addr) (A : Option Addr) (n c : Nat) (w : World) (e : Ending) (w' : World) : Prop :=
  e = .returned (.int .i64 0) ∧ Chg (fun j => j = b) w w' ∧ Blk w' b VT #[ptr tb, .int .u32 (fitK k x'), .pointer (if k = 9 then p' else none), .slice A n c]
set_option maxHeartbeats 2000000 in
set_option maxRecDepth 20000 in
theorem set_c {T : Ti} {bs : List Nat} (h : VC w b tb x p A n c bs) (hT : TiAt lo w tb T) (hk : T.kind = 1 ∨ T.kind = 2 ∨ T.kind = 3 ∨ T.kind = 4 ∨ T.kind = 5 ∨ T.kind = 9) {x' : Int} {p' : Option Addr} (hx : 0 ≤ x' ∧ x' < 4294967296)
    (hp : p' = none ∨ ∃ b2 q, p' = some ⟨b2, 0, none⟩ ∧ w.cell? ⟨b2, 0, none⟩ = some (.pointer (some q))) :
    Calls Try.prog 18 #[ptr b, .agg #[.int .u32 x', .pointer p']] w (SetPost b tb T.kind x' p' A n c w) := by
  have HG := Go.Lib.hid (fun W (hW : Chg NoB w W) => get_c (⟨h.blk.chg hW id, own_chg h.row hW fun _ _ => id⟩ : VC W b tb x p A n c bs) (hT.quiet hW) (by omega) (by omega))
  have HF := Go.Lib.hid (fun W (hW : Chg NoB w W) => fit_c (hT.quiet hW) hk x' hx)
  have HV := Go.Lib.hid h
  have HT := Go.Lib.hid hT
  have HP := Go.Lib.hid hp
  clear h hT hp
  unfold ptr at *
  go_enter Try.func18, Try.ntmps18
  go_wp2_with fail
  have hal : Chg NoB w (w.alloc (Obj.cells #[.int .u32 x', .pointer p'] 47)) := (Chg.refl NoB w).alloc _
  have hbx := Blk.new w 47 #[.int .u32 x', .pointer p']
  refine (HG.out _ hal).mono ?_
  rintro e w1 ⟨rfl, hc⟩
  have hc1 := hal.trans hc
  have hb1 := hbx.chg hc id
  clear hc hal hbx
  generalize w.heap.size = bx at *
  go_wp2_with fail
  have hc2 := hc1.alloc (Obj.cells #[.int .u32 x, .pointer p] 47)
  have hb2 := hb1.alloc (Obj.cells #[.int .u32 x, .pointer p] 47)
  generalize w1.alloc (Obj.cells #[.int .u32 x, .pointer p] 47) = w2 at *
  generalize w1.heap.size = by_ at *
  clear hc1 hb1
  have HV2 := Go.Lib.hid (HV.out.blk.chg hc2 id)
  have c0 : w2.cell? ⟨b, 0, none⟩ = some (.pointer (some ⟨tb, 0, none⟩)) := HV2.out.cell 0
  have b0 : w2.cell? ⟨bx, 0, none⟩ = some (.int .u32 x') := hb2.cell 0
  have b1 : w2.cell? ⟨bx, 1, none⟩ = some (.pointer p') := hb2.cell 1
  have c1 : w2.cell? ⟨b, 1, none⟩ = some (.int .u32 x) := HV2.out.cell 1
  have c2 : w2.cell? ⟨b, 2, none⟩ = some (.pointer p) := HV2.out.cell 2
  have f1 := HV2.out.frozen 1
  have f2 := HV2.out.frozen 2
  have HB2 := Go.Lib.hid (And.intro hc2 hb2)
  clear hc2 hb2
  refine regionT 11 (fun V' => V'.cell? ⟨b, 0, none⟩ = some (.pointer (some ⟨tb, 0, none⟩)) ∧ V'.cell? ⟨bx, 0, none⟩ = some (.int .u32 x')) (by kernel_rfl) (by decide) (⟨c0, b0⟩) (fun inv hHeld => ?_)
  refine takeT (i := 0) (t := 15) (v := ?v0y1) rfl (by kernel_rfl) (by kernel_rfl) (by kernel_rfl) (fun _ _ _ h => h) (by kernel_rfl) (by kernel_rfl) (by decide) (by decide) rfl (Or.inl ⟨by rfl, ?h0y1⟩) inv hHeld ?r0y1
  case h0y1 => (intro V' hSw; have hq1 := hSw.1; have hq2 := hSw.2; clear hSw; go_simp; try with_reducible rfl)
  clear inv
  intro inv
  try simp only [List.setIfInBounds_toArray, List.set_cons_zero, List.set_cons_succ]
  refine takeT (i := 1) (t := 16) (v := ?v1y2) rfl (by kernel_rfl) (by kernel_rfl) (by kernel_rfl) (fun _ _ _ h => h) (by kernel_rfl) (by kernel_rfl) (by decide) (by decide) rfl (Or.inl ⟨by rfl, ?h1y2⟩) inv hHeld ?r1y2
  case h1y2 => (intro V' hSw; have hq1 := hSw.1; have hq2 := hSw.2; clear hSw; go_simp; try with_reducible rfl)
  clear inv
  intro inv
  try simp only [List.setIfInBounds_toArray, List.set_cons_zero, List.set_cons_succ]
  refine takeT (i := 2) (t := 17) (v := ?v2y3) rfl (by kernel_rfl) (by kernel_rfl) (by kernel_rfl) (fun _ _ _ h => h) (by kernel_rfl) (by kernel_rfl) (by decide) (by decide) rfl (Or.inl ⟨by rfl, ?h2y3⟩) inv hHeld ?r2y3
  case h2y3 => (intro V' hSw; have hq1 := hSw.1; have hq2 := hSw.2; clear hSw; go_simp; try with_reducible rfl)
  clear inv
  intro inv
  try simp only [List.setIfInBounds_toArray, List.set_cons_zero, List.set_cons_succ]
  refine takeT (i := 3) (t := 18) (v := ?v3y4) rfl (by kernel_rfl) (by kernel_rfl) (by kernel_rfl) (fun _ _ _ h => h) (by kernel_rfl) (by kernel_rfl) (by decide) (by decide) rfl (Or.inl ⟨by rfl, ?h3y4⟩) inv hHeld ?r3y4
  case h3y4 => (intro V' hSw; have hq1 := hSw.1; have hq2 := hSw.2; clear hSw; go_simp; try with_reducible rfl)
  clear inv
  intro inv
  try simp only [List.setIfInBounds_toArray, List.set_cons_zero, List.set_cons_succ]
  refine takeT (i := 4) (t := 19) (v := ?v4y5) rfl (by kernel_rfl) (by kernel_rfl) (by kernel_rfl) (fun _ _ _ h => h) (by kernel_rfl) (by kernel_rfl) (by decide) (by decide) rfl (Or.inl ⟨by rfl, ?h4y5⟩) inv hHeld ?r4y5
  case h4y5 => (intro V' hSw; have hq1 := hSw.1; have hq2 := hSw.2; clear hSw; go_simp; try with_reducible rfl)
  clear inv
  intro inv
  try simp only [List.setIfInBounds_toArray, List.set_cons_zero, List.set_cons_succ]
  refine takeT (i := 5) (t := 20) (v := ?v5y6) rfl (by kernel_rfl) (by kernel_rfl) (by kernel_rfl) (fun _ _ _ h => h) (by kernel_rfl) (by kernel_rfl) (by decide) (by decide) rfl (Or.inl ⟨by rfl, ?h5y6⟩) inv hHeld ?r5y6
  case h5y6 => (intro V' hSw; have hq1 := hSw.1; have hq2 := hSw.2; clear hSw; go_simp; try with_reducible rfl)
  clear inv
  intro inv
  try simp only [List.setIfInBounds_toArray, List.set_cons_zero, List.set_cons_succ]
  refine takeT (i := 6) (t := 21) (v := ?v6y7) rfl (by kernel_rfl) (by kernel_rfl) (by kernel_rfl) (fun _ _ _ h => h) (by kernel_rfl) (by kernel_rfl) (by decide) (by decide) rfl (Or.inl ⟨by rfl, ?h6y7⟩) inv hHeld ?r6y7
  case h6y7 => (intro V' hSw; have hq1 := hSw.1; have hq2 := hSw.2; clear hSw; go_simp; try with_reducible rfl)
  clear inv
  intro inv
  try simp only [List.setIfInBounds_toArray, List.set_cons_zero, List.set_cons_succ]
  refine callT (i := 7) (t := 22) (f := 48) (args := #[.pointer (some ⟨tb, 0, none⟩), .int .u32 x']) rfl (by kernel_rfl) rfl (by rfl) ?hx8 inv (by decide) ?hc8
  case hx8 => (go_simp; try rfl)
  case hc8 =>
    refine (HF.out w2.drew HB2.out.1.drew).mono ?_
    rintro e w3 ⟨rfl, rfl⟩

    refine ⟨_, rfl, hHeld, fun inv hHeld => ?_⟩
    try simp only [List.setIfInBounds_toArray, List.set_cons_zero, List.set_cons_succ]
    refine takeT (i := 8) (t := 23) (v := ?v8y9) rfl (by kernel_rfl) (by kernel_rfl) (by kernel_rfl) (fun _ _ _ h => h) (by kernel_rfl) (by kernel_rfl) (by decide) (by decide) rfl (Or.inl ⟨by rfl, ?h8y9⟩) inv hHeld ?r8y9
    case h8y9 => (intro V' hSw; have hq1 := hSw.1; have hq2 := hSw.2; clear hSw; go_simp; try with_reducible rfl)
    clear inv
    intro inv
    try simp only [List.setIfInBounds_toArray, List.set_cons_zero, List.set_cons_succ]
    refine takeT (i := 9) (t := 24) (v := ?v9y10) rfl (by kernel_rfl) (by kernel_rfl) (by kernel_rfl) (fun _ _ _ h => h) (by kernel_rfl) (by kernel_rfl) (by decide) (by decide) rfl (Or.inl ⟨by rfl, ?h9y10⟩) inv hHeld ?r9y10
    case h9y10 => (intro V' hSw; have hq1 := hSw.1; have hq2 := hSw.2; clear hSw; go_simp; try with_reducible rfl)
    clear inv
    intro inv
    try simp only [List.setIfInBounds_toArray, List.set_cons_zero, List.set_cons_succ]
    refine takeT (i := 10) (t := 25) (v := ?v10y11) rfl (by kernel_rfl) (by kernel_rfl) (by kernel_rfl) (fun _ _ _ h => h) (by kernel_rfl) (by kernel_rfl) (by decide) (by decide) rfl (Or.inl ⟨by rfl, ?h10y11⟩) inv hHeld ?r10y11
    case h10y11 => (intro V' hSw; have hq1 := hSw.1; have hq2 := hSw.2; clear hSw; go_simp; try with_reducible rfl)
    clear inv
    intro inv
    try simp only [List.setIfInBounds_toArray, List.set_cons_zero, List.set_cons_succ]
    refine lastT (i := 11) (w' := ((w2.setCell ⟨b, 1, none⟩ (.int .u32 (fitK T.kind x'))).setCell ⟨b, 2, none⟩ (.pointer none)).drew) rfl (by kernel_rfl) rfl (by rfl) ?hx12 (by decide) (by kernel_rfl) ?_
    case hx12 => (go_simp; try with_reducible rfl)
    clear inv hHeld
    have hB4 : Blk (((w2.setCell ⟨b, 1, none⟩ (.int .u32 (fitK T.kind x'))).setCell ⟨b, 2, none⟩ (.pointer none)).drew) b VT #[ptr tb, .int .u32 (fitK T.kind x'), .pointer none, .slice A n c] := ((HV2.out.set_ 1 _).set_ 2 _).drew
    have hC4 : Chg (fun j => j = b) w2 (((w2.setCell ⟨b, 1, none⟩ (.int .u32 (fitK T.kind x'))).setCell ⟨b, 2, none⟩ (.pointer none)).drew) := (((Chg.refl (fun j => j = b) w2).setCell (p := ⟨b, 1, none⟩) (fun _ => rfl) _).setCell (p := ⟨b, 2, none⟩) (fun _ => rfl) _).drew
    generalize ((w2.setCell ⟨b, 1, none⟩ (.int .u32 (fitK T.kind x'))).setCell ⟨b, 2, none⟩ (.pointer none)).drew = w4 at *
    have hT4 : TiAt lo w4 tb T := (HT.out.quiet HB2.out.1).keepV ⟨_, hC4, fun k hk _ => by subst hk; exact ⟨_, _, .inl HV2.out⟩⟩
    have hb4 := HB2.out.2.chg hC4 (fun h => Blk.ne_ HB2.out.2 HV2.out (by decide) h)
    have hcw : Chg (fun j => j = b) w w4 := (HB2.out.1.mono (fun _ _ h => h.elim)).trans hC4
    have b1 : w4.cell? ⟨bx, 1, none⟩ = some (.pointer p') := hb4.cell 1
    have c0 : w4.cell? ⟨b, 0, none⟩ = some (.pointer (some ⟨tb, 0, none⟩)) := hB4.cell 0
    have t0 : w4.cell? ⟨tb, 0, none⟩ = some (.int .i64 T.kind) := hT4.cells.1
    have hp4 : p' = none ∨ ∃ b2 q, p' = some ⟨b2, 0, none⟩ ∧ w4.cell? ⟨b2, 0, none⟩ = some (.pointer (some q)) := by
      rcases HP.out with h | ⟨b2, q, h1, h2⟩
      · exact .inl h
      · refine .inr ⟨b2, ?_⟩
        by_cases hbb : b2 = b
        · subst hbb
          exact ⟨_, h1, c0⟩
        · exact ⟨q, h1, (World.cell?_of_block (hcw.block b2 (block_lt_of_cell h2) hbb)).trans h2⟩
    have H4 := Go.Lib.hid (And.intro hB4 (And.intro hcw hb4))
    clear hB4 hC4 hT4 hb4 hcw HB2 HV2 HG HF f1 f2 c1 c2 b0 HP HT HV
    by_cases h9 : T.kind = 9
    · rw [h9] at t0
      rcases hp4 with rfl | ⟨b2, q, rfl, hq⟩
      · have HN := Go.Lib.hid (vthere_no (w := w4) (.inl rfl))
        go_wp2_with fail
        refine HN.out.mono ?_
        rintro e w5 ⟨rfl, rfl⟩
        go_wp2_with fail
        go_ret
        refine ⟨rfl, H4.out.2.1, ?_⟩
        rw [if_pos h9]
        exact H4.out.1
      · have HN := Go.Lib.hid (vthere_cell hq)
        have c2 : w4.cell? ⟨b, 2, none⟩ = some (.pointer none) := H4.out.1.cell 2
        have f2 := H4.out.1.frozen 2
        go_wp2_with fail
        refine HN.out.mono ?_
        rintro e w5 ⟨rfl, rfl⟩
        go_wp2_with fail
        go_ret
        refine ⟨rfl, H4.out.2.1.setCell (p := ⟨b, 2, none⟩) (fun _ => rfl) _, ?_⟩
        rw [if_pos h9]
        exact H4.out.1.set_ 2 _
    · have d9 : ((T.kind : Int) == 9) = false := by simp; omega
      go_wp2_with fail
      go_ret
      refine ⟨rfl, H4.out.2.1, ?_⟩
      rw [if_neg h9]
      exact H4.out.1
end
end Go.Proofs.Ytholeloedihkoaa
