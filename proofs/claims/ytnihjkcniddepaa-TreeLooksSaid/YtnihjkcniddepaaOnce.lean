/- What is proved: the law's once says true of a tree and of its nodes as a row. Conditions: as its contract says. -/
import Derived.Test.YtnihjkcniddepaaRound
import Derived.Test.YtnihjkcniddepaaFlat
namespace Go.Proofs.Ytnihjkcniddepaa
open Go.RowKit Go.Shelf
attribute [local go_sem] Oper.semAt_some
abbrev BT : TypeId := 4
abbrev NS : TypeId := 26
abbrev IS : TypeId := 34
/-- a row of visits as nodes -/
def visF : List Vis → F
  | [] => .nil
  | v :: l => .cons v.d v.ks (visF l)
theorem visF_app (l m : List Vis) : visF (l ++ m) = (visF l).app (visF m) := by
  induction l with
  | nil => rfl
  | cons v l ih => simp only [List.cons_append, visF, F.app, ih]
theorem visL_flat (w : World) (f : F) : ∀ (A : Option Addr) (e : Int), visF (visL w f A e) = f.flat := by
  induction f with
  | nil => intro A e; rfl
  | cons d ks r h1 h2 => intro A e; simp only [visL, visF, visF_app, h1, h2, F.flat]
theorem visL_deps (w : World) (f : F) : ∀ (A : Option Addr) (e : Int), (visL w f A e).map (·.e) = f.depths e := by
  induction f with
  | nil => intro A e; rfl
  | cons d ks r h1 h2 => intro A e; simp only [visL, List.map_cons, List.map_append, h1, h2, F.depths]
theorem visF_drop (l : List Vis) (i : Nat) (h : i < l.length) : ∃ r, (visF l).drop i = .cons l[i].d l[i].ks r := by
  induction l generalizing i with
  | nil => simp at h
  | cons v l ih =>
    cases i with
    | zero => exact ⟨visF l, rfl⟩
    | succ i => exact ih i (by simpa using h)
theorem same_self (d : Own) (ks : F) : sameT d ks d ks = true := by unfold sameT; rw [F.same_refl]; simp [ownB]
def OX (s : Nat) : Nat → Prop := fun b => b = s + 4 ∨ b = s + 5
structure OI (w0 : World) (s : Nat) (n : Nat) (W : World) : Prop where
  chg : Chg NoB w0 W
  num : Blk W (s + 1 + 1 + 1 + 1 + 1) IT #[.int .i64 n]
theorem OI.grown {w0 A B : World} {s n : Nat} {row : Option Nat} {b : Nat} (h : OI w0 s n A) (hb : s + 5 < b) (hg : A.grownBy B row) (hw : w0.heap.size ≤ b) (hr : ∀ r, row = some r → b ≤ r) : OI w0 s n B :=
  ⟨h.chg.grown hg fun k e hk => by have := hr k e; omega, h.num.grown hg fun e => by have := hr _ e.symm; omega⟩
theorem OI.alloc {w0 A : World} {s n : Nat} {o : Obj} (h : OI w0 s n A) : OI w0 s n (A.alloc o) := ⟨h.chg.alloc _, h.num.alloc _⟩
/-- the loop is left: the answer stands -/
structure OE (w0 : World) (s : Nat) (bb : Bool) (W : World) : Prop where
  chg : Chg (fun q => q = s + 4) w0 W
  res : Blk W (s + 1 + 1 + 1 + 1) BT #[.bool bb]
theorem OE.grown {w0 A B : World} {s : Nat} {bb : Bool} {row : Option Nat} {b : Nat} (h : OE w0 s bb A) (hb : s + 5 < b) (hg : A.grownBy B row) (hw : w0.heap.size ≤ b) (hr : ∀ r, row = some r → b ≤ r) : OE w0 s bb B :=
  ⟨h.chg.grown hg fun k e hk => by have := hr k e; omega, h.res.grown hg fun e => by have := hr _ e.symm; omega⟩
theorem OI.on {w0 W W1 : World} {s n : Nat} (h : OI w0 s n W) (h1 : Chg NoB W W1) : OI w0 s n W1 := ⟨h.chg.trans h1, h.num.chg h1 id⟩
theorem OI.up {w0 W : World} {s n : Nat} (h : OI w0 s n W) (hs : w0.heap.size ≤ s + 5) : OI w0 s (n + 1) (W.setCell ⟨s + 1 + 1 + 1 + 1 + 1, 0, none⟩ (.int .i64 (n + 1))) ∧ Chg (OX s) W (W.setCell ⟨s + 1 + 1 + 1 + 1 + 1, 0, none⟩ (.int .i64 (n + 1))) :=
  ⟨⟨h.chg.setCell (fun h => by simp at h; omega) _, h.num.set_ 0 _⟩, (Chg.refl _ _).setCell (p := ⟨s + 1 + 1 + 1 + 1 + 1, 0, none⟩) (fun _ => .inr rfl) _⟩
theorem OI.leave {w0 W : World} {s n : Nat} {bb : Bool} (h : OI w0 s n W) (h4 : Blk w0 (s + 1 + 1 + 1 + 1) BT #[.bool false]) : OE w0 s bb (W.setCell ⟨s + 1 + 1 + 1 + 1, 0, none⟩ (.bool bb)) ∧ Chg (OX s) W (W.setCell ⟨s + 1 + 1 + 1 + 1, 0, none⟩ (.bool bb)) :=
  ⟨⟨(h.chg.mono (G := fun q => q = s + 4) fun _ _ h => h.elim).setCell (p := ⟨s + 1 + 1 + 1 + 1, 0, none⟩) (fun _ => rfl) _, (h4.chg h.chg id).set_ 0 _⟩, (Chg.refl _ _).setCell (p := ⟨s + 1 + 1 + 1 + 1, 0, none⟩) (fun _ => .inl rfl) _⟩
theorem OE.drew {w0 W : World} {s : Nat} {bb : Bool} (h : OE w0 s bb W) : OE w0 s bb W.drew := ⟨h.chg.drew, h.res⟩
theorem snoc_fin {N : Nat} {pre : List (Fin N)} {x : Fin N} (h : pre ++ [x] <+: List.finRange N) (hl : pre.length < N) : x = ⟨pre.length, hl⟩ := by
  obtain ⟨r, hr⟩ := h
  have h1 : (List.finRange N)[pre.length]? = some x := by rw [← hr]; simp
  rw [List.getElem?_eq_getElem (by simpa using hl)] at h1
  injection h1 with h1
  apply Fin.ext
  have := congrArg Fin.val h1
  simp at this
  exact this.symm
section
variable (d : Own) (ks : F) (A : Option Addr) (n c : Nat) (gl gd cl cd N : Nat) (most : Int) (w : World)
@[reducible] def O0 : World := ((((w.alloc (.cells #[.int .i64 d.kind, .string d.nm, .int .u32 d.val, .bool d.mark, .slice A n c] NT)).alloc (.cells #[.slice (some ⟨gl, 0, none⟩) N cl] NS)).alloc (.cells #[.slice (some ⟨gd, 0, none⟩) N cd] IS)).alloc (.cells #[.int .i64 most] IT)).alloc (.cells #[.bool false] BT)
variable {d A n c gl gd cl cd N most w} in
theorem o_box {W : World} (hc : Chg NoB (O0 d A n c gl gd cl cd N most w) W) : W.cell? ⟨w.heap.size + 1, 0, none⟩ = some (.slice (some ⟨gl, 0, none⟩) N cl) ∧ W.cell? ⟨w.heap.size + 1 + 1, 0, none⟩ = some (.slice (some ⟨gd, 0, none⟩) N cd) ∧ W.cell? ⟨w.heap.size + 1 + 1 + 1, 0, none⟩ = some (.int .i64 most) ∧ W.cell? ⟨w.heap.size + 1 + 1 + 1 + 1, 0, none⟩ = some (.bool false) ∧ W.frozen? ⟨w.heap.size + 1 + 1 + 1 + 1, 0, none⟩ = false := by
  have b1 : Blk (O0 d A n c gl gd cl cd N most w) (w.heap.size + 1) NS #[.slice (some ⟨gl, 0, none⟩) N cl] := (((Blk.at_ _ _ _ _ (by simp)).alloc _).alloc _).alloc _
  have b2 : Blk (O0 d A n c gl gd cl cd N most w) (w.heap.size + 1 + 1) IS #[.slice (some ⟨gd, 0, none⟩) N cd] := ((Blk.at_ _ _ _ _ (by simp)).alloc _).alloc _
  have b3 : Blk (O0 d A n c gl gd cl cd N most w) (w.heap.size + 1 + 1 + 1) IT #[.int .i64 most] := (Blk.at_ _ _ _ _ (by simp)).alloc _
  have b4 : Blk (O0 d A n c gl gd cl cd N most w) (w.heap.size + 1 + 1 + 1 + 1) BT #[.bool false] := Blk.at_ _ _ _ _ (by simp)
  exact ⟨(b1.chg hc id).cell 0, (b2.chg hc id).cell 0, (b3.chg hc id).cell 0, (b4.chg hc id).cell 0, (b4.chg hc id).frozen 0⟩
theorem o_res : Blk (O0 d A n c gl gd cl cd N most w) (w.heap.size + 1 + 1 + 1 + 1) BT #[.bool false] := Blk.at_ _ _ _ _ (by simp)
theorem leave_once {D g : Nat} {wF : World} {tmps : Array Value} (hK : wF.heap[D]? = some (.deferred (some []))) (hc : wF.cell? ⟨g, 0, none⟩ = some (.bool true)) (hp : tmps.getD 8 undef = .pointer (some ⟨g, 0, none⟩)) (hw : Chg NoB w wF) (hD : w.heap.size ≤ D) :
    bodyPostM Fence.wide 9 Try.prog Try.f26 (fun e w' => e = .returned (.bool true) ∧ Chg NoB w w') .ret { tmps := tmps, defers := [{ target := .collected D, args := #[] }] } wF := by
  refine ⟨by simp, .inl ⟨_, _, rfl, run_takeDeferred hK, ?_⟩⟩
  exact ⟨_, results_bool rfl _ hp (cell_kept hc (grownBy_putObj' _ D _) (fun r e => by cases e; exact ⟨_, hK, rfl⟩)), rfl, hw.grown (grownBy_putObj' _ D _) (fun k e hk => by cases e; omega)⟩
set_option maxRecDepth 100000 in
set_option maxHeartbeats 4000000 in
theorem once_c (w0 : World) (hN : IsN w0 d ks A n c) (hw : Chg NoB w0 w) (hNn : N = 1 + ks.size) (hsz : ks.size ≤ 400) (hcl : N ≤ cl ∧ cl ≤ maxLen) (hcd : N ≤ cd ∧ cd ≤ maxLen)
    (hl : IsL w (some ⟨gl, 0, none⟩) N (F.flat (.cons d ks .nil))) (hd : ∀ (i : Nat) (h : i < (visN w0 d ks A n c).length), w.cell? ⟨gd, i, none⟩ = some (.int .i64 (visN w0 d ks A n c)[i].e)) :
    Calls Try.prog 26 #[nodeV d A n c, .slice (some ⟨gl, 0, none⟩) N cl, .slice (some ⟨gd, 0, none⟩) N cd, .int .i64 most] w fun e w' => e = .returned (.bool true) ∧ Chg NoB w w' := by
  have HN0 := Go.Lib.hid hN
  have HNn := Go.Lib.hid hNn
  have Hw := Go.Lib.hid hw
  have Hl := Go.Lib.hid hl
  have Hd := Go.Lib.hid hd
  have hN1 : 1 ≤ N ∧ N ≤ 401 := by omega
  have hcl1 := hcl.1
  have hcl2 := hcl.2
  have hcd1 := hcd.1
  have hcd2 := hcd.2
  unfold maxLen at hcl2 hcd2
  clear hN hw hl hd hNn hcl hcd
  refine (callsIn_wide (n := 9)).1 (callsIn_of_wp_marks Try.func26 rfl trivial (wpIn_wide.2 ?_) rfl)
  simp only [Try.ntmps26, List.size_toArray, List.length_cons, List.length_nil, Nat.reduceAdd, Nat.reduceSub, Array.replicate_succ, Array.replicate_zero, List.push_toArray, List.append_toArray, List.nil_append, List.cons_append]
  go_wp2_with fail
  refine (Walk_c d A n c _).mono ?_
  rintro e w4 ⟨rfl, rfl⟩
  have hfn := fun (x : Array Value) (W : World) => run_eql_func_nil (.func 48) #[] x W
  go_wp2_with fail
  clear hfn
  have hC4 : Chg NoB (O0 d A n c gl gd cl cd N most w) (((O0 d A n c gl gd cl cd N most w).alloc (.cells #[.int .i64 0] IT)).alloc (.cells #[.int .i64 d.kind, .string d.nm, .int .u32 d.val, .bool d.mark, .slice A n c] NT)) := ((Chg.refl _ _).alloc _).alloc _
  have b5 : Blk (((O0 d A n c gl gd cl cd N most w).alloc (.cells #[.int .i64 0] IT)).alloc (.cells #[.int .i64 d.kind, .string d.nm, .int .u32 d.val, .bool d.mark, .slice A n c] NT)) (w.heap.size + 1 + 1 + 1 + 1 + 1) IT #[.int .i64 0] := (Blk.at_ _ _ _ _ (by simp) : Blk ((O0 d A n c gl gd cl cd N most w).alloc (.cells #[.int .i64 0] IT)) (w.heap.size + 1 + 1 + 1 + 1 + 1) IT #[.int .i64 0]).alloc _
  have b6 : Blk (((O0 d A n c gl gd cl cd N most w).alloc (.cells #[.int .i64 0] IT)).alloc (.cells #[.int .i64 d.kind, .string d.nm, .int .u32 d.val, .bool d.mark, .slice A n c] NT)) (w.heap.size + 1 + 1 + 1 + 1 + 1 + 1) NT #[.int .i64 d.kind, .string d.nm, .int .u32 d.val, .bool d.mark, .slice A n c] := Blk.at_ _ _ _ _ (by simp)
  have hsW : (((O0 d A n c gl gd cl cd N most w).alloc (.cells #[.int .i64 0] IT)).alloc (.cells #[.int .i64 d.kind, .string d.nm, .int .u32 d.val, .bool d.mark, .slice A n c] NT)).heap.size = w.heap.size + 7 := by simp
  obtain ⟨WL, hWL⟩ : ∃ W', (((O0 d A n c gl gd cl cd N most w).alloc (.cells #[.int .i64 0] IT)).alloc (.cells #[.int .i64 d.kind, .string d.nm, .int .u32 d.val, .bool d.mark, .slice A n c] NT)) = W' := ⟨_, rfl⟩
  rw [hWL] at hC4 b5 b6 hsW ⊢
  clear hWL
  have hwO : Chg NoB w (O0 d A n c gl gd cl cd N most w) := (((((Chg.refl _ _).alloc _).alloc _).alloc _).alloc _).alloc _
  have HwO := Go.Lib.hid hwO
  have hKL : KeepC (OX w.heap.size) w0 WL := KeepC.of_chg (Hw.out.trans (hwO.trans hC4))
  have hw0s := Hw.out.size
  obtain ⟨vl, hvl⟩ : ∃ vl, vl = visN w0 d ks A n c := ⟨_, rfl⟩
  have hlen : vl.length = N := by rw [hvl, visN_len]; exact HNn.out.symm
  have Hvl := Go.Lib.hid hvl
  have HG : Hid (∀ v ∈ vl, (∀ W, Chg NoB w0 W → IsN W v.d v.ks v.A v.n v.c) ∧ 0 ≤ v.e ∧ v.e ≤ 1000000) := Go.Lib.hid (by
    intro v hv
    rw [hvl] at hv
    refine ⟨fun W hW => (visN_isN HN0.out v hv).chg hW, ?_⟩
    have := visN_e v hv
    omega)
  have HD : Hid (∀ (i : Nat) (h : i < vl.length), w.cell? ⟨gd, i, none⟩ = some (.int .i64 vl[i].e)) := Go.Lib.hid (by subst hvl; exact Hd.out)
  have HL : Hid (∀ (i : Nat) (h : i < vl.length), ∃ r, (F.flat (.cons d ks .nil)).drop i = .cons vl[i].d vl[i].ks r) := Go.Lib.hid (fun i h => by
    have h1 := visF_drop vl i h
    have h2 : visF vl = F.flat (.cons d ks .nil) := by
      rw [hvl]
      show F.cons d ks (visF (visL w0 ks A 1)) = _
      rw [visL_flat]
      simp only [F.flat, F.app_nil]
    rwa [h2] at h1)
  clear hvl hwO Hd
  refine (wpIn_wide (n := 9)).1 (wpIn_rangeFunc_ownH (n := 9) rfl (by omega) (gf := 48) (lb := #[.pointer (some ⟨w.heap.size + 1 + 1 + 1 + 1 + 1 + 1, 0, none⟩)]) (encs := fun x => encV (vget vl x)) rfl trivial (enters_of Try.func48 (by kernel_rfl) rfl)
    (walk_stops (OX w.heap.size) w0 WL d ks A n c (w.heap.size + 1 + 1 + 1 + 1 + 1 + 1) (9 - 1) vl Hvl.out HN0.out hKL (fun b hb => by rcases hb with rfl | rfl <;> omega) (fun b hb => by rcases hb with rfl | rfl <;> omega) b6 (by omega))
    (fun h k => h.trans k) (fun W l o o' _ ho hc _ => KeepC.put o' ho hc) (Below.refl _ _) (fun _ => rfl)
    (fun pre W => OI (O0 d A n c gl gd cl cd N most w) w.heap.size pre.length W)
    (fun cde pre W => cde = .ret ∧ ∃ bb, OE (O0 d A n c gl gd cl cd N most w) w.heap.size bb W ∧ (bb = false → ¬ pre <+: List.finRange vl.length))
    (fun pre A B row hs hg hr => hs.grown (b := WL.heap.size) (by omega) hg (by simp; omega) (fun r e => (hr r e).1))
    (fun cde pre A B row hs hg hr => by obtain ⟨h1, bb, h2, h3⟩ := hs; exact ⟨h1, bb, h2.grown (b := WL.heap.size) (by omega) hg (by simp; omega) (fun r e => (hr r e).1), h3⟩)
    ⟨hC4, b5⟩
    (fun x a' W => ∃ Bx, w.heap.size + 6 ≤ Bx ∧ Blk W Bx NT #[.int .i64 (vget vl x).d.kind, .string (vget vl x).d.nm, .int .u32 (vget vl x).d.val, .bool (vget vl x).d.mark, .slice (vget vl x).A (vget vl x).n (vget vl x).c] ∧ a' = { tmps := #[nodeV d A n c, .slice (some ⟨gl, 0, none⟩) N cl, .slice (some ⟨gd, 0, none⟩) N cd, .int .i64 most, .pointer (some ⟨w.heap.size, 0, none⟩), .pointer (some ⟨w.heap.size + 1, 0, none⟩), .pointer (some ⟨w.heap.size + 1 + 1, 0, none⟩), .pointer (some ⟨w.heap.size + 1 + 1 + 1, 0, none⟩), .pointer (some ⟨w.heap.size + 1 + 1 + 1 + 1, 0, none⟩), .pointer (some ⟨w.heap.size + 1 + 1 + 1 + 1 + 1, 0, none⟩), .func (.func 48) #[] #[.pointer (some ⟨w.heap.size + 1 + 1 + 1 + 1 + 1 + 1, 0, none⟩)], .int .i64 (vget vl x).e, .pointer (some ⟨Bx, 0, none⟩), .agg #[.int .i64 d.kind, .string d.nm, .int .u32 d.val, .bool d.mark, .slice A n c], .func (.func 48) #[] #[.pointer (some ⟨w.heap.size + 1 + 1 + 1 + 1 + 1 + 1, 0, none⟩)], .func (.func 48) #[] #[.pointer (some ⟨w.heap.size + 1 + 1 + 1 + 1 + 1 + 1, 0, none⟩)], .bool false, .func (.func 48) #[] #[.pointer (some ⟨w.heap.size + 1 + 1 + 1 + 1 + 1 + 1, 0, none⟩)], .int .i64 (vget vl x).e, .agg #[.int .i64 (vget vl x).d.kind, .string (vget vl x).d.nm, .int .u32 (vget vl x).d.val, .bool (vget vl x).d.mark, .slice (vget vl x).A (vget vl x).n (vget vl x).c], undef, undef, undef, undef, undef, undef, undef, undef, undef, undef, undef, undef, undef, undef, undef, undef, undef, undef, undef, undef, undef, undef, undef, undef, undef, undef, undef, undef, undef, undef], defers := [] })
    (fun x a' _ A B row hs hg hr => by
      obtain ⟨Bx, h1, h2, h3⟩ := hs
      refine ⟨Bx, h1, h2.grown hg (fun e => ?_), h3⟩
      obtain ⟨_, o, ho, hc⟩ := hr Bx e.symm
      rw [show A.heap[Bx]? = _ from h2] at ho
      cases ho; cases hc)
    ?assign ?body ?done ?stop)
  case assign =>
    rintro l pre x W K hI hK
    gi_wp2
    exact hK _ _ ((KeepsOthers.alloc _ _).from _) (KeepC.of_chg ((Chg.refl _ _).alloc _)) hI.alloc ⟨W.heap.size, by have := hI.num.lt; omega, Blk.new _ _ _, rfl⟩
  case body =>
    rintro l pre x a' W _ _ hI ⟨Bx, hBx, hbx, rfl⟩ hlt
    have hg := HG.out (vget vl x) (List.getElem_mem _)
    have hd1 := HD.out pre.length hlt
    obtain ⟨ur, hl1⟩ := HL.out pre.length hlt
    have HM : Hid (pre ++ [x] <+: List.finRange vl.length → vget vl x = vl[pre.length]) := Go.Lib.hid (fun h => by rw [snoc_fin h hlt]; rfl)
    generalize vget vl x = v at *
    generalize vl[pre.length] = u at *
    obtain ⟨gN, ge1, ge2⟩ := hg
    have hCw : Chg NoB w W := HwO.out.trans hI.chg
    have hlW := Hl.out.chg hCw
    obtain ⟨qb, qo, qd, qk, qr, uA, un, uc, hq, hq1, ok, le, mo, c0, c1, c2, c3, c4, hk1⟩ := hlW.at_ (k := pre.length) (by omega)
    injection hq with hq
    injection hq with hq2 hq3
    subst hq2
    subst hq3
    rw [hl1] at hq1
    injection hq1 with hq4 hq5 _
    subst hq4
    subst hq5
    rw [Nat.zero_add] at c0 c1 c2 c3 c4
    have HS : Hid (∀ w', Chg NoB W w' → (fun w' => w'.cell? ⟨w.heap.size + 1 + 1 + 1 + 1 + 1, 0, none⟩ = some (.int .i64 (pre.length : Nat)) ∧ w'.cell? ⟨w.heap.size + 1, 0, none⟩ = some (.slice (some ⟨gl, 0, none⟩) N cl) ∧ w'.cell? ⟨w.heap.size + 1 + 1, 0, none⟩ = some (.slice (some ⟨gd, 0, none⟩) N cd) ∧ w'.cell? ⟨gd, pre.length, none⟩ = some (.int .i64 u.e) ∧ w'.cell? ⟨Bx, 0, none⟩ = some (.int .i64 v.d.kind) ∧ w'.cell? ⟨Bx, 1, none⟩ = some (.string v.d.nm) ∧ w'.cell? ⟨Bx, 2, none⟩ = some (.int .u32 v.d.val) ∧ w'.cell? ⟨Bx, 3, none⟩ = some (.bool v.d.mark) ∧ w'.cell? ⟨Bx, 4, none⟩ = some (.slice v.A v.n v.c) ∧ w'.cell? ⟨gl, pre.length * 5, none⟩ = some (.int .i64 u.d.kind) ∧ w'.cell? ⟨gl, pre.length * 5 + 1, none⟩ = some (.string u.d.nm) ∧ w'.cell? ⟨gl, pre.length * 5 + 2, none⟩ = some (.int .u32 u.d.val) ∧ w'.cell? ⟨gl, pre.length * 5 + 3, none⟩ = some (.bool u.d.mark) ∧ w'.cell? ⟨gl, pre.length * 5 + 4, none⟩ = some (.slice uA un uc)) w') := Go.Lib.hid (fun w' h => by
      obtain ⟨x0, x1, x2, x3, x4⟩ := blk5 hbx h
      obtain ⟨o1, o2, _⟩ := o_box (hI.chg.trans h)
      exact ⟨(hI.num.chg h id).cell 0, o1, o2, (hCw.trans h).cell hd1 id, x0, x1, x2, x3, x4, h.cell c0 id, h.cell c1 id, h.cell c2 id, h.cell c3 id, h.cell c4 id⟩)
    have HC := Go.Lib.hid (Same_c v.d v.ks v.A v.n v.c u.d u.ks uA un uc W.drew ((gN _ (Hw.out.trans hCw)).chg (Chg.refl _ _).drew) (IsN.chg ⟨ok, le, mo, hk1⟩ (Chg.refl _ _).drew))
    have HI := Go.Lib.hid hI
    obtain ⟨o1, o2, o3, o4, o5⟩ := o_box hI.chg
    have s5 := hI.num.cell 0
    have p5 := hI.num.frozen 0
    have hi1 : (0 : Int) ≤ (pre.length : Nat) := by omega
    have hi2 : ((pre.length : Nat) : Int) < N := by omega
    have hi3 : pre.length < 401 := by omega
    have hi4 : ¬ N ≤ pre.length := by omega
    clear gN hCw hlW hl1 ok le mo hk1 hI hd1 c0 c1 c2 c3 c4 hbx
    cases hb : (v.e != u.e) with
    | true =>
      clear HC
      gi_wp2
      refine region_inRound (S := fun w' => w'.cell? ⟨w.heap.size + 1 + 1 + 1 + 1 + 1, 0, none⟩ = some (.int .i64 (pre.length : Nat)) ∧ w'.cell? ⟨w.heap.size + 1, 0, none⟩ = some (.slice (some ⟨gl, 0, none⟩) N cl) ∧ w'.cell? ⟨w.heap.size + 1 + 1, 0, none⟩ = some (.slice (some ⟨gd, 0, none⟩) N cd) ∧ w'.cell? ⟨gd, pre.length, none⟩ = some (.int .i64 u.e) ∧ w'.cell? ⟨Bx, 0, none⟩ = some (.int .i64 v.d.kind) ∧ w'.cell? ⟨Bx, 1, none⟩ = some (.string v.d.nm) ∧ w'.cell? ⟨Bx, 2, none⟩ = some (.int .u32 v.d.val) ∧ w'.cell? ⟨Bx, 3, none⟩ = some (.bool v.d.mark) ∧ w'.cell? ⟨Bx, 4, none⟩ = some (.slice v.A v.n v.c) ∧ w'.cell? ⟨gl, pre.length * 5, none⟩ = some (.int .i64 u.d.kind) ∧ w'.cell? ⟨gl, pre.length * 5 + 1, none⟩ = some (.string u.d.nm) ∧ w'.cell? ⟨gl, pre.length * 5 + 2, none⟩ = some (.int .u32 u.d.val) ∧ w'.cell? ⟨gl, pre.length * 5 + 3, none⟩ = some (.bool u.d.mark) ∧ w'.cell? ⟨gl, pre.length * 5 + 4, none⟩ = some (.slice uA un uc)) (by kernel_rfl) (fun h => by obtain ⟨_, _, h⟩ := h; exact h) (by kernel_rfl) (HS.out _ ((Chg.refl _ _).drew)) (fun hHeld => ?_)
      refine takeH (i := 0) (t := 20) (v := ?v0) rfl (by kernel_rfl) (by kernel_rfl) (by kernel_rfl) (fun _ _ _ h => h) rfl (Or.inl ⟨by rfl, ?h0⟩) (by assumption) ?r0
      case h0 => (intro w hSw; (try dsimp only at hSw); go_simp; try with_reducible rfl)
      simp only [List.setIfInBounds_toArray, List.set_cons_zero, List.set_cons_succ]
      refine takeH (i := 1) (t := 21) (v := ?v1) rfl (by kernel_rfl) (by kernel_rfl) (by kernel_rfl) (fun _ _ _ h => h) rfl (Or.inl ⟨by rfl, ?h1⟩) (by assumption) ?r1
      case h1 => (intro w hSw; (try dsimp only at hSw); go_simp; try with_reducible rfl)
      simp only [List.setIfInBounds_toArray, List.set_cons_zero, List.set_cons_succ]
      refine takeH (i := 2) (t := 22) (v := ?v2) rfl (by kernel_rfl) (by kernel_rfl) (by kernel_rfl) (fun _ _ _ h => h) rfl (Or.inl ⟨by rfl, ?h2⟩) (by assumption) ?r2
      case h2 => (intro w hSw; (try dsimp only at hSw); go_simp; try with_reducible rfl)
      simp only [List.setIfInBounds_toArray, List.set_cons_zero, List.set_cons_succ]
      refine takeH (i := 3) (t := 23) (v := ?v3) rfl (by kernel_rfl) (by kernel_rfl) (by kernel_rfl) (fun _ _ _ h => h) rfl (Or.inl ⟨by rfl, ?h3⟩) (by assumption) ?r3
      case h3 => (intro w hSw; (try dsimp only at hSw); go_simp; try with_reducible rfl)
      simp only [List.setIfInBounds_toArray, List.set_cons_zero, List.set_cons_succ]
      refine takeH (i := 4) (t := 24) (v := ?v4) rfl (by kernel_rfl) (by kernel_rfl) (by kernel_rfl) (fun _ _ _ h => h) rfl (Or.inl ⟨by rfl, ?h4⟩) (by assumption) ?r4
      case h4 => (intro w hSw; (try dsimp only at hSw); go_simp; try with_reducible rfl)
      simp only [List.setIfInBounds_toArray, List.set_cons_zero, List.set_cons_succ]
      refine takeH (i := 5) (t := 25) (v := ?v5) rfl (by kernel_rfl) (by kernel_rfl) (by kernel_rfl) (fun _ _ _ h => h) rfl (Or.inl ⟨by rfl, ?h5⟩) (by assumption) ?r5
      case h5 => (intro w hSw; (try dsimp only at hSw); go_simp; try with_reducible rfl)
      simp only [List.setIfInBounds_toArray, List.set_cons_zero, List.set_cons_succ]
      refine takeH (i := 6) (t := 26) (v := ?v6) rfl (by kernel_rfl) (by kernel_rfl) (by kernel_rfl) (fun _ _ _ h => h) rfl (Or.inl ⟨by rfl, ?h6⟩) (by assumption) ?r6
      case h6 => (intro w hSw; (try dsimp only at hSw); go_simp; try with_reducible rfl)
      simp only [List.setIfInBounds_toArray, List.set_cons_zero, List.set_cons_succ]
      refine takeH (i := 7) (t := 27) (v := ?v7) rfl (by kernel_rfl) (by kernel_rfl) (by kernel_rfl) (fun _ _ _ h => h) rfl (Or.inl ⟨by rfl, ?h7⟩) (by assumption) ?r7
      case h7 => (intro w hSw; (try dsimp only at hSw); go_simp; try with_reducible rfl)
      simp only [List.setIfInBounds_toArray, List.set_cons_zero, List.set_cons_succ]
      refine takeH (i := 8) (t := 28) (v := ?v8) rfl (by kernel_rfl) (by kernel_rfl) (by kernel_rfl) (fun _ _ _ h => h) rfl (Or.inl ⟨by rfl, ?h8⟩) (by assumption) ?r8
      case h8 => (intro w hSw; (try dsimp only at hSw); go_simp; try with_reducible rfl)
      simp only [List.setIfInBounds_toArray, List.set_cons_zero, List.set_cons_succ]
      refine takeH (i := 9) (t := 29) (v := ?v9) rfl (by kernel_rfl) (by kernel_rfl) (by kernel_rfl) (fun _ _ _ h => h) rfl (Or.inl ⟨by rfl, ?h9⟩) (by assumption) ?r9
      case h9 => (intro w hSw; (try dsimp only at hSw); go_simp; try with_reducible rfl)
      simp only [List.setIfInBounds_toArray, List.set_cons_zero, List.set_cons_succ]
      refine takeH (i := 10) (t := 30) (v := ?v10) rfl (by kernel_rfl) (by kernel_rfl) (by kernel_rfl) (fun _ _ _ h => h) rfl (Or.inl ⟨by rfl, ?h10⟩) (by assumption) ?r10
      case h10 => (intro w hSw; (try dsimp only at hSw); go_simp; try with_reducible rfl)
      simp only [List.setIfInBounds_toArray, List.set_cons_zero, List.set_cons_succ]
      refine takeH (i := 11) (t := 31) (v := ?v11) rfl (by kernel_rfl) (by kernel_rfl) (by kernel_rfl) (fun _ _ _ h => h) rfl (Or.inl ⟨by rfl, ?h11⟩) (by assumption) ?r11
      case h11 => (intro w hSw; (try dsimp only at hSw); go_simp; try with_reducible rfl)
      simp only [List.setIfInBounds_toArray, List.set_cons_zero, List.set_cons_succ]
      refine takeH (i := 12) (t := 32) (v := ?v12) rfl (by kernel_rfl) (by kernel_rfl) (by kernel_rfl) (fun _ _ _ h => h) rfl (Or.inl ⟨by rfl, ?h12⟩) (by assumption) ?r12
      case h12 => (intro w hSw; (try dsimp only at hSw); go_simp; try with_reducible rfl)
      simp only [List.setIfInBounds_toArray, List.set_cons_zero, List.set_cons_succ]
      refine takeH (i := 13) (t := 33) (v := undef) rfl (by kernel_rfl) (by kernel_rfl) (by kernel_rfl) (fun _ _ _ h => h) rfl (Or.inr ⟨by rfl, rfl⟩) (by assumption) ?_
      simp only [List.setIfInBounds_toArray, List.set_cons_zero, List.set_cons_succ]
      refine takeH (i := 14) (t := 34) (v := undef) rfl (by kernel_rfl) (by kernel_rfl) (by kernel_rfl) (fun _ _ _ h => h) rfl (Or.inr ⟨by rfl, rfl⟩) (by assumption) ?_
      simp only [List.setIfInBounds_toArray, List.set_cons_zero, List.set_cons_succ]
      refine takeH (i := 15) (t := 35) (v := undef) rfl (by kernel_rfl) (by kernel_rfl) (by kernel_rfl) (fun _ _ _ h => h) rfl (Or.inr ⟨by rfl, rfl⟩) (by assumption) ?_
      simp only [List.setIfInBounds_toArray, List.set_cons_zero, List.set_cons_succ]
      refine takeH (i := 16) (t := 36) (v := undef) rfl (by kernel_rfl) (by kernel_rfl) (by kernel_rfl) (fun _ _ _ h => h) rfl (Or.inr ⟨by rfl, rfl⟩) (by assumption) ?_
      simp only [List.setIfInBounds_toArray, List.set_cons_zero, List.set_cons_succ]
      refine takeH (i := 17) (t := 37) (v := undef) rfl (by kernel_rfl) (by kernel_rfl) (by kernel_rfl) (fun _ _ _ h => h) rfl (Or.inr ⟨by rfl, rfl⟩) (by assumption) ?_
      simp only [List.setIfInBounds_toArray, List.set_cons_zero, List.set_cons_succ]
      refine takeH (i := 18) (t := 38) (v := undef) rfl (by kernel_rfl) (by kernel_rfl) (by kernel_rfl) (fun _ _ _ h => h) rfl (Or.inr ⟨by rfl, rfl⟩) (by assumption) ?_
      simp only [List.setIfInBounds_toArray, List.set_cons_zero, List.set_cons_succ]
      refine takeH (i := 19) (t := 39) (v := undef) rfl (by kernel_rfl) (by kernel_rfl) (by kernel_rfl) (fun _ _ _ h => h) rfl (Or.inr ⟨by rfl, rfl⟩) (by assumption) ?_
      simp only [List.setIfInBounds_toArray, List.set_cons_zero, List.set_cons_succ]
      refine takeH (i := 20) (t := 40) (v := ?v20) rfl (by kernel_rfl) (by kernel_rfl) (by kernel_rfl) (fun _ _ _ h => h) rfl (Or.inl ⟨by rfl, ?h20⟩) (by assumption) ?r20
      case h20 => (intro w hSw; (try dsimp only at hSw); go_simp; try with_reducible rfl)
      simp only [List.setIfInBounds_toArray, List.set_cons_zero, List.set_cons_succ]
      refine wpAnyH_done (by kernel_rfl) ?_ _
      gi_wp2
      have hE := HI.out.leave (bb := false) (o_res d A n c gl gd cl cd N most w)
      exact ⟨keepsFrom_chg hE.2.drew (fun b hb => by rcases hb with rfl | rfl <;> omega), rfl, false, hE.1.drew, fun _ hp => by rw [HM.out hp] at hb; simp at hb⟩
    | false =>
      cases hs : sameT v.d v.ks u.d u.ks with
      | false =>
        rw [hs] at HC
        gi_wp2
        refine region_inRound (S := fun w' => w'.cell? ⟨w.heap.size + 1 + 1 + 1 + 1 + 1, 0, none⟩ = some (.int .i64 (pre.length : Nat)) ∧ w'.cell? ⟨w.heap.size + 1, 0, none⟩ = some (.slice (some ⟨gl, 0, none⟩) N cl) ∧ w'.cell? ⟨w.heap.size + 1 + 1, 0, none⟩ = some (.slice (some ⟨gd, 0, none⟩) N cd) ∧ w'.cell? ⟨gd, pre.length, none⟩ = some (.int .i64 u.e) ∧ w'.cell? ⟨Bx, 0, none⟩ = some (.int .i64 v.d.kind) ∧ w'.cell? ⟨Bx, 1, none⟩ = some (.string v.d.nm) ∧ w'.cell? ⟨Bx, 2, none⟩ = some (.int .u32 v.d.val) ∧ w'.cell? ⟨Bx, 3, none⟩ = some (.bool v.d.mark) ∧ w'.cell? ⟨Bx, 4, none⟩ = some (.slice v.A v.n v.c) ∧ w'.cell? ⟨gl, pre.length * 5, none⟩ = some (.int .i64 u.d.kind) ∧ w'.cell? ⟨gl, pre.length * 5 + 1, none⟩ = some (.string u.d.nm) ∧ w'.cell? ⟨gl, pre.length * 5 + 2, none⟩ = some (.int .u32 u.d.val) ∧ w'.cell? ⟨gl, pre.length * 5 + 3, none⟩ = some (.bool u.d.mark) ∧ w'.cell? ⟨gl, pre.length * 5 + 4, none⟩ = some (.slice uA un uc)) (by kernel_rfl) (fun h => by obtain ⟨_, _, h⟩ := h; exact h) (by kernel_rfl) (HS.out _ ((Chg.refl _ _).drew)) (fun hHeld => ?_)
        refine takeH (i := 0) (t := 20) (v := ?v0b) rfl (by kernel_rfl) (by kernel_rfl) (by kernel_rfl) (fun _ _ _ h => h) rfl (Or.inl ⟨by rfl, ?h0b⟩) (by assumption) ?r0b
        case h0b => (intro w hSw; (try dsimp only at hSw); go_simp; try with_reducible rfl)
        simp only [List.setIfInBounds_toArray, List.set_cons_zero, List.set_cons_succ]
        refine takeH (i := 1) (t := 21) (v := ?v1b) rfl (by kernel_rfl) (by kernel_rfl) (by kernel_rfl) (fun _ _ _ h => h) rfl (Or.inl ⟨by rfl, ?h1b⟩) (by assumption) ?r1b
        case h1b => (intro w hSw; (try dsimp only at hSw); go_simp; try with_reducible rfl)
        simp only [List.setIfInBounds_toArray, List.set_cons_zero, List.set_cons_succ]
        refine takeH (i := 2) (t := 22) (v := ?v2b) rfl (by kernel_rfl) (by kernel_rfl) (by kernel_rfl) (fun _ _ _ h => h) rfl (Or.inl ⟨by rfl, ?h2b⟩) (by assumption) ?r2b
        case h2b => (intro w hSw; (try dsimp only at hSw); go_simp; try with_reducible rfl)
        simp only [List.setIfInBounds_toArray, List.set_cons_zero, List.set_cons_succ]
        refine takeH (i := 3) (t := 23) (v := ?v3b) rfl (by kernel_rfl) (by kernel_rfl) (by kernel_rfl) (fun _ _ _ h => h) rfl (Or.inl ⟨by rfl, ?h3b⟩) (by assumption) ?r3b
        case h3b => (intro w hSw; (try dsimp only at hSw); go_simp; try with_reducible rfl)
        simp only [List.setIfInBounds_toArray, List.set_cons_zero, List.set_cons_succ]
        refine takeH (i := 4) (t := 24) (v := ?v4b) rfl (by kernel_rfl) (by kernel_rfl) (by kernel_rfl) (fun _ _ _ h => h) rfl (Or.inl ⟨by rfl, ?h4b⟩) (by assumption) ?r4b
        case h4b => (intro w hSw; (try dsimp only at hSw); go_simp; try with_reducible rfl)
        simp only [List.setIfInBounds_toArray, List.set_cons_zero, List.set_cons_succ]
        refine takeH (i := 5) (t := 25) (v := ?v5b) rfl (by kernel_rfl) (by kernel_rfl) (by kernel_rfl) (fun _ _ _ h => h) rfl (Or.inl ⟨by rfl, ?h5b⟩) (by assumption) ?r5b
        case h5b => (intro w hSw; (try dsimp only at hSw); go_simp; try with_reducible rfl)
        simp only [List.setIfInBounds_toArray, List.set_cons_zero, List.set_cons_succ]
        refine takeH (i := 6) (t := 26) (v := ?v6b) rfl (by kernel_rfl) (by kernel_rfl) (by kernel_rfl) (fun _ _ _ h => h) rfl (Or.inl ⟨by rfl, ?h6b⟩) (by assumption) ?r6b
        case h6b => (intro w hSw; (try dsimp only at hSw); go_simp; try with_reducible rfl)
        simp only [List.setIfInBounds_toArray, List.set_cons_zero, List.set_cons_succ]
        refine takeH (i := 7) (t := 27) (v := ?v7b) rfl (by kernel_rfl) (by kernel_rfl) (by kernel_rfl) (fun _ _ _ h => h) rfl (Or.inl ⟨by rfl, ?h7b⟩) (by assumption) ?r7b
        case h7b => (intro w hSw; (try dsimp only at hSw); go_simp; try with_reducible rfl)
        simp only [List.setIfInBounds_toArray, List.set_cons_zero, List.set_cons_succ]
        refine takeH (i := 8) (t := 28) (v := ?v8b) rfl (by kernel_rfl) (by kernel_rfl) (by kernel_rfl) (fun _ _ _ h => h) rfl (Or.inl ⟨by rfl, ?h8b⟩) (by assumption) ?r8b
        case h8b => (intro w hSw; (try dsimp only at hSw); go_simp; try with_reducible rfl)
        simp only [List.setIfInBounds_toArray, List.set_cons_zero, List.set_cons_succ]
        refine takeH (i := 9) (t := 29) (v := ?v9b) rfl (by kernel_rfl) (by kernel_rfl) (by kernel_rfl) (fun _ _ _ h => h) rfl (Or.inl ⟨by rfl, ?h9b⟩) (by assumption) ?r9b
        case h9b => (intro w hSw; (try dsimp only at hSw); go_simp; try with_reducible rfl)
        simp only [List.setIfInBounds_toArray, List.set_cons_zero, List.set_cons_succ]
        refine takeH (i := 10) (t := 30) (v := ?v10b) rfl (by kernel_rfl) (by kernel_rfl) (by kernel_rfl) (fun _ _ _ h => h) rfl (Or.inl ⟨by rfl, ?h10b⟩) (by assumption) ?r10b
        case h10b => (intro w hSw; (try dsimp only at hSw); go_simp; try with_reducible rfl)
        simp only [List.setIfInBounds_toArray, List.set_cons_zero, List.set_cons_succ]
        refine takeH (i := 11) (t := 31) (v := ?v11b) rfl (by kernel_rfl) (by kernel_rfl) (by kernel_rfl) (fun _ _ _ h => h) rfl (Or.inl ⟨by rfl, ?h11b⟩) (by assumption) ?r11b
        case h11b => (intro w hSw; (try dsimp only at hSw); go_simp; try with_reducible rfl)
        simp only [List.setIfInBounds_toArray, List.set_cons_zero, List.set_cons_succ]
        refine takeH (i := 12) (t := 32) (v := ?v12b) rfl (by kernel_rfl) (by kernel_rfl) (by kernel_rfl) (fun _ _ _ h => h) rfl (Or.inl ⟨by rfl, ?h12b⟩) (by assumption) ?r12b
        case h12b => (intro w hSw; (try dsimp only at hSw); go_simp; try with_reducible rfl)
        simp only [List.setIfInBounds_toArray, List.set_cons_zero, List.set_cons_succ]
        refine takeH (i := 13) (t := 33) (v := ?v13b) rfl (by kernel_rfl) (by kernel_rfl) (by kernel_rfl) (fun _ _ _ h => h) rfl (Or.inl ⟨by rfl, ?h13b⟩) (by assumption) ?r13b
        case h13b => (intro w hSw; (try dsimp only at hSw); go_simp; try with_reducible rfl)
        simp only [List.setIfInBounds_toArray, List.set_cons_zero, List.set_cons_succ]
        refine takeH (i := 14) (t := 34) (v := ?v14b) rfl (by kernel_rfl) (by kernel_rfl) (by kernel_rfl) (fun _ _ _ h => h) rfl (Or.inl ⟨by rfl, ?h14b⟩) (by assumption) ?r14b
        case h14b => (intro w hSw; (try dsimp only at hSw); go_simp; try with_reducible rfl)
        simp only [List.setIfInBounds_toArray, List.set_cons_zero, List.set_cons_succ]
        refine takeH (i := 15) (t := 35) (v := ?v15b) rfl (by kernel_rfl) (by kernel_rfl) (by kernel_rfl) (fun _ _ _ h => h) rfl (Or.inl ⟨by rfl, ?h15b⟩) (by assumption) ?r15b
        case h15b => (intro w hSw; (try dsimp only at hSw); go_simp; try with_reducible rfl)
        simp only [List.setIfInBounds_toArray, List.set_cons_zero, List.set_cons_succ]
        refine takeH (i := 16) (t := 36) (v := ?v16b) rfl (by kernel_rfl) (by kernel_rfl) (by kernel_rfl) (fun _ _ _ h => h) rfl (Or.inl ⟨by rfl, ?h16b⟩) (by assumption) ?r16b
        case h16b => (intro w hSw; (try dsimp only at hSw); go_simp; try with_reducible rfl)
        simp only [List.setIfInBounds_toArray, List.set_cons_zero, List.set_cons_succ]
        refine takeH (i := 17) (t := 37) (v := ?v17b) rfl (by kernel_rfl) (by kernel_rfl) (by kernel_rfl) (fun _ _ _ h => h) rfl (Or.inl ⟨by rfl, ?h17b⟩) (by assumption) ?r17b
        case h17b => (intro w hSw; (try dsimp only at hSw); go_simp; try with_reducible rfl)
        simp only [List.setIfInBounds_toArray, List.set_cons_zero, List.set_cons_succ]
        refine callH (i := 18) (t := 38) (f := 21) (args := #[nodeV v.d v.A v.n v.c, nodeV u.d uA un uc]) rfl (by kernel_rfl) rfl (by rfl) ?hxb ?hcb
        case hxb => (go_simp; try rfl)
        case hcb =>
          refine (HC.out).mono ?_
          rintro e w5 ⟨rfl, hc5⟩
          refine ⟨_, rfl, HS.out _ (((Chg.refl _ _).drew).trans hc5), fun hHeld2 => ?_⟩
          simp only [List.setIfInBounds_toArray, List.set_cons_zero, List.set_cons_succ]
          refine takeH (i := 19) (t := 39) (v := ?v19b) rfl (by kernel_rfl) (by kernel_rfl) (by kernel_rfl) (fun _ _ _ h => h) rfl (Or.inl ⟨by rfl, ?h19b⟩) (by assumption) ?r19b
          case h19b => (intro w hSw; (try dsimp only at hSw); go_simp; try with_reducible rfl)
          simp only [List.setIfInBounds_toArray, List.set_cons_zero, List.set_cons_succ]
          refine takeH (i := 20) (t := 40) (v := ?v20b) rfl (by kernel_rfl) (by kernel_rfl) (by kernel_rfl) (fun _ _ _ h => h) rfl (Or.inl ⟨by rfl, ?h20b⟩) (by assumption) ?r20b
          case h20b => (intro w hSw; (try dsimp only at hSw); go_simp; try with_reducible rfl)
          simp only [List.setIfInBounds_toArray, List.set_cons_zero, List.set_cons_succ]
          refine wpAnyH_done (by kernel_rfl) ?_ _
          have hI5 := HI.out.on ((Chg.refl _ _).drew.trans hc5)
          obtain ⟨y1, y2, y3, y4, y5⟩ := o_box hI5.chg
          have hE := hI5.leave (bb := false) (o_res d A n c gl gd cl cd N most w)
          have hch := ((Chg.refl (OX w.heap.size) W).drew.trans (hc5.mono fun _ _ h => h.elim)).trans hE.2
          have HE := Go.Lib.hid hE.1
          have Hch := Go.Lib.hid hch
          clear hI5 hE hch hHeld hHeld2
          gi_wp2
          exact ⟨keepsFrom_chg Hch.out (fun b hb => by rcases hb with rfl | rfl <;> omega), rfl, false, HE.out, fun _ hp => by rw [HM.out hp, same_self] at hs; cases hs⟩
      | true =>
        rw [hs] at HC
        gi_wp2
        refine region_inRound (S := fun w' => w'.cell? ⟨w.heap.size + 1 + 1 + 1 + 1 + 1, 0, none⟩ = some (.int .i64 (pre.length : Nat)) ∧ w'.cell? ⟨w.heap.size + 1, 0, none⟩ = some (.slice (some ⟨gl, 0, none⟩) N cl) ∧ w'.cell? ⟨w.heap.size + 1 + 1, 0, none⟩ = some (.slice (some ⟨gd, 0, none⟩) N cd) ∧ w'.cell? ⟨gd, pre.length, none⟩ = some (.int .i64 u.e) ∧ w'.cell? ⟨Bx, 0, none⟩ = some (.int .i64 v.d.kind) ∧ w'.cell? ⟨Bx, 1, none⟩ = some (.string v.d.nm) ∧ w'.cell? ⟨Bx, 2, none⟩ = some (.int .u32 v.d.val) ∧ w'.cell? ⟨Bx, 3, none⟩ = some (.bool v.d.mark) ∧ w'.cell? ⟨Bx, 4, none⟩ = some (.slice v.A v.n v.c) ∧ w'.cell? ⟨gl, pre.length * 5, none⟩ = some (.int .i64 u.d.kind) ∧ w'.cell? ⟨gl, pre.length * 5 + 1, none⟩ = some (.string u.d.nm) ∧ w'.cell? ⟨gl, pre.length * 5 + 2, none⟩ = some (.int .u32 u.d.val) ∧ w'.cell? ⟨gl, pre.length * 5 + 3, none⟩ = some (.bool u.d.mark) ∧ w'.cell? ⟨gl, pre.length * 5 + 4, none⟩ = some (.slice uA un uc)) (by kernel_rfl) (fun h => by obtain ⟨_, _, h⟩ := h; exact h) (by kernel_rfl) (HS.out _ ((Chg.refl _ _).drew)) (fun hHeld => ?_)
        refine takeH (i := 0) (t := 20) (v := ?v0c) rfl (by kernel_rfl) (by kernel_rfl) (by kernel_rfl) (fun _ _ _ h => h) rfl (Or.inl ⟨by rfl, ?h0c⟩) (by assumption) ?r0c
        case h0c => (intro w hSw; (try dsimp only at hSw); go_simp; try with_reducible rfl)
        simp only [List.setIfInBounds_toArray, List.set_cons_zero, List.set_cons_succ]
        refine takeH (i := 1) (t := 21) (v := ?v1c) rfl (by kernel_rfl) (by kernel_rfl) (by kernel_rfl) (fun _ _ _ h => h) rfl (Or.inl ⟨by rfl, ?h1c⟩) (by assumption) ?r1c
        case h1c => (intro w hSw; (try dsimp only at hSw); go_simp; try with_reducible rfl)
        simp only [List.setIfInBounds_toArray, List.set_cons_zero, List.set_cons_succ]
        refine takeH (i := 2) (t := 22) (v := ?v2c) rfl (by kernel_rfl) (by kernel_rfl) (by kernel_rfl) (fun _ _ _ h => h) rfl (Or.inl ⟨by rfl, ?h2c⟩) (by assumption) ?r2c
        case h2c => (intro w hSw; (try dsimp only at hSw); go_simp; try with_reducible rfl)
        simp only [List.setIfInBounds_toArray, List.set_cons_zero, List.set_cons_succ]
        refine takeH (i := 3) (t := 23) (v := ?v3c) rfl (by kernel_rfl) (by kernel_rfl) (by kernel_rfl) (fun _ _ _ h => h) rfl (Or.inl ⟨by rfl, ?h3c⟩) (by assumption) ?r3c
        case h3c => (intro w hSw; (try dsimp only at hSw); go_simp; try with_reducible rfl)
        simp only [List.setIfInBounds_toArray, List.set_cons_zero, List.set_cons_succ]
        refine takeH (i := 4) (t := 24) (v := ?v4c) rfl (by kernel_rfl) (by kernel_rfl) (by kernel_rfl) (fun _ _ _ h => h) rfl (Or.inl ⟨by rfl, ?h4c⟩) (by assumption) ?r4c
        case h4c => (intro w hSw; (try dsimp only at hSw); go_simp; try with_reducible rfl)
        simp only [List.setIfInBounds_toArray, List.set_cons_zero, List.set_cons_succ]
        refine takeH (i := 5) (t := 25) (v := ?v5c) rfl (by kernel_rfl) (by kernel_rfl) (by kernel_rfl) (fun _ _ _ h => h) rfl (Or.inl ⟨by rfl, ?h5c⟩) (by assumption) ?r5c
        case h5c => (intro w hSw; (try dsimp only at hSw); go_simp; try with_reducible rfl)
        simp only [List.setIfInBounds_toArray, List.set_cons_zero, List.set_cons_succ]
        refine takeH (i := 6) (t := 26) (v := ?v6c) rfl (by kernel_rfl) (by kernel_rfl) (by kernel_rfl) (fun _ _ _ h => h) rfl (Or.inl ⟨by rfl, ?h6c⟩) (by assumption) ?r6c
        case h6c => (intro w hSw; (try dsimp only at hSw); go_simp; try with_reducible rfl)
        simp only [List.setIfInBounds_toArray, List.set_cons_zero, List.set_cons_succ]
        refine takeH (i := 7) (t := 27) (v := ?v7c) rfl (by kernel_rfl) (by kernel_rfl) (by kernel_rfl) (fun _ _ _ h => h) rfl (Or.inl ⟨by rfl, ?h7c⟩) (by assumption) ?r7c
        case h7c => (intro w hSw; (try dsimp only at hSw); go_simp; try with_reducible rfl)
        simp only [List.setIfInBounds_toArray, List.set_cons_zero, List.set_cons_succ]
        refine takeH (i := 8) (t := 28) (v := ?v8c) rfl (by kernel_rfl) (by kernel_rfl) (by kernel_rfl) (fun _ _ _ h => h) rfl (Or.inl ⟨by rfl, ?h8c⟩) (by assumption) ?r8c
        case h8c => (intro w hSw; (try dsimp only at hSw); go_simp; try with_reducible rfl)
        simp only [List.setIfInBounds_toArray, List.set_cons_zero, List.set_cons_succ]
        refine takeH (i := 9) (t := 29) (v := ?v9c) rfl (by kernel_rfl) (by kernel_rfl) (by kernel_rfl) (fun _ _ _ h => h) rfl (Or.inl ⟨by rfl, ?h9c⟩) (by assumption) ?r9c
        case h9c => (intro w hSw; (try dsimp only at hSw); go_simp; try with_reducible rfl)
        simp only [List.setIfInBounds_toArray, List.set_cons_zero, List.set_cons_succ]
        refine takeH (i := 10) (t := 30) (v := ?v10c) rfl (by kernel_rfl) (by kernel_rfl) (by kernel_rfl) (fun _ _ _ h => h) rfl (Or.inl ⟨by rfl, ?h10c⟩) (by assumption) ?r10c
        case h10c => (intro w hSw; (try dsimp only at hSw); go_simp; try with_reducible rfl)
        simp only [List.setIfInBounds_toArray, List.set_cons_zero, List.set_cons_succ]
        refine takeH (i := 11) (t := 31) (v := ?v11c) rfl (by kernel_rfl) (by kernel_rfl) (by kernel_rfl) (fun _ _ _ h => h) rfl (Or.inl ⟨by rfl, ?h11c⟩) (by assumption) ?r11c
        case h11c => (intro w hSw; (try dsimp only at hSw); go_simp; try with_reducible rfl)
        simp only [List.setIfInBounds_toArray, List.set_cons_zero, List.set_cons_succ]
        refine takeH (i := 12) (t := 32) (v := ?v12c) rfl (by kernel_rfl) (by kernel_rfl) (by kernel_rfl) (fun _ _ _ h => h) rfl (Or.inl ⟨by rfl, ?h12c⟩) (by assumption) ?r12c
        case h12c => (intro w hSw; (try dsimp only at hSw); go_simp; try with_reducible rfl)
        simp only [List.setIfInBounds_toArray, List.set_cons_zero, List.set_cons_succ]
        refine takeH (i := 13) (t := 33) (v := ?v13c) rfl (by kernel_rfl) (by kernel_rfl) (by kernel_rfl) (fun _ _ _ h => h) rfl (Or.inl ⟨by rfl, ?h13c⟩) (by assumption) ?r13c
        case h13c => (intro w hSw; (try dsimp only at hSw); go_simp; try with_reducible rfl)
        simp only [List.setIfInBounds_toArray, List.set_cons_zero, List.set_cons_succ]
        refine takeH (i := 14) (t := 34) (v := ?v14c) rfl (by kernel_rfl) (by kernel_rfl) (by kernel_rfl) (fun _ _ _ h => h) rfl (Or.inl ⟨by rfl, ?h14c⟩) (by assumption) ?r14c
        case h14c => (intro w hSw; (try dsimp only at hSw); go_simp; try with_reducible rfl)
        simp only [List.setIfInBounds_toArray, List.set_cons_zero, List.set_cons_succ]
        refine takeH (i := 15) (t := 35) (v := ?v15c) rfl (by kernel_rfl) (by kernel_rfl) (by kernel_rfl) (fun _ _ _ h => h) rfl (Or.inl ⟨by rfl, ?h15c⟩) (by assumption) ?r15c
        case h15c => (intro w hSw; (try dsimp only at hSw); go_simp; try with_reducible rfl)
        simp only [List.setIfInBounds_toArray, List.set_cons_zero, List.set_cons_succ]
        refine takeH (i := 16) (t := 36) (v := ?v16c) rfl (by kernel_rfl) (by kernel_rfl) (by kernel_rfl) (fun _ _ _ h => h) rfl (Or.inl ⟨by rfl, ?h16c⟩) (by assumption) ?r16c
        case h16c => (intro w hSw; (try dsimp only at hSw); go_simp; try with_reducible rfl)
        simp only [List.setIfInBounds_toArray, List.set_cons_zero, List.set_cons_succ]
        refine takeH (i := 17) (t := 37) (v := ?v17c) rfl (by kernel_rfl) (by kernel_rfl) (by kernel_rfl) (fun _ _ _ h => h) rfl (Or.inl ⟨by rfl, ?h17c⟩) (by assumption) ?r17c
        case h17c => (intro w hSw; (try dsimp only at hSw); go_simp; try with_reducible rfl)
        simp only [List.setIfInBounds_toArray, List.set_cons_zero, List.set_cons_succ]
        refine callH (i := 18) (t := 38) (f := 21) (args := #[nodeV v.d v.A v.n v.c, nodeV u.d uA un uc]) rfl (by kernel_rfl) rfl (by rfl) ?hxc ?hcc
        case hxc => (go_simp; try rfl)
        case hcc =>
          refine (HC.out).mono ?_
          rintro e w5 ⟨rfl, hc5⟩
          refine ⟨_, rfl, HS.out _ (((Chg.refl _ _).drew).trans hc5), fun hHeld2 => ?_⟩
          simp only [List.setIfInBounds_toArray, List.set_cons_zero, List.set_cons_succ]
          refine takeH (i := 19) (t := 39) (v := ?v19c) rfl (by kernel_rfl) (by kernel_rfl) (by kernel_rfl) (fun _ _ _ h => h) rfl (Or.inl ⟨by rfl, ?h19c⟩) (by assumption) ?r19c
          case h19c => (intro w hSw; (try dsimp only at hSw); go_simp; try with_reducible rfl)
          simp only [List.setIfInBounds_toArray, List.set_cons_zero, List.set_cons_succ]
          refine takeH (i := 20) (t := 40) (v := ?v20c) rfl (by kernel_rfl) (by kernel_rfl) (by kernel_rfl) (fun _ _ _ h => h) rfl (Or.inl ⟨by rfl, ?h20c⟩) (by assumption) ?r20c
          case h20c => (intro w hSw; (try dsimp only at hSw); go_simp; try with_reducible rfl)
          simp only [List.setIfInBounds_toArray, List.set_cons_zero, List.set_cons_succ]
          refine wpAnyH_done (by kernel_rfl) ?_ _
          have hI5 := HI.out.on ((Chg.refl _ _).drew.trans hc5)
          have hU := hI5.up (by simp)
          have z5 := hI5.num.cell 0
          have z6 := hI5.num.frozen 0
          have t5 := hU.1.num.cell 0
          obtain ⟨y1, y2, y3, y4, y5⟩ := o_box hU.1.chg
          have hE := hU.1.leave (bb := true) (o_res d A n c gl gd cl cd N most w)
          have hchU := ((Chg.refl (OX w.heap.size) W).drew.trans (hc5.mono fun _ _ h => h.elim)).trans hU.2
          have HU := Go.Lib.hid hU.1
          have HchU := Go.Lib.hid hchU
          have HE := Go.Lib.hid hE.1
          have HchE := Go.Lib.hid (hchU.trans hE.2)
          simp only [List.getElem?_toArray, List.getElem?_cons_zero] at z5 t5
          clear hI5 hU hE hchU hHeld hHeld2
          cases heq : (((pre.length : Nat) : Int) + 1 == most) with
          | true =>
            gi_wp2
            exact ⟨keepsFrom_chg HchE.out (fun b hb => by rcases hb with rfl | rfl <;> omega), rfl, true, HE.out, fun h => by cases h⟩
          | false =>
            gi_wp2
            exact ⟨keepsFrom_chg HchU.out (fun b hb => by rcases hb with rfl | rfl <;> omega), keepC_chg HchU.out, by show OI _ _ (pre ++ [x]).length _; rw [List.length_append]; exact HU.out⟩
  case done =>
    rintro D ys W hD rfl hI hK
    rw [List.length_finRange, hlen] at hI
    have HI := Go.Lib.hid hI
    have HDk := Go.Lib.hid hK
    obtain ⟨o1, o2, o3, o4, o5⟩ := o_box hI.chg
    have s5 := hI.num.cell 0
    simp only [List.getElem?_toArray, List.getElem?_cons_zero] at s5
    clear hI hK
    go_wp2_with fail
    have hE := HI.out.leave (bb := true) (o_res d A n c gl gd cl cd N most w)
    exact leave_once w ((Below.heap_setCell W _ _ D (by simp; omega)).trans HDk.out) (hE.1.res.cell 0) rfl ((HwO.out.trans HI.out.chg).setCell (fun h => by simp at h; omega) _) (by omega)
  case stop =>
    rintro D cde pre W hD hSp ⟨rfl, bb, hE, hbb⟩ hK
    have hb : bb = true := by
      cases bb with
      | true => rfl
      | false => exact (hbb rfl hSp).elim
    subst hb
    gi_wp2
    exact leave_once w hK (hE.res.cell 0) rfl (HwO.out.step hE.chg fun i hi hx => by omega) (by omega)
end
end Go.Proofs.Ytnihjkcniddepaa

