/- What is proved: the walk of the law TreeMeans over the nodes that come. Conditions: the library's variable holds a number. -/
import Derived.Test.YtnihjkcniddepaaMeans
import Derived.Deep.RegionHeld3
import Derived.Test.YtnihjkcniddepaaOpen
namespace Go.Proofs.Ytnihjkcniddepaa
open Go.RowKit Go.Shelf
attribute [local go_sem] Oper.semAt_some
abbrev IT : TypeId := 3
theorem run_equalIn_func_nil (d : Nat) (f : Fn) (x c : Array Value) (w : World) : (Op.equalIn (d + 1) 48 (.func f x c) .nilFunc).run Try.prog w = .ok false w := by simp [Op.equalIn, run_underlying Try.underlying48]
theorem run_eql_func_nil (f : Fn) (x c : Array Value) (w : World) : (binOp .eql 48 (.func f x c) .nilFunc).run Try.prog w = .ok (.bool false) w := by
  simp only [binOp]
  simp [show Op.equal 48 (.func f x c) .nilFunc = Op.equalIn (9999 + 1) 48 (.func f x c) .nilFunc from rfl, run_equalIn_func_nil 9999 f x c w]
def vget (vl : List Vis) (x : Fin vl.length) : Vis := vl[x]
/-- the two counters' blocks -/
def MX (s : Nat) : Nat → Prop := fun b => b = s ∨ b = s + 1
structure MI (w0 : World) (s : Nat) (n : Nat) (m : Int) (W : World) : Prop where
  chg : Chg NoB w0 W
  num : Blk W s IT #[.int .i64 n]
  max : Blk W (s + 1) IT #[.int .i64 m]
theorem MI.grown {w0 A B : World} {s n : Nat} {m : Int} {row : Option Nat} {b : Nat} (h : MI w0 s n m A) (hb : s + 1 < b) (hg : A.grownBy B row) (hw : w0.heap.size ≤ b) (hr : ∀ r, row = some r → b ≤ r) : MI w0 s n m B :=
  ⟨h.chg.grown hg fun k e hk => by have := hr k e; omega, h.num.grown hg fun e => by have := hr _ e.symm; omega, h.max.grown hg fun e => by have := hr _ e.symm; omega⟩
theorem MI.alloc {w0 A : World} {s n : Nat} {m : Int} {o : Obj} (h : MI w0 s n m A) : MI w0 s n m (A.alloc o) := ⟨h.chg.alloc _, h.num.alloc _, h.max.alloc _⟩
theorem MI.step {w0 W W3 : World} {s n : Nat} {m m' : Int} (h : MI w0 s n m W) (hs : w0.heap.size ≤ s) (h3 : Chg NoB ((W.setCell ⟨s, 0, none⟩ (.int .i64 (n + 1))).setCell ⟨s + 1, 0, none⟩ (.int .i64 m')) W3) : Chg (MX s) W W3 ∧ MI w0 s (n + 1) m' W3 := by
  have h2 : Chg (MX s) W ((W.setCell ⟨s, 0, none⟩ (.int .i64 (n + 1))).setCell ⟨s + 1, 0, none⟩ (.int .i64 m')) := ((Chg.refl _ _).setCell (p := ⟨s, 0, none⟩) (fun _ => .inl rfl) _).setCell (p := ⟨s + 1, 0, none⟩) (fun _ => .inr rfl) _
  have h1 := h2.trans (h3.mono fun _ _ h => h.elim)
  refine ⟨h1, h.chg.step h1 fun i hi hx => by rcases hx with rfl | rfl <;> omega, ?_, ?_⟩
  · exact (((h.num.set_ 0 (.int .i64 (n + 1))).far (p := ⟨s + 1, 0, none⟩) (by simp) (.int .i64 m')).chg h3 id)
  · exact (((h.max.far (p := ⟨s, 0, none⟩) (by simp) (.int .i64 (n + 1))).set_ 0 (.int .i64 m')).chg h3 id)
theorem keepsFrom_chg {X : Nat → Prop} {W W' : World} {B : Nat} (h : Chg X W W') (hX : ∀ b, X b → b < B) : KeepsFrom B W W' := ⟨h.size, fun k o hk ho _ => (h.block k (Array.getElem?_eq_some_iff.1 ho).1 (fun hx => by have := hX k hx; omega)).trans ho⟩
theorem keepC_chg {X : Nat → Prop} {W W' : World} (h : Chg X W W') : KeepC X W W' := ⟨h.size, fun k o hk ho _ => (h.block k (Array.getElem?_eq_some_iff.1 ho).1 hk).trans ho⟩
theorem round_call {P : Program} {f : FuncId} {args : Array Value} {w : World} {R R' : Ending → World → Prop} {m l : Nat} (h : Calls P f args w R) (hR : ∀ e w', R e w' → R' e w') :
    Fence.wide.fn f ∧ CallsIn (Fence.wide.inRound l) m P f args w R' := ⟨trivial, (CallsIn.inRound l (callsIn_wide.2 h)).mono hR⟩
theorem visN_isN {w : World} {d : Own} {ks : F} {A : Option Addr} {n c : Nat} (h : IsN w d ks A n c) : ∀ v ∈ visN w d ks A n c, IsN w v.d v.ks v.A v.n v.c := by
  intro v hv
  rcases List.mem_cons.1 hv with rfl | hv
  · exact h
  · exact visL_isN h.kids v hv
theorem visN_e {w : World} {d : Own} {ks : F} {A : Option Addr} {n c : Nat} : ∀ v ∈ visN w d ks A n c, 0 ≤ v.e ∧ v.e ≤ ks.size := by
  intro v hv
  rcases List.mem_cons.1 hv with rfl | hv
  · exact ⟨Int.le_refl _, by show (0 : Int) ≤ _; omega⟩
  · have := visL_depth w ks A 1 v hv; omega
theorem visN_max {w : World} {d : Own} {ks : F} {A : Option Addr} {n c : Nat} : maxE (visN w d ks A n c) 0 = ks.deep := by
  have := visL_max w ks A 1 0 (by omega)
  unfold maxE at this
  simp only [visN, maxE, List.foldl_cons]
  rw [show max (0 : Int) 0 = 0 from rfl, this]
  omega
theorem map_fin (l : List Vis) : (List.finRange l.length).map (fun x => vget l x) = l := by
  apply List.ext_getElem
  · simp
  · intro i h1 h2; simp [vget]
section
variable (d : Own) (ks : F) (kA : Option Addr) (kn kc : Nat) (a : Int) (w : World)
theorem leave_bool {w3s wLs D : Nat} {wF : World} {tmps : Array Value} (hs3 : w.heap.size + 2 ≤ w3s) (hD : wLs ≤ D) (hL : wLs = w3s + 3) (hK : wF.heap[D]? = some (.deferred (some []))) (hc : (wF.setCell ⟨w.heap.size + 1, 0, none⟩ (.bool true)).cell? ⟨w.heap.size + 1, 0, none⟩ = some (.bool true)) (hp : tmps.getD 4 undef = .pointer (some ⟨w.heap.size + 1, 0, none⟩)) (hw : Chg NoB w wF) :
    bodyPostM Fence.wide 9 Try.prog Try.f8 (fun e w' => e = .returned (.bool true) ∧ Chg NoB w w') .ret { tmps := tmps, defers := [{ target := .collected D, args := #[] }] } (wF.setCell ⟨w.heap.size + 1, 0, none⟩ (.bool true)) := by
  have hK' : (wF.setCell ⟨w.heap.size + 1, 0, none⟩ (.bool true)).heap[D]? = some (.deferred (some [])) := (Below.heap_setCell wF ⟨w.heap.size + 1, 0, none⟩ _ D (by simp; omega)).trans hK
  refine ⟨by simp, .inl ⟨_, _, rfl, run_takeDeferred hK', ?_⟩⟩
  exact ⟨_, results_bool rfl _ hp (cell_kept hc (grownBy_putObj' _ D _) (fun r e => by cases e; exact ⟨_, hK', rfl⟩)), rfl, (hw.setCell (fun h => by simp at h; omega) _).grown (grownBy_putObj' _ D _) (fun k e hk => by cases e; omega)⟩
set_option maxRecDepth 100000 in
set_option maxHeartbeats 4000000 in
theorem means_main (hN : IsN w d ks kA kn kc) (hv : Var0 w) (hb : 0 ≤ bigT d ks 400) (hm : mayT d ks = true) (ha : -9223372036854775808 ≤ a ∧ a ≤ 9223372036854775807) :
    Calls Try.prog 8 #[nodeV d kA kn kc, .int .i64 a] w fun e w' => e = .returned (.bool true) ∧ Chg NoB w w' := by
  have hw := m0_chg d kA kn kc w
  have hsz := bigT_size d ks 400 hb
  have HK : Hid (∀ W, Chg NoB (M0 d kA kn kc w) W → Calls Try.prog 9 #[] W fun e w' => e = .returned (.bool true) ∧ Chg NoB W w') := Go.Lib.hid fun W hW => known_c W (hv.chg (hw.trans hW))
  have HF : Hid (∀ W, Chg NoB (M0 d kA kn kc w) W → Calls Try.prog 17 #[nodeV d kA kn kc] W fun e w' => e = .returned (.bool true) ∧ Chg NoB W w') := Go.Lib.hid fun W hW => by have := few_c d ks kA kn kc W (hN.chg (hw.trans hW)); rwa [decide_eq_true hb] at this
  have HM : Hid (∀ W, Chg NoB (M0 d kA kn kc w) W → Calls Try.prog 27 #[nodeV d kA kn kc] W fun e w' => e = .returned (.bool true) ∧ Chg NoB W w') := Go.Lib.hid fun W hW => by have := May_c d ks kA kn kc W (hv.chg (hw.trans hW)) (hN.chg (hw.trans hW)); rwa [hm] at this
  have H0 := Go.Lib.hid hw
  have HV := Go.Lib.hid hv
  have HN := Go.Lib.hid hN
  have Hm := Go.Lib.hid hm
  have Ha := Go.Lib.hid ha
  clear hN hv hb hw hm ha
  refine (callsIn_wide (n := 9)).1 (callsIn_of_wp_marks Try.func8 rfl trivial (wpIn_wide.2 ?_) rfl)
  simp only [Try.ntmps8, List.size_toArray, List.length_cons, List.length_nil, Nat.reduceAdd, Nat.reduceSub, Array.replicate_succ, Array.replicate_zero, List.push_toArray, List.append_toArray, List.nil_append, List.cons_append]
  go_wp2_with fail
  refine (HK.out _ (Chg.refl _ _)).mono ?_
  rintro e w1 ⟨rfl, hc⟩
  obtain ⟨⟨b0, b1, b2, b3, b4⟩, r0, r1⟩ := m0_box hc
  have HC := Go.Lib.hid hc
  clear hc
  go_wp2_with fail
  refine (HF.out _ HC.out).mono ?_
  rintro e w2 ⟨rfl, hc⟩
  have HC := Go.Lib.hid (HC.out.trans hc)
  clear hc b0 b1 b2 b3 b4 r0 r1
  obtain ⟨⟨b0, b1, b2, b3, b4⟩, r0, r1⟩ := m0_box HC.out
  go_wp2_with fail
  refine (HM.out _ HC.out).mono ?_
  rintro e w3 ⟨rfl, hc⟩
  have HC := Go.Lib.hid (HC.out.trans hc)
  clear hc b0 b1 b2 b3 b4 r0 r1
  have hq := fun o1 o2 => (m0_box ((HC.out.alloc o1).alloc o2)).1
  have f0 := fun o1 o2 => (hq o1 o2).1
  have f1 := fun o1 o2 => (hq o1 o2).2.1
  have f2 := fun o1 o2 => (hq o1 o2).2.2.1
  have f3 := fun o1 o2 => (hq o1 o2).2.2.2.1
  have f4 := fun o1 o2 => (hq o1 o2).2.2.2.2
  clear hq
  go_wp2_with fail
  refine (Walk_c d kA kn kc _).mono ?_
  rintro e w4 ⟨rfl, rfl⟩
  clear f0 f1 f2 f3 f4
  have hfn := fun (W : World) => run_eql_func_nil (.func 48) #[] #[.pointer (some ⟨w3.heap.size + 1 + 1, 0, none⟩)] W
  go_wp2_with fail
  clear hfn
  have hC4 : Chg NoB (M0 d kA kn kc w) (((w3.alloc (.cells #[.int .i64 0] IT)).alloc (.cells #[.int .i64 0] IT)).alloc (.cells #[.int .i64 d.kind, .string d.nm, .int .u32 d.val, .bool d.mark, .slice kA kn kc] NT)) := ((HC.out.alloc _).alloc _).alloc _
  have b5 : Blk (((w3.alloc (.cells #[.int .i64 0] IT)).alloc (.cells #[.int .i64 0] IT)).alloc (.cells #[.int .i64 d.kind, .string d.nm, .int .u32 d.val, .bool d.mark, .slice kA kn kc] NT)) w3.heap.size IT #[.int .i64 0] := ((Blk.new w3 IT _).alloc _).alloc _
  have b6 : Blk (((w3.alloc (.cells #[.int .i64 0] IT)).alloc (.cells #[.int .i64 0] IT)).alloc (.cells #[.int .i64 d.kind, .string d.nm, .int .u32 d.val, .bool d.mark, .slice kA kn kc] NT)) (w3.heap.size + 1) IT #[.int .i64 0] := (Blk.at_ _ _ _ _ (by simp) : Blk ((w3.alloc (.cells #[.int .i64 0] IT)).alloc (.cells #[.int .i64 0] IT)) (w3.heap.size + 1) IT #[.int .i64 0]).alloc _
  have b7 : Blk (((w3.alloc (.cells #[.int .i64 0] IT)).alloc (.cells #[.int .i64 0] IT)).alloc (.cells #[.int .i64 d.kind, .string d.nm, .int .u32 d.val, .bool d.mark, .slice kA kn kc] NT)) (w3.heap.size + 1 + 1) NT #[.int .i64 d.kind, .string d.nm, .int .u32 d.val, .bool d.mark, .slice kA kn kc] := Blk.at_ _ _ _ _ (by simp)
  have hsW : (((w3.alloc (.cells #[.int .i64 0] IT)).alloc (.cells #[.int .i64 0] IT)).alloc (.cells #[.int .i64 d.kind, .string d.nm, .int .u32 d.val, .bool d.mark, .slice kA kn kc] NT)).heap.size = w3.heap.size + 3 := by simp
  have hs3 : w.heap.size + 2 ≤ w3.heap.size := by have := HC.out.size; simpa using this
  obtain ⟨WL, hWL⟩ : ∃ WL, (((w3.alloc (.cells #[.int .i64 0] IT)).alloc (.cells #[.int .i64 0] IT)).alloc (.cells #[.int .i64 d.kind, .string d.nm, .int .u32 d.val, .bool d.mark, .slice kA kn kc] NT)) = WL := ⟨_, rfl⟩
  rw [hWL] at hC4 b5 b6 b7 hsW ⊢
  clear hWL
  have hKL : KeepC (MX w3.heap.size) w WL := KeepC.of_chg (H0.out.trans hC4)
  obtain ⟨vl, hvl⟩ : ∃ vl, vl = visN w d ks kA kn kc := ⟨_, rfl⟩
  have hlen : vl.length = 1 + ks.size := by rw [hvl, visN_len]
  have HG : Hid (∀ v ∈ vl, goodT v.d v.ks ∧ (∀ W, KeepC (MX w3.heap.size) w W → IsN W v.d v.ks v.A v.n v.c) ∧ 0 ≤ v.e ∧ v.e ≤ 1000000) := Go.Lib.hid (by
    intro v hv
    rw [hvl] at hv
    have hN := HN.out
    refine ⟨may_good Hm.out v hv, fun W hW => hW.isN (fun b hb => by rcases hb with rfl | rfl <;> omega) (visN_isN hN v hv), ?_⟩
    have := visN_e v hv
    omega)
  have Hvl := Go.Lib.hid hvl
  clear hvl
  refine (wpIn_wide (n := 9)).1 (wpIn_rangeFunc_ownH (n := 9) rfl (by omega) (gf := 48) (lb := #[.pointer (some ⟨w3.heap.size + 1 + 1, 0, none⟩)]) (encs := fun x => encV (vget vl x)) rfl trivial (enters_of Try.func48 (by kernel_rfl) rfl)
    (walk_stops (MX w3.heap.size) w WL d ks kA kn kc (w3.heap.size + 1 + 1) (9 - 1) vl Hvl.out HN.out hKL (fun b hb => by rcases hb with rfl | rfl <;> omega) (fun b hb => by rcases hb with rfl | rfl <;> omega) b7 (by omega))
    (fun h k => h.trans k) (fun W l o o' _ ho hc _ => KeepC.put o' ho hc) (Below.refl _ _) (fun _ => rfl)
    (fun pre W => MI (M0 d kA kn kc w) w3.heap.size pre.length (maxE (pre.map fun x => vget vl x) 0) W)
    (fun _ _ _ => False)
    (fun pre A B row hs hg hr => hs.grown (b := WL.heap.size) (by omega) hg (by simp; omega) (fun r e => (hr r e).1))
    (fun _ _ _ _ _ hs _ _ => hs)
    ⟨hC4, b5, b6⟩
    (fun x a' W => ∃ Bx, w3.heap.size + 1 < Bx ∧ Blk W Bx NT #[.int .i64 (vget vl x).d.kind, .string (vget vl x).d.nm, .int .u32 (vget vl x).d.val, .bool (vget vl x).d.mark, .slice (vget vl x).A (vget vl x).n (vget vl x).c] ∧ a' = { tmps := #[nodeV d kA kn kc, .int .i64 a, .pointer (some ⟨w.heap.size, 0, none⟩), undef, .pointer (some ⟨w.heap.size + 1, 0, none⟩), .pointer (some ⟨w3.heap.size, 0, none⟩), .pointer (some ⟨w3.heap.size + 1, 0, none⟩), .func (.func 48) #[] #[.pointer (some ⟨w3.heap.size + 1 + 1, 0, none⟩)], .int .i64 (vget vl x).e, .pointer (some ⟨Bx, 0, none⟩), undef, undef, .bool true, .bool false, .agg #[.int .i64 d.kind, .string d.nm, .int .u32 d.val, .bool d.mark, .slice kA kn kc], .bool true, .bool false, .bool false, .agg #[.int .i64 d.kind, .string d.nm, .int .u32 d.val, .bool d.mark, .slice kA kn kc], .bool true, .bool false, .bool false, .agg #[.int .i64 d.kind, .string d.nm, .int .u32 d.val, .bool d.mark, .slice kA kn kc], .func (.func 48) #[] #[.pointer (some ⟨w3.heap.size + 1 + 1, 0, none⟩)], .func (.func 48) #[] #[.pointer (some ⟨w3.heap.size + 1 + 1, 0, none⟩)], .bool false, .func (.func 48) #[] #[.pointer (some ⟨w3.heap.size + 1 + 1, 0, none⟩)], .int .i64 (vget vl x).e, .agg #[.int .i64 (vget vl x).d.kind, .string (vget vl x).d.nm, .int .u32 (vget vl x).d.val, .bool (vget vl x).d.mark, .slice (vget vl x).A (vget vl x).n (vget vl x).c], undef, undef, undef, undef, undef, undef, undef, undef, undef, undef, undef, undef, undef, undef, undef, undef, undef, undef, undef, undef, undef, undef, undef, undef, undef, undef, undef, undef, undef, undef, undef, undef, undef, undef, undef, undef, undef, undef, undef, undef, undef, undef, undef, undef, undef, undef, undef, undef, undef, undef, undef, undef, undef, undef, undef, undef, undef, undef, undef, undef, undef, undef, undef, undef, undef, undef, undef, undef, undef, undef, undef, undef, undef, undef, undef, undef, undef, undef, undef, undef, undef, undef, undef, undef], defers := [] })
    (fun x a' _ A B row hs hg hr => by
      obtain ⟨Bx, h1, h2, h3⟩ := hs
      refine ⟨Bx, h1, h2.grown hg (fun e => ?_), h3⟩
      obtain ⟨_, o, ho, hc⟩ := hr Bx e.symm
      rw [show A.heap[Bx]? = _ from h2] at ho
      cases ho; cases hc)
    ?assign ?body ?done ?stop)
  case assign =>
    rintro l pre x W K hI hK
    gi_wp2
    exact hK _ _ ((KeepsOthers.alloc _ _).from _) (KeepC.of_chg ((Chg.refl _ _).alloc _)) hI.alloc ⟨W.heap.size, hI.max.lt, Blk.new _ _ _, rfl⟩
  case body =>
    rintro l pre x a' W _ _ hI ⟨Bx, hBx, hbx, rfl⟩ hlt
    have hg := HG.out (vget vl x) (List.getElem_mem _)
    have HX : Hid (∀ W', MI (M0 d kA kn kc w) w3.heap.size (pre.length + 1) (max (maxE (pre.map fun x => vget vl x) 0) (vget vl x).e) W' → MI (M0 d kA kn kc w) w3.heap.size (pre ++ [x]).length (maxE ((pre ++ [x]).map fun x => vget vl x) 0) W') := Go.Lib.hid (fun W' h => by
      rw [List.map_append, List.map_cons, List.map_nil, maxE_snoc, List.length_append]; exact h)
    generalize vget vl x = v at *
    generalize maxE (pre.map fun x => vget vl x) 0 = mx at *
    obtain ⟨⟨g1, g2, g3⟩, gN, ge1, ge2⟩ := hg
    have hC2 : Chg NoB w ((W.setCell ⟨w3.heap.size, 0, none⟩ (.int .i64 (pre.length + 1))).setCell ⟨w3.heap.size + 1, 0, none⟩ (.int .i64 (max mx v.e))) := ((H0.out.trans hI.chg).setCell (fun h => by simp at h; omega) _).setCell (fun h => by simp at h; omega) _
    have hN2 := gN _ (KeepC.of_chg hC2)
    have HE := MayExpr_c v.d v.ks v.A v.n v.c _ (HV.out.chg hC2) hN2
    have HT := MayType_c v.d v.ks v.A v.n v.c _ (HV.out.chg hC2) hN2
    have HSS := MayStmts_c v.d v.ks v.A v.n v.c _ (HV.out.chg hC2) hN2
    have hS := Go.Lib.hid (fun W3 h3 => hI.step (m' := max mx v.e) (W3 := W3) (by simp; omega) h3)
    have s5 := hI.num.cell 0
    have p5 := hI.num.frozen 0
    have hM2 := hI.max.far (p := ⟨w3.heap.size, 0, none⟩) (by simp) (.int .i64 (pre.length + 1))
    have s6 := hM2.cell 0
    have p6 := hM2.frozen 0
    have hb2 := (hbx.far (p := ⟨w3.heap.size, 0, none⟩) (by simp; omega) (.int .i64 (pre.length + 1))).far (p := ⟨w3.heap.size + 1, 0, none⟩) (by simp; omega) (.int .i64 (max mx v.e))
    obtain ⟨x0, x1, x2, x3, x4⟩ := blk5 hb2 (Chg.refl _ _)
    have HB := Go.Lib.hid (fun W3 h3 => (blk5 (W1 := W3) hb2 h3).1)
    simp only [List.getElem?_toArray, List.getElem?_cons_zero] at s5 s6
    unfold nodeV at HE HT HSS
    clear hN2 hC2 hb2 hM2 hbx hI gN
    have hpl : pre.length < 401 := by omega
    clear hlt
    have hcls : (25 ≤ v.d.kind ∧ v.d.kind ≤ 38) ∨ v.d.kind = 21 ∨ v.d.kind = 19 ∨ v.d.kind = 14 ∨ v.d.kind = 15 ∨ v.d.kind = 17 ∨ (v.d.kind < 25 ∧ ¬ v.d.kind = 21 ∧ ¬ v.d.kind = 19 ∧ ¬ v.d.kind = 14 ∧ ¬ v.d.kind = 15 ∧ ¬ v.d.kind = 17) ∨ 38 < v.d.kind := by omega
    rcases hcls with ⟨k1, k2⟩ | k1 | k1 | k1 | k1 | k1 | ⟨k1, k2, k3, k4, k5, k6⟩ | k1
    · have m21 : ¬ v.d.kind = 21 := by omega
      have m19 : ¬ v.d.kind = 19 := by omega
      have m14 : ¬ v.d.kind = 14 := by omega
      have m15 : ¬ v.d.kind = 15 := by omega
      have m17 : ¬ v.d.kind = 17 := by omega
      rw [g1 (.inl ⟨k1, k2⟩)] at HE
      have H := Go.Lib.hid HE
      clear g1 g2 g3 HE HT HSS
      gi_wp2_with (first
        | ((with_reducible refine round_call H.out ?_); rintro e W3 ⟨rfl, h3⟩; have y0 := HB.out _ h3)
        | (refine ⟨trivial, ?_⟩))
      have hst := hS.out _ h3
      have hst2 := HX.out _ hst.2
      exact ⟨keepsFrom_chg hst.1 (fun b hb => by rcases hb with rfl | rfl <;> omega), keepC_chg hst.1, hst2⟩
    · have hg1 := g1 (.inr k1)
      rw [k1] at x0 HE HB
      clear k1
      rw [hg1] at HE
      have H := Go.Lib.hid HE
      clear g1 g2 g3 HE HT HSS
      gi_wp2_with (first
        | ((with_reducible refine round_call H.out ?_); rintro e W3 ⟨rfl, h3⟩; have y0 := HB.out _ h3)
        | (refine ⟨trivial, ?_⟩))
      have hst := hS.out _ h3
      have hst2 := HX.out _ hst.2
      exact ⟨keepsFrom_chg hst.1 (fun b hb => by rcases hb with rfl | rfl <;> omega), keepC_chg hst.1, hst2⟩
    · have hg1 := g2 k1
      rw [k1] at x0 HSS HB
      clear k1
      rw [hg1] at HSS
      have H := Go.Lib.hid HSS
      clear g1 g2 g3 HE HT HSS
      gi_wp2_with (first
        | ((with_reducible refine round_call H.out ?_); rintro e W3 ⟨rfl, h3⟩; have y0 := HB.out _ h3)
        | (refine ⟨trivial, ?_⟩))
      have hst := hS.out _ h3
      have hst2 := HX.out _ hst.2
      exact ⟨keepsFrom_chg hst.1 (fun b hb => by rcases hb with rfl | rfl <;> omega), keepC_chg hst.1, hst2⟩
    · have hg1 := g3 (.inl k1)
      rw [k1] at x0 HT HB
      clear k1
      rw [hg1] at HT
      have H := Go.Lib.hid HT
      clear g1 g2 g3 HE HT HSS
      gi_wp2_with (first
        | ((with_reducible refine round_call H.out ?_); rintro e W3 ⟨rfl, h3⟩; have y0 := HB.out _ h3)
        | (refine ⟨trivial, ?_⟩))
      have hst := hS.out _ h3
      have hst2 := HX.out _ hst.2
      exact ⟨keepsFrom_chg hst.1 (fun b hb => by rcases hb with rfl | rfl <;> omega), keepC_chg hst.1, hst2⟩
    · have hg1 := g3 (.inr (.inl k1))
      rw [k1] at x0 HT HB
      clear k1
      rw [hg1] at HT
      have H := Go.Lib.hid HT
      clear g1 g2 g3 HE HT HSS
      gi_wp2_with (first
        | ((with_reducible refine round_call H.out ?_); rintro e W3 ⟨rfl, h3⟩; have y0 := HB.out _ h3)
        | (refine ⟨trivial, ?_⟩))
      have hst := hS.out _ h3
      have hst2 := HX.out _ hst.2
      exact ⟨keepsFrom_chg hst.1 (fun b hb => by rcases hb with rfl | rfl <;> omega), keepC_chg hst.1, hst2⟩
    · have hg1 := g3 (.inr (.inr k1))
      rw [k1] at x0 HT HB
      clear k1
      rw [hg1] at HT
      have H := Go.Lib.hid HT
      clear g1 g2 g3 HE HT HSS
      gi_wp2_with (first
        | ((with_reducible refine round_call H.out ?_); rintro e W3 ⟨rfl, h3⟩; have y0 := HB.out _ h3)
        | (refine ⟨trivial, ?_⟩))
      have hst := hS.out _ h3
      have hst2 := HX.out _ hst.2
      exact ⟨keepsFrom_chg hst.1 (fun b hb => by rcases hb with rfl | rfl <;> omega), keepC_chg hst.1, hst2⟩
    · have k7 : ¬ 25 ≤ v.d.kind := by omega
      clear g1 g2 g3 HE HT HSS
      gi_wp2_with (refine ⟨trivial, ?_⟩)
      have hst := hS.out _ (Chg.refl _ _)
      have hst2 := HX.out _ hst.2
      exact ⟨keepsFrom_chg hst.1 (fun b hb => by rcases hb with rfl | rfl <;> omega), keepC_chg hst.1, hst2⟩
    · have k7 : 25 ≤ v.d.kind := by omega
      have k8 : ¬ v.d.kind ≤ 38 := by omega
      have m21 : ¬ v.d.kind = 21 := by omega
      have m19 : ¬ v.d.kind = 19 := by omega
      have m14 : ¬ v.d.kind = 14 := by omega
      have m15 : ¬ v.d.kind = 15 := by omega
      have m17 : ¬ v.d.kind = 17 := by omega
      clear g1 g2 g3 HE HT HSS
      gi_wp2_with (refine ⟨trivial, ?_⟩)
      have hst := hS.out _ (Chg.refl _ _)
      have hst2 := HX.out _ hst.2
      exact ⟨keepsFrom_chg hst.1 (fun b hb => by rcases hb with rfl | rfl <;> omega), keepC_chg hst.1, hst2⟩
  case done =>
    rintro D ys W hD rfl hI hK
    rw [map_fin, Hvl.out, visN_max] at hI
    have hI2 : MI (M0 d kA kn kc w) w3.heap.size (1 + ks.size) ks.deep W := by
      have := hI
      rw [List.length_finRange, ← Hvl.out, hlen] at this
      exact this
    clear hI
    have HI := Go.Lib.hid hI2
    have HS : Hid (∀ w', Chg NoB W w' → w'.cell? ⟨w.heap.size, 0, none⟩ = some (.int .i64 d.kind) ∧ w'.cell? ⟨w.heap.size, 1, none⟩ = some (.string d.nm) ∧ w'.cell? ⟨w.heap.size, 2, none⟩ = some (.int .u32 d.val) ∧ w'.cell? ⟨w.heap.size, 3, none⟩ = some (.bool d.mark) ∧ w'.cell? ⟨w.heap.size, 4, none⟩ = some (.slice kA kn kc) ∧ w'.cell? ⟨w3.heap.size, 0, none⟩ = some (.int .i64 (1 + (ks.size : Int))) ∧ w'.cell? ⟨w3.heap.size + 1, 0, none⟩ = some (.int .i64 (ks.deep : Int))) := Go.Lib.hid fun w' h => by
      obtain ⟨⟨a0, a1, a2, a3, a4⟩, _, _⟩ := m0_box (hI2.chg.trans h)
      exact ⟨a0, a1, a2, a3, a4, by have := (hI2.num.chg h id).cell 0; rw [this]; simp, (hI2.max.chg h id).cell 0⟩
    have HSz := Go.Lib.hid (fun W' (h : Chg NoB W W') => Size_c d ks kA kn kc W' (HN.out.chg (H0.out.trans (hI2.chg.trans h))) (by omega))
    have HDp : Hid (∀ W', Chg NoB W W' → Calls Try.prog 24 #[nodeV d kA kn kc] W' fun e w' => e = .returned (.int .i64 ((ks.deep : Int) + 1)) ∧ Chg NoB W' w') := Go.Lib.hid (fun W' h => by
      have := Depth_c d ks kA kn kc W' (HN.out.chg (H0.out.trans (hI2.chg.trans h))) (by omega)
      rwa [Int.add_comm] at this)
    have HDk := Go.Lib.hid hK
    have hdl := F.deep_le ks
    clear hI2 hK
    go_wp2_with fail
    set_option maxRecDepth 100000 in
    go_region_held3 (fun w' => w'.cell? ⟨w.heap.size, 0, none⟩ = some (.int .i64 d.kind) ∧ w'.cell? ⟨w.heap.size, 1, none⟩ = some (.string d.nm) ∧ w'.cell? ⟨w.heap.size, 2, none⟩ = some (.int .u32 d.val) ∧ w'.cell? ⟨w.heap.size, 3, none⟩ = some (.bool d.mark) ∧ w'.cell? ⟨w.heap.size, 4, none⟩ = some (.slice kA kn kc) ∧ w'.cell? ⟨w3.heap.size, 0, none⟩ = some (.int .i64 (1 + (ks.size : Int))) ∧ w'.cell? ⟨w3.heap.size + 1, 0, none⟩ = some (.int .i64 (ks.deep : Int)))
      (first
        | exact HS.out _ ((Chg.refl _ _).drew)
        | exact HS.out _ ((Chg.refl _ _).drew.trans hc1)
        | exact HS.out _ (((Chg.refl _ _).drew.trans hc1).trans hc2))
      (first
        | (go_at_call 22; (with_reducible refine (HSz.out _ ((Chg.refl _ _).drew)).mono ?_); rintro e w5 ⟨rfl, hc1⟩)
        | (go_at_call 24; (with_reducible refine (HDp.out _ ((Chg.refl _ _).drew.trans hc1)).mono ?_); rintro e w6 ⟨rfl, hc2⟩))
    have hwrap : IntKind.i64.wrap ((ks.deep : Int) + 1) = (ks.deep : Int) + 1 := IntWalk.i64_in _ (by omega)
    have hne : ((ks.deep : Int) + 1 != (ks.deep : Int) + 1) = false := by simp
    rw [hwrap, hne]
    clear hwrap hne
    have HC6 : Hid (Chg NoB W w6) := Go.Lib.hid (((Chg.refl _ _).drew.trans hc1).trans hc2)
    obtain ⟨q0, q1, q2, q3, q4, q5, q6⟩ := HS.out _ HC6.out
    clear hc1 hc2 q5 q6
    go_wp2_with fail
    refine (Copy_c d ks kA kn kc _ (HN.out.chg (H0.out.trans (HI.out.chg.trans HC6.out))) (by omega)).mono ?_
    rintro e w7 ⟨A1, c1, g1, rfl, hcp⟩
    have HP := Go.Lib.hid hcp
    have HC7 := Go.Lib.hid (HC6.out.trans hcp.chg)
    clear hcp q0 q1 q2 q3 q4
    have hC8 : Chg NoB W (w7.alloc (.cells #[.int .i64 d.kind, .string d.nm, .int .u32 d.val, .bool d.mark, .slice A1 ks.len c1] NT)) := HC7.out.alloc _
    have HD8 : Hid ((w7.alloc (.cells #[.int .i64 d.kind, .string d.nm, .int .u32 d.val, .bool d.mark, .slice A1 ks.len c1] NT)).heap[D]? = some (.deferred (some []))) := Go.Lib.hid ((hC8.block D (Array.getElem?_eq_some_iff.1 HDk.out).1 id).trans HDk.out)
    have HW8 : Hid (Chg NoB w (w7.alloc (.cells #[.int .i64 d.kind, .string d.nm, .int .u32 d.val, .bool d.mark, .slice A1 ks.len c1] NT))) := Go.Lib.hid (H0.out.trans (HI.out.chg.trans hC8))
    have q5 := (HS.out _ hC8).2.2.2.2.2.1
    obtain ⟨_, r0, r1⟩ := m0_box (HI.out.chg.trans hC8)
    have HS8 := Go.Lib.hid hC8
    have ha := Ha.out
    clear hC8
    by_cases ha1 : a < 1
    · go_wp2_with fail
      exact leave_bool w hs3 hD hsW HD8.out (set_bool r0) rfl HW8.out
    by_cases ha2 : 1 + (ks.size : Int) ≤ a
    · go_wp2_with fail
      exact leave_bool w hs3 hD hsW HD8.out (set_bool r0) rfl HW8.out
    have hB8 : Blk (w7.alloc (.cells #[.int .i64 d.kind, .string d.nm, .int .u32 d.val, .bool d.mark, .slice A1 ks.len c1] NT)) w7.heap.size NT #[.int .i64 d.kind, .string d.nm, .int .u32 d.val, .bool d.mark, .slice A1 ks.len c1] := Blk.new w7 NT #[.int .i64 d.kind, .string d.nm, .int .u32 d.val, .bool d.mark, .slice A1 ks.len c1]
    have hk8 : ∀ q ∈ rowOf A1 ks.len ++ g1.rows, (w7.alloc (.cells #[.int .i64 d.kind, .string d.nm, .int .u32 d.val, .bool d.mark, .slice A1 ks.len c1] NT)).heap[q]? = w7.heap[q]? := fun q hq => Below.heap_alloc w7 _ q (HP.out.new q hq).2
    have hlen1 : ks.len = g1.len := by rw [← HP.out.er, G.len_erase]
    have hnew : ∀ q ∈ rowOf A1 ks.len ++ g1.rows, W.heap.size ≤ q ∧ q < w7.heap.size := fun q hq => ⟨Nat.le_trans HC6.out.size (HP.out.new q hq).1, (HP.out.new q hq).2⟩
    have hrep := rep_may (d := d) (ks := ks) (k := a - 1) (by omega) (by omega)
    have hcall := (rep_all g1).1 w7.heap.size 0 ks.len c1 A1 a (w7.alloc (.cells #[.int .i64 d.kind, .string d.nm, .int .u32 d.val, .bool d.mark, .slice A1 ks.len c1] NT)) hlen1 HP.out.le HP.out.most (hB8.cell 4) (fun hm => by have := (hnew _ hm).2; omega)
      (HP.out.sub.keep fun q hq => hk8 q (List.mem_append.2 (.inr hq))) (fun h0 => (HP.out.row h0).keep h0 fun q hq => hk8 q (List.mem_append.2 (.inl hq))) HP.out.nd (by omega)
    have Hcall := Go.Lib.hid hcall
    have HB8 := Go.Lib.hid hB8
    have Hnew := Go.Lib.hid hnew
    have Hrep := Go.Lib.hid hrep
    clear hB8 hk8 hlen1 hnew hrep hcall
    go_wp2_with fail
    refine Hcall.out.mono ?_
    rintro e w9 ⟨rfl, hIs, hch, _⟩
    have hB9 := HB8.out.chg hch fun hm => by have := (Hnew.out _ hm).2; omega
    have hW9 : Chg NoB w w9 := HW8.out.step hch fun i hi hx => by
      have h1 := (Hnew.out _ hx).1
      have h2 := (H0.out.trans HI.out.chg).size
      omega
    have hC9 : Chg NoB W w9 := HS8.out.step hch fun i hi hx => by have h1 := (Hnew.out _ hx).1; omega
    have hM := May_c d (F.rep g1.erase (a - 1)).1 A1 ks.len c1 w9 (HV.out.chg hW9) ⟨HN.out.ok, HP.out.le, HP.out.most, hIs⟩
    rw [HP.out.er, Hrep.out.2] at hM
    rw [HP.out.er, Hrep.out.1]
    have HM9 := Go.Lib.hid hM
    have HC9 := Go.Lib.hid hC9
    have HW9 := Go.Lib.hid hW9
    obtain ⟨x0, x1, x2, x3, x4⟩ := blk5 hB9 (Chg.refl _ _)
    clear hM hC9 hW9 hB9 hIs hch r0 r1
    go_wp2_with fail
    refine HM9.out.mono ?_
    rintro e w10 ⟨rfl, hc⟩
    have hC10 := HC9.out.trans hc
    have hD10 : w10.heap[D]? = some (.deferred (some [])) := (hC10.block D (Array.getElem?_eq_some_iff.1 HDk.out).1 id).trans HDk.out
    obtain ⟨_, r0, r1⟩ := m0_box (HI.out.chg.trans hC10)
    have HW10 := Go.Lib.hid (HW9.out.trans hc)
    have HD10 := Go.Lib.hid hD10
    clear hC10 hD10 hc
    go_wp2_with fail
    exact leave_bool w hs3 hD hsW HD10.out (set_bool r0) rfl HW10.out
  case stop =>
    rintro D c pre W _ _ h _
    exact h.elim
end
theorem treeMeans_walk (d : Own) (ks : F) (kA : Option Addr) (kn kc : Nat) {w : World} (hN : IsN w d ks kA kn kc) (a : Int) (wa : (Lit.int .i64 a).wf = true) (_ : World) (hv : Var0 w) :
    Calls Try.prog 8 #[nodeV d kA kn kc, .int .i64 a] w fun e w' => e = .returned (.bool true) ∧ Chg NoB w w' := by
  by_cases hb : 0 ≤ bigT d ks 400
  · cases hm : mayT d ks with
    | false => exact means_no d ks kA kn kc a w hN hv hb hm
    | true => exact means_main d ks kA kn kc a w hN hv hb hm (wf_i64 wa)
  · exact means_many d ks kA kn kc a w hN hv hb
end Go.Proofs.Ytnihjkcniddepaa

