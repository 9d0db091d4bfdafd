/- What is proved: the contract of noType. Conditions: none. -/
import Derived.Test.YtholeloedihkoaaVaE
import Derived.Test.YtholeloedihkoaaVaF
import Derived.RangeFuncNested
import Derived.RangeFuncBound
import Derived.RangeFuncCalls
import Derived.RangeFuncLeaves
import Derived.RangeFuncKeeps
import Derived.Shelf.Abstract
import Derived.Shelf.RegionOpen
import Derived.WalkKit
import Derived.OwnWalkIn
import Derived.TacticsInMore
set_option linter.unusedSimpArgs false
set_option linter.unusedVariables false
namespace Go.Proofs.Ytholeloedihkoaa
open Go.RowKit Go.Shelf
attribute [local go_sem] Oper.semAt_some
section
variable {w w' : World}
theorem NoT.ptr_ {v : Value} (h : NoT w v) : ∃ a, v = .pointer a := by
  rcases h with rfl | ⟨b, rfl, _⟩
  · exact ⟨_, rfl⟩
  · exact ⟨_, rfl⟩
theorem run_equalIn_seqv_nil (d : Nat) (f : Fn) (x c : Array Value) (w : World) : (Op.equalIn (d + 1) 80 (.func f x c) .nilFunc).run Try.prog w = .ok false w := by simp [Op.equalIn, run_underlying Try.underlying80]
theorem run_eql_seqv_nil (f : Fn) (x c : Array Value) (w : World) : (binOp .eql 80 (.func f x c) .nilFunc).run Try.prog w = .ok (.bool false) w := by
  simp only [binOp]
  simp [show Op.equal 80 (.func f x c) .nilFunc = Op.equalIn (9999 + 1) 80 (.func f x c) .nilFunc from rfl, run_equalIn_seqv_nil 9999 f x c w]
theorem leave_t {fn : Func} {t : Tmp} (hr : fn.results = #[.tmp t]) {D : Nat} {wF : World} {tmps : Array Value} {v : Value} (hv : tmps.getD t undef = v) (hK : wF.heap[D]? = some (.deferred (some []))) (hw : Chg NoB w wF) (hD : w.heap.size ≤ D) :
    bodyPostM Fence.wide 9 Try.prog fn (Quiet v w) .ret { tmps := tmps, defers := [{ target := .collected D, args := #[] }] } wF := by
  refine ⟨by simp, .inl ⟨_, _, rfl, run_takeDeferred hK, ?_⟩⟩
  exact ⟨_, results_tmp hr _ _ _, by rw [hv]; exact ⟨rfl, hw.grown (grownBy_putObj' _ D _) (fun k e hk => by cases e; omega)⟩⟩
theorem fields_stops {v : Value} {p m : Nat} (h : NoT w v) (hb : Blk w p 28 #[v]) :
    SeqStopsK Fence.wide m Try.prog 55 #[ptr p] (fun x : Fin 0 => (#[.string ⟨#[]⟩, .pointer none] : Array Value)) (fun _ _ => True) (fun ys => ys = []) (fun _ => True) 0 w := by
  intro l J Jx W hW hJ hJx hY h0
  have hc : Chg NoB w W := Chg.of_below hW (Nat.le_refl _)
  refine callsIn_wide.2 ((fields1_no (u := .func (.yield l) #[] #[]) (h.quiet hc) (hb.chg hc id)).mono ?_)
  rintro e w1 ⟨rfl, rfl⟩
  exact ⟨⟨_, rfl⟩, .inl ⟨[], rfl, h0⟩⟩
set_option maxRecDepth 100000 in
set_option maxHeartbeats 4000000 in
theorem noType_c {v : Value} (h : NoT w v) : Calls Try.prog 33 #[v] w (Quiet (.bool true) w) := by
  have HH := Go.Lib.hid h
  have HN := Go.Lib.hid (fun W => num_c 1 (w := W))
  obtain ⟨a, rfl⟩ := h.ptr_
  have H1 := Go.Lib.hid (array_no h 1)
  clear h
  refine (callsIn_wide (n := 9)).1 (callsIn_of_wp_marks Try.func33 rfl trivial (wpIn_wide.2 ?_) rfl)
  simp only [Try.ntmps33, List.size_toArray, List.length_cons, List.length_nil, Nat.reduceAdd, Nat.reduceSub, Array.replicate_succ, Array.replicate_zero, List.push_toArray, List.append_toArray, List.nil_append, List.cons_append]
  go_wp2_with fail
  refine H1.out.mono ?_
  rintro e w1 ⟨rfl, hc1⟩
  have C1 := Go.Lib.hid hc1
  clear hc1 H1
  go_wp2_with fail
  have hrec : Chg NoB w ((w1.alloc (Obj.cells #[.string ⟨#[97]⟩] 9)).alloc (Obj.cells #[.pointer a] 28)) := (C1.out.alloc _).alloc _
  refine (rec_nil (lo := 0) (A := some ⟨w1.heap.size, 0, none⟩) (B := some ⟨w1.heap.size + 1, 0, none⟩) (vs := [.pointer a]) (os := [none]) (fun _ => ⟨_, rfl, fun j u hu => ?_⟩) ⟨rfl, fun i x o h1 h2 => ?_⟩ (by simp [maxLen]) ⟨none, by simp, rfl⟩).mono ?_
  · obtain ⟨rfl, rfl⟩ := one_get hu
    exact (Blk.at_ _ _ _ _ (by simp)).cell 0
  · obtain ⟨rfl, rfl⟩ := one_get h1
    obtain ⟨_, rfl⟩ := one_get h2
    exact HH.out.quiet hrec
  rintro e w2 ⟨rfl, hc2⟩
  have C2 := Go.Lib.hid (hrec.trans hc2)
  clear hc2 hrec
  go_wp2_with fail
  refine (offset_no (HH.out.quiet C2.out) ⟨#[97]⟩).mono ?_
  rintro e w3 ⟨rfl, rfl⟩
  go_wp2_with fail
  refine (new_no (HH.out.quiet C2.out)).mono ?_
  rintro e w3 ⟨rfl, rfl⟩
  go_wp2_with fail
  refine (fields_c a _).mono ?_
  rintro e w4 ⟨p, rfl, hbp, hc4, hp⟩
  have C4 := Go.Lib.hid ((C2.out.alloc (Obj.cells #[.int .i64 0] 3)).trans hc4)
  have B4 := Go.Lib.hid ((Blk.new w2 3 #[.int .i64 0]).chg hc4 id)
  clear hbp hc4 hp
  have hfn := fun (x : Array Value) (W : World) => run_eql_seqv_nil (.func 55) #[] x W
  unfold ptr
  go_wp2_with fail
  clear hfn
  refine (fields_c a _).mono ?_
  rintro e w5 ⟨p5, rfl, hbp, hc5, hp⟩
  have C5 := Go.Lib.hid (C4.out.trans hc5)
  have B5 := Go.Lib.hid (B4.out.chg hc5 id)
  have BP := Go.Lib.hid hbp
  clear hbp hc5 hp
  unfold ptr
  go_wp2_with fail
  have hs5 : w.heap.size ≤ w5.heap.size := C5.out.size
  refine (wpIn_wide (n := 9)).1 (wpIn_rangeFunc_ownH (n := 9) rfl (by omega) (gf := 55) (lb := #[.pointer (some ⟨p5, 0, none⟩)]) (encs := fun x : Fin 0 => (#[.string ⟨#[]⟩, .pointer none] : Array Value)) rfl trivial (enters_of Try.func55 (by kernel_rfl) rfl)
    (fields_stops (m := 9 - 1) (HH.out.quiet C5.out) BP.out)
    (fun _ _ => trivial) (fun W l o o' _ ho hc _ => trivial) (Below.refl _ _) (fun _ => rfl)
    (fun pre W => Chg NoB w5 W)
    (fun cde pre W => False)
    (fun pre A B row hs hg hr => hs.grown hg (fun k e hk => by have := (hr k e).1; omega))
    (fun cde pre A B row hs hg hr => hs.elim)
    (Chg.refl _ _)
    (fun x a' W => False)
    (fun x a' _ A B row hs hg hr => hs.elim)
    ?assign ?body ?done ?stop)
  case assign =>
    rintro l pre x W K hI hK
    exact x.elim0
  case body =>
    rintro l pre x a' W _ _ hI h0 hlt
    exact h0.elim
  case stop =>
    rintro D cde pre W hD hSp h0 hK
    exact h0.elim
  case done =>
    rintro D ys W hD rfl hI hK
    have HC := Go.Lib.hid (C5.out.trans hI)
    have c0 : W.cell? ⟨w2.heap.size, 0, none⟩ = some (.int .i64 0) := (B5.out.chg hI id).cell 0
    have HK := Go.Lib.hid hK
    have HD := Go.Lib.hid (Nat.le_trans hs5 hD)
    have HT := Go.Lib.hid (HH.out.quiet HC.out)
    clear hI hK hD hs5 B4 B5 BP C1 C2 C4 C5 HH
    go_wp2_with fail
    refine (HN.out _).mono ?_
    rintro e w6 ⟨rfl, rfl⟩
    go_wp2_with fail
    refine (HN.out _).mono ?_
    rintro e w6 ⟨rfl, rfl⟩
    go_wp2_with fail
    refine (HN.out _).mono ?_
    rintro e w6 ⟨rfl, rfl⟩
    go_wp2_with fail
    refine (HN.out _).mono ?_
    rintro e w6 ⟨rfl, rfl⟩
    go_wp2_with fail
    refine (point_nil (lo := 0) (o := none) (p := none) HT.out (.inl rfl) (.inl rfl)).mono ?_
    rintro e w6 ⟨rfl, rfl⟩
    go_wp2_with fail
    refine (HN.out _).mono ?_
    rintro e w6 ⟨rfl, rfl⟩
    go_wp2_with fail
    refine (kind_no HT.out).mono ?_
    rintro e w6 ⟨rfl, rfl⟩
    go_wp2_with fail
    refine (len_no HT.out).mono ?_
    rintro e w6 ⟨rfl, rfl⟩
    go_wp2_with fail
    refine (base_no HT.out).mono ?_
    rintro e w6 ⟨rfl, rfl⟩
    go_wp2_with fail
    refine (size_no HT.out).mono ?_
    rintro e w6 ⟨rfl, rfl⟩
    go_wp2_with fail
    refine (scalar_no HT.out).mono ?_
    rintro e w6 ⟨rfl, rfl⟩
    go_wp2_with fail
    refine (fit_no HT.out 5).mono ?_
    rintro e w6 ⟨rfl, rfl⟩
    go_wp2_with fail
    exact leave_t (t := 2) rfl rfl HK.out HC.out HD.out
end
end Go.Proofs.Ytholeloedihkoaa
