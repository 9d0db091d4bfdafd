/- What is proved: once: a store's files against the reference's. Conditions: the stores go alike. -/
import Derived.Test.YtlglnebnldmceaaPlB
import Derived.Test.YtlglnebnldmceaaRmA
import Derived.WalkSpells
import Derived.Outline
import Derived.Deep.CutRange
import Derived.Deep.CutBlock
import Derived.Deep.QuietTactic
import Derived.BigQuiet
import Derived.Laws.Cover1
set_option linter.unusedSimpArgs false
set_option linter.unusedVariables false
namespace Go.Proofs.Ytlglnebnldmceaa
open Go Go.RowKit Go.Shelf
attribute [local go_sem] Oper.semAt_some
theorem leave_once {D g : Nat} {w wF : World} {tmps : Array Value} {bb : Bool} (hK : wF.heap[D]? = some (.deferred (some []))) (hc : wF.cell? ⟨g, 0, none⟩ = some (.bool bb)) (hp : tmps.getD 6 undef = .pointer (some ⟨g, 0, none⟩)) (hw : Chg NoB w wF) (hlo : w.heap.size ≤ D) :
    bodyPostM Fence.wide 9 Try.prog Try.f36 (Quiet (.bool bb) w) .ret { tmps := tmps, defers := [{ target := .collected D, args := #[] }] } wF := by
  refine ⟨by simp, .inl ⟨_, _, rfl, run_takeDeferred hK, ?_⟩⟩
  exact ⟨_, results_bool rfl _ hp (cell_kept hc (grownBy_putObj' _ D _) (fun r e => by cases e; exact ⟨_, hK, rfl⟩)), rfl, hw.grown (grownBy_putObj' _ D _) (fun k e hk => by cases e; omega)⟩
theorem leavesM_eq {F : Fence} {n : Nat} {P : Program} {fn : Func} {R : Ending → World → Prop} {tmps tmps' : Array Value} (h : results fn tmps = results fn tmps') : ∀ (ds : List Deferred) (u : FrameMode) (w : World), LeavesInM F n P fn tmps R ds u w = LeavesInM F n P fn tmps' R ds u w
  | [], u, w => by cases u <;> simp only [LeavesInM, LeavesIn, h]
  | d :: ds, u, w => by simp only [LeavesInM, leavesM_eq h ds]
theorem panic_once {R : Ending → World → Prop} {t : Nat} (ht : t ≠ 6) (v : Value) (c : List PanicEntry) (a : Act) (w : World) (h : bodyPostM Fence.wide 9 Try.prog Try.f36 R (.panic c) (a.put (some t) v) w) : bodyPostM Fence.wide 9 Try.prog Try.f36 R (.panic c) a w := by
  show LeavesInM Fence.wide 9 Try.prog Try.f36 a.tmps R a.defers (.panicking c) w
  have h : LeavesInM Fence.wide 9 Try.prog Try.f36 (a.put (some t) v).tmps R a.defers (.panicking c) w := h
  rw [leavesM_eq (tmps' := (a.put (some t) v).tmps)]
  · exact h
  · have hg : (a.put (some t) v).tmps[6]? = a.tmps[6]? := by
      show (a.tmps.setIfInBounds t v)[6]? = _
      rw [Array.getElem?_setIfInBounds_ne ht]
    simp only [results, show Try.f36.results = #[.cell 6 4] from rfl]
    simp [hg]
theorem op_inRound {P : Program} {o : Oper} {a : Act} {w : World} {K : Act → World → Prop} {Q : Exit → Act → World → Prop} {l n : Nat} (hd : ∀ c, o.op ≠ .defer c) (h : o.wp P a w K Q) : o.wpIn (Fence.wide.inRound l) n P a w K Q := by
  unfold Oper.wpIn
  refine ⟨fun _ _ => trivial, ?_⟩
  rw [Oper.semAt_eq _ _ _ hd]
  unfold Oper.wp at h
  generalize (execOp a.eval o).run P w = r at *
  have hdp : ((Fence.wide.inRound l).depth.isSome = true → 1 ≤ n) := fun h => by simp [Fence.wide, Fence.inRound] at h
  cases r with
  | ok x w' =>
    cases x <;> simp only [Oper.upon, Oper.uponIn] at h ⊢
    all_goals first
      | exact h
      | exact ⟨hdp, (CallsIn.inRound l (callsIn_wide.2 h)).mono (fun e w'' he => by cases e <;> exact he)⟩
      | exact ⟨hdp, fun c cs _ => by obtain ⟨v, w2, h1, h2⟩ := h c cs; exact ⟨v, w2, h1, stepsIn_wide.2 h2⟩⟩
      | exact h.elim
  | halt x w' => cases x <;> simp only [Oper.upon, Oper.uponIn] at h ⊢ <;> exact h
theorem anyIn_of_held {P : Program} {md : Region.Mode} {ops : Array Oper} {Q : Exit → Act → World → Prop} {S : World → Prop} {l n : Nat} (hQ : ¬ LetsOut Q) (hd : ∀ (i : Nat) (o : Oper), ops[i]? = some o → ∀ c, o.op ≠ .defer c) :
    ∀ fuel listed a w, wpAnyH P md ops Q S fuel listed a w → wpAnyIn (Fence.wide.inRound l) n P md ops Q fuel listed a w := by
  intro fuel
  induction fuel with
  | zero => intro listed a w h; exact h
  | succ fuel ih =>
    intro listed a w h
    refine ⟨h.1, fun i hi => ?_⟩
    have h1 := h.2 i hi
    unfold wpOp at h1
    unfold wpOpIn
    cases ho : ops[i]? with
    | none => rw [ho] at h1; exact ih _ _ _ h1.2
    | some o =>
      rw [ho] at h1
      simp only at h1 ⊢
      by_cases hw : Region.wanted o (yielded ops a.tmps) = true
      · rw [if_pos hw] at h1 ⊢
        rcases h1 with h1 | h1
        · exact Oper.wpIn_mono (fun a' w' h' => ih _ _ _ h'.2) (op_inRound (hd i o ho) h1)
        · exact (hQ h1.2).elim
      · rw [if_neg hw] at h1 ⊢
        exact ⟨fun _ _ => trivial, ih _ _ _ h1.2⟩
def noDefer (ops : Array Oper) : Bool := ops.toList.all fun o => match o.op with
  | .defer _ => false
  | _ => true
theorem noDefer_out {ops : Array Oper} (h : noDefer ops = true) : ∀ (i : Nat) (o : Oper), ops[i]? = some o → ∀ c, o.op ≠ .defer c := by
  intro i o ho c hc
  have := List.all_eq_true.1 h o (by
    have := Array.mem_of_getElem? ho
    exact Array.mem_def.1 this)
  rw [hc] at this
  cases this
theorem region_inRound {P : Program} {id : Nat} {ops : Array Oper} {Q : Exit → Act → World → Prop} {S : World → Prop} {l n : Nat} {a : Act} {w : World} (hm : P.follows .mixedOrders = true) (hQ : ¬ LetsOut Q) (hd : noDefer ops = true) (hS : S w.drew)
    (h : S w.drew → wpAnyH P .any ops Q S ops.size (Array.replicate ops.size false) a w.drew) : (Code.region id ops true).wpIn (Fence.wide.inRound l) n P Q a w :=
  wpIn_region_any hm (anyIn_of_held hQ (noDefer_out hd) _ _ _ _ (h hS))
/-- once's variables -/
structure OI (W0 : World) (r : Nat) (most : Int) (g4 g5 g6 g7 : Nat) (n : Int) (b : Bool) (W : World) : Prop where
  chg : Chg NoB W0 W
  b4 : Blk W g4 30 #[.pointer (some ⟨r, 0, none⟩)]
  b5 : Blk W g5 3 #[.int .i64 most]
  b6 : Blk W g6 4 #[.bool b]
  b7 : Blk W g7 3 #[.int .i64 n]
  ge : W0.heap.size ≤ g4 ∧ g5 = g4 + 1 ∧ g6 = g4 + 2 ∧ g7 = g4 + 3
section
variable {W0 W W' : World} {r g4 g5 g6 g7 : Nat} {most n : Int} {b : Bool} {F : Nat → Prop}
theorem OI.start (W : World) (r : Nat) (most : Int) : OI W r most W.heap.size (W.heap.size + 1) (W.heap.size + 1 + 1) (W.heap.size + 1 + 1 + 1) 0 false ((((W.alloc (.cells #[.pointer (some ⟨r, 0, none⟩)] 30)).alloc (.cells #[.int .i64 most] 3)).alloc (.cells #[.bool false] 4)).alloc (.cells #[.int .i64 0] 3)) := by
  have e1 : ∀ o, (W.alloc o).heap.size = W.heap.size + 1 := fun o => by simp
  have e2 : ∀ o o', ((W.alloc o).alloc o').heap.size = W.heap.size + 1 + 1 := fun o o' => by simp
  have e3 : ∀ o o' o'', (((W.alloc o).alloc o').alloc o'').heap.size = W.heap.size + 1 + 1 + 1 := fun o o' o'' => by simp
  refine ⟨((((Chg.refl _ _).alloc _).alloc _).alloc _).alloc _, (((Blk.new W _ _).alloc _).alloc _).alloc _, ?_, ?_, ?_, ⟨Nat.le_refl _, rfl, by omega, by omega⟩⟩
  · rw [← e1 (.cells #[.pointer (some ⟨r, 0, none⟩)] 30)]; exact ((Blk.new _ _ _).alloc _).alloc _
  · rw [← e2 (.cells #[.pointer (some ⟨r, 0, none⟩)] 30) (.cells #[.int .i64 most] 3)]; exact (Blk.new _ _ _).alloc _
  · rw [← e3 (.cells #[.pointer (some ⟨r, 0, none⟩)] 30) (.cells #[.int .i64 most] 3) (.cells #[.bool false] 4)]; exact Blk.new _ _ _
theorem OI.quiet (h : OI W0 r most g4 g5 g6 g7 n b W) (hc : Chg NoB W W') : OI W0 r most g4 g5 g6 g7 n b W' :=
  ⟨h.chg.trans hc, h.b4.chg hc id, h.b5.chg hc id, h.b6.chg hc id, h.b7.chg hc id, h.ge⟩
theorem OI.grown {B : Nat} (h : OI W0 r most g4 g5 g6 g7 n b W) (hB : g7 < B) {row : Option Nat} (hg : W.grownBy W' row) (hr : ∀ k, row = some k → B ≤ k) : OI W0 r most g4 g5 g6 g7 n b W' := by
  obtain ⟨h1, h2, h3, h4⟩ := h.ge
  have hk : ∀ {g t cs}, Blk W g t cs → g < B → Blk W' g t cs := fun {g t cs} hb hlt => hb.chg ((Chg.refl (fun k => row = some k) W).grown hg (fun k e _ => e)) (fun e => by have := hr _ e; omega)
  exact ⟨h.chg.grown hg (fun k e hlt => by have := hr k e; omega), hk h.b4 (by omega), hk h.b5 (by omega), hk h.b6 (by omega), hk h.b7 (by omega), h.ge⟩
theorem OI.setN (h : OI W0 r most g4 g5 g6 g7 n b W) (m : Int) : OI W0 r most g4 g5 g6 g7 m b (W.setCell ⟨g7, 0, none⟩ (.int .i64 m)) := by
  obtain ⟨h1, h2, h3, h4⟩ := h.ge
  exact ⟨h.chg.setCell (fun hlt => by simp only at hlt; omega) _, h.b4.far (p := ⟨g7, 0, none⟩) (by simp only; omega) _, h.b5.far (p := ⟨g7, 0, none⟩) (by simp only; omega) _, h.b6.far (p := ⟨g7, 0, none⟩) (by simp only; omega) _, h.b7.set_ 0 _, h.ge⟩
theorem OI.setB (h : OI W0 r most g4 g5 g6 g7 n b W) (c : Bool) : OI W0 r most g4 g5 g6 g7 n c (W.setCell ⟨g6, 0, none⟩ (.bool c)) := by
  obtain ⟨h1, h2, h3, h4⟩ := h.ge
  exact ⟨h.chg.setCell (fun hlt => by simp only at hlt; omega) _, h.b4.far (p := ⟨g6, 0, none⟩) (by simp only; omega) _, h.b5.far (p := ⟨g6, 0, none⟩) (by simp only; omega) _, h.b6.set_ 0 _, h.b7.far (p := ⟨g6, 0, none⟩) (by simp only; omega) _, h.ge⟩
theorem OI.cells (h : OI W0 r most g4 g5 g6 g7 n b W) : W.cell? ⟨g4, 0, none⟩ = some (.pointer (some ⟨r, 0, none⟩)) ∧ W.cell? ⟨g5, 0, none⟩ = some (.int .i64 most) ∧ W.cell? ⟨g6, 0, none⟩ = some (.bool b) ∧ W.cell? ⟨g7, 0, none⟩ = some (.int .i64 n) ∧ W.frozen? ⟨g6, 0, none⟩ = false ∧ W.frozen? ⟨g7, 0, none⟩ = false :=
  ⟨h.b4.cell 0, h.b5.cell 0, h.b6.cell 0, h.b7.cell 0, h.b6.frozen 0, h.b7.frozen 0⟩
theorem OI.outN (h : OI W0 r most g4 g5 g6 g7 n b W) (m : Int) : Chg (fun k => k = g6 ∨ k = g7) W (W.setCell ⟨g7, 0, none⟩ (.int .i64 m)) := (Chg.refl _ W).setCell (fun _ => .inr rfl) _
end
theorem tells_get (U : V) {i : Nat} (hi : i < U.tells.length) (h2 : i < U.dir.length) : U.tells[i] = (U.dir[i].1, (U.bytes U.dir[i].2).length) := by
  simp [V.tells]
theorem tells_len (U : V) : U.tells.length = U.dir.length := by unfold V.tells; rw [List.length_map]
theorem keepsFrom_chg {X : Nat → Prop} {W W' : World} {B : Nat} (h : Chg X W W') (hX : ∀ b, X b → b < B) : KeepsFrom B W W' := ⟨h.size, fun k o hk ho _ => (h.block k (Array.getElem?_eq_some_iff.1 ho).1 (fun hx => by have := hX k hx; omega)).trans ho⟩
theorem snoc_fin {N : Nat} {pre : List (Fin N)} {x : Fin N} (h : pre ++ [x] <+: List.finRange N) (hl : pre.length < N) : x = ⟨pre.length, hl⟩ := by
  obtain ⟨r, hr⟩ := h
  have h1 : (List.finRange N)[pre.length]? = some x := by rw [← hr]; simp
  rw [List.getElem?_eq_getElem (by simpa using hl)] at h1
  injection h1 with h1
  apply Fin.ext
  have := congrArg Fin.val h1
  simp at this
  exact this.symm
section
variable {W : World} {base s r : Nat} {v U : V} {X F : Nat → Prop} {a : RA}
set_option maxRecDepth 100000 in
set_option maxHeartbeats 4000000 in
theorem once_c (hr : RefAt W r U X a) (hfi : ∀ W', Chg NoB W W' → Calls Try.prog 67 #[.pointer (some ⟨s, 0, none⟩)] W' (FilesPost W'.heap.size U.tells W')) (hd : U.dir.length ≤ 200) (most : Int) : Calls Try.prog 36 #[.pointer (some ⟨s, 0, none⟩), .pointer (some ⟨r, 0, none⟩), .int .i64 most] W (Quiet (.bool true) W) := by
  have HFI := Go.Lib.hid hfi
  have HE := Go.Lib.hid (fun (i : Nat) (hi : i < U.dir.length) => hr.entry (List.getElem?_eq_getElem hi))
  have HF := Go.Lib.hid (fun (i : Nat) (hi : i < U.dir.length) => hr.file (hr.dbytes (List.getElem_mem hi)))
  have HDB := Go.Lib.hid (fun (i : Nat) (hi : i < U.dir.length) => hr.db _ (List.getElem_mem hi))
  obtain ⟨AD, cD, hD⟩ := own_slice hr.D
  obtain ⟨AF, cF, hF⟩ := own_slice hr.F
  obtain ⟨c0, c1, _, _⟩ := hr.cells
  rw [hD] at c1
  rw [hF] at c0
  have K1 := Go.Lib.hid c1
  have K0 := Go.Lib.hid c0
  have HV := Go.Lib.hid (And.intro hD hF)
  have htl : U.tells.length ≤ 200 := by rw [tells_len]; exact hd
  have HTL := Go.Lib.hid (tells_len U)
  clear hr hfi hD hF c0 c1
  refine (callsIn_wide (n := 9)).1 (callsIn_of_wp_marks Try.func36 rfl trivial (wpIn_wide.2 ?_) rfl)
  simp only [Try.ntmps36, List.size_toArray, List.length_cons, List.length_nil, Nat.reduceAdd, Nat.reduceSub, Array.replicate_succ, Array.replicate_zero, List.push_toArray, List.append_toArray, List.nil_append, List.cons_append]
  go_upto_region 2 with fail
  have h0 := OI.start W r most
  generalize World.alloc (World.alloc (World.alloc (World.alloc W (.cells #[.pointer (some ⟨r, 0, none⟩)] 30)) (.cells #[.int .i64 most] 3)) (.cells #[.bool false] 4)) (.cells #[.int .i64 0] 3) = W1 at *
  generalize hg7 : W.heap.size + 1 + 1 + 1 = g7 at *
  generalize hg6 : W.heap.size + 1 + 1 = g6 at *
  generalize hg5 : W.heap.size + 1 = g5 at *
  generalize hg4 : W.heap.size = g4 at *
  have hlast := h0.b7.lt
  have HO := Go.Lib.hid h0.ge
  have H0 := Go.Lib.hid h0
  clear hg7 hg6 hg5 h0
  go_wp2_with fail
  refine (HFI.out _ H0.out.chg).mono ?_
  rintro e w6 ⟨ga, gb, rfl, hFA, hc6⟩
  obtain ⟨A0, cA, B0, dB, hX⟩ := hFA.x
  have HX := Go.Lib.hid hX
  have H6 := Go.Lib.hid (H0.out.quiet hc6)
  have hlt6 : g7 < w6.heap.size := Nat.lt_of_lt_of_le hlast hc6.size
  have hs6 := hc6.size
  have hfn := fun (x : Array Value) (W : World) => run_eql_seq_nil (.func 72) #[] x W
  have Hb := Go.Lib.hid (And.intro hX.lo (And.intro hX.ba.lt hX.bb.lt))
  clear hFA hX hc6 HFI H0
  unfold ptr
  go_wp2_with fail
  clear hfn
  refine (wpIn_wide (n := 9)).1 (wpIn_rangeFunc_ownH (n := 9) rfl (by omega) (gf := 72) (lb := #[.pointer (some ⟨ga, 0, none⟩), .pointer (some ⟨gb, 0, none⟩)]) (encs := fun x : Fin U.tells.length => encF U.tells[x]) rfl trivial (enters_of Try.func72 (by kernel_rfl) rfl)
    (files_stops (9 - 1) HX.out htl)
    (fun h k hx => k (h hx)) (fun W l o o' _ ho hc _ hx => hx.put o' ho hc) (Below.refl _ _) (fun _ => rfl)
    (fun pre W' => OI W r most g4 g5 g6 g7 (pre.length : Nat) false W')
    (fun cde pre W' => cde = Code.ret ∧ ∃ n b, OI W r most g4 g5 g6 g7 n b W' ∧ (pre <+: List.finRange U.tells.length → b = true))
    (fun pre A B row hs hg hr => hs.grown (B := w6.heap.size) hlt6 hg (fun k e => (hr k e).1))
    (fun cde pre A B row hs hg hr => ⟨hs.1, by obtain ⟨n, b, h1, h2⟩ := hs.2; exact ⟨n, b, h1.grown (B := w6.heap.size) hlt6 hg (fun k e => (hr k e).1), h2⟩⟩)
    H6.out
    (fun (x : Fin U.tells.length) (a' : Act) (_ : World) => a' = { tmps := List.toArray (.pointer (some ⟨s, 0, none⟩) :: .pointer (some ⟨r, 0, none⟩) :: .int .i64 most :: undef :: .pointer (some ⟨g4, 0, none⟩) :: .pointer (some ⟨g5, 0, none⟩) :: .pointer (some ⟨g6, 0, none⟩) :: .pointer (some ⟨g7, 0, none⟩) :: .func (.func 72) #[] #[.pointer (some ⟨ga, 0, none⟩), .pointer (some ⟨gb, 0, none⟩)] :: .string (U.tells[x] : ByteArray × Nat).1 :: .int .i64 ((U.tells[x] : ByteArray × Nat).2 : Int) :: .pointer (some ⟨s, 0, none⟩) :: .func (.func 72) #[] #[.pointer (some ⟨ga, 0, none⟩), .pointer (some ⟨gb, 0, none⟩)] :: .func (.func 72) #[] #[.pointer (some ⟨ga, 0, none⟩), .pointer (some ⟨gb, 0, none⟩)] :: .bool false :: .func (.func 72) #[] #[.pointer (some ⟨ga, 0, none⟩), .pointer (some ⟨gb, 0, none⟩)] :: .string (U.tells[x] : ByteArray × Nat).1 :: .int .i64 ((U.tells[x] : ByteArray × Nat).2 : Int) :: undef :: undef :: undef :: undef :: undef :: undef :: undef :: undef :: undef :: undef :: undef :: undef :: undef :: undef :: undef :: undef :: undef :: undef :: undef :: undef :: undef :: undef :: undef :: undef :: undef :: undef :: undef :: undef :: undef :: undef :: undef :: undef :: undef :: undef :: undef :: undef :: undef :: undef :: undef :: undef :: undef :: undef :: undef :: undef :: undef :: undef :: undef :: undef :: undef :: undef :: []), defers := [] })
    (fun x a' _ A B row hs hg hr => hs)
    ?assign ?body ?done ?stop)
  case assign =>
    rintro l pre x W K hI hK
    unfold encF
    gi_wp2
    exact hK _ _ ⟨Nat.le_refl _, fun k o _ ho _ => ho⟩ id hI rfl
  case stop =>
    rintro D cde pre W' hD hSp ⟨rfl, n, b, hI, hb⟩ hK
    obtain rfl := hb hSp
    have hc := hI.cells.2.2.1
    have hch := hI.chg
    refine wpIn_wide.2 ?_
    go_wp2_with fail
    exact leave_once hK hc rfl hch (by have := HO.out; omega)
  case body =>
    rintro l pre x a' Wb _ _ hI rfl hlt2
    have hn1 : pre.length < U.dir.length := by rw [← HTL.out]; exact hlt2
    obtain ⟨g, c', e1, k2, k6⟩ := HE.out pre.length hn1
    obtain ⟨gF, cF', A, cc, e3, k7, -⟩ := HF.out pre.length hn1
    have hx1 := HDB.out pre.length hn1
    rw [HV.out.1] at e1
    rw [HV.out.2] at e3
    obtain rfl : AD = some ⟨g, 0, none⟩ := by injection e1
    obtain rfl : AF = some ⟨gF, 0, none⟩ := by injection e3
    have HP : Hid (pre ++ [x] <+: List.finRange U.tells.length → U.tells[x] = (U.dir[pre.length].1, (U.bytes U.dir[pre.length].2).length)) := Go.Lib.hid (fun h => by
      have h1 := snoc_fin h hlt2
      subst h1
      exact tells_get U hlt2 hn1)
    have hcb := hI.chg
    have q1 := cell_q hcb K1.out
    have q0 := cell_q hcb K0.out
    replace k2 := cell_q hcb k2
    replace k6 := cell_q hcb k6
    replace k7 := cell_q hcb k7
    obtain ⟨m4, m5, m6, m7, z6, z7⟩ := hI.cells
    have HI := Go.Lib.hid hI
    have HLen : Hid ((pre ++ [x]).length = pre.length + 1) := Go.Lib.hid (by simp)
    have HG := Go.Lib.hid (And.intro HO.out (And.intro hs6 hlast))
    clear e1 e3 hI hcb hlt2 HO hs6 HE HF HDB
    generalize U.tells[x] = ex at *
    obtain ⟨nm, sz⟩ := ex
    simp only at *
    generalize U.bytes U.dir[pre.length].2 = l1 at *
    generalize U.dir[pre.length].1 = nm1 at *
    generalize U.dir[pre.length].2 = x1 at *
    generalize hpl : pre.length = n at *
    generalize hdl : U.dir.length = N at *
    have gn : decide ((n : Int) ≥ (N : Int)) = false := by simp; omega
    generalize U.F.length = bl at *
    generalize hll : l1.length = ll at *
    have hw1 : IntKind.i64.wrap ((n : Int) + 1) = ((n + 1 : Nat) : Int) := by rw [IntKind.wrap_i64]; omega
    have hKF : ∀ (m : Int) (Wx : World), Chg (fun k => k = g6 ∨ k = g7) Wb Wx → KeepsFrom w6.heap.size Wb Wx ∧ (FilesX W1.heap.size A0 cA B0 dB ga gb U.tells Wb → FilesX W1.heap.size A0 cA B0 dB ga gb U.tells Wx) := fun m Wx hc =>
      ⟨keepsFrom_chg hc (fun b hb => by have := HG.out; rcases hb with rfl | rfl <;> omega), fun hX => hX.chg hc (fun k hk _ hF => by have := HG.out; rcases hF with rfl | rfl <;> omega)⟩
    have HKF := Go.Lib.hid hKF
    clear hKF
    clear hpl hdl hll
    by_cases hnm : nm = nm1
    · have hb1 : (nm.toList == nm1.toList) = true := by rw [hnm]; simp
      by_cases hsz : sz = ll
      · have Hsz := Go.Lib.hid (show (sz : Int) = (ll : Int) by rw [hsz])
        clear hnm hsz
        gi_wp2
        refine region_inRound (S := fun V' => Chg NoB Wb V') (by kernel_rfl) (fun h => by obtain ⟨_, _, h⟩ := h; exact h) (by kernel_rfl) ((Chg.refl NoB Wb).drew) (fun hS => ?_)
        refine takeH (i := 0) (t := 18) (v := ?v0y1) rfl (by kernel_rfl) (by kernel_rfl) (by kernel_rfl) (fun _ _ _ h => h) rfl (Or.inl ⟨by rfl, ?h0y1⟩) hS ?r0y1
        case h0y1 => (intro V' hSw; have q := cell_q hSw m7; clear hSw; go_simp; try with_reducible rfl)
        try simp only [List.setIfInBounds_toArray, List.set_cons_zero, List.set_cons_succ]
        refine takeH (i := 1) (t := 19) (v := ?v1y2) rfl (by kernel_rfl) (by kernel_rfl) (by kernel_rfl) (fun _ _ _ h => h) rfl (Or.inl ⟨by rfl, ?h1y2⟩) hS ?r1y2
        case h1y2 => (intro V' hSw; have q := cell_q hSw m4; clear hSw; go_simp; try with_reducible rfl)
        try simp only [List.setIfInBounds_toArray, List.set_cons_zero, List.set_cons_succ]
        refine takeH (i := 2) (t := 20) (v := ?v2y3) rfl (by kernel_rfl) (by kernel_rfl) (by kernel_rfl) (fun _ _ _ h => h) rfl (Or.inl ⟨by rfl, ?h2y3⟩) hS ?r2y3
        case h2y3 => (intro V' hSw; clear hSw; go_simp; try with_reducible rfl)
        try simp only [List.setIfInBounds_toArray, List.set_cons_zero, List.set_cons_succ]
        refine takeH (i := 3) (t := 21) (v := ?v3y4) rfl (by kernel_rfl) (by kernel_rfl) (by kernel_rfl) (fun _ _ _ h => h) rfl (Or.inl ⟨by rfl, ?h3y4⟩) hS ?r3y4
        case h3y4 => (intro V' hSw; clear hSw; go_simp; try with_reducible rfl)
        try simp only [List.setIfInBounds_toArray, List.set_cons_zero, List.set_cons_succ]
        refine takeH (i := 4) (t := 22) (v := ?v4y5) rfl (by kernel_rfl) (by kernel_rfl) (by kernel_rfl) (fun _ _ _ h => h) rfl (Or.inl ⟨by rfl, ?h4y5⟩) hS ?r4y5
        case h4y5 => (intro V' hSw; have q := cell_q hSw q1; clear hSw; go_simp; try with_reducible rfl)
        try simp only [List.setIfInBounds_toArray, List.set_cons_zero, List.set_cons_succ]
        refine takeH (i := 5) (t := 23) (v := ?v5y6) rfl (by kernel_rfl) (by kernel_rfl) (by kernel_rfl) (fun _ _ _ h => h) rfl (Or.inl ⟨by rfl, ?h5y6⟩) hS ?r5y6
        case h5y6 => (intro V' hSw; clear hSw; go_simp; try with_reducible rfl)
        try simp only [List.setIfInBounds_toArray, List.set_cons_zero, List.set_cons_succ]
        refine takeH (i := 6) (t := 24) (v := .bool false) rfl (by kernel_rfl) (by kernel_rfl) (by kernel_rfl) (fun _ _ _ h => h) rfl (Or.inl ⟨by rfl, ?h6y7⟩) hS ?r6y7
        case h6y7 => (intro V' hSw; clear hSw; go_simp; try simp only [gn])
        try simp only [List.setIfInBounds_toArray, List.set_cons_zero, List.set_cons_succ]
        refine takeH (i := 7) (t := 25) (v := ?v7y8) rfl (by kernel_rfl) (by kernel_rfl) (by kernel_rfl) (fun _ _ _ h => h) rfl (Or.inl ⟨by rfl, ?h7y8⟩) hS ?r7y8
        case h7y8 => (intro V' hSw; clear hSw; go_simp; try with_reducible rfl)
        try simp only [List.setIfInBounds_toArray, List.set_cons_zero, List.set_cons_succ]
        refine takeH (i := 8) (t := 26) (v := ?v8y9) rfl (by kernel_rfl) (by kernel_rfl) (by kernel_rfl) (fun _ _ _ h => h) rfl (Or.inl ⟨by rfl, ?h8y9⟩) hS ?r8y9
        case h8y9 => (intro V' hSw; clear hSw; go_simp; try with_reducible rfl)
        try simp only [List.setIfInBounds_toArray, List.set_cons_zero, List.set_cons_succ]
        refine takeH (i := 9) (t := 27) (v := ?v9y10) rfl (by kernel_rfl) (by kernel_rfl) (by kernel_rfl) (fun _ _ _ h => h) rfl (Or.inl ⟨by rfl, ?h9y10⟩) hS ?r9y10
        case h9y10 => (intro V' hSw; have q := cell_q hSw m4; clear hSw; go_simp; try with_reducible rfl)
        try simp only [List.setIfInBounds_toArray, List.set_cons_zero, List.set_cons_succ]
        refine takeH (i := 10) (t := 28) (v := ?v10y11) rfl (by kernel_rfl) (by kernel_rfl) (by kernel_rfl) (fun _ _ _ h => h) rfl (Or.inl ⟨by rfl, ?h10y11⟩) hS ?r10y11
        case h10y11 => (intro V' hSw; clear hSw; go_simp; try with_reducible rfl)
        try simp only [List.setIfInBounds_toArray, List.set_cons_zero, List.set_cons_succ]
        refine takeH (i := 11) (t := 29) (v := ?v11y12) rfl (by kernel_rfl) (by kernel_rfl) (by kernel_rfl) (fun _ _ _ h => h) rfl (Or.inl ⟨by rfl, ?h11y12⟩) hS ?r11y12
        case h11y12 => (intro V' hSw; clear hSw; go_simp; try with_reducible rfl)
        try simp only [List.setIfInBounds_toArray, List.set_cons_zero, List.set_cons_succ]
        refine takeH (i := 12) (t := 30) (v := ?v12y13) rfl (by kernel_rfl) (by kernel_rfl) (by kernel_rfl) (fun _ _ _ h => h) rfl (Or.inl ⟨by rfl, ?h12y13⟩) hS ?r12y13
        case h12y13 => (intro V' hSw; have q := cell_q hSw q1; clear hSw; go_simp; try with_reducible rfl)
        try simp only [List.setIfInBounds_toArray, List.set_cons_zero, List.set_cons_succ]
        refine takeH (i := 13) (t := 31) (v := ?v13y14) rfl (by kernel_rfl) (by kernel_rfl) (by kernel_rfl) (fun _ _ _ h => h) rfl (Or.inl ⟨by rfl, ?h13y14⟩) hS ?r13y14
        case h13y14 => (intro V' hSw; have q := cell_q hSw m7; clear hSw; go_simp; try with_reducible rfl)
        try simp only [List.setIfInBounds_toArray, List.set_cons_zero, List.set_cons_succ]
        refine takeH (i := 14) (t := 32) (v := ?v14y15) rfl (by kernel_rfl) (by kernel_rfl) (by kernel_rfl) (fun _ _ _ h => h) rfl (Or.inl ⟨by rfl, ?h14y15⟩) hS ?r14y15
        case h14y15 => (intro V' hSw; clear hSw; go_simp; try with_reducible rfl)
        try simp only [List.setIfInBounds_toArray, List.set_cons_zero, List.set_cons_succ]
        refine takeH (i := 15) (t := 33) (v := ?v15y16) rfl (by kernel_rfl) (by kernel_rfl) (by kernel_rfl) (fun _ _ _ h => h) rfl (Or.inl ⟨by rfl, ?h15y16⟩) hS ?r15y16
        case h15y16 => (intro V' hSw; clear hSw; go_simp; try with_reducible rfl)
        try simp only [List.setIfInBounds_toArray, List.set_cons_zero, List.set_cons_succ]
        refine takeH (i := 16) (t := 34) (v := ?v16y17) rfl (by kernel_rfl) (by kernel_rfl) (by kernel_rfl) (fun _ _ _ h => h) rfl (Or.inl ⟨by rfl, ?h16y17⟩) hS ?r16y17
        case h16y17 => (intro V' hSw; have q := cell_q hSw k2; clear hSw; go_simp; try with_reducible rfl)
        try simp only [List.setIfInBounds_toArray, List.set_cons_zero, List.set_cons_succ]
        refine takeH (i := 17) (t := 35) (v := .bool false) rfl (by kernel_rfl) (by kernel_rfl) (by kernel_rfl) (fun _ _ _ h => h) rfl (Or.inl ⟨by rfl, ?h17y18⟩) hS ?r17y18
        case h17y18 => (intro V' hSw; clear hSw; go_simp; try simp only [hb1, Bool.not_true, Bool.not_false])
        try simp only [List.setIfInBounds_toArray, List.set_cons_zero, List.set_cons_succ]
        refine takeH (i := 18) (t := 36) (v := ?v18y19) rfl (by kernel_rfl) (by kernel_rfl) (by kernel_rfl) (fun _ _ _ h => h) rfl (Or.inl ⟨by rfl, ?h18y19⟩) hS ?r18y19
        case h18y19 => (intro V' hSw; clear hSw; go_simp; try with_reducible rfl)
        try simp only [List.setIfInBounds_toArray, List.set_cons_zero, List.set_cons_succ]
        refine takeH (i := 19) (t := 37) (v := ?v19y20) rfl (by kernel_rfl) (by kernel_rfl) (by kernel_rfl) (fun _ _ _ h => h) rfl (Or.inl ⟨by rfl, ?h19y20⟩) hS ?r19y20
        case h19y20 => (intro V' hSw; clear hSw; go_simp; try with_reducible rfl)
        try simp only [List.setIfInBounds_toArray, List.set_cons_zero, List.set_cons_succ]
        refine takeH (i := 20) (t := 38) (v := ?v20y21) rfl (by kernel_rfl) (by kernel_rfl) (by kernel_rfl) (fun _ _ _ h => h) rfl (Or.inl ⟨by rfl, ?h20y21⟩) hS ?r20y21
        case h20y21 => (intro V' hSw; clear hSw; go_simp; try with_reducible rfl)
        try simp only [List.setIfInBounds_toArray, List.set_cons_zero, List.set_cons_succ]
        refine takeH (i := 21) (t := 39) (v := ?v21y22) rfl (by kernel_rfl) (by kernel_rfl) (by kernel_rfl) (fun _ _ _ h => h) rfl (Or.inl ⟨by rfl, ?h21y22⟩) hS ?r21y22
        case h21y22 => (intro V' hSw; have q := cell_q hSw m4; clear hSw; go_simp; try with_reducible rfl)
        try simp only [List.setIfInBounds_toArray, List.set_cons_zero, List.set_cons_succ]
        refine takeH (i := 22) (t := 40) (v := ?v22y23) rfl (by kernel_rfl) (by kernel_rfl) (by kernel_rfl) (fun _ _ _ h => h) rfl (Or.inl ⟨by rfl, ?h22y23⟩) hS ?r22y23
        case h22y23 => (intro V' hSw; clear hSw; go_simp; try with_reducible rfl)
        try simp only [List.setIfInBounds_toArray, List.set_cons_zero, List.set_cons_succ]
        refine takeH (i := 23) (t := 41) (v := ?v23y24) rfl (by kernel_rfl) (by kernel_rfl) (by kernel_rfl) (fun _ _ _ h => h) rfl (Or.inl ⟨by rfl, ?h23y24⟩) hS ?r23y24
        case h23y24 => (intro V' hSw; clear hSw; go_simp; try with_reducible rfl)
        try simp only [List.setIfInBounds_toArray, List.set_cons_zero, List.set_cons_succ]
        refine takeH (i := 24) (t := 42) (v := ?v24y25) rfl (by kernel_rfl) (by kernel_rfl) (by kernel_rfl) (fun _ _ _ h => h) rfl (Or.inl ⟨by rfl, ?h24y25⟩) hS ?r24y25
        case h24y25 => (intro V' hSw; have q := cell_q hSw q0; clear hSw; go_simp; try with_reducible rfl)
        try simp only [List.setIfInBounds_toArray, List.set_cons_zero, List.set_cons_succ]
        refine takeH (i := 25) (t := 43) (v := ?v25y26) rfl (by kernel_rfl) (by kernel_rfl) (by kernel_rfl) (fun _ _ _ h => h) rfl (Or.inl ⟨by rfl, ?h25y26⟩) hS ?r25y26
        case h25y26 => (intro V' hSw; have q := cell_q hSw m4; clear hSw; go_simp; try with_reducible rfl)
        try simp only [List.setIfInBounds_toArray, List.set_cons_zero, List.set_cons_succ]
        refine takeH (i := 26) (t := 44) (v := ?v26y27) rfl (by kernel_rfl) (by kernel_rfl) (by kernel_rfl) (fun _ _ _ h => h) rfl (Or.inl ⟨by rfl, ?h26y27⟩) hS ?r26y27
        case h26y27 => (intro V' hSw; clear hSw; go_simp; try with_reducible rfl)
        try simp only [List.setIfInBounds_toArray, List.set_cons_zero, List.set_cons_succ]
        refine takeH (i := 27) (t := 45) (v := ?v27y28) rfl (by kernel_rfl) (by kernel_rfl) (by kernel_rfl) (fun _ _ _ h => h) rfl (Or.inl ⟨by rfl, ?h27y28⟩) hS ?r27y28
        case h27y28 => (intro V' hSw; clear hSw; go_simp; try with_reducible rfl)
        try simp only [List.setIfInBounds_toArray, List.set_cons_zero, List.set_cons_succ]
        refine takeH (i := 28) (t := 46) (v := ?v28y29) rfl (by kernel_rfl) (by kernel_rfl) (by kernel_rfl) (fun _ _ _ h => h) rfl (Or.inl ⟨by rfl, ?h28y29⟩) hS ?r28y29
        case h28y29 => (intro V' hSw; have q := cell_q hSw q1; clear hSw; go_simp; try with_reducible rfl)
        try simp only [List.setIfInBounds_toArray, List.set_cons_zero, List.set_cons_succ]
        refine takeH (i := 29) (t := 47) (v := ?v29y30) rfl (by kernel_rfl) (by kernel_rfl) (by kernel_rfl) (fun _ _ _ h => h) rfl (Or.inl ⟨by rfl, ?h29y30⟩) hS ?r29y30
        case h29y30 => (intro V' hSw; have q := cell_q hSw m7; clear hSw; go_simp; try with_reducible rfl)
        try simp only [List.setIfInBounds_toArray, List.set_cons_zero, List.set_cons_succ]
        refine takeH (i := 30) (t := 48) (v := ?v30y31) rfl (by kernel_rfl) (by kernel_rfl) (by kernel_rfl) (fun _ _ _ h => h) rfl (Or.inl ⟨by rfl, ?h30y31⟩) hS ?r30y31
        case h30y31 => (intro V' hSw; clear hSw; go_simp; try with_reducible rfl)
        try simp only [List.setIfInBounds_toArray, List.set_cons_zero, List.set_cons_succ]
        refine takeH (i := 31) (t := 49) (v := ?v31y32) rfl (by kernel_rfl) (by kernel_rfl) (by kernel_rfl) (fun _ _ _ h => h) rfl (Or.inl ⟨by rfl, ?h31y32⟩) hS ?r31y32
        case h31y32 => (intro V' hSw; clear hSw; go_simp; try with_reducible rfl)
        try simp only [List.setIfInBounds_toArray, List.set_cons_zero, List.set_cons_succ]
        refine takeH (i := 32) (t := 50) (v := ?v32y33) rfl (by kernel_rfl) (by kernel_rfl) (by kernel_rfl) (fun _ _ _ h => h) rfl (Or.inl ⟨by rfl, ?h32y33⟩) hS ?r32y33
        case h32y33 => (intro V' hSw; have q := cell_q hSw k6; clear hSw; go_simp; try with_reducible rfl)
        try simp only [List.setIfInBounds_toArray, List.set_cons_zero, List.set_cons_succ]
        refine takeH (i := 33) (t := 51) (v := ?v33y34) rfl (by kernel_rfl) (by kernel_rfl) (by kernel_rfl) (fun _ _ _ h => h) rfl (Or.inl ⟨by rfl, ?h33y34⟩) hS ?r33y34
        case h33y34 => (intro V' hSw; clear hSw; go_simp; try with_reducible rfl)
        try simp only [List.setIfInBounds_toArray, List.set_cons_zero, List.set_cons_succ]
        refine takeH (i := 34) (t := 52) (v := ?v34y35) rfl (by kernel_rfl) (by kernel_rfl) (by kernel_rfl) (fun _ _ _ h => h) rfl (Or.inl ⟨by rfl, ?h34y35⟩) hS ?r34y35
        case h34y35 => (intro V' hSw; have q := cell_q hSw k7; clear hSw; go_simp; try with_reducible rfl)
        try simp only [List.setIfInBounds_toArray, List.set_cons_zero, List.set_cons_succ]
        refine takeH (i := 35) (t := 53) (v := ?v35y36) rfl (by kernel_rfl) (by kernel_rfl) (by kernel_rfl) (fun _ _ _ h => h) rfl (Or.inl ⟨by rfl, ?h35y36⟩) hS ?r35y36
        case h35y36 => (intro V' hSw; clear hSw; go_simp; try with_reducible rfl)
        try simp only [List.setIfInBounds_toArray, List.set_cons_zero, List.set_cons_succ]
        refine takeH (i := 36) (t := 54) (v := .bool false) rfl (by kernel_rfl) (by kernel_rfl) (by kernel_rfl) (fun _ _ _ h => h) rfl (Or.inl ⟨by rfl, ?h36y37⟩) hS ?r36y37
        case h36y37 => (intro V' hSw; clear hSw; go_simp; exact Hsz.out)
        try simp only [List.setIfInBounds_toArray, List.set_cons_zero, List.set_cons_succ]
        refine takeH (i := 37) (t := 55) (v := ?v37y38) rfl (by kernel_rfl) (by kernel_rfl) (by kernel_rfl) (fun _ _ _ h => h) rfl (Or.inl ⟨by rfl, ?h37y38⟩) hS ?r37y38
        case h37y38 => (intro V' hSw; clear hSw; go_simp; try with_reducible rfl)
        try simp only [List.setIfInBounds_toArray, List.set_cons_zero, List.set_cons_succ]
        refine wpAnyH_done (by kernel_rfl) ?_ _
        have HS := Go.Lib.hid hS
        clear hS
        have hN := HI.out.setN ((n : Int) + 1)
        obtain ⟨p4, p5, p6, p7, y6, y7⟩ := hN.cells
        have HN := Go.Lib.hid hN
        clear hN
        by_cases hmo : most = (n : Int) + 1
        · obtain rfl := hmo
          gi_wp2
          exact ⟨(HKF.out 0 _ ((((Chg.refl _ Wb).setCell (fun _ => .inr rfl) _).setCell (fun _ => .inl rfl) _).drew)).1, rfl, _, true, (HN.out.setB true).quiet (Chg.refl NoB _).drew, fun _ => rfl⟩
        · have hmo' : ¬ (n : Int) + 1 = most := fun e => hmo e.symm
          gi_wp2
          have hk := HKF.out 0 _ (((Chg.refl (fun k => k = g6 ∨ k = g7) Wb).setCell (p := ⟨g7, 0, none⟩) (fun _ => .inr rfl) (.int .i64 ((n : Int) + 1))).drew)
          refine ⟨hk.1, hk.2, ?_⟩
          show OI W r most g4 g5 g6 g7 ((pre ++ [x]).length : Nat) false _
          rw [HLen.out, show ((n + 1 : Nat) : Int) = (n : Int) + 1 from rfl]
          exact HN.out.quiet (Chg.refl NoB _).drew
      · have Hsz := Go.Lib.hid (show ¬ (sz : Int) = (ll : Int) by omega)
        have hno : ¬ pre ++ [x] <+: List.finRange U.tells.length := fun h => by
          have h1 := HP.out h
          simp only [Prod.mk.injEq] at h1
          exact hsz h1.2
        have Hno := Go.Lib.hid hno
        clear hno hnm hsz HP
        gi_wp2
        refine region_inRound (S := fun V' => Chg NoB Wb V') (by kernel_rfl) (fun h => by obtain ⟨_, _, h⟩ := h; exact h) (by kernel_rfl) ((Chg.refl NoB Wb).drew) (fun hS => ?_)
        refine takeH (i := 0) (t := 18) (v := ?v0y39) rfl (by kernel_rfl) (by kernel_rfl) (by kernel_rfl) (fun _ _ _ h => h) rfl (Or.inl ⟨by rfl, ?h0y39⟩) hS ?r0y39
        case h0y39 => (intro V' hSw; have q := cell_q hSw m7; clear hSw; go_simp; try with_reducible rfl)
        try simp only [List.setIfInBounds_toArray, List.set_cons_zero, List.set_cons_succ]
        refine takeH (i := 1) (t := 19) (v := ?v1y40) rfl (by kernel_rfl) (by kernel_rfl) (by kernel_rfl) (fun _ _ _ h => h) rfl (Or.inl ⟨by rfl, ?h1y40⟩) hS ?r1y40
        case h1y40 => (intro V' hSw; have q := cell_q hSw m4; clear hSw; go_simp; try with_reducible rfl)
        try simp only [List.setIfInBounds_toArray, List.set_cons_zero, List.set_cons_succ]
        refine takeH (i := 2) (t := 20) (v := ?v2y41) rfl (by kernel_rfl) (by kernel_rfl) (by kernel_rfl) (fun _ _ _ h => h) rfl (Or.inl ⟨by rfl, ?h2y41⟩) hS ?r2y41
        case h2y41 => (intro V' hSw; clear hSw; go_simp; try with_reducible rfl)
        try simp only [List.setIfInBounds_toArray, List.set_cons_zero, List.set_cons_succ]
        refine takeH (i := 3) (t := 21) (v := ?v3y42) rfl (by kernel_rfl) (by kernel_rfl) (by kernel_rfl) (fun _ _ _ h => h) rfl (Or.inl ⟨by rfl, ?h3y42⟩) hS ?r3y42
        case h3y42 => (intro V' hSw; clear hSw; go_simp; try with_reducible rfl)
        try simp only [List.setIfInBounds_toArray, List.set_cons_zero, List.set_cons_succ]
        refine takeH (i := 4) (t := 22) (v := ?v4y43) rfl (by kernel_rfl) (by kernel_rfl) (by kernel_rfl) (fun _ _ _ h => h) rfl (Or.inl ⟨by rfl, ?h4y43⟩) hS ?r4y43
        case h4y43 => (intro V' hSw; have q := cell_q hSw q1; clear hSw; go_simp; try with_reducible rfl)
        try simp only [List.setIfInBounds_toArray, List.set_cons_zero, List.set_cons_succ]
        refine takeH (i := 5) (t := 23) (v := ?v5y44) rfl (by kernel_rfl) (by kernel_rfl) (by kernel_rfl) (fun _ _ _ h => h) rfl (Or.inl ⟨by rfl, ?h5y44⟩) hS ?r5y44
        case h5y44 => (intro V' hSw; clear hSw; go_simp; try with_reducible rfl)
        try simp only [List.setIfInBounds_toArray, List.set_cons_zero, List.set_cons_succ]
        refine takeH (i := 6) (t := 24) (v := .bool false) rfl (by kernel_rfl) (by kernel_rfl) (by kernel_rfl) (fun _ _ _ h => h) rfl (Or.inl ⟨by rfl, ?h6y45⟩) hS ?r6y45
        case h6y45 => (intro V' hSw; clear hSw; go_simp; try simp only [gn])
        try simp only [List.setIfInBounds_toArray, List.set_cons_zero, List.set_cons_succ]
        refine takeH (i := 7) (t := 25) (v := ?v7y46) rfl (by kernel_rfl) (by kernel_rfl) (by kernel_rfl) (fun _ _ _ h => h) rfl (Or.inl ⟨by rfl, ?h7y46⟩) hS ?r7y46
        case h7y46 => (intro V' hSw; clear hSw; go_simp; try with_reducible rfl)
        try simp only [List.setIfInBounds_toArray, List.set_cons_zero, List.set_cons_succ]
        refine takeH (i := 8) (t := 26) (v := ?v8y47) rfl (by kernel_rfl) (by kernel_rfl) (by kernel_rfl) (fun _ _ _ h => h) rfl (Or.inl ⟨by rfl, ?h8y47⟩) hS ?r8y47
        case h8y47 => (intro V' hSw; clear hSw; go_simp; try with_reducible rfl)
        try simp only [List.setIfInBounds_toArray, List.set_cons_zero, List.set_cons_succ]
        refine takeH (i := 9) (t := 27) (v := ?v9y48) rfl (by kernel_rfl) (by kernel_rfl) (by kernel_rfl) (fun _ _ _ h => h) rfl (Or.inl ⟨by rfl, ?h9y48⟩) hS ?r9y48
        case h9y48 => (intro V' hSw; have q := cell_q hSw m4; clear hSw; go_simp; try with_reducible rfl)
        try simp only [List.setIfInBounds_toArray, List.set_cons_zero, List.set_cons_succ]
        refine takeH (i := 10) (t := 28) (v := ?v10y49) rfl (by kernel_rfl) (by kernel_rfl) (by kernel_rfl) (fun _ _ _ h => h) rfl (Or.inl ⟨by rfl, ?h10y49⟩) hS ?r10y49
        case h10y49 => (intro V' hSw; clear hSw; go_simp; try with_reducible rfl)
        try simp only [List.setIfInBounds_toArray, List.set_cons_zero, List.set_cons_succ]
        refine takeH (i := 11) (t := 29) (v := ?v11y50) rfl (by kernel_rfl) (by kernel_rfl) (by kernel_rfl) (fun _ _ _ h => h) rfl (Or.inl ⟨by rfl, ?h11y50⟩) hS ?r11y50
        case h11y50 => (intro V' hSw; clear hSw; go_simp; try with_reducible rfl)
        try simp only [List.setIfInBounds_toArray, List.set_cons_zero, List.set_cons_succ]
        refine takeH (i := 12) (t := 30) (v := ?v12y51) rfl (by kernel_rfl) (by kernel_rfl) (by kernel_rfl) (fun _ _ _ h => h) rfl (Or.inl ⟨by rfl, ?h12y51⟩) hS ?r12y51
        case h12y51 => (intro V' hSw; have q := cell_q hSw q1; clear hSw; go_simp; try with_reducible rfl)
        try simp only [List.setIfInBounds_toArray, List.set_cons_zero, List.set_cons_succ]
        refine takeH (i := 13) (t := 31) (v := ?v13y52) rfl (by kernel_rfl) (by kernel_rfl) (by kernel_rfl) (fun _ _ _ h => h) rfl (Or.inl ⟨by rfl, ?h13y52⟩) hS ?r13y52
        case h13y52 => (intro V' hSw; have q := cell_q hSw m7; clear hSw; go_simp; try with_reducible rfl)
        try simp only [List.setIfInBounds_toArray, List.set_cons_zero, List.set_cons_succ]
        refine takeH (i := 14) (t := 32) (v := ?v14y53) rfl (by kernel_rfl) (by kernel_rfl) (by kernel_rfl) (fun _ _ _ h => h) rfl (Or.inl ⟨by rfl, ?h14y53⟩) hS ?r14y53
        case h14y53 => (intro V' hSw; clear hSw; go_simp; try with_reducible rfl)
        try simp only [List.setIfInBounds_toArray, List.set_cons_zero, List.set_cons_succ]
        refine takeH (i := 15) (t := 33) (v := ?v15y54) rfl (by kernel_rfl) (by kernel_rfl) (by kernel_rfl) (fun _ _ _ h => h) rfl (Or.inl ⟨by rfl, ?h15y54⟩) hS ?r15y54
        case h15y54 => (intro V' hSw; clear hSw; go_simp; try with_reducible rfl)
        try simp only [List.setIfInBounds_toArray, List.set_cons_zero, List.set_cons_succ]
        refine takeH (i := 16) (t := 34) (v := ?v16y55) rfl (by kernel_rfl) (by kernel_rfl) (by kernel_rfl) (fun _ _ _ h => h) rfl (Or.inl ⟨by rfl, ?h16y55⟩) hS ?r16y55
        case h16y55 => (intro V' hSw; have q := cell_q hSw k2; clear hSw; go_simp; try with_reducible rfl)
        try simp only [List.setIfInBounds_toArray, List.set_cons_zero, List.set_cons_succ]
        refine takeH (i := 17) (t := 35) (v := .bool false) rfl (by kernel_rfl) (by kernel_rfl) (by kernel_rfl) (fun _ _ _ h => h) rfl (Or.inl ⟨by rfl, ?h17y56⟩) hS ?r17y56
        case h17y56 => (intro V' hSw; clear hSw; go_simp; try simp only [hb1, Bool.not_true, Bool.not_false])
        try simp only [List.setIfInBounds_toArray, List.set_cons_zero, List.set_cons_succ]
        refine takeH (i := 18) (t := 36) (v := ?v18y57) rfl (by kernel_rfl) (by kernel_rfl) (by kernel_rfl) (fun _ _ _ h => h) rfl (Or.inl ⟨by rfl, ?h18y57⟩) hS ?r18y57
        case h18y57 => (intro V' hSw; clear hSw; go_simp; try with_reducible rfl)
        try simp only [List.setIfInBounds_toArray, List.set_cons_zero, List.set_cons_succ]
        refine takeH (i := 19) (t := 37) (v := ?v19y58) rfl (by kernel_rfl) (by kernel_rfl) (by kernel_rfl) (fun _ _ _ h => h) rfl (Or.inl ⟨by rfl, ?h19y58⟩) hS ?r19y58
        case h19y58 => (intro V' hSw; clear hSw; go_simp; try with_reducible rfl)
        try simp only [List.setIfInBounds_toArray, List.set_cons_zero, List.set_cons_succ]
        refine takeH (i := 20) (t := 38) (v := ?v20y59) rfl (by kernel_rfl) (by kernel_rfl) (by kernel_rfl) (fun _ _ _ h => h) rfl (Or.inl ⟨by rfl, ?h20y59⟩) hS ?r20y59
        case h20y59 => (intro V' hSw; clear hSw; go_simp; try with_reducible rfl)
        try simp only [List.setIfInBounds_toArray, List.set_cons_zero, List.set_cons_succ]
        refine takeH (i := 21) (t := 39) (v := ?v21y60) rfl (by kernel_rfl) (by kernel_rfl) (by kernel_rfl) (fun _ _ _ h => h) rfl (Or.inl ⟨by rfl, ?h21y60⟩) hS ?r21y60
        case h21y60 => (intro V' hSw; have q := cell_q hSw m4; clear hSw; go_simp; try with_reducible rfl)
        try simp only [List.setIfInBounds_toArray, List.set_cons_zero, List.set_cons_succ]
        refine takeH (i := 22) (t := 40) (v := ?v22y61) rfl (by kernel_rfl) (by kernel_rfl) (by kernel_rfl) (fun _ _ _ h => h) rfl (Or.inl ⟨by rfl, ?h22y61⟩) hS ?r22y61
        case h22y61 => (intro V' hSw; clear hSw; go_simp; try with_reducible rfl)
        try simp only [List.setIfInBounds_toArray, List.set_cons_zero, List.set_cons_succ]
        refine takeH (i := 23) (t := 41) (v := ?v23y62) rfl (by kernel_rfl) (by kernel_rfl) (by kernel_rfl) (fun _ _ _ h => h) rfl (Or.inl ⟨by rfl, ?h23y62⟩) hS ?r23y62
        case h23y62 => (intro V' hSw; clear hSw; go_simp; try with_reducible rfl)
        try simp only [List.setIfInBounds_toArray, List.set_cons_zero, List.set_cons_succ]
        refine takeH (i := 24) (t := 42) (v := ?v24y63) rfl (by kernel_rfl) (by kernel_rfl) (by kernel_rfl) (fun _ _ _ h => h) rfl (Or.inl ⟨by rfl, ?h24y63⟩) hS ?r24y63
        case h24y63 => (intro V' hSw; have q := cell_q hSw q0; clear hSw; go_simp; try with_reducible rfl)
        try simp only [List.setIfInBounds_toArray, List.set_cons_zero, List.set_cons_succ]
        refine takeH (i := 25) (t := 43) (v := ?v25y64) rfl (by kernel_rfl) (by kernel_rfl) (by kernel_rfl) (fun _ _ _ h => h) rfl (Or.inl ⟨by rfl, ?h25y64⟩) hS ?r25y64
        case h25y64 => (intro V' hSw; have q := cell_q hSw m4; clear hSw; go_simp; try with_reducible rfl)
        try simp only [List.setIfInBounds_toArray, List.set_cons_zero, List.set_cons_succ]
        refine takeH (i := 26) (t := 44) (v := ?v26y65) rfl (by kernel_rfl) (by kernel_rfl) (by kernel_rfl) (fun _ _ _ h => h) rfl (Or.inl ⟨by rfl, ?h26y65⟩) hS ?r26y65
        case h26y65 => (intro V' hSw; clear hSw; go_simp; try with_reducible rfl)
        try simp only [List.setIfInBounds_toArray, List.set_cons_zero, List.set_cons_succ]
        refine takeH (i := 27) (t := 45) (v := ?v27y66) rfl (by kernel_rfl) (by kernel_rfl) (by kernel_rfl) (fun _ _ _ h => h) rfl (Or.inl ⟨by rfl, ?h27y66⟩) hS ?r27y66
        case h27y66 => (intro V' hSw; clear hSw; go_simp; try with_reducible rfl)
        try simp only [List.setIfInBounds_toArray, List.set_cons_zero, List.set_cons_succ]
        refine takeH (i := 28) (t := 46) (v := ?v28y67) rfl (by kernel_rfl) (by kernel_rfl) (by kernel_rfl) (fun _ _ _ h => h) rfl (Or.inl ⟨by rfl, ?h28y67⟩) hS ?r28y67
        case h28y67 => (intro V' hSw; have q := cell_q hSw q1; clear hSw; go_simp; try with_reducible rfl)
        try simp only [List.setIfInBounds_toArray, List.set_cons_zero, List.set_cons_succ]
        refine takeH (i := 29) (t := 47) (v := ?v29y68) rfl (by kernel_rfl) (by kernel_rfl) (by kernel_rfl) (fun _ _ _ h => h) rfl (Or.inl ⟨by rfl, ?h29y68⟩) hS ?r29y68
        case h29y68 => (intro V' hSw; have q := cell_q hSw m7; clear hSw; go_simp; try with_reducible rfl)
        try simp only [List.setIfInBounds_toArray, List.set_cons_zero, List.set_cons_succ]
        refine takeH (i := 30) (t := 48) (v := ?v30y69) rfl (by kernel_rfl) (by kernel_rfl) (by kernel_rfl) (fun _ _ _ h => h) rfl (Or.inl ⟨by rfl, ?h30y69⟩) hS ?r30y69
        case h30y69 => (intro V' hSw; clear hSw; go_simp; try with_reducible rfl)
        try simp only [List.setIfInBounds_toArray, List.set_cons_zero, List.set_cons_succ]
        refine takeH (i := 31) (t := 49) (v := ?v31y70) rfl (by kernel_rfl) (by kernel_rfl) (by kernel_rfl) (fun _ _ _ h => h) rfl (Or.inl ⟨by rfl, ?h31y70⟩) hS ?r31y70
        case h31y70 => (intro V' hSw; clear hSw; go_simp; try with_reducible rfl)
        try simp only [List.setIfInBounds_toArray, List.set_cons_zero, List.set_cons_succ]
        refine takeH (i := 32) (t := 50) (v := ?v32y71) rfl (by kernel_rfl) (by kernel_rfl) (by kernel_rfl) (fun _ _ _ h => h) rfl (Or.inl ⟨by rfl, ?h32y71⟩) hS ?r32y71
        case h32y71 => (intro V' hSw; have q := cell_q hSw k6; clear hSw; go_simp; try with_reducible rfl)
        try simp only [List.setIfInBounds_toArray, List.set_cons_zero, List.set_cons_succ]
        refine takeH (i := 33) (t := 51) (v := ?v33y72) rfl (by kernel_rfl) (by kernel_rfl) (by kernel_rfl) (fun _ _ _ h => h) rfl (Or.inl ⟨by rfl, ?h33y72⟩) hS ?r33y72
        case h33y72 => (intro V' hSw; clear hSw; go_simp; try with_reducible rfl)
        try simp only [List.setIfInBounds_toArray, List.set_cons_zero, List.set_cons_succ]
        refine takeH (i := 34) (t := 52) (v := ?v34y73) rfl (by kernel_rfl) (by kernel_rfl) (by kernel_rfl) (fun _ _ _ h => h) rfl (Or.inl ⟨by rfl, ?h34y73⟩) hS ?r34y73
        case h34y73 => (intro V' hSw; have q := cell_q hSw k7; clear hSw; go_simp; try with_reducible rfl)
        try simp only [List.setIfInBounds_toArray, List.set_cons_zero, List.set_cons_succ]
        refine takeH (i := 35) (t := 53) (v := ?v35y74) rfl (by kernel_rfl) (by kernel_rfl) (by kernel_rfl) (fun _ _ _ h => h) rfl (Or.inl ⟨by rfl, ?h35y74⟩) hS ?r35y74
        case h35y74 => (intro V' hSw; clear hSw; go_simp; try with_reducible rfl)
        try simp only [List.setIfInBounds_toArray, List.set_cons_zero, List.set_cons_succ]
        refine takeH (i := 36) (t := 54) (v := .bool true) rfl (by kernel_rfl) (by kernel_rfl) (by kernel_rfl) (fun _ _ _ h => h) rfl (Or.inl ⟨by rfl, ?h36y75⟩) hS ?r36y75
        case h36y75 => (intro V' hSw; clear hSw; go_simp; exact Hsz.out)
        try simp only [List.setIfInBounds_toArray, List.set_cons_zero, List.set_cons_succ]
        refine takeH (i := 37) (t := 55) (v := ?v37y76) rfl (by kernel_rfl) (by kernel_rfl) (by kernel_rfl) (fun _ _ _ h => h) rfl (Or.inl ⟨by rfl, ?h37y76⟩) hS ?r37y76
        case h37y76 => (intro V' hSw; clear hSw; go_simp; try with_reducible rfl)
        try simp only [List.setIfInBounds_toArray, List.set_cons_zero, List.set_cons_succ]
        refine wpAnyH_done (by kernel_rfl) ?_ _
        have HS := Go.Lib.hid hS
        clear hS
        gi_wp2
        exact ⟨(HKF.out 0 _ (((Chg.refl _ Wb).setCell (fun _ => .inl rfl) _).drew)).1, rfl, _, false, (HI.out.setB false).quiet (Chg.refl NoB _).drew, fun h => (Hno.out h).elim⟩
    · have hb1 : (nm.toList == nm1.toList) = false := by
        rw [Bool.eq_false_iff]
        intro e
        exact hnm (toList_ne (eq_of_beq e))
      have hno : ¬ pre ++ [x] <+: List.finRange U.tells.length := fun h => by
        have h1 := HP.out h
        simp only [Prod.mk.injEq] at h1
        exact hnm h1.1
      have Hno := Go.Lib.hid hno
      clear hno hnm HP
      gi_wp2
      refine region_inRound (S := fun V' => Chg NoB Wb V') (by kernel_rfl) (fun h => by obtain ⟨_, _, h⟩ := h; exact h) (by kernel_rfl) ((Chg.refl NoB Wb).drew) (fun hS => ?_)
      refine takeH (i := 0) (t := 18) (v := ?v0y77) rfl (by kernel_rfl) (by kernel_rfl) (by kernel_rfl) (fun _ _ _ h => h) rfl (Or.inl ⟨by rfl, ?h0y77⟩) hS ?r0y77
      case h0y77 => (intro V' hSw; have q := cell_q hSw m7; clear hSw; go_simp; try with_reducible rfl)
      try simp only [List.setIfInBounds_toArray, List.set_cons_zero, List.set_cons_succ]
      refine takeH (i := 1) (t := 19) (v := ?v1y78) rfl (by kernel_rfl) (by kernel_rfl) (by kernel_rfl) (fun _ _ _ h => h) rfl (Or.inl ⟨by rfl, ?h1y78⟩) hS ?r1y78
      case h1y78 => (intro V' hSw; have q := cell_q hSw m4; clear hSw; go_simp; try with_reducible rfl)
      try simp only [List.setIfInBounds_toArray, List.set_cons_zero, List.set_cons_succ]
      refine takeH (i := 2) (t := 20) (v := ?v2y79) rfl (by kernel_rfl) (by kernel_rfl) (by kernel_rfl) (fun _ _ _ h => h) rfl (Or.inl ⟨by rfl, ?h2y79⟩) hS ?r2y79
      case h2y79 => (intro V' hSw; clear hSw; go_simp; try with_reducible rfl)
      try simp only [List.setIfInBounds_toArray, List.set_cons_zero, List.set_cons_succ]
      refine takeH (i := 3) (t := 21) (v := ?v3y80) rfl (by kernel_rfl) (by kernel_rfl) (by kernel_rfl) (fun _ _ _ h => h) rfl (Or.inl ⟨by rfl, ?h3y80⟩) hS ?r3y80
      case h3y80 => (intro V' hSw; clear hSw; go_simp; try with_reducible rfl)
      try simp only [List.setIfInBounds_toArray, List.set_cons_zero, List.set_cons_succ]
      refine takeH (i := 4) (t := 22) (v := ?v4y81) rfl (by kernel_rfl) (by kernel_rfl) (by kernel_rfl) (fun _ _ _ h => h) rfl (Or.inl ⟨by rfl, ?h4y81⟩) hS ?r4y81
      case h4y81 => (intro V' hSw; have q := cell_q hSw q1; clear hSw; go_simp; try with_reducible rfl)
      try simp only [List.setIfInBounds_toArray, List.set_cons_zero, List.set_cons_succ]
      refine takeH (i := 5) (t := 23) (v := ?v5y82) rfl (by kernel_rfl) (by kernel_rfl) (by kernel_rfl) (fun _ _ _ h => h) rfl (Or.inl ⟨by rfl, ?h5y82⟩) hS ?r5y82
      case h5y82 => (intro V' hSw; clear hSw; go_simp; try with_reducible rfl)
      try simp only [List.setIfInBounds_toArray, List.set_cons_zero, List.set_cons_succ]
      refine takeH (i := 6) (t := 24) (v := .bool false) rfl (by kernel_rfl) (by kernel_rfl) (by kernel_rfl) (fun _ _ _ h => h) rfl (Or.inl ⟨by rfl, ?h6y83⟩) hS ?r6y83
      case h6y83 => (intro V' hSw; clear hSw; go_simp; try simp only [gn])
      try simp only [List.setIfInBounds_toArray, List.set_cons_zero, List.set_cons_succ]
      refine takeH (i := 7) (t := 25) (v := ?v7y84) rfl (by kernel_rfl) (by kernel_rfl) (by kernel_rfl) (fun _ _ _ h => h) rfl (Or.inl ⟨by rfl, ?h7y84⟩) hS ?r7y84
      case h7y84 => (intro V' hSw; clear hSw; go_simp; try with_reducible rfl)
      try simp only [List.setIfInBounds_toArray, List.set_cons_zero, List.set_cons_succ]
      refine takeH (i := 8) (t := 26) (v := ?v8y85) rfl (by kernel_rfl) (by kernel_rfl) (by kernel_rfl) (fun _ _ _ h => h) rfl (Or.inl ⟨by rfl, ?h8y85⟩) hS ?r8y85
      case h8y85 => (intro V' hSw; clear hSw; go_simp; try with_reducible rfl)
      try simp only [List.setIfInBounds_toArray, List.set_cons_zero, List.set_cons_succ]
      refine takeH (i := 9) (t := 27) (v := ?v9y86) rfl (by kernel_rfl) (by kernel_rfl) (by kernel_rfl) (fun _ _ _ h => h) rfl (Or.inl ⟨by rfl, ?h9y86⟩) hS ?r9y86
      case h9y86 => (intro V' hSw; have q := cell_q hSw m4; clear hSw; go_simp; try with_reducible rfl)
      try simp only [List.setIfInBounds_toArray, List.set_cons_zero, List.set_cons_succ]
      refine takeH (i := 10) (t := 28) (v := ?v10y87) rfl (by kernel_rfl) (by kernel_rfl) (by kernel_rfl) (fun _ _ _ h => h) rfl (Or.inl ⟨by rfl, ?h10y87⟩) hS ?r10y87
      case h10y87 => (intro V' hSw; clear hSw; go_simp; try with_reducible rfl)
      try simp only [List.setIfInBounds_toArray, List.set_cons_zero, List.set_cons_succ]
      refine takeH (i := 11) (t := 29) (v := ?v11y88) rfl (by kernel_rfl) (by kernel_rfl) (by kernel_rfl) (fun _ _ _ h => h) rfl (Or.inl ⟨by rfl, ?h11y88⟩) hS ?r11y88
      case h11y88 => (intro V' hSw; clear hSw; go_simp; try with_reducible rfl)
      try simp only [List.setIfInBounds_toArray, List.set_cons_zero, List.set_cons_succ]
      refine takeH (i := 12) (t := 30) (v := ?v12y89) rfl (by kernel_rfl) (by kernel_rfl) (by kernel_rfl) (fun _ _ _ h => h) rfl (Or.inl ⟨by rfl, ?h12y89⟩) hS ?r12y89
      case h12y89 => (intro V' hSw; have q := cell_q hSw q1; clear hSw; go_simp; try with_reducible rfl)
      try simp only [List.setIfInBounds_toArray, List.set_cons_zero, List.set_cons_succ]
      refine takeH (i := 13) (t := 31) (v := ?v13y90) rfl (by kernel_rfl) (by kernel_rfl) (by kernel_rfl) (fun _ _ _ h => h) rfl (Or.inl ⟨by rfl, ?h13y90⟩) hS ?r13y90
      case h13y90 => (intro V' hSw; have q := cell_q hSw m7; clear hSw; go_simp; try with_reducible rfl)
      try simp only [List.setIfInBounds_toArray, List.set_cons_zero, List.set_cons_succ]
      refine takeH (i := 14) (t := 32) (v := ?v14y91) rfl (by kernel_rfl) (by kernel_rfl) (by kernel_rfl) (fun _ _ _ h => h) rfl (Or.inl ⟨by rfl, ?h14y91⟩) hS ?r14y91
      case h14y91 => (intro V' hSw; clear hSw; go_simp; try with_reducible rfl)
      try simp only [List.setIfInBounds_toArray, List.set_cons_zero, List.set_cons_succ]
      refine takeH (i := 15) (t := 33) (v := ?v15y92) rfl (by kernel_rfl) (by kernel_rfl) (by kernel_rfl) (fun _ _ _ h => h) rfl (Or.inl ⟨by rfl, ?h15y92⟩) hS ?r15y92
      case h15y92 => (intro V' hSw; clear hSw; go_simp; try with_reducible rfl)
      try simp only [List.setIfInBounds_toArray, List.set_cons_zero, List.set_cons_succ]
      refine takeH (i := 16) (t := 34) (v := ?v16y93) rfl (by kernel_rfl) (by kernel_rfl) (by kernel_rfl) (fun _ _ _ h => h) rfl (Or.inl ⟨by rfl, ?h16y93⟩) hS ?r16y93
      case h16y93 => (intro V' hSw; have q := cell_q hSw k2; clear hSw; go_simp; try with_reducible rfl)
      try simp only [List.setIfInBounds_toArray, List.set_cons_zero, List.set_cons_succ]
      refine takeH (i := 17) (t := 35) (v := .bool true) rfl (by kernel_rfl) (by kernel_rfl) (by kernel_rfl) (fun _ _ _ h => h) rfl (Or.inl ⟨by rfl, ?h17y94⟩) hS ?r17y94
      case h17y94 => (intro V' hSw; clear hSw; go_simp; try simp only [hb1, Bool.not_true, Bool.not_false])
      try simp only [List.setIfInBounds_toArray, List.set_cons_zero, List.set_cons_succ]
      refine takeH (i := 18) (t := 36) (v := ?v18y95) rfl (by kernel_rfl) (by kernel_rfl) (by kernel_rfl) (fun _ _ _ h => h) rfl (Or.inl ⟨by rfl, ?h18y95⟩) hS ?r18y95
      case h18y95 => (intro V' hSw; clear hSw; go_simp; try with_reducible rfl)
      try simp only [List.setIfInBounds_toArray, List.set_cons_zero, List.set_cons_succ]
      refine takeH (i := 19) (t := 37) (v := ?v19y96) rfl (by kernel_rfl) (by kernel_rfl) (by kernel_rfl) (fun _ _ _ h => h) rfl (Or.inl ⟨by rfl, ?h19y96⟩) hS ?r19y96
      case h19y96 => (intro V' hSw; clear hSw; go_simp; try with_reducible rfl)
      try simp only [List.setIfInBounds_toArray, List.set_cons_zero, List.set_cons_succ]
      refine takeH (i := 20) (t := 38) (v := undef) rfl (by kernel_rfl) (by kernel_rfl) (by kernel_rfl) (fun _ _ _ h => h) rfl (Or.inr ⟨by rfl, rfl⟩) hS ?r20y97
      try simp only [List.setIfInBounds_toArray, List.set_cons_zero, List.set_cons_succ]
      refine takeH (i := 21) (t := 39) (v := undef) rfl (by kernel_rfl) (by kernel_rfl) (by kernel_rfl) (fun _ _ _ h => h) rfl (Or.inr ⟨by rfl, rfl⟩) hS ?r21y98
      try simp only [List.setIfInBounds_toArray, List.set_cons_zero, List.set_cons_succ]
      refine takeH (i := 22) (t := 40) (v := undef) rfl (by kernel_rfl) (by kernel_rfl) (by kernel_rfl) (fun _ _ _ h => h) rfl (Or.inr ⟨by rfl, rfl⟩) hS ?r22y99
      try simp only [List.setIfInBounds_toArray, List.set_cons_zero, List.set_cons_succ]
      refine takeH (i := 23) (t := 41) (v := undef) rfl (by kernel_rfl) (by kernel_rfl) (by kernel_rfl) (fun _ _ _ h => h) rfl (Or.inr ⟨by rfl, rfl⟩) hS ?r23y100
      try simp only [List.setIfInBounds_toArray, List.set_cons_zero, List.set_cons_succ]
      refine takeH (i := 24) (t := 42) (v := undef) rfl (by kernel_rfl) (by kernel_rfl) (by kernel_rfl) (fun _ _ _ h => h) rfl (Or.inr ⟨by rfl, rfl⟩) hS ?r24y101
      try simp only [List.setIfInBounds_toArray, List.set_cons_zero, List.set_cons_succ]
      refine takeH (i := 25) (t := 43) (v := undef) rfl (by kernel_rfl) (by kernel_rfl) (by kernel_rfl) (fun _ _ _ h => h) rfl (Or.inr ⟨by rfl, rfl⟩) hS ?r25y102
      try simp only [List.setIfInBounds_toArray, List.set_cons_zero, List.set_cons_succ]
      refine takeH (i := 26) (t := 44) (v := undef) rfl (by kernel_rfl) (by kernel_rfl) (by kernel_rfl) (fun _ _ _ h => h) rfl (Or.inr ⟨by rfl, rfl⟩) hS ?r26y103
      try simp only [List.setIfInBounds_toArray, List.set_cons_zero, List.set_cons_succ]
      refine takeH (i := 27) (t := 45) (v := undef) rfl (by kernel_rfl) (by kernel_rfl) (by kernel_rfl) (fun _ _ _ h => h) rfl (Or.inr ⟨by rfl, rfl⟩) hS ?r27y104
      try simp only [List.setIfInBounds_toArray, List.set_cons_zero, List.set_cons_succ]
      refine takeH (i := 28) (t := 46) (v := undef) rfl (by kernel_rfl) (by kernel_rfl) (by kernel_rfl) (fun _ _ _ h => h) rfl (Or.inr ⟨by rfl, rfl⟩) hS ?r28y105
      try simp only [List.setIfInBounds_toArray, List.set_cons_zero, List.set_cons_succ]
      refine takeH (i := 29) (t := 47) (v := undef) rfl (by kernel_rfl) (by kernel_rfl) (by kernel_rfl) (fun _ _ _ h => h) rfl (Or.inr ⟨by rfl, rfl⟩) hS ?r29y106
      try simp only [List.setIfInBounds_toArray, List.set_cons_zero, List.set_cons_succ]
      refine takeH (i := 30) (t := 48) (v := undef) rfl (by kernel_rfl) (by kernel_rfl) (by kernel_rfl) (fun _ _ _ h => h) rfl (Or.inr ⟨by rfl, rfl⟩) hS ?r30y107
      try simp only [List.setIfInBounds_toArray, List.set_cons_zero, List.set_cons_succ]
      refine takeH (i := 31) (t := 49) (v := undef) rfl (by kernel_rfl) (by kernel_rfl) (by kernel_rfl) (fun _ _ _ h => h) rfl (Or.inr ⟨by rfl, rfl⟩) hS ?r31y108
      try simp only [List.setIfInBounds_toArray, List.set_cons_zero, List.set_cons_succ]
      refine takeH (i := 32) (t := 50) (v := undef) rfl (by kernel_rfl) (by kernel_rfl) (by kernel_rfl) (fun _ _ _ h => h) rfl (Or.inr ⟨by rfl, rfl⟩) hS ?r32y109
      try simp only [List.setIfInBounds_toArray, List.set_cons_zero, List.set_cons_succ]
      refine takeH (i := 33) (t := 51) (v := undef) rfl (by kernel_rfl) (by kernel_rfl) (by kernel_rfl) (fun _ _ _ h => h) rfl (Or.inr ⟨by rfl, rfl⟩) hS ?r33y110
      try simp only [List.setIfInBounds_toArray, List.set_cons_zero, List.set_cons_succ]
      refine takeH (i := 34) (t := 52) (v := undef) rfl (by kernel_rfl) (by kernel_rfl) (by kernel_rfl) (fun _ _ _ h => h) rfl (Or.inr ⟨by rfl, rfl⟩) hS ?r34y111
      try simp only [List.setIfInBounds_toArray, List.set_cons_zero, List.set_cons_succ]
      refine takeH (i := 35) (t := 53) (v := undef) rfl (by kernel_rfl) (by kernel_rfl) (by kernel_rfl) (fun _ _ _ h => h) rfl (Or.inr ⟨by rfl, rfl⟩) hS ?r35y112
      try simp only [List.setIfInBounds_toArray, List.set_cons_zero, List.set_cons_succ]
      refine takeH (i := 36) (t := 54) (v := undef) rfl (by kernel_rfl) (by kernel_rfl) (by kernel_rfl) (fun _ _ _ h => h) rfl (Or.inr ⟨by rfl, rfl⟩) hS ?r36y113
      try simp only [List.setIfInBounds_toArray, List.set_cons_zero, List.set_cons_succ]
      refine takeH (i := 37) (t := 55) (v := ?v37y114) rfl (by kernel_rfl) (by kernel_rfl) (by kernel_rfl) (fun _ _ _ h => h) rfl (Or.inl ⟨by rfl, ?h37y114⟩) hS ?r37y114
      case h37y114 => (intro V' hSw; clear hSw; go_simp; try with_reducible rfl)
      try simp only [List.setIfInBounds_toArray, List.set_cons_zero, List.set_cons_succ]
      refine wpAnyH_done (by kernel_rfl) ?_ _
      have HS := Go.Lib.hid hS
      clear hS
      gi_wp2
      exact ⟨(HKF.out 0 _ (((Chg.refl _ Wb).setCell (fun _ => .inl rfl) _).drew)).1, rfl, _, false, (HI.out.setB false).quiet (Chg.refl NoB _).drew, fun h => (Hno.out h).elim⟩
  case done =>
    rintro D ys Wd hD rfl hI hK
    rw [List.length_finRange, HTL.out] at hI
    have HI := Go.Lib.hid hI
    have HK := Go.Lib.hid hK
    have hDl : D < Wd.heap.size := (Array.getElem?_eq_some_iff.1 hK).1
    obtain ⟨c4, c5, c6, c7, z6, z7⟩ := hI.cells
    have cr1 := cell_q hI.chg K1.out
    have HG := Go.Lib.hid hI.b6
    have HO2 := Go.Lib.hid (And.intro HO.out (And.intro hs6 hlast))
    clear hI hK HE HF HDB HX H6
    go_wp2_with fail
    refine regionT 7 (fun V' => Chg NoB Wd V') (by kernel_rfl) (by decide) ((Chg.refl NoB Wd).drew) (fun inv hHeld => ?_)
    refine takeT (i := 0) (t := 61) (v := ?v0y115) rfl (by kernel_rfl) (by kernel_rfl) (by kernel_rfl) (fun c a w h => panic_once (t := 61) (by decide) _ c a w h) (by kernel_rfl) (by kernel_rfl) (by decide) (by decide) rfl (Or.inl ⟨by rfl, ?h0y115⟩) inv hHeld ?r0y115
    case h0y115 => (intro V' hSw; have q := cell_q hSw c7; clear hSw; go_simp; try with_reducible rfl)
    clear inv
    intro inv
    try simp only [List.setIfInBounds_toArray, List.set_cons_zero, List.set_cons_succ]
    refine takeT (i := 1) (t := 62) (v := ?v1y116) rfl (by kernel_rfl) (by kernel_rfl) (by kernel_rfl) (fun c a w h => panic_once (t := 62) (by decide) _ c a w h) (by kernel_rfl) (by kernel_rfl) (by decide) (by decide) rfl (Or.inl ⟨by rfl, ?h1y116⟩) inv hHeld ?r1y116
    case h1y116 => (intro V' hSw; have q := cell_q hSw c4; clear hSw; go_simp; try with_reducible rfl)
    clear inv
    intro inv
    try simp only [List.setIfInBounds_toArray, List.set_cons_zero, List.set_cons_succ]
    refine takeT (i := 2) (t := 63) (v := ?v2y117) rfl (by kernel_rfl) (by kernel_rfl) (by kernel_rfl) (fun c a w h => panic_once (t := 63) (by decide) _ c a w h) (by kernel_rfl) (by kernel_rfl) (by decide) (by decide) rfl (Or.inl ⟨by rfl, ?h2y117⟩) inv hHeld ?r2y117
    case h2y117 => (intro V' hSw; clear hSw; go_simp; try with_reducible rfl)
    clear inv
    intro inv
    try simp only [List.setIfInBounds_toArray, List.set_cons_zero, List.set_cons_succ]
    refine takeT (i := 3) (t := 64) (v := ?v3y118) rfl (by kernel_rfl) (by kernel_rfl) (by kernel_rfl) (fun c a w h => panic_once (t := 64) (by decide) _ c a w h) (by kernel_rfl) (by kernel_rfl) (by decide) (by decide) rfl (Or.inl ⟨by rfl, ?h3y118⟩) inv hHeld ?r3y118
    case h3y118 => (intro V' hSw; clear hSw; go_simp; try with_reducible rfl)
    clear inv
    intro inv
    try simp only [List.setIfInBounds_toArray, List.set_cons_zero, List.set_cons_succ]
    refine takeT (i := 4) (t := 65) (v := ?v4y119) rfl (by kernel_rfl) (by kernel_rfl) (by kernel_rfl) (fun c a w h => panic_once (t := 65) (by decide) _ c a w h) (by kernel_rfl) (by kernel_rfl) (by decide) (by decide) rfl (Or.inl ⟨by rfl, ?h4y119⟩) inv hHeld ?r4y119
    case h4y119 => (intro V' hSw; have q := cell_q hSw cr1; clear hSw; go_simp; try with_reducible rfl)
    clear inv
    intro inv
    try simp only [List.setIfInBounds_toArray, List.set_cons_zero, List.set_cons_succ]
    refine takeT (i := 5) (t := 66) (v := ?v5y120) rfl (by kernel_rfl) (by kernel_rfl) (by kernel_rfl) (fun c a w h => panic_once (t := 66) (by decide) _ c a w h) (by kernel_rfl) (by kernel_rfl) (by decide) (by decide) rfl (Or.inl ⟨by rfl, ?h5y120⟩) inv hHeld ?r5y120
    case h5y120 => (intro V' hSw; clear hSw; go_simp; try with_reducible rfl)
    clear inv
    intro inv
    try simp only [List.setIfInBounds_toArray, List.set_cons_zero, List.set_cons_succ]
    refine takeT (i := 6) (t := 67) (v := .bool true) rfl (by kernel_rfl) (by kernel_rfl) (by kernel_rfl) (fun c a w h => panic_once (t := 67) (by decide) _ c a w h) (by kernel_rfl) (by kernel_rfl) (by decide) (by decide) rfl (Or.inl ⟨by rfl, ?h6y121⟩) inv hHeld ?r6y121
    case h6y121 => (intro V' hSw; clear hSw; go_simp; try with_reducible rfl)
    clear inv
    intro inv
    try simp only [List.setIfInBounds_toArray, List.set_cons_zero, List.set_cons_succ]
    refine lastT (i := 7) (w' := Wd.drew.setCell ⟨g6, 0, none⟩ (.bool true)) rfl (by kernel_rfl) rfl (by rfl) ?hx122 (by decide) (by kernel_rfl) ?_
    case hx122 => (go_simp; try with_reducible rfl)
    have hEE := (HI.out.quiet (Chg.refl NoB Wd).drew).setB true
    have hgD : g6 ≠ D := by have := HO2.out; omega
    have HK4 := Go.Lib.hid ((Below.heap_setCell Wd.drew ⟨g6, 0, none⟩ (.bool true) D (Ne.symm hgD)).trans (((Chg.refl NoB Wd).drew.block D hDl id).trans HK.out))
    have hC4 := hEE.cells.2.2.1
    have hCh := Go.Lib.hid hEE.chg
    clear hEE
    go_wp2_with fail
    exact leave_once HK4.out hC4 rfl hCh.out (by have := HO2.out; omega)
end
end Go.Proofs.Ytlglnebnldmceaa
