/- What is proved: Pair.Alike of a machine and the reference's that are alike, each with an empty store. Conditions: as each theorem says. -/
import Derived.Test.YtggknljlibhkjaaGreatRnB
import Derived.Test.YtggknljlibhkjaaGreatRmA
set_option linter.unusedSimpArgs false
set_option linter.unusedVariables false
namespace Go.Proofs.YtggknljlibhkjaaGreat
open Go Go.RowKit Go.Shelf
abbrev R2T : TypeId := 67
abbrev PT : TypeId := 38
theorem mstore_c {W : World} {p mb s mm : Nat} {d : Mc} (h : MAt W p mb s mm d) : Calls Tryz.prog 9 #[.pointer (some ⟨p, 0, none⟩)] W fun e w' => e = .returned (.pointer (some ⟨s, 0, none⟩)) ∧ W = w' := by
  have HT := Go.Lib.hid (mthere_c h)
  obtain ⟨_, _, _, k24, _, _, _⟩ := h.cells
  clear h
  go_enter Tryz.func9, Tryz.ntmps9
  go_wp2_with fail
  refine HT.out.mono ?_
  rintro e w1 ⟨rfl, rfl⟩
  go_wp2_with fail
  go_ret
  exact ⟨rfl, rfl⟩
/-- the reference's store, empty -/
def r2arr (cap : Int) : Array Value := #[.slice none 0 0, .slice none 0 0, .slice none 0 0, .int .i64 cap]
theorem rroom0_c {W : World} {r : Nat} {cap : Int} (h : Blk W r R2T (r2arr cap)) : Calls Tryz.prog 109 #[.pointer (some ⟨r, 0, none⟩)] W (Quiet (.int .i64 cap) W) := by
  have c0 : W.cell? ⟨r, 0, none⟩ = some (.slice none 0 0) := by rw [h.cell 0]; rfl
  have c3 : W.cell? ⟨r, 3, none⟩ = some (.int .i64 cap) := by rw [h.cell 3]; rfl
  clear h
  go_enter Tryz.func109, Tryz.ntmps109
  go_wp2_with fail
  refine wp_loop_rounds 1 ?_
  rw [rounds_succ]
  go_wp2_with fail
  go_ret
  exact ⟨rfl, Chg.refl _ _⟩
theorem leave_files {D g : Nat} {w wF : World} {tmps : Array Value} {bb : Bool} (hK : wF.heap[D]? = some (.deferred (some []))) (hc : wF.cell? ⟨g, 0, none⟩ = some (.bool bb)) (hp : tmps.getD 2 undef = .pointer (some ⟨g, 0, none⟩)) (hw : Chg NoB w wF) (hD : w.heap.size ≤ D) :
    bodyPostM Fence.wide 9 Tryz.prog Tryz.f77 (Quiet (.bool bb) w) .ret { tmps := tmps, defers := [{ target := .collected D, args := #[] }] } wF := by
  refine ⟨by simp, .inl ⟨_, _, rfl, run_takeDeferred hK, ?_⟩⟩
  exact ⟨_, results_bool rfl _ hp (cell_kept hc (grownBy_putObj' _ D _) (fun r e => by cases e; exact ⟨_, hK, rfl⟩)), rfl, hw.grown (grownBy_putObj' _ D _) (fun k e hk => by cases e; omega)⟩
theorem leavesM_eq {F : Fence} {n : Nat} {P : Program} {fn : Func} {R : Ending → World → Prop} {tmps tmps' : Array Value} (h : results fn tmps = results fn tmps') : ∀ (ds : List Deferred) (u : FrameMode) (w : World), LeavesInM F n P fn tmps R ds u w = LeavesInM F n P fn tmps' R ds u w
  | [], u, w => by cases u <;> simp only [LeavesInM, LeavesIn, h]
  | d :: ds, u, w => by simp only [LeavesInM, leavesM_eq h ds]
theorem panic_putF {R : Ending → World → Prop} {t : Nat} (ht : t ≠ 2) (v : Value) (c : List PanicEntry) (a : Act) (w : World) (h : bodyPostM Fence.wide 9 Tryz.prog Tryz.f77 R (.panic c) (a.put (some t) v) w) : bodyPostM Fence.wide 9 Tryz.prog Tryz.f77 R (.panic c) a w := by
  show LeavesInM Fence.wide 9 Tryz.prog Tryz.f77 a.tmps R a.defers (.panicking c) w
  have h : LeavesInM Fence.wide 9 Tryz.prog Tryz.f77 (a.put (some t) v).tmps R a.defers (.panicking c) w := h
  rw [leavesM_eq (tmps' := (a.put (some t) v).tmps)]
  · exact h
  · have hg : (a.put (some t) v).tmps[2]? = a.tmps[2]? := by
      show (a.tmps.setIfInBounds t v)[2]? = _
      rw [Array.getElem?_setIfInBounds_ne ht]
    simp only [results, show Tryz.f77.results = #[.cell 2 4] from rfl]
    simp [hg]
/-- the two variables of files, as far as they are made -/
structure FI2 (W0 : World) (s rs g : Nat) (A3 A4 : Option Nat) (W : World) : Prop where
  chg : Chg NoB W0 W
  res : Blk W g 4 #[.bool false]
  b3 : ∀ a, A3 = some a → Blk W a 34 #[.pointer none] ∧ W0.heap.size ≤ a
  b4 : ∀ a, A4 = some a → Blk W a 62 #[.pointer none] ∧ W0.heap.size ≤ a
section
variable {W0 W : World} {s rs g : Nat} {A3 A4 : Option Nat}
theorem FI2.alloc3 (h : FI2 W0 s rs g none A4 W) : FI2 W0 s rs g (some W.heap.size) A4 (W.alloc (.cells #[.pointer none] 34)) :=
  ⟨h.chg.alloc _, h.res.alloc _, fun a ha => by obtain rfl : W.heap.size = a := Option.some.inj ha; exact ⟨Blk.new _ _ _, h.chg.size⟩, fun a ha => ⟨(h.b4 a ha).1.alloc _, (h.b4 a ha).2⟩⟩
theorem FI2.alloc4 (h : FI2 W0 s rs g A3 none W) : FI2 W0 s rs g A3 (some W.heap.size) (W.alloc (.cells #[.pointer none] 62)) :=
  ⟨h.chg.alloc _, h.res.alloc _, fun a ha => ⟨(h.b3 a ha).1.alloc _, (h.b3 a ha).2⟩, fun a ha => by obtain rfl : W.heap.size = a := Option.some.inj ha; exact ⟨Blk.new _ _ _, h.chg.size⟩⟩
def AfterF (W0 : World) (s rs g : Nat) (v3 v4 : Value) (W : World) : Prop := ∃ a3 a4, v3 = .pointer (some ⟨a3, 0, none⟩) ∧ v4 = .pointer (some ⟨a4, 0, none⟩) ∧ Chg NoB W0 W ∧ Blk W g 4 #[.bool false] ∧ Blk W a3 34 #[.pointer (some ⟨s, 0, none⟩)] ∧ Blk W a4 62 #[.pointer (some ⟨rs, 0, none⟩)] ∧ W0.heap.size ≤ a3 ∧ W0.heap.size ≤ a4
theorem FI2.fin {a3 a4 : Nat} (hg : g < W0.heap.size) (h : FI2 W0 s rs g (some a3) (some a4) W) : AfterF W0 s rs g (.pointer (some ⟨a3, 0, none⟩)) (.pointer (some ⟨a4, 0, none⟩)) ((W.setCell ⟨a3, 0, none⟩ (.pointer (some ⟨s, 0, none⟩))).setCell ⟨a4, 0, none⟩ (.pointer (some ⟨rs, 0, none⟩))) := by
  obtain ⟨b3, l3⟩ := h.b3 a3 rfl
  obtain ⟨b4, l4⟩ := h.b4 a4 rfl
  have hne : a3 ≠ a4 := b3.ne_ b4 (by decide)
  refine ⟨a3, a4, rfl, rfl, (h.chg.setCell (fun hx => by simp at hx; omega) _).setCell (fun hx => by simp at hx; omega) _, (h.res.far (p := ⟨a3, 0, none⟩) (by simp; omega) _).far (p := ⟨a4, 0, none⟩) (by simp; omega) _, ?_, ?_, l3, l4⟩
  · exact (b3.set_ 0 _).far (p := ⟨a4, 0, none⟩) hne _
  · exact (b4.far (p := ⟨a3, 0, none⟩) (Ne.symm hne) _).set_ 0 _
end
section
variable {W : World} {p mb s mm r rmb rs pr base : Nat} {d : Mc} {cap : Nat} {F : Nat → Prop}
set_option maxRecDepth 100000 in
set_option maxHeartbeats 4000000 in
theorem pfiles_c (hp : Blk W pr PT #[.pointer (some ⟨p, 0, none⟩), .pointer (some ⟨r, 0, none⟩)]) (hm : MAt W p mb s mm d) (hr : RMAt W r rmb (.pointer (some ⟨rs, 0, none⟩)) d) (hs : StoreV base W s ⟨cap, [], [], []⟩ F) (hrs : Blk W rs R2T (r2arr cap)) :
    Calls Tryz.prog 77 #[.pointer (some ⟨pr, 0, none⟩)] W (Quiet (.bool true) W) := by
  have HST := Go.Lib.hid (fun (W' : World) (hc : Chg NoB W W') => mstore_c (hm.quiet hc))
  have HS3 : Hid (∀ W', Chg NoB W W' → ∃ S, StoreAt base W' s S ∧ S.dir = [] ∧ S.rd.length = 0 ∧ S.room = cap) := Go.Lib.hid fun W' hc => by
    obtain ⟨S, φ, h1, h2, _⟩ := hs.quiet hc
    refine ⟨S, h1, by rw [h2.dir]; rfl, by rw [h2.rlen]; rfl, by rw [h2.room]; simp [V.room, V.used, V.held, dedup, sumOf]⟩
  have HFI : Hid (∀ W', Chg NoB W W' → Calls Tryz.prog 106 #[.pointer (some ⟨s, 0, none⟩)] W' (FilesPost W'.heap.size [] W')) := Go.Lib.hid fun W' hc => by
    obtain ⟨S, h1, hd, _, _⟩ := HS3.out W' hc
    have := files_c h1
    rw [show S.files = [] by simp [Sto.files, hd, sortN]] at this
    exact this
  have HRI : Hid (∀ W', Chg NoB W W' → Calls Tryz.prog 19 #[.pointer (some ⟨s, 0, none⟩)] W' (Quiet (.int .i64 0) W')) := Go.Lib.hid fun W' hc => by
    obtain ⟨S, h1, _, hr, _⟩ := HS3.out W' hc
    refine (riders_c h1).mono ?_
    rintro e w' ⟨rfl, rfl⟩
    rw [hr]
    exact ⟨rfl, Chg.refl _ _⟩
  have HRO : Hid (∀ W', Chg NoB W W' → Calls Tryz.prog 108 #[.pointer (some ⟨s, 0, none⟩)] W' (Quiet (.int .i64 cap) W')) := Go.Lib.hid fun W' hc => by
    obtain ⟨S, h1, _, _, hr⟩ := HS3.out W' hc
    refine (room_c h1).mono ?_
    rintro e w' ⟨rfl, h⟩
    rw [hr]
    exact ⟨rfl, h⟩
  have HRR := Go.Lib.hid (fun (W' : World) (hc : Chg NoB W W') => rroom0_c (hrs.chg hc id))
  have K : Hid (W.cell? ⟨pr, 0, none⟩ = some (.pointer (some ⟨p, 0, none⟩)) ∧ W.cell? ⟨pr, 1, none⟩ = some (.pointer (some ⟨r, 0, none⟩)) ∧ W.cell? ⟨r, 24, none⟩ = some (.pointer (some ⟨rs, 0, none⟩)) ∧ W.cell? ⟨rs, 1, none⟩ = some (.slice none 0 0) ∧ W.cell? ⟨rs, 2, none⟩ = some (.slice none 0 0)) :=
    Go.Lib.hid ⟨by rw [hp.cell 0]; rfl, by rw [hp.cell 1]; rfl, by rw [hr.m.cell 24]; rfl, by rw [hrs.cell 1]; rfl, by rw [hrs.cell 2]; rfl⟩
  clear hp hm hr hs hrs
  refine (callsIn_wide (n := 9)).1 (callsIn_of_wp_marks Tryz.func77 rfl trivial (wpIn_wide.2 ?_) rfl)
  simp only [Tryz.ntmps77, List.size_toArray, List.length_cons, List.length_nil, Nat.reduceAdd, Nat.reduceSub, Array.replicate_succ, Array.replicate_zero, List.push_toArray, List.append_toArray, List.nil_append, List.cons_append]
  go_upto_region 1 with fail
  have hres : Blk (W.alloc (.cells #[.bool false] 4)) W.heap.size 4 #[.bool false] := Blk.new _ _ _
  have hc0 : Chg NoB W (W.alloc (.cells #[.bool false] 4)) := (Chg.refl _ _).alloc _
  have hz : (W.alloc (.cells #[.bool false] 4)).heap.size = W.heap.size + 1 := by simp
  generalize W.alloc (.cells #[.bool false] 4) = W1 at *
  generalize hgE : W.heap.size = g at *
  have HC0 := Go.Lib.hid hc0
  have HI0 : Hid (FI2 W1.drew s rs g none none W1.drew) := Go.Lib.hid ⟨Chg.refl _ _, hres, (by intro _ h; cases h), (by intro _ h; cases h)⟩
  have hgl : g < W1.drew.heap.size := by show g < W1.heap.size; omega
  clear hres hc0
  go_cut [3, 4] from 10 to 21 (fun v3 v4 wx => AfterF W1.drew s rs g v3 v4 wx)
  case first =>
    refine regionH (fun V' => Chg NoB W V') (by kernel_rfl) (HC0.out.trans (Chg.refl NoB W1).drew) (fun hS => ?_)
    refine takeH (i := 0) (t := 10) (v := ?v0y1) rfl (by kernel_rfl) (by kernel_rfl) (by kernel_rfl) (fun c a w h => panic_putF (t := 10) (by decide) _ c a w h) rfl (Or.inl ⟨by rfl, ?h0y1⟩) hS ?r0y1
    case h0y1 => (intro V' hSw; go_simp; try with_reducible rfl)
    try simp only [List.setIfInBounds_toArray, List.set_cons_zero, List.set_cons_succ]
    refine takeH (i := 1) (t := 11) (v := ?v1y2) rfl (by kernel_rfl) (by kernel_rfl) (by kernel_rfl) (fun c a w h => panic_putF (t := 11) (by decide) _ c a w h) rfl (Or.inl ⟨by rfl, ?h1y2⟩) hS ?r1y2
    case h1y2 => (intro V' hSw; go_simp; try with_reducible rfl)
    try simp only [List.setIfInBounds_toArray, List.set_cons_zero, List.set_cons_succ]
    refine takeH (i := 2) (t := 12) (v := ?v2y3) rfl (by kernel_rfl) (by kernel_rfl) (by kernel_rfl) (fun c a w h => panic_putF (t := 12) (by decide) _ c a w h) rfl (Or.inl ⟨by rfl, ?h2y3⟩) hS ?r2y3
    case h2y3 => (intro V' hSw; go_simp; try with_reducible rfl)
    try simp only [List.setIfInBounds_toArray, List.set_cons_zero, List.set_cons_succ]
    refine takeH (i := 3) (t := 13) (v := ?v3y4) rfl (by kernel_rfl) (by kernel_rfl) (by kernel_rfl) (fun c a w h => panic_putF (t := 13) (by decide) _ c a w h) rfl (Or.inl ⟨by rfl, ?h3y4⟩) hS ?r3y4
    case h3y4 => (intro V' hSw; have q := cellq hSw K.out.1; clear hSw; go_simp; try with_reducible rfl)
    try simp only [List.setIfInBounds_toArray, List.set_cons_zero, List.set_cons_succ]
    refine takeH (i := 5) (t := 15) (v := ?v5y5) rfl (by kernel_rfl) (by kernel_rfl) (by kernel_rfl) (fun c a w h => panic_putF (t := 15) (by decide) _ c a w h) rfl (Or.inl ⟨by rfl, ?h5y5⟩) hS ?r5y5
    case h5y5 => (intro V' hSw; go_simp; try with_reducible rfl)
    try simp only [List.setIfInBounds_toArray, List.set_cons_zero, List.set_cons_succ]
    refine takeH (i := 6) (t := 16) (v := ?v6y6) rfl (by kernel_rfl) (by kernel_rfl) (by kernel_rfl) (fun c a w h => panic_putF (t := 16) (by decide) _ c a w h) rfl (Or.inl ⟨by rfl, ?h6y6⟩) hS ?r6y6
    case h6y6 => (intro V' hSw; go_simp; try with_reducible rfl)
    try simp only [List.setIfInBounds_toArray, List.set_cons_zero, List.set_cons_succ]
    refine takeH (i := 7) (t := 17) (v := ?v7y7) rfl (by kernel_rfl) (by kernel_rfl) (by kernel_rfl) (fun c a w h => panic_putF (t := 17) (by decide) _ c a w h) rfl (Or.inl ⟨by rfl, ?h7y7⟩) hS ?r7y7
    case h7y7 => (intro V' hSw; go_simp; try with_reducible rfl)
    try simp only [List.setIfInBounds_toArray, List.set_cons_zero, List.set_cons_succ]
    refine takeH (i := 8) (t := 18) (v := ?v8y8) rfl (by kernel_rfl) (by kernel_rfl) (by kernel_rfl) (fun c a w h => panic_putF (t := 18) (by decide) _ c a w h) rfl (Or.inl ⟨by rfl, ?h8y8⟩) hS ?r8y8
    case h8y8 => (intro V' hSw; have q := cellq hSw K.out.2.1; clear hSw; go_simp; try with_reducible rfl)
    try simp only [List.setIfInBounds_toArray, List.set_cons_zero, List.set_cons_succ]
    refine takeH (i := 9) (t := 19) (v := ?v9y9) rfl (by kernel_rfl) (by kernel_rfl) (by kernel_rfl) (fun c a w h => panic_putF (t := 19) (by decide) _ c a w h) rfl (Or.inl ⟨by rfl, ?h9y9⟩) hS ?r9y9
    case h9y9 => (intro V' hSw; go_simp; try with_reducible rfl)
    try simp only [List.setIfInBounds_toArray, List.set_cons_zero, List.set_cons_succ]
    refine takeH (i := 10) (t := 20) (v := ?v10y10) rfl (by kernel_rfl) (by kernel_rfl) (by kernel_rfl) (fun c a w h => panic_putF (t := 20) (by decide) _ c a w h) rfl (Or.inl ⟨by rfl, ?h10y10⟩) hS ?r10y10
    case h10y10 => (intro V' hSw; go_simp; try with_reducible rfl)
    try simp only [List.setIfInBounds_toArray, List.set_cons_zero, List.set_cons_succ]
    refine takeH (i := 11) (t := 21) (v := ?v11y11) rfl (by kernel_rfl) (by kernel_rfl) (by kernel_rfl) (fun c a w h => panic_putF (t := 21) (by decide) _ c a w h) rfl (Or.inl ⟨by rfl, ?h11y11⟩) hS ?r11y11
    case h11y11 => (intro V' hSw; have q := cellq hSw K.out.2.2.1; clear hSw; go_simp; try with_reducible rfl)
    try simp only [List.setIfInBounds_toArray, List.set_cons_zero, List.set_cons_succ]
    have hI := HI0.out
    refine manyH (i := 4) (l := [12, 13]) (by kernel_rfl) ?ho
    case ho =>
      intro j hj
      simp only [List.mem_cons, List.not_mem_nil, or_false] at hj
      rcases hj with rfl | rfl | rfl
      ·
        refine opCallH (t := 14) (f := 9) (args := #[.pointer (some ⟨p, 0, none⟩)]) rfl rfl (by rfl) ?hx ?hc
        case hx => (go_simp; try rfl)
        case hc =>
          refine (HST.out W1.drew hS).mono ?_
          rintro ee w1 ⟨rfl, rfl⟩
          refine ⟨_, rfl, hS, ?_⟩
          try simp only [List.setIfInBounds_toArray, List.set_cons_zero, List.set_cons_succ]
          refine manyH (i := 12) (l := [13]) (by kernel_rfl) ?ho
          case ho =>
            intro j hj
            simp only [List.mem_cons, List.not_mem_nil, or_false] at hj
            rcases hj with rfl | rfl
            ·
              refine opValH (t := 3) (v := .pointer (some ⟨W1.drew.heap.size, 0, none⟩)) (w' := W1.drew.alloc (.cells #[.pointer none] 34)) rfl rfl (by rfl) ?hx (hS.alloc _) ?hn
              case hx => (go_simp; try rfl)
              case hn =>
                have hI := hI.alloc3
                have hS := hS.alloc (.cells #[.pointer none] 34)
                generalize W1.drew.alloc (.cells #[.pointer none] 34) = V12 at hI hS ⊢
                generalize W1.drew.heap.size = a3 at hI ⊢
                try simp only [List.setIfInBounds_toArray, List.set_cons_zero, List.set_cons_succ]
                refine manyH (i := 13) (l := []) (by kernel_rfl) ?ho
                case ho =>
                  intro j hj
                  simp only [List.mem_cons, List.not_mem_nil, or_false] at hj
                  rcases hj with rfl
                  ·
                    refine opValH (t := 4) (v := .pointer (some ⟨V12.heap.size, 0, none⟩)) (w' := V12.alloc (.cells #[.pointer none] 62)) rfl rfl (by rfl) ?hx (hS.alloc _) ?hn
                    case hx => (go_simp; try rfl)
                    case hn =>
                      have hI := hI.alloc4
                      have hS := hS.alloc (.cells #[.pointer none] 62)
                      generalize V12.alloc (.cells #[.pointer none] 62) = V13 at hI hS ⊢
                      generalize V12.heap.size = a4 at hI ⊢
                      try simp only [List.setIfInBounds_toArray, List.set_cons_zero, List.set_cons_succ]
                      refine manyH (i := 14) (l := []) (by kernel_rfl) ?hs14
                      case hs14 =>
                        intro j hj
                        obtain rfl : j = 14 := by simpa using hj
                        refine opSkipH (w' := V13.setCell ⟨a3, 0, none⟩ (.pointer (some ⟨s, 0, none⟩))) rfl rfl (by rfl) ?hx (hS.setCell (fun hx => by simp at hx; have := (hI.b3 a3 rfl).2; omega) _) ?hn
                        case hx =>
                          have c3 := (hI.b3 a3 rfl).1.cell 0
                          have z3 := (hI.b3 a3 rfl).1.frozen 0
                          simp only [List.getElem?_toArray, List.getElem?_cons_zero] at c3
                          go_simp; try rfl
                        case hn =>
                          have hS := hS.setCell (p := ⟨a3, 0, none⟩) (fun hx => by simp at hx; have := (hI.b3 a3 rfl).2; omega) (.pointer (some ⟨s, 0, none⟩))
                          refine storeLastH (i := 15) (w' := (V13.setCell ⟨a3, 0, none⟩ (.pointer (some ⟨s, 0, none⟩))).setCell ⟨a4, 0, none⟩ (.pointer (some ⟨rs, 0, none⟩))) rfl (by kernel_rfl) rfl (by rfl) ?hz (hS.setCell (fun hx => by simp at hx; have := (hI.b4 a4 rfl).2; omega) _) (by kernel_rfl) ?hy
                          case hz =>
                            have hne : a4 ≠ a3 := fun e => absurd e.symm ((hI.b3 a3 rfl).1.ne_ (hI.b4 a4 rfl).1 (by decide))
                            have b4 := (hI.b4 a4 rfl).1.far (p := ⟨a3, 0, none⟩) hne (.pointer (some ⟨s, 0, none⟩))
                            have c4 := b4.cell 0
                            have z4 := b4.frozen 0
                            simp only [List.getElem?_toArray, List.getElem?_cons_zero] at c4
                            clear hI
                            go_simp; try rfl
                          case hy =>
                            have HFin := Go.Lib.hid (hI.fin hgl)
                            clear hI hS
                            go_wp2_with fail
                            go_meet
                            case rel => exact HFin.out
            ·
              refine opValH (t := 4) (v := .pointer (some ⟨W1.drew.heap.size, 0, none⟩)) (w' := W1.drew.alloc (.cells #[.pointer none] 62)) rfl rfl (by rfl) ?hx (hS.alloc _) ?hn
              case hx => (go_simp; try rfl)
              case hn =>
                have hI := hI.alloc4
                have hS := hS.alloc (.cells #[.pointer none] 62)
                generalize W1.drew.alloc (.cells #[.pointer none] 62) = V14 at hI hS ⊢
                generalize W1.drew.heap.size = a4 at hI ⊢
                try simp only [List.setIfInBounds_toArray, List.set_cons_zero, List.set_cons_succ]
                refine manyH (i := 12) (l := []) (by kernel_rfl) ?ho
                case ho =>
                  intro j hj
                  simp only [List.mem_cons, List.not_mem_nil, or_false] at hj
                  rcases hj with rfl
                  ·
                    refine opValH (t := 3) (v := .pointer (some ⟨V14.heap.size, 0, none⟩)) (w' := V14.alloc (.cells #[.pointer none] 34)) rfl rfl (by rfl) ?hx (hS.alloc _) ?hn
                    case hx => (go_simp; try rfl)
                    case hn =>
                      have hI := hI.alloc3
                      have hS := hS.alloc (.cells #[.pointer none] 34)
                      generalize V14.alloc (.cells #[.pointer none] 34) = V15 at hI hS ⊢
                      generalize V14.heap.size = a3 at hI ⊢
                      try simp only [List.setIfInBounds_toArray, List.set_cons_zero, List.set_cons_succ]
                      refine manyH (i := 14) (l := []) (by kernel_rfl) ?hs14
                      case hs14 =>
                        intro j hj
                        obtain rfl : j = 14 := by simpa using hj
                        refine opSkipH (w' := V15.setCell ⟨a3, 0, none⟩ (.pointer (some ⟨s, 0, none⟩))) rfl rfl (by rfl) ?hx (hS.setCell (fun hx => by simp at hx; have := (hI.b3 a3 rfl).2; omega) _) ?hn
                        case hx =>
                          have c3 := (hI.b3 a3 rfl).1.cell 0
                          have z3 := (hI.b3 a3 rfl).1.frozen 0
                          simp only [List.getElem?_toArray, List.getElem?_cons_zero] at c3
                          go_simp; try rfl
                        case hn =>
                          have hS := hS.setCell (p := ⟨a3, 0, none⟩) (fun hx => by simp at hx; have := (hI.b3 a3 rfl).2; omega) (.pointer (some ⟨s, 0, none⟩))
                          refine storeLastH (i := 15) (w' := (V15.setCell ⟨a3, 0, none⟩ (.pointer (some ⟨s, 0, none⟩))).setCell ⟨a4, 0, none⟩ (.pointer (some ⟨rs, 0, none⟩))) rfl (by kernel_rfl) rfl (by rfl) ?hz (hS.setCell (fun hx => by simp at hx; have := (hI.b4 a4 rfl).2; omega) _) (by kernel_rfl) ?hy
                          case hz =>
                            have hne : a4 ≠ a3 := fun e => absurd e.symm ((hI.b3 a3 rfl).1.ne_ (hI.b4 a4 rfl).1 (by decide))
                            have b4 := (hI.b4 a4 rfl).1.far (p := ⟨a3, 0, none⟩) hne (.pointer (some ⟨s, 0, none⟩))
                            have c4 := b4.cell 0
                            have z4 := b4.frozen 0
                            simp only [List.getElem?_toArray, List.getElem?_cons_zero] at c4
                            clear hI
                            go_simp; try rfl
                          case hy =>
                            have HFin := Go.Lib.hid (hI.fin hgl)
                            clear hI hS
                            go_wp2_with fail
                            go_meet
                            case rel => exact HFin.out
      ·
        refine opValH (t := 3) (v := .pointer (some ⟨W1.drew.heap.size, 0, none⟩)) (w' := W1.drew.alloc (.cells #[.pointer none] 34)) rfl rfl (by rfl) ?hx (hS.alloc _) ?hn
        case hx => (go_simp; try rfl)
        case hn =>
          have hI := hI.alloc3
          have hS := hS.alloc (.cells #[.pointer none] 34)
          generalize W1.drew.alloc (.cells #[.pointer none] 34) = V16 at hI hS ⊢
          generalize W1.drew.heap.size = a3 at hI ⊢
          try simp only [List.setIfInBounds_toArray, List.set_cons_zero, List.set_cons_succ]
          refine manyH (i := 4) (l := [13]) (by kernel_rfl) ?ho
          case ho =>
            intro j hj
            simp only [List.mem_cons, List.not_mem_nil, or_false] at hj
            rcases hj with rfl | rfl
            ·
              refine opCallH (t := 14) (f := 9) (args := #[.pointer (some ⟨p, 0, none⟩)]) rfl rfl (by rfl) ?hx ?hc
              case hx => (go_simp; try rfl)
              case hc =>
                refine (HST.out V16 hS).mono ?_
                rintro ee w1 ⟨rfl, rfl⟩
                refine ⟨_, rfl, hS, ?_⟩
                try simp only [List.setIfInBounds_toArray, List.set_cons_zero, List.set_cons_succ]
                refine manyH (i := 13) (l := []) (by kernel_rfl) ?ho
                case ho =>
                  intro j hj
                  simp only [List.mem_cons, List.not_mem_nil, or_false] at hj
                  rcases hj with rfl
                  ·
                    refine opValH (t := 4) (v := .pointer (some ⟨V16.heap.size, 0, none⟩)) (w' := V16.alloc (.cells #[.pointer none] 62)) rfl rfl (by rfl) ?hx (hS.alloc _) ?hn
                    case hx => (go_simp; try rfl)
                    case hn =>
                      have hI := hI.alloc4
                      have hS := hS.alloc (.cells #[.pointer none] 62)
                      generalize V16.alloc (.cells #[.pointer none] 62) = V17 at hI hS ⊢
                      generalize V16.heap.size = a4 at hI ⊢
                      try simp only [List.setIfInBounds_toArray, List.set_cons_zero, List.set_cons_succ]
                      refine manyH (i := 14) (l := []) (by kernel_rfl) ?hs14
                      case hs14 =>
                        intro j hj
                        obtain rfl : j = 14 := by simpa using hj
                        refine opSkipH (w' := V17.setCell ⟨a3, 0, none⟩ (.pointer (some ⟨s, 0, none⟩))) rfl rfl (by rfl) ?hx (hS.setCell (fun hx => by simp at hx; have := (hI.b3 a3 rfl).2; omega) _) ?hn
                        case hx =>
                          have c3 := (hI.b3 a3 rfl).1.cell 0
                          have z3 := (hI.b3 a3 rfl).1.frozen 0
                          simp only [List.getElem?_toArray, List.getElem?_cons_zero] at c3
                          go_simp; try rfl
                        case hn =>
                          have hS := hS.setCell (p := ⟨a3, 0, none⟩) (fun hx => by simp at hx; have := (hI.b3 a3 rfl).2; omega) (.pointer (some ⟨s, 0, none⟩))
                          refine storeLastH (i := 15) (w' := (V17.setCell ⟨a3, 0, none⟩ (.pointer (some ⟨s, 0, none⟩))).setCell ⟨a4, 0, none⟩ (.pointer (some ⟨rs, 0, none⟩))) rfl (by kernel_rfl) rfl (by rfl) ?hz (hS.setCell (fun hx => by simp at hx; have := (hI.b4 a4 rfl).2; omega) _) (by kernel_rfl) ?hy
                          case hz =>
                            have hne : a4 ≠ a3 := fun e => absurd e.symm ((hI.b3 a3 rfl).1.ne_ (hI.b4 a4 rfl).1 (by decide))
                            have b4 := (hI.b4 a4 rfl).1.far (p := ⟨a3, 0, none⟩) hne (.pointer (some ⟨s, 0, none⟩))
                            have c4 := b4.cell 0
                            have z4 := b4.frozen 0
                            simp only [List.getElem?_toArray, List.getElem?_cons_zero] at c4
                            clear hI
                            go_simp; try rfl
                          case hy =>
                            have HFin := Go.Lib.hid (hI.fin hgl)
                            clear hI hS
                            go_wp2_with fail
                            go_meet
                            case rel => exact HFin.out
            ·
              refine opValH (t := 4) (v := .pointer (some ⟨V16.heap.size, 0, none⟩)) (w' := V16.alloc (.cells #[.pointer none] 62)) rfl rfl (by rfl) ?hx (hS.alloc _) ?hn
              case hx => (go_simp; try rfl)
              case hn =>
                have hI := hI.alloc4
                have hS := hS.alloc (.cells #[.pointer none] 62)
                generalize V16.alloc (.cells #[.pointer none] 62) = V18 at hI hS ⊢
                generalize V16.heap.size = a4 at hI ⊢
                try simp only [List.setIfInBounds_toArray, List.set_cons_zero, List.set_cons_succ]
                refine manyH (i := 4) (l := []) (by kernel_rfl) ?ho
                case ho =>
                  intro j hj
                  simp only [List.mem_cons, List.not_mem_nil, or_false] at hj
                  rcases hj with rfl
                  ·
                    refine opCallH (t := 14) (f := 9) (args := #[.pointer (some ⟨p, 0, none⟩)]) rfl rfl (by rfl) ?hx ?hc
                    case hx => (go_simp; try rfl)
                    case hc =>
                      refine (HST.out V18 hS).mono ?_
                      rintro ee w1 ⟨rfl, rfl⟩
                      refine ⟨_, rfl, hS, ?_⟩
                      try simp only [List.setIfInBounds_toArray, List.set_cons_zero, List.set_cons_succ]
                      refine manyH (i := 14) (l := []) (by kernel_rfl) ?hs14
                      case hs14 =>
                        intro j hj
                        obtain rfl : j = 14 := by simpa using hj
                        refine opSkipH (w' := V18.setCell ⟨a3, 0, none⟩ (.pointer (some ⟨s, 0, none⟩))) rfl rfl (by rfl) ?hx (hS.setCell (fun hx => by simp at hx; have := (hI.b3 a3 rfl).2; omega) _) ?hn
                        case hx =>
                          have c3 := (hI.b3 a3 rfl).1.cell 0
                          have z3 := (hI.b3 a3 rfl).1.frozen 0
                          simp only [List.getElem?_toArray, List.getElem?_cons_zero] at c3
                          go_simp; try rfl
                        case hn =>
                          have hS := hS.setCell (p := ⟨a3, 0, none⟩) (fun hx => by simp at hx; have := (hI.b3 a3 rfl).2; omega) (.pointer (some ⟨s, 0, none⟩))
                          refine storeLastH (i := 15) (w' := (V18.setCell ⟨a3, 0, none⟩ (.pointer (some ⟨s, 0, none⟩))).setCell ⟨a4, 0, none⟩ (.pointer (some ⟨rs, 0, none⟩))) rfl (by kernel_rfl) rfl (by rfl) ?hz (hS.setCell (fun hx => by simp at hx; have := (hI.b4 a4 rfl).2; omega) _) (by kernel_rfl) ?hy
                          case hz =>
                            have hne : a4 ≠ a3 := fun e => absurd e.symm ((hI.b3 a3 rfl).1.ne_ (hI.b4 a4 rfl).1 (by decide))
                            have b4 := (hI.b4 a4 rfl).1.far (p := ⟨a3, 0, none⟩) hne (.pointer (some ⟨s, 0, none⟩))
                            have c4 := b4.cell 0
                            have z4 := b4.frozen 0
                            simp only [List.getElem?_toArray, List.getElem?_cons_zero] at c4
                            clear hI
                            go_simp; try rfl
                          case hy =>
                            have HFin := Go.Lib.hid (hI.fin hgl)
                            clear hI hS
                            go_wp2_with fail
                            go_meet
                            case rel => exact HFin.out
      ·
        refine opValH (t := 4) (v := .pointer (some ⟨W1.drew.heap.size, 0, none⟩)) (w' := W1.drew.alloc (.cells #[.pointer none] 62)) rfl rfl (by rfl) ?hx (hS.alloc _) ?hn
        case hx => (go_simp; try rfl)
        case hn =>
          have hI := hI.alloc4
          have hS := hS.alloc (.cells #[.pointer none] 62)
          generalize W1.drew.alloc (.cells #[.pointer none] 62) = V19 at hI hS ⊢
          generalize W1.drew.heap.size = a4 at hI ⊢
          try simp only [List.setIfInBounds_toArray, List.set_cons_zero, List.set_cons_succ]
          refine manyH (i := 4) (l := [12]) (by kernel_rfl) ?ho
          case ho =>
            intro j hj
            simp only [List.mem_cons, List.not_mem_nil, or_false] at hj
            rcases hj with rfl | rfl
            ·
              refine opCallH (t := 14) (f := 9) (args := #[.pointer (some ⟨p, 0, none⟩)]) rfl rfl (by rfl) ?hx ?hc
              case hx => (go_simp; try rfl)
              case hc =>
                refine (HST.out V19 hS).mono ?_
                rintro ee w1 ⟨rfl, rfl⟩
                refine ⟨_, rfl, hS, ?_⟩
                try simp only [List.setIfInBounds_toArray, List.set_cons_zero, List.set_cons_succ]
                refine manyH (i := 12) (l := []) (by kernel_rfl) ?ho
                case ho =>
                  intro j hj
                  simp only [List.mem_cons, List.not_mem_nil, or_false] at hj
                  rcases hj with rfl
                  ·
                    refine opValH (t := 3) (v := .pointer (some ⟨V19.heap.size, 0, none⟩)) (w' := V19.alloc (.cells #[.pointer none] 34)) rfl rfl (by rfl) ?hx (hS.alloc _) ?hn
                    case hx => (go_simp; try rfl)
                    case hn =>
                      have hI := hI.alloc3
                      have hS := hS.alloc (.cells #[.pointer none] 34)
                      generalize V19.alloc (.cells #[.pointer none] 34) = V20 at hI hS ⊢
                      generalize V19.heap.size = a3 at hI ⊢
                      try simp only [List.setIfInBounds_toArray, List.set_cons_zero, List.set_cons_succ]
                      refine manyH (i := 14) (l := []) (by kernel_rfl) ?hs14
                      case hs14 =>
                        intro j hj
                        obtain rfl : j = 14 := by simpa using hj
                        refine opSkipH (w' := V20.setCell ⟨a3, 0, none⟩ (.pointer (some ⟨s, 0, none⟩))) rfl rfl (by rfl) ?hx (hS.setCell (fun hx => by simp at hx; have := (hI.b3 a3 rfl).2; omega) _) ?hn
                        case hx =>
                          have c3 := (hI.b3 a3 rfl).1.cell 0
                          have z3 := (hI.b3 a3 rfl).1.frozen 0
                          simp only [List.getElem?_toArray, List.getElem?_cons_zero] at c3
                          go_simp; try rfl
                        case hn =>
                          have hS := hS.setCell (p := ⟨a3, 0, none⟩) (fun hx => by simp at hx; have := (hI.b3 a3 rfl).2; omega) (.pointer (some ⟨s, 0, none⟩))
                          refine storeLastH (i := 15) (w' := (V20.setCell ⟨a3, 0, none⟩ (.pointer (some ⟨s, 0, none⟩))).setCell ⟨a4, 0, none⟩ (.pointer (some ⟨rs, 0, none⟩))) rfl (by kernel_rfl) rfl (by rfl) ?hz (hS.setCell (fun hx => by simp at hx; have := (hI.b4 a4 rfl).2; omega) _) (by kernel_rfl) ?hy
                          case hz =>
                            have hne : a4 ≠ a3 := fun e => absurd e.symm ((hI.b3 a3 rfl).1.ne_ (hI.b4 a4 rfl).1 (by decide))
                            have b4 := (hI.b4 a4 rfl).1.far (p := ⟨a3, 0, none⟩) hne (.pointer (some ⟨s, 0, none⟩))
                            have c4 := b4.cell 0
                            have z4 := b4.frozen 0
                            simp only [List.getElem?_toArray, List.getElem?_cons_zero] at c4
                            clear hI
                            go_simp; try rfl
                          case hy =>
                            have HFin := Go.Lib.hid (hI.fin hgl)
                            clear hI hS
                            go_wp2_with fail
                            go_meet
                            case rel => exact HFin.out
            ·
              refine opValH (t := 3) (v := .pointer (some ⟨V19.heap.size, 0, none⟩)) (w' := V19.alloc (.cells #[.pointer none] 34)) rfl rfl (by rfl) ?hx (hS.alloc _) ?hn
              case hx => (go_simp; try rfl)
              case hn =>
                have hI := hI.alloc3
                have hS := hS.alloc (.cells #[.pointer none] 34)
                generalize V19.alloc (.cells #[.pointer none] 34) = V21 at hI hS ⊢
                generalize V19.heap.size = a3 at hI ⊢
                try simp only [List.setIfInBounds_toArray, List.set_cons_zero, List.set_cons_succ]
                refine manyH (i := 4) (l := []) (by kernel_rfl) ?ho
                case ho =>
                  intro j hj
                  simp only [List.mem_cons, List.not_mem_nil, or_false] at hj
                  rcases hj with rfl
                  ·
                    refine opCallH (t := 14) (f := 9) (args := #[.pointer (some ⟨p, 0, none⟩)]) rfl rfl (by rfl) ?hx ?hc
                    case hx => (go_simp; try rfl)
                    case hc =>
                      refine (HST.out V21 hS).mono ?_
                      rintro ee w1 ⟨rfl, rfl⟩
                      refine ⟨_, rfl, hS, ?_⟩
                      try simp only [List.setIfInBounds_toArray, List.set_cons_zero, List.set_cons_succ]
                      refine manyH (i := 14) (l := []) (by kernel_rfl) ?hs14
                      case hs14 =>
                        intro j hj
                        obtain rfl : j = 14 := by simpa using hj
                        refine opSkipH (w' := V21.setCell ⟨a3, 0, none⟩ (.pointer (some ⟨s, 0, none⟩))) rfl rfl (by rfl) ?hx (hS.setCell (fun hx => by simp at hx; have := (hI.b3 a3 rfl).2; omega) _) ?hn
                        case hx =>
                          have c3 := (hI.b3 a3 rfl).1.cell 0
                          have z3 := (hI.b3 a3 rfl).1.frozen 0
                          simp only [List.getElem?_toArray, List.getElem?_cons_zero] at c3
                          go_simp; try rfl
                        case hn =>
                          have hS := hS.setCell (p := ⟨a3, 0, none⟩) (fun hx => by simp at hx; have := (hI.b3 a3 rfl).2; omega) (.pointer (some ⟨s, 0, none⟩))
                          refine storeLastH (i := 15) (w' := (V21.setCell ⟨a3, 0, none⟩ (.pointer (some ⟨s, 0, none⟩))).setCell ⟨a4, 0, none⟩ (.pointer (some ⟨rs, 0, none⟩))) rfl (by kernel_rfl) rfl (by rfl) ?hz (hS.setCell (fun hx => by simp at hx; have := (hI.b4 a4 rfl).2; omega) _) (by kernel_rfl) ?hy
                          case hz =>
                            have hne : a4 ≠ a3 := fun e => absurd e.symm ((hI.b3 a3 rfl).1.ne_ (hI.b4 a4 rfl).1 (by decide))
                            have b4 := (hI.b4 a4 rfl).1.far (p := ⟨a3, 0, none⟩) hne (.pointer (some ⟨s, 0, none⟩))
                            have c4 := b4.cell 0
                            have z4 := b4.frozen 0
                            simp only [List.getElem?_toArray, List.getElem?_cons_zero] at c4
                            clear hI
                            go_simp; try rfl
                          case hy =>
                            have HFin := Go.Lib.hid (hI.fin hgl)
                            clear hI hS
                            go_wp2_with fail
                            go_meet
                            case rel => exact HFin.out
  case rest =>
    obtain ⟨a3, a4, rfl, rfl, hc1, hb0, hb3, hb4, hl3, hl4⟩ := hcut
    have hdz : W1.drew.heap.size = W1.heap.size := rfl
    have HQ : Hid (Chg NoB W wc) := Go.Lib.hid ((HC0.out.trans (Chg.refl NoB W1).drew).trans hc1)
    have hwc := hb0.lt
    have hl3' := hb3.lt
    have hl4' := hb4.lt
    have c3 := hb3.cell 0
    have HB := Go.Lib.hid (And.intro hb0 (And.intro hb3 hb4))
    simp only [List.getElem?_toArray, List.getElem?_cons_zero] at c3
    clear hc1 hb0 hb3 hb4 HI0 HC0
    go_upto_region 3 with fail
    have hb5 : Blk (wc.alloc (.cells #[.int .i64 0] 3)) wc.heap.size 3 #[.int .i64 0] := Blk.new _ _ _
    have hq5 : Chg NoB W (wc.alloc (.cells #[.int .i64 0] 3)) := HQ.out.alloc _
    have hb0 := HB.out.1.alloc (.cells #[.int .i64 0] 3)
    have hb3 := HB.out.2.1.alloc (.cells #[.int .i64 0] 3)
    have hb4 := HB.out.2.2.alloc (.cells #[.int .i64 0] 3)
    clear HB HQ c3
    have hsz5 : (wc.alloc (.cells #[.int .i64 0] 3)).heap.size = wc.heap.size + 1 := by simp
    generalize wc.alloc (.cells #[.int .i64 0] 3) = W5 at *
    generalize wc.heap.size = g5 at *
    have c3 := hb3.cell 0
    simp only [List.getElem?_toArray, List.getElem?_cons_zero] at c3
    have HB := Go.Lib.hid (And.intro hb0 (And.intro hb3 (And.intro hb4 (And.intro hb5 hq5))))
    have HF5 := Go.Lib.hid (HFI.out W5 hq5)
    clear hb0 hb3 hb4 hb5 hq5 HFI
    go_wp2_with fail
    refine HF5.out.mono ?_
    rintro e w6 ⟨a, b, rfl, hFA, hc6⟩
    obtain ⟨A, c, B, dd, hX⟩ := hFA.x
    have HX := Go.Lib.hid hX
    have HB6 : Hid (Blk w6 g 4 #[.bool false] ∧ Blk w6 a3 34 #[.pointer (some ⟨s, 0, none⟩)] ∧ Blk w6 a4 62 #[.pointer (some ⟨rs, 0, none⟩)] ∧ Blk w6 g5 3 #[.int .i64 0] ∧ Chg NoB W w6) :=
      Go.Lib.hid ⟨HB.out.1.chg hc6 id, HB.out.2.1.chg hc6 id, HB.out.2.2.1.chg hc6 id, HB.out.2.2.2.1.chg hc6 id, HB.out.2.2.2.2.trans hc6⟩
    have hs6 := hc6.size
    have hfn := fun (x : Array Value) (W : World) => run_eql_seq_nil (.func 133) #[] x W
    clear hFA hX hc6 HB c3 HF5
    unfold ptr
    go_wp2_with fail
    clear hfn
    refine (wpIn_wide (n := 9)).1 (wpIn_rangeFunc_ownH (n := 9) rfl (by omega) (gf := 133) (lb := #[.pointer (some ⟨a, 0, none⟩), .pointer (some ⟨b, 0, none⟩)]) (encs := fun x : Fin ([] : List (ByteArray × Nat)).length => encF ([] : List (ByteArray × Nat))[x]) rfl trivial (enters_of Tryz.func133 (by kernel_rfl) rfl)
      (files_stops (9 - 1) HX.out (by simp))
      (fun h k hx => k (h hx)) (fun W l o o' _ ho hc _ hx => hx.put o' ho hc) (Below.refl _ _) (fun _ => rfl)
      (fun pre W => Chg NoB w6 W)
      (fun cde pre W => False)
      (fun pre A B row hs hg hr => hs.grown hg (fun k e hk => by have := (hr k e).1; omega))
      (fun cde pre A B row hs hg hr => hs.elim)
      (Chg.refl _ _)
      (fun x a' W => False)
      (fun x a' _ A B row hs hg hr => hs.elim)
      ?assign ?body ?done ?stop)
    case assign =>
      rintro l pre x W K hI hK
      exact x.elim0
    case body =>
      rintro l pre x a' W _ _ hI h0 hlt
      exact h0.elim
    case stop =>
      rintro D cde pre W hD hSp h0 hK
      exact h0.elim
    case done =>
      rintro D ys Wd hD rfl hI hK
      have hWd := HB6.out.2.2.2.2.trans hI
      have c3 := (HB6.out.2.1.chg hI id).cell 0
      have c4 := (HB6.out.2.2.1.chg hI id).cell 0
      have c5 := (HB6.out.2.2.2.1.chg hI id).cell 0
      simp only [List.getElem?_toArray, List.getElem?_cons_zero] at c3 c4 c5
      have cr1 := cellq hWd K.out.2.2.2.1
      have cr2 := cellq hWd K.out.2.2.2.2
      have KK := Go.Lib.hid (And.intro c3 (And.intro c4 (And.intro c5 (And.intro cr1 cr2))))
      have HWd := Go.Lib.hid hWd
      have HK := Go.Lib.hid hK
      have HG := Go.Lib.hid (HB6.out.1.chg hI id)
      have hDl : D < Wd.heap.size := (Array.getElem?_eq_some_iff.1 hK).1
      clear c3 c4 c5 cr1 cr2 hWd hI hK HB6 HX
      go_wp2_with fail
      refine regionT 24 (fun V' => Chg NoB Wd V') (by kernel_rfl) (by decide) ((Chg.refl NoB Wd).drew) (fun inv hHeld => ?_)
      refine takeT (i := 0) (t := 79) (v := ?v0y22) rfl (by kernel_rfl) (by kernel_rfl) (by kernel_rfl) (fun c a w h => panic_putF (t := 79) (by decide) _ c a w h) (by kernel_rfl) (by kernel_rfl) (by decide) (by decide) rfl (Or.inl ⟨by rfl, ?h0y22⟩) inv hHeld ?r0y22
      case h0y22 => (intro V' hSw; have q := cellq hSw KK.out.2.2.1; clear hSw; go_simp; try with_reducible rfl)
      clear inv
      intro inv
      try simp only [List.setIfInBounds_toArray, List.set_cons_zero, List.set_cons_succ]
      refine takeT (i := 1) (t := 80) (v := ?v1y23) rfl (by kernel_rfl) (by kernel_rfl) (by kernel_rfl) (fun c a w h => panic_putF (t := 80) (by decide) _ c a w h) (by kernel_rfl) (by kernel_rfl) (by decide) (by decide) rfl (Or.inl ⟨by rfl, ?h1y23⟩) inv hHeld ?r1y23
      case h1y23 => (intro V' hSw; have q := cellq hSw KK.out.2.1; clear hSw; go_simp; try with_reducible rfl)
      clear inv
      intro inv
      try simp only [List.setIfInBounds_toArray, List.set_cons_zero, List.set_cons_succ]
      refine takeT (i := 2) (t := 81) (v := ?v2y24) rfl (by kernel_rfl) (by kernel_rfl) (by kernel_rfl) (fun c a w h => panic_putF (t := 81) (by decide) _ c a w h) (by kernel_rfl) (by kernel_rfl) (by decide) (by decide) rfl (Or.inl ⟨by rfl, ?h2y24⟩) inv hHeld ?r2y24
      case h2y24 => (intro V' hSw; clear hSw; go_simp; try with_reducible rfl)
      clear inv
      intro inv
      try simp only [List.setIfInBounds_toArray, List.set_cons_zero, List.set_cons_succ]
      refine takeT (i := 3) (t := 82) (v := ?v3y25) rfl (by kernel_rfl) (by kernel_rfl) (by kernel_rfl) (fun c a w h => panic_putF (t := 82) (by decide) _ c a w h) (by kernel_rfl) (by kernel_rfl) (by decide) (by decide) rfl (Or.inl ⟨by rfl, ?h3y25⟩) inv hHeld ?r3y25
      case h3y25 => (intro V' hSw; clear hSw; go_simp; try with_reducible rfl)
      clear inv
      intro inv
      try simp only [List.setIfInBounds_toArray, List.set_cons_zero, List.set_cons_succ]
      refine takeT (i := 4) (t := 83) (v := ?v4y26) rfl (by kernel_rfl) (by kernel_rfl) (by kernel_rfl) (fun c a w h => panic_putF (t := 83) (by decide) _ c a w h) (by kernel_rfl) (by kernel_rfl) (by decide) (by decide) rfl (Or.inl ⟨by rfl, ?h4y26⟩) inv hHeld ?r4y26
      case h4y26 => (intro V' hSw; have q := cellq hSw KK.out.2.2.2.1; clear hSw; go_simp; try with_reducible rfl)
      clear inv
      intro inv
      try simp only [List.setIfInBounds_toArray, List.set_cons_zero, List.set_cons_succ]
      refine takeT (i := 5) (t := 84) (v := ?v5y27) rfl (by kernel_rfl) (by kernel_rfl) (by kernel_rfl) (fun c a w h => panic_putF (t := 84) (by decide) _ c a w h) (by kernel_rfl) (by kernel_rfl) (by decide) (by decide) rfl (Or.inl ⟨by rfl, ?h5y27⟩) inv hHeld ?r5y27
      case h5y27 => (intro V' hSw; clear hSw; go_simp; try with_reducible rfl)
      clear inv
      intro inv
      try simp only [List.setIfInBounds_toArray, List.set_cons_zero, List.set_cons_succ]
      refine takeT (i := 6) (t := 85) (v := ?v6y28) rfl (by kernel_rfl) (by kernel_rfl) (by kernel_rfl) (fun c a w h => panic_putF (t := 85) (by decide) _ c a w h) (by kernel_rfl) (by kernel_rfl) (by decide) (by decide) rfl (Or.inl ⟨by rfl, ?h6y28⟩) inv hHeld ?r6y28
      case h6y28 => (intro V' hSw; clear hSw; go_simp; try with_reducible rfl)
      clear inv
      intro inv
      try simp only [List.setIfInBounds_toArray, List.set_cons_zero, List.set_cons_succ]
      refine takeT (i := 7) (t := 86) (v := ?v7y29) rfl (by kernel_rfl) (by kernel_rfl) (by kernel_rfl) (fun c a w h => panic_putF (t := 86) (by decide) _ c a w h) (by kernel_rfl) (by kernel_rfl) (by decide) (by decide) rfl (Or.inl ⟨by rfl, ?h7y29⟩) inv hHeld ?r7y29
      case h7y29 => (intro V' hSw; clear hSw; go_simp; try with_reducible rfl)
      clear inv
      intro inv
      try simp only [List.setIfInBounds_toArray, List.set_cons_zero, List.set_cons_succ]
      refine takeT (i := 8) (t := 87) (v := ?v8y30) rfl (by kernel_rfl) (by kernel_rfl) (by kernel_rfl) (fun c a w h => panic_putF (t := 87) (by decide) _ c a w h) (by kernel_rfl) (by kernel_rfl) (by decide) (by decide) rfl (Or.inl ⟨by rfl, ?h8y30⟩) inv hHeld ?r8y30
      case h8y30 => (intro V' hSw; have q := cellq hSw KK.out.1; clear hSw; go_simp; try with_reducible rfl)
      clear inv
      intro inv
      try simp only [List.setIfInBounds_toArray, List.set_cons_zero, List.set_cons_succ]
      refine takeT (i := 10) (t := 89) (v := ?v10y31) rfl (by kernel_rfl) (by kernel_rfl) (by kernel_rfl) (fun c a w h => panic_putF (t := 89) (by decide) _ c a w h) (by kernel_rfl) (by kernel_rfl) (by decide) (by decide) rfl (Or.inl ⟨by rfl, ?h10y31⟩) inv hHeld ?r10y31
      case h10y31 => (intro V' hSw; have q := cellq hSw KK.out.2.1; clear hSw; go_simp; try with_reducible rfl)
      clear inv
      intro inv
      try simp only [List.setIfInBounds_toArray, List.set_cons_zero, List.set_cons_succ]
      refine takeT (i := 11) (t := 90) (v := ?v11y32) rfl (by kernel_rfl) (by kernel_rfl) (by kernel_rfl) (fun c a w h => panic_putF (t := 90) (by decide) _ c a w h) (by kernel_rfl) (by kernel_rfl) (by decide) (by decide) rfl (Or.inl ⟨by rfl, ?h11y32⟩) inv hHeld ?r11y32
      case h11y32 => (intro V' hSw; clear hSw; go_simp; try with_reducible rfl)
      clear inv
      intro inv
      try simp only [List.setIfInBounds_toArray, List.set_cons_zero, List.set_cons_succ]
      refine takeT (i := 12) (t := 91) (v := ?v12y33) rfl (by kernel_rfl) (by kernel_rfl) (by kernel_rfl) (fun c a w h => panic_putF (t := 91) (by decide) _ c a w h) (by kernel_rfl) (by kernel_rfl) (by decide) (by decide) rfl (Or.inl ⟨by rfl, ?h12y33⟩) inv hHeld ?r12y33
      case h12y33 => (intro V' hSw; clear hSw; go_simp; try with_reducible rfl)
      clear inv
      intro inv
      try simp only [List.setIfInBounds_toArray, List.set_cons_zero, List.set_cons_succ]
      refine takeT (i := 13) (t := 92) (v := ?v13y34) rfl (by kernel_rfl) (by kernel_rfl) (by kernel_rfl) (fun c a w h => panic_putF (t := 92) (by decide) _ c a w h) (by kernel_rfl) (by kernel_rfl) (by decide) (by decide) rfl (Or.inl ⟨by rfl, ?h13y34⟩) inv hHeld ?r13y34
      case h13y34 => (intro V' hSw; have q := cellq hSw KK.out.2.2.2.2; clear hSw; go_simp; try with_reducible rfl)
      clear inv
      intro inv
      try simp only [List.setIfInBounds_toArray, List.set_cons_zero, List.set_cons_succ]
      refine takeT (i := 14) (t := 93) (v := ?v14y35) rfl (by kernel_rfl) (by kernel_rfl) (by kernel_rfl) (fun c a w h => panic_putF (t := 93) (by decide) _ c a w h) (by kernel_rfl) (by kernel_rfl) (by decide) (by decide) rfl (Or.inl ⟨by rfl, ?h14y35⟩) inv hHeld ?r14y35
      case h14y35 => (intro V' hSw; clear hSw; go_simp; try with_reducible rfl)
      clear inv
      intro inv
      try simp only [List.setIfInBounds_toArray, List.set_cons_zero, List.set_cons_succ]
      refine callT (i := 9) (t := 88) (f := 19) (args := #[.pointer (some ⟨s, 0, none⟩)]) rfl (by kernel_rfl) rfl (by rfl) ?hx36 inv (by decide) ?hc36
      case hx36 => (go_simp; try rfl)
      case hc36 =>
        refine (HRI.out _ (HWd.out.trans hHeld)).mono ?_
        rintro e w1 ⟨rfl, hq⟩
        have hh1 := hHeld.trans hq
        clear hHeld hq
        refine ⟨_, rfl, hh1, fun inv hHeld => ?_⟩
        try simp only [List.setIfInBounds_toArray, List.set_cons_zero, List.set_cons_succ]
        refine takeT (i := 15) (t := 94) (v := ?v15y37) rfl (by kernel_rfl) (by kernel_rfl) (by kernel_rfl) (fun c a w h => panic_putF (t := 94) (by decide) _ c a w h) (by kernel_rfl) (by kernel_rfl) (by decide) (by decide) rfl (Or.inl ⟨by rfl, ?h15y37⟩) inv hHeld ?r15y37
        case h15y37 => (intro V' hSw; clear hSw; go_simp; try with_reducible rfl)
        clear inv
        intro inv
        try simp only [List.setIfInBounds_toArray, List.set_cons_zero, List.set_cons_succ]
        refine takeT (i := 16) (t := 95) (v := ?v16y38) rfl (by kernel_rfl) (by kernel_rfl) (by kernel_rfl) (fun c a w h => panic_putF (t := 95) (by decide) _ c a w h) (by kernel_rfl) (by kernel_rfl) (by decide) (by decide) rfl (Or.inl ⟨by rfl, ?h16y38⟩) inv hHeld ?r16y38
        case h16y38 => (intro V' hSw; clear hSw; go_simp; try with_reducible rfl)
        clear inv
        intro inv
        try simp only [List.setIfInBounds_toArray, List.set_cons_zero, List.set_cons_succ]
        refine takeT (i := 17) (t := 96) (v := ?v17y39) rfl (by kernel_rfl) (by kernel_rfl) (by kernel_rfl) (fun c a w h => panic_putF (t := 96) (by decide) _ c a w h) (by kernel_rfl) (by kernel_rfl) (by decide) (by decide) rfl (Or.inl ⟨by rfl, ?h17y39⟩) inv hHeld ?r17y39
        case h17y39 => (intro V' hSw; clear hSw; go_simp; try with_reducible rfl)
        clear inv
        intro inv
        try simp only [List.setIfInBounds_toArray, List.set_cons_zero, List.set_cons_succ]
        refine takeT (i := 18) (t := 97) (v := ?v18y40) rfl (by kernel_rfl) (by kernel_rfl) (by kernel_rfl) (fun c a w h => panic_putF (t := 97) (by decide) _ c a w h) (by kernel_rfl) (by kernel_rfl) (by decide) (by decide) rfl (Or.inl ⟨by rfl, ?h18y40⟩) inv hHeld ?r18y40
        case h18y40 => (intro V' hSw; have q := cellq hSw KK.out.1; clear hSw; go_simp; try with_reducible rfl)
        clear inv
        intro inv
        try simp only [List.setIfInBounds_toArray, List.set_cons_zero, List.set_cons_succ]
        refine takeT (i := 20) (t := 99) (v := ?v20y41) rfl (by kernel_rfl) (by kernel_rfl) (by kernel_rfl) (fun c a w h => panic_putF (t := 99) (by decide) _ c a w h) (by kernel_rfl) (by kernel_rfl) (by decide) (by decide) rfl (Or.inl ⟨by rfl, ?h20y41⟩) inv hHeld ?r20y41
        case h20y41 => (intro V' hSw; have q := cellq hSw KK.out.2.1; clear hSw; go_simp; try with_reducible rfl)
        clear inv
        intro inv
        try simp only [List.setIfInBounds_toArray, List.set_cons_zero, List.set_cons_succ]
        refine callT (i := 19) (t := 98) (f := 108) (args := #[.pointer (some ⟨s, 0, none⟩)]) rfl (by kernel_rfl) rfl (by rfl) ?hx42 inv (by decide) ?hc42
        case hx42 => (go_simp; try rfl)
        case hc42 =>
          refine (HRO.out _ (HWd.out.trans hHeld)).mono ?_
          rintro e w2 ⟨rfl, hq⟩
          have hh2 := hHeld.trans hq
          clear hHeld hq
          refine ⟨_, rfl, hh2, fun inv hHeld => ?_⟩
          try simp only [List.setIfInBounds_toArray, List.set_cons_zero, List.set_cons_succ]
          refine callT (i := 21) (t := 100) (f := 109) (args := #[.pointer (some ⟨rs, 0, none⟩)]) rfl (by kernel_rfl) rfl (by rfl) ?hx43 inv (by decide) ?hc43
          case hx43 => (go_simp; try rfl)
          case hc43 =>
            refine (HRR.out _ (HWd.out.trans hHeld)).mono ?_
            rintro e w3 ⟨rfl, hq⟩
            have hW3 := hHeld.trans hq
            have bg := HG.out.chg hW3 id
            have cg := bg.cell 0
            simp only [List.getElem?_toArray, List.getElem?_cons_zero] at cg
            have zg := bg.frozen 0
            clear hq
            refine ⟨_, rfl, hW3, fun inv hHeld => ?_⟩
            try simp only [List.setIfInBounds_toArray, List.set_cons_zero, List.set_cons_succ]
            refine takeT (i := 22) (t := 101) (v := ?v22y44) rfl (by kernel_rfl) (by kernel_rfl) (by kernel_rfl) (fun c a w h => panic_putF (t := 101) (by decide) _ c a w h) (by kernel_rfl) (by kernel_rfl) (by decide) (by decide) rfl (Or.inl ⟨by rfl, ?h22y44⟩) inv hHeld ?r22y44
            case h22y44 => (intro V' hSw; clear hSw; go_simp; try with_reducible rfl)
            clear inv
            intro inv
            try simp only [List.setIfInBounds_toArray, List.set_cons_zero, List.set_cons_succ]
            refine takeT (i := 23) (t := 102) (v := ?v23y45) rfl (by kernel_rfl) (by kernel_rfl) (by kernel_rfl) (fun c a w h => panic_putF (t := 102) (by decide) _ c a w h) (by kernel_rfl) (by kernel_rfl) (by decide) (by decide) rfl (Or.inl ⟨by rfl, ?h23y45⟩) inv hHeld ?r23y45
            case h23y45 => (intro V' hSw; clear hSw; go_simp; try with_reducible rfl)
            clear inv
            intro inv
            try simp only [List.setIfInBounds_toArray, List.set_cons_zero, List.set_cons_succ]
            refine lastT (i := 24) (w' := w3.setCell ⟨g, 0, none⟩ (.bool true)) rfl (by kernel_rfl) rfl (by rfl) ?hx46 (by decide) (by kernel_rfl) ?_
            case hx46 => (go_simp; try with_reducible rfl)
            have HE := Go.Lib.hid ((HWd.out.trans hW3).setCell (p := ⟨g, 0, none⟩) (fun h => by simp at h; omega) (.bool true))
            have hgD : g ≠ D := by omega
            have HK4 := Go.Lib.hid ((Below.heap_setCell w3 ⟨g, 0, none⟩ (.bool true) D (Ne.symm hgD)).trans ((hW3.block D hDl id).trans HK.out))
            have HC4 := Go.Lib.hid ((bg.set_ 0 (.bool true)).cell 0)
            clear hW3 bg cg zg hHeld inv
            go_wp2_with fail
            exact leave_files HK4.out HC4.out rfl HE.out (by omega)
end
end Go.Proofs.YtggknljlibhkjaaGreat
