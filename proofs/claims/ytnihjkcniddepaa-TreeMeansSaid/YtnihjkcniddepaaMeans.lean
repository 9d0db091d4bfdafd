/- What is proved: the walk of the law TreeMeans. Conditions: the library's variable holds a number. -/
import Derived.Test.YtnihjkcniddepaaRep2
import Derived.Test.YtnihjkcniddepaaIter
import Derived.Test.YtnihjkcniddepaaCopies
namespace Go.Proofs.Ytnihjkcniddepaa
open Go.RowKit Go.Shelf
theorem Walk_c (d : Own) (A : Option Addr) (n c : Nat) (w : World) :
    Calls Try.prog 31 #[nodeV d A n c] w fun e w' => e = .returned (.func (.func 48) #[] #[.pointer (some ⟨w.heap.size, 0, none⟩)]) ∧ w' = w.alloc (.cells #[.int .i64 d.kind, .string d.nm, .int .u32 d.val, .bool d.mark, .slice A n c] NT) := by
  unfold nodeV
  go_enter Try.func31, Try.ntmps31
  go_wp2_with fail
  go_ret
  exact ⟨rfl, rfl⟩
theorem results_bool {fn : Func} {p : Tmp} (h : fn.results = #[.cell p 4]) (tmps : Array Value) {w : World} {g : Nat} {b : Bool} (hp : tmps.getD p undef = .pointer (some ⟨g, 0, none⟩)) (hc : w.cell? ⟨g, 0, none⟩ = some (.bool b)) : (results fn tmps).run Try.prog w = .ok (.bool b) w := by
  have hp' : tmps[p]?.getD undef = .pointer (some ⟨g, 0, none⟩) := by simpa using hp
  simp [results, h, hp', asAddr, go_sem, hc, Try.underlying4]
theorem set_bool {w : World} {g : Nat} {b b' : Bool} (hc : w.cell? ⟨g, 0, none⟩ = some (.bool b)) : (w.setCell ⟨g, 0, none⟩ (.bool b')).cell? ⟨g, 0, none⟩ = some (.bool b') := World.cell?_setCell_same' _ _ _ (by rw [hc]; rfl)
section
variable (d : Own) (ks : F) (kA : Option Addr) (kn kc : Nat) (a : Int) (w : World)
@[reducible] def M0 : World := (w.alloc (.cells #[.int .i64 d.kind, .string d.nm, .int .u32 d.val, .bool d.mark, .slice kA kn kc] NT)).alloc (.cells #[.bool false] 4)
variable {d kA kn kc w} in
theorem m0_box {W : World} (hc : Chg NoB (M0 d kA kn kc w) W) : (W.cell? ⟨w.heap.size, 0, none⟩ = some (.int .i64 d.kind) ∧ W.cell? ⟨w.heap.size, 1, none⟩ = some (.string d.nm) ∧ W.cell? ⟨w.heap.size, 2, none⟩ = some (.int .u32 d.val) ∧ W.cell? ⟨w.heap.size, 3, none⟩ = some (.bool d.mark) ∧ W.cell? ⟨w.heap.size, 4, none⟩ = some (.slice kA kn kc)) ∧
    W.cell? ⟨w.heap.size + 1, 0, none⟩ = some (.bool false) ∧ W.frozen? ⟨w.heap.size + 1, 0, none⟩ = false :=
  ⟨blk5 ((Blk.new _ _ _).alloc _) hc, ((Blk.at_ _ _ _ _ (by simp) : Blk (M0 d kA kn kc w) (w.heap.size + 1) _ _).chg hc id).cell 0, ((Blk.at_ _ _ _ _ (by simp) : Blk (M0 d kA kn kc w) (w.heap.size + 1) _ _).chg hc id).frozen 0⟩
theorem m0_chg : Chg NoB w (M0 d kA kn kc w) := ((Chg.refl _ _).alloc _).alloc _
set_option maxHeartbeats 1000000 in
theorem means_many (hN : IsN w d ks kA kn kc) (hv : Var0 w) (hb : ¬ 0 ≤ bigT d ks 400) :
    Calls Try.prog 8 #[nodeV d kA kn kc, .int .i64 a] w fun e w' => e = .returned (.bool true) ∧ Chg NoB w w' := by
  have hw := m0_chg d kA kn kc w
  have HK : Hid (∀ W, Chg NoB (M0 d kA kn kc w) W → Calls Try.prog 9 #[] W fun e w' => e = .returned (.bool true) ∧ Chg NoB W w') := Go.Lib.hid fun W hW => known_c W (hv.chg (hw.trans hW))
  have HF : Hid (∀ W, Chg NoB (M0 d kA kn kc w) W → Calls Try.prog 17 #[nodeV d kA kn kc] W fun e w' => e = .returned (.bool false) ∧ Chg NoB W w') := Go.Lib.hid fun W hW => by have := few_c d ks kA kn kc W (hN.chg (hw.trans hW)); rwa [decide_eq_false hb] at this
  have H0 := Go.Lib.hid hw
  clear hN hv hb hw
  go_enter Try.func8, Try.ntmps8
  go_wp2_with fail
  refine (HK.out _ (Chg.refl _ _)).mono ?_
  rintro e w1 ⟨rfl, hc⟩
  obtain ⟨⟨b0, b1, b2, b3, b4⟩, r0, r1⟩ := m0_box hc
  have HC := Go.Lib.hid hc
  clear hc
  go_wp2_with fail
  refine (HF.out _ HC.out).mono ?_
  rintro e w2 ⟨rfl, hc⟩
  have HC := Go.Lib.hid (HC.out.trans hc)
  clear hc b0 b1 b2 b3 b4 r0 r1
  obtain ⟨⟨b0, b1, b2, b3, b4⟩, r0, r1⟩ := m0_box HC.out
  go_wp2_with fail
  refine bodyPost_ret (results_bool rfl _ rfl (set_bool r0)) rfl ⟨rfl, (H0.out.trans HC.out).setCell (fun h => by simp at h; omega) _⟩
set_option maxHeartbeats 1000000 in
theorem means_no (hN : IsN w d ks kA kn kc) (hv : Var0 w) (hb : 0 ≤ bigT d ks 400) (hm : mayT d ks = false) :
    Calls Try.prog 8 #[nodeV d kA kn kc, .int .i64 a] w fun e w' => e = .returned (.bool true) ∧ Chg NoB w w' := by
  have hw := m0_chg d kA kn kc w
  have HK : Hid (∀ W, Chg NoB (M0 d kA kn kc w) W → Calls Try.prog 9 #[] W fun e w' => e = .returned (.bool true) ∧ Chg NoB W w') := Go.Lib.hid fun W hW => known_c W (hv.chg (hw.trans hW))
  have HF : Hid (∀ W, Chg NoB (M0 d kA kn kc w) W → Calls Try.prog 17 #[nodeV d kA kn kc] W fun e w' => e = .returned (.bool true) ∧ Chg NoB W w') := Go.Lib.hid fun W hW => by have := few_c d ks kA kn kc W (hN.chg (hw.trans hW)); rwa [decide_eq_true hb] at this
  have HM : Hid (∀ W, Chg NoB (M0 d kA kn kc w) W → Calls Try.prog 27 #[nodeV d kA kn kc] W fun e w' => e = .returned (.bool false) ∧ Chg NoB W w') := Go.Lib.hid fun W hW => by have := May_c d ks kA kn kc W (hv.chg (hw.trans hW)) (hN.chg (hw.trans hW)); rwa [hm] at this
  have H0 := Go.Lib.hid hw
  clear hN hv hb hw hm
  go_enter Try.func8, Try.ntmps8
  go_wp2_with fail
  refine (HK.out _ (Chg.refl _ _)).mono ?_
  rintro e w1 ⟨rfl, hc⟩
  obtain ⟨⟨b0, b1, b2, b3, b4⟩, r0, r1⟩ := m0_box hc
  have HC := Go.Lib.hid hc
  clear hc
  go_wp2_with fail
  refine (HF.out _ HC.out).mono ?_
  rintro e w2 ⟨rfl, hc⟩
  have HC := Go.Lib.hid (HC.out.trans hc)
  clear hc b0 b1 b2 b3 b4 r0 r1
  obtain ⟨⟨b0, b1, b2, b3, b4⟩, r0, r1⟩ := m0_box HC.out
  go_wp2_with fail
  refine (HM.out _ HC.out).mono ?_
  rintro e w3 ⟨rfl, hc⟩
  have HC := Go.Lib.hid (HC.out.trans hc)
  clear hc b0 b1 b2 b3 b4 r0 r1
  obtain ⟨⟨b0, b1, b2, b3, b4⟩, r0, r1⟩ := m0_box HC.out
  go_wp2_with fail
  refine bodyPost_ret (results_bool rfl _ rfl (set_bool r0)) rfl ⟨rfl, (H0.out.trans HC.out).setCell (fun h => by simp at h; omega) _⟩
end
end Go.Proofs.Ytnihjkcniddepaa
