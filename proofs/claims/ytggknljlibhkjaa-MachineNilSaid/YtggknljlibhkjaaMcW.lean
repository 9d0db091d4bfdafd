/- What is proved: Machine.Run, of a machine that asks no store. Conditions: the memory holds the machine. -/
import Derived.Test.YtggknljlibhkjaaMcV
set_option linter.unusedSimpArgs false
set_option linter.unusedVariables false
namespace Go.Proofs.Ytggknljlibhkjaa
open Go Go.RowKit
/-- so many steps on -/
def Mc.iter (d : Mc) : Nat → Mc
  | 0 => d
  | k + 1 => (d.iter k).next
theorem iter_ok {d : Mc} (hd : d.Ok) (hh : d.heap ≤ d.n) : ∀ k, (d.iter k).Ok ∧ (d.iter k).heap ≤ (d.iter k).n
  | 0 => ⟨hd, hh⟩
  | k + 1 => next_ok (iter_ok hd hh k).1 (iter_ok hd hh k).2
def RunPost (p mb s mm : Nat) (d : Mc) (n : Nat) (W : World) (e : Ending) (w' : World) : Prop :=
  ∃ k : Nat, k ≤ n ∧ e = .returned (.int .i64 k) ∧ MAt w' p mb s mm (d.iter k) ∧ Chg (memF p mb) W w' ∧ (∀ j < k, (d.iter j).kind = 0) ∧ (k = n ∨ (d.iter k).kind ≠ 0)
set_option maxRecDepth 100000 in
set_option maxHeartbeats 1000000 in
theorem run_c {W : World} {p mb s mm : Nat} {d : Mc} (h : MAt W p mb s mm d) (hd : d.Ok) (hh : d.heap ≤ d.n) (n : Nat) (hn : n < 1000000) (ha : ∀ j < n, (d.iter j).alone) : Calls Try.prog 21 #[.pointer (some ⟨p, 0, none⟩), .int .i64 n] W (RunPost p mb s mm d n W) := by
  have H := Go.Lib.hid h
  have HN : Hid (∀ (k : Nat) (wr : World), k < n → MAt wr p mb s mm (d.iter k) → Calls Try.prog 15 #[.pointer (some ⟨p, 0, none⟩)] wr (MPost p mb s mm (.bool (decide ((d.iter (k + 1)).kind = 0))) (d.iter (k + 1)) wr)) := Go.Lib.hid fun k wr hk hm => next_c hm (iter_ok hd hh k).1 (iter_ok hd hh k).2 (ha k hk)
  clear h hd hh ha
  go_enter Try.func21, Try.ntmps21
  go_wp2_with fail
  go_loopw [5] (fun v5 wr => ∃ k : Nat, k ≤ n ∧ v5 = .int .i64 k ∧ MAt wr p mb s mm (d.iter k) ∧ Chg (memF p mb) W wr ∧ (∀ j < k, (d.iter j).kind = 0)) (fun v5 _ => n - (intOf v5).toNat)
  case atStart => exact ⟨0, Nat.zero_le _, rfl, H.out, Chg.refl _ _, fun j hj => absurd hj (Nat.not_lt_zero _)⟩
  case round =>
    obtain ⟨k, hk, rfl, hm, hc, hj⟩ := hrel
    have HM := Go.Lib.hid (And.intro hm (And.intro hc hj))
    have HT := Go.Lib.hid (mthere_c hm)
    obtain ⟨_, _, _, _, k25, _, _⟩ := hm.cells
    clear hm hc hj
    by_cases hlt : k < n
    · have g1 : decide ((k : Int) < n) = true := by simp; omega
      have HS := Go.Lib.hid (HN.out k wr hlt HM.out.1)
      by_cases h0 : (d.iter k).kind = 0
      · rw [h0] at k25
        have H0 := Go.Lib.hid h0
        clear h0
        go_wp2_with fail
        refine HT.out.mono ?_
        rintro e w1 ⟨rfl, rfl⟩
        go_wp2_with fail
        refine HS.out.mono ?_
        rintro e w2 ⟨rfl, h1, h2⟩
        have H3 := Go.Lib.hid (And.intro h1 (HM.out.2.1.trans h2))
        clear h1 h2
        go_wp2_with fail
        refine ⟨⟨k + 1, hlt, by simp, H3.out.1, H3.out.2, fun j hj => ?_⟩, by simp only [intOf]; omega⟩
        by_cases e : j = k
        · rw [e]; exact H0.out
        · exact HM.out.2.2 j (by omega)
      · have g2 : ((d.iter k).kind == 0) = false := by simpa using h0
        have H0 := Go.Lib.hid h0
        clear h0
        go_wp2_with fail
        refine HT.out.mono ?_
        rintro e w1 ⟨rfl, rfl⟩
        go_wp2_with fail
        go_ret
        exact ⟨k, hk, rfl, HM.out.1, HM.out.2.1, HM.out.2.2, .inr H0.out⟩
    · have g1 : decide ((k : Int) < n) = false := by simp; omega
      go_wp2_with fail
      go_ret
      exact ⟨k, hk, rfl, HM.out.1, HM.out.2.1, HM.out.2.2, .inl (by omega)⟩
end Go.Proofs.Ytggknljlibhkjaa
