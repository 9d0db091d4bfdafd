/- What is proved: the contract of Same. Conditions: the memory holds the types. -/
import Derived.Test.YtholeloedihkoaaVaB
import Derived.Deep.QuietTactic
import Derived.BigQuiet
import Derived.LaidEqlPtr
namespace Go.Proofs.Ytholeloedihkoaa
open Go.RowKit
section
variable {lo : Nat} {w w' : World} {b b2 : Nat} {T U : Ti}
theorem same_no {v u : Value} {o p : Option (Nat × Ti)} (h : TV lo w v o) (k : TV lo w u p) (hn : o = none ∨ p = none) : Calls Try.prog 32 #[v, u] w (Quiet (.bool (o.isSome == p.isSome)) w) := by
  have H1 := Go.Lib.hid (there_v h)
  have H2 := Go.Lib.hid (there_v k)
  clear h k
  go_enter Try.func32, Try.ntmps32
  go_wp2_with fail
  refine H1.out.mono ?_
  rintro e w1 ⟨rfl, rfl⟩
  cases o with
  | none =>
    go_wp2_with fail
    refine H1.out.mono ?_
    rintro e w1 ⟨rfl, rfl⟩
    go_wp2_with fail
    refine H2.out.mono ?_
    rintro e w1 ⟨rfl, rfl⟩
    cases p with
    | none =>
      go_wp2_with fail
      go_ret
      exact ⟨rfl, Chg.refl _ _⟩
    | some p =>
      go_wp2_with fail
      go_ret
      exact ⟨rfl, Chg.refl _ _⟩
  | some x =>
    obtain rfl : p = none := by simpa using hn
    go_wp2_with fail
    refine H2.out.mono ?_
    rintro e w1 ⟨rfl, rfl⟩
    go_wp2_with fail
    refine H1.out.mono ?_
    rintro e w1 ⟨rfl, rfl⟩
    go_wp2_with fail
    refine H2.out.mono ?_
    rintro e w1 ⟨rfl, rfl⟩
    go_wp2_with fail
    go_ret
    exact ⟨rfl, Chg.refl _ _⟩
theorem ttinfo : (Try.prog.info? TT).map (·.size) = some 6 := by kernel_rfl
theorem eql_tt {W : World} {cs cs2 : Array Value} (h : Blk W b TT cs) (k : Blk W b2 TT cs2) : (binOp .eql 28 (.pointer (some ⟨b, 0, none⟩)) (.pointer (some ⟨b2, 0, none⟩))).run Try.prog W = .ok (.bool (decide (b = b2))) W := by
  obtain ⟨j, hj, hjs⟩ := Option.map_eq_some_iff.1 ttinfo
  by_cases hb : b = b2
  · subst hb
    simpa using run_eql_ptr_same (P := Try.prog) W ⟨b, 0, none⟩ Try.underlying28 hj
  · simpa [hb] using run_eql_ptr_other (P := Try.prog) W (a := ⟨b, 0, none⟩) (b := ⟨b2, 0, none⟩) Try.underlying28 hj (by rw [hjs]; decide) (fun e => hb (by injection e)) h k
theorem same_c (h : TiAt lo w b T) (hk : T.kind ≠ 0) (k : TiAt lo w b2 U) (hk2 : U.kind ≠ 0) :
    Calls Try.prog 32 #[ptr b, ptr b2] w (Quiet (.bool (decide (b = b2) || (T.kind == U.kind && decide (T.kind < 7)))) w) := by
  obtain ⟨c0, _⟩ := h.cells
  obtain ⟨k0, _⟩ := k.cells
  have H1 := Go.Lib.hid (there_c h hk)
  have H2 := Go.Lib.hid (there_c k hk2)
  have heq : ∀ n, (binOp .eql 28 (.pointer (some ⟨b, 0, none⟩)) (.pointer (some ⟨b2, 0, none⟩))).run Try.prog (w.drewN n) = .ok (.bool (decide (b = b2))) (w.drewN n) := fun n => eql_tt (h.blk.drewN n) (k.blk.drewN n)
  have e1 : ((T.kind : Int) == U.kind) = (T.kind == U.kind) := by
    by_cases h : T.kind = U.kind
    · simp [h]
    · have h2 : (T.kind : Int) ≠ U.kind := by omega
      rw [beq_eq_false_iff_ne.2 h, beq_eq_false_iff_ne.2 h2]
  have e2 : decide ((T.kind : Int) < 7) = decide (T.kind < 7) :=
    decide_eq_decide.2 (by omega)
  clear h k hk hk2
  generalize (T.kind == U.kind) = q1 at *
  generalize decide (T.kind < 7) = q2 at *
  generalize decide (b = b2) = q3 at *
  unfold ptr at H1 H2 ⊢
  go_enter Try.func32, Try.ntmps32
  go_wp2_with fail
  refine H1.out.mono ?_
  rintro e w1 ⟨rfl, rfl⟩
  go_wp2_with fail
  refine H2.out.mono ?_
  rintro e w1 ⟨rfl, rfl⟩
  cases q3 <;> cases q1 <;> cases q2
  all_goals
    go_wp2_with fail
    go_quiet (fail)
    go_wp2_with fail
    go_ret
    exact ⟨rfl, (Chg.refl NoB w).drewN _⟩
end
end Go.Proofs.Ytholeloedihkoaa
