/- What is proved: the contracts of At, Length, EOF, Read. Conditions: the memory holds a store. -/
import Derived.Test.YtggknljlibhkjaaStoreA
namespace Go.Proofs.Ytggknljlibhkjaa
open Go.RowKit
section
variable {base : Nat} {w : World} {s : Nat} {S : Sto}

theorem length_some (h : StoreAt base w s S) {f : Int} {r : Rd} {x : Fl} (hr : S.rdAt f = some r) (hx : S.fl r.f = some x) :
    Calls Try.prog 57 #[ptr s, .int .i64 f] w fun e w' => e = .returned (.int .i64 x.b.length) ∧ w = w' := by
  obtain ⟨x', hx', hp, hl, c0, c1, c2, z2, cf⟩ := h.rfacts hr
  obtain rfl : x' = x := by rw [hx] at hx'; exact (Option.some.inj hx').symm
  have Hr := Go.Lib.hid (rider_some h hr)
  clear h hr hx hx' hp c1 c2 z2
  generalize x'.b.length = n at *
  generalize x'.A = A at *
  generalize x'.c = c at *
  unfold ptr at Hr c0 ⊢
  go_enter Try.func57, Try.ntmps57
  go_wp2_with fail
  refine Hr.out.mono ?_
  rintro e w' ⟨rfl, rfl⟩
  go_wp2_with fail
  go_ret
  exact ⟨rfl, rfl⟩

theorem length_none (h : StoreAt base w s S) {f : Int} (hr : S.rdAt f = none) :
    Calls Try.prog 57 #[ptr s, .int .i64 f] w fun e w' => e = .returned (.int .i64 0) ∧ w = w' := by
  have Hr := Go.Lib.hid (rider_none h hr)
  clear h hr
  unfold ptr at Hr ⊢
  go_enter Try.func57, Try.ntmps57
  go_wp2_with fail
  refine Hr.out.mono ?_
  rintro e w' ⟨rfl, rfl⟩
  go_wp2_with fail
  go_ret
  exact ⟨rfl, rfl⟩

theorem eof_some (h : StoreAt base w s S) {f : Int} {r : Rd} {x : Fl} (hr : S.rdAt f = some r) (hx : S.fl r.f = some x) :
    Calls Try.prog 55 #[ptr s, .int .i64 f] w fun e w' => e = .returned (.bool (decide (r.pos = x.b.length))) ∧ ∃ n, w' = w.drewN n := by
  obtain ⟨x', hx', hp, hl, c0, c1, c2, z2, cf⟩ := h.rfacts hr
  obtain rfl : x' = x := by rw [hx] at hx'; exact (Option.some.inj hx').symm
  have Hr := Go.Lib.hid (rider_some h hr)
  clear h hr hx hx' c1 z2
  generalize x'.b.length = n at *
  generalize x'.A = A at *
  generalize x'.c = c at *
  generalize r.pos = p at *
  unfold ptr at Hr c0 ⊢
  by_cases hpn : p = n
  · have H : Hid (decide (p = n) = true) := Go.Lib.hid (by simpa using hpn)
    have d1 : ((p : Int) == (n : Int)) = true := by rw [beq_iff_eq]; omega
    rw [H.out]
    clear H hpn
    go_enter Try.func55, Try.ntmps55
    go_wp2_with fail
    refine Hr.out.mono ?_
    rintro e w' ⟨rfl, rfl⟩
    go_wp2_with fail
    go_quiet (fail)
    go_wp2_with fail
    go_ret
    exact ⟨rfl, _, rfl⟩
  · have H : Hid (decide (p = n) = false) := Go.Lib.hid (by simpa using hpn)
    have d1 : ((p : Int) == (n : Int)) = false := by rw [beq_eq_false_iff_ne]; omega
    rw [H.out]
    clear H hpn
    go_enter Try.func55, Try.ntmps55
    go_wp2_with fail
    refine Hr.out.mono ?_
    rintro e w' ⟨rfl, rfl⟩
    go_wp2_with fail
    go_quiet (fail)
    go_wp2_with fail
    go_ret
    exact ⟨rfl, _, rfl⟩

theorem eof_none (h : StoreAt base w s S) {f : Int} (hr : S.rdAt f = none) :
    Calls Try.prog 55 #[ptr s, .int .i64 f] w fun e w' => e = .returned (.bool true) ∧ ∃ n, w' = w.drewN n := by
  have Hr := Go.Lib.hid (rider_none h hr)
  clear h hr
  unfold ptr at Hr ⊢
  go_enter Try.func55, Try.ntmps55
  go_wp2_with fail
  refine Hr.out.mono ?_
  rintro e w' ⟨rfl, rfl⟩
  go_wp2_with fail
  go_quiet (fail)
  go_wp2_with fail
  go_ret
  exact ⟨rfl, _, rfl⟩
end
end Go.Proofs.Ytggknljlibhkjaa
