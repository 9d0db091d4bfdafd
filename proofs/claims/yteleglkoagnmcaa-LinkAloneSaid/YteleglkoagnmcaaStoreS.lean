/- What is proved: the contracts of Riders and Drop. Conditions: the memory holds a store. -/
import Derived.Test.YteleglkoagnmcaaStoreQQ
set_option linter.unusedSimpArgs false
set_option linter.unusedVariables false
namespace Go.Proofs.Yteleglkoagnmcaa
open Go.RowKit
section
variable {base : Nat} {w : World} {s : Nat} {S : Sto} {v : V} {F : Nat → Prop}

def DropPost (base s : Nat) (S : Sto) (nm : ByteArray) (w : World) (e : Ending) (w' : World) : Prop :=
  e = .returned (.int .i64 0) ∧ StoreAt base w' s (S.del nm) ∧ Chg (fun k => k = S.mb) w w'

theorem drop_ok (h : StoreAt base w s S) {nm : ByteArray} {f : Nat} (hsz : nm.size ≤ maxLen) (hn : mayName nm = true) (hl : lookD nm S.dir = some f) :
    Calls Try.prog 33 #[ptr s, .string nm] w (DropPost base s S nm w) := by
  have Hf := Go.Lib.hid (find_ok h hsz hn hl)
  have H := Go.Lib.hid h
  clear h hsz hn hl
  unfold ptr at Hf ⊢
  go_enter Try.func33, Try.ntmps33
  go_wp2_with fail
  refine Hf.out.mono ?_
  rintro e w2 ⟨rfl, hc⟩
  have H2 := Go.Lib.hid (H.out.chg hc (fun _ _ => id))
  have Hc := Go.Lib.hid hc
  have c0 := H2.out.cell0
  clear hc Hf
  go_wp2_with (at_delete; go_must (refine wpList_delete_str _ rfl _ _ _ _ rfl 95 Try.underlying64 Try.underlying9 S.mb _ nm rfl rfl H2.out.map ?_); intro w1 hm1 hc1 hz1)
  rw [delS_dir] at hm1
  have Hp := Go.Lib.hid (And.intro (H2.out.del hm1 hc1) ((Hc.out.mono (fun _ _ h => h.elim)).trans hc1))
  clear hm1 hc1 hz1
  go_wp2_with fail
  go_ret
  exact ⟨rfl, Hp.out⟩

theorem drop_no (h : StoreAt base w s S) {nm : ByteArray} (hsz : nm.size ≤ maxLen) {n : Int} (hn : mayName nm = false ∧ n = 2 ∨ mayName nm = true ∧ lookD nm S.dir = none ∧ n = 6) :
    Calls Try.prog 33 #[ptr s, .string nm] w (Quiet (.int .i64 n) w) := by
  have hf : Calls Try.prog 66 #[ptr s, .string nm] w (Quiet (.tuple #[.pointer none, .int .i64 n]) w) := by
    rcases hn with ⟨hn, rfl⟩ | ⟨hn, hl, rfl⟩
    · exact find_arg h hsz hn
    · exact find_none h hsz hn hl
  have Hf := Go.Lib.hid hf
  have hne : (n == 0) = false := by rcases hn with ⟨_, rfl⟩ | ⟨_, _, rfl⟩ <;> rfl
  clear hf hn h hsz
  unfold ptr at Hf ⊢
  go_enter Try.func33, Try.ntmps33
  go_wp2_with fail
  refine Hf.out.mono ?_
  rintro e w2 ⟨rfl, hc⟩
  have Hc := Go.Lib.hid hc
  clear hc Hf
  go_wp2_with fail
  go_ret
  exact ⟨rfl, Hc.out⟩

def V.drop (v : V) (nm : ByteArray) : Nat × V :=
  if mayName nm = true then
    match lookD nm v.dir with
    | none => (6, v)
    | some _ => (0, v.del nm)
  else (2, v)

theorem drop_v (h : StoreV base w s v F) (nm : ByteArray) (hsz : nm.size ≤ maxLen) : Calls Try.prog 33 #[ptr s, .string nm] w (VPost base s F (.int .i64 (v.drop nm).1) (v.drop nm).2 w) := by
  have h0 := h
  obtain ⟨S, φ, h1, h2, rfl⟩ := h
  by_cases hn : mayName nm = true
  · cases hl : lookD nm v.dir with
    | none =>
      have e1 : v.drop nm = (6, v) := by unfold V.drop; rw [if_pos hn, hl]
      rw [e1]
      exact (drop_no h1 hsz (.inr ⟨hn, by rw [h2.look, hl]; rfl, rfl⟩)).mono fun e w' ⟨he, hch⟩ => VPost.quiet h0 he hch
    | some n =>
      have e1 : v.drop nm = (0, v.del nm) := by unfold V.drop; rw [if_pos hn, hl]
      rw [e1]
      refine (drop_ok h1 hsz hn (by rw [h2.look, hl]; rfl)).mono fun e w' hp => ?_
      obtain ⟨he, hs, hch⟩ := hp
      exact ⟨he, _, ⟨_, φ, hs, h2.del nm, rfl⟩, hch.mono (fun k _ hk => .inr (.inl hk)), fun k hk _ => hk⟩
  · have e1 : v.drop nm = (2, v) := by unfold V.drop; rw [if_neg hn]
    rw [e1]
    exact (drop_no h1 hsz (.inl ⟨by simpa using hn, rfl⟩)).mono fun e w' ⟨he, hch⟩ => VPost.quiet h0 he hch
end
end Go.Proofs.Yteleglkoagnmcaa
