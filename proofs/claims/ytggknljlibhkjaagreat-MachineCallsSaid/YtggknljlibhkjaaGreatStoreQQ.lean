import Derived.Test.YtggknljlibhkjaaGreatStoreX0
set_option linter.unusedSimpArgs false
set_option linter.unusedVariables false
namespace Go.Proofs.YtggknljlibhkjaaGreat
open Go.RowKit
def KQ (w0 : World) (Q : Nat → Prop) (s : Nat) (v : V) (w : World) : Prop :=
 ∃ b F, StoreV b w s v F ∧ (∀ k, Q k → k < w0.heap.size ∧ ¬ F k) ∧ Chg (fun k => ¬ Q k) w0 w
def KQPost (w0 : World) (Q : Nat → Prop) (s : Nat) (r : Value) (v : V) (e : Ending) (w : World) : Prop := e = .returned r ∧ KQ w0 Q s v w
section
variable {w0 w w' : World} {s : Nat} {v v' : V} {Q : Nat → Prop}
theorem KQ.quiet (h : KQ w0 Q s v w) (hc : Chg NoB w w') : KQ w0 Q s v w' := by
 obtain ⟨b, F, h1, h2, h3⟩ := h
 exact ⟨b, F, h1.quiet hc, h2, h3.step hc fun _ _ h => h.elim⟩
theorem KQ.chg (h : KQ w0 Q s v w) : Chg (fun k => ¬ Q k) w0 w := by
 obtain ⟨_, _, _, _, h⟩ := h
 exact h
theorem KQ.of {P : Program} {f : FuncId} {args : Array Value} {r : Value} (h : KQ w0 Q s v w) (hc : ∀ b F, StoreV b w s v F → Calls P f args w (VPost b s F r v' w)) : Calls P f args w (KQPost w0 Q s r v') := by
 obtain ⟨b, F, h1, h2, h3⟩ := h
 refine (hc b F h1).mono fun e w' hp => ?_
 obtain ⟨he, F', h4, h5, h6⟩ := hp
 refine ⟨he, b, F', h4, fun k hk => ⟨(h2 k hk).1, fun hF => (h2 k hk).2 (h6 k hF ?_)⟩, h3.step h5 fun k _ hF hq => (h2 k hq).2 hF⟩
 have := (h2 k hk).1
 have := h3.size
 omega
def KQGet (w0 : World) (Q : Nat → Prop) (s : Nat) (v : V) (l : List UInt8) (w : World) (e : Ending) (w' : World) : Prop :=
 ∃ A c, e = .returned (.tuple #[.slice A l.length c, .int .i64 0]) ∧ CellsAt w' A (bv l) ∧ (A = none → l = [] ∧ c = 0) ∧ KQ w' (fun k => Q k ∨ w.heap.size ≤ k ∧ k < w'.heap.size) s v w' ∧ Chg (fun k => ¬ Q k) w0 w' ∧ (∀ ad, A = some ad → w.heap.size ≤ ad.block ∧ ad.block < w'.heap.size) ∧ Chg NoB w w'
theorem CellsAt.head {w : World} {A : Option Addr} {l : List UInt8} (h : CellsAt w A (bv l)) {i : Nat} (hi : i < l.length) : ∃ ad, A = some ad ∧ w.cell? (ad.add i) = some (.int .u8 l[i].toNat) := by
 obtain ⟨ad, ha, hc⟩ := h (by rw [bv_length]; omega)
 exact ⟨ad, ha, hc i _ (by simp [bv, hi])⟩
end
end Go.Proofs.YtggknljlibhkjaaGreat
