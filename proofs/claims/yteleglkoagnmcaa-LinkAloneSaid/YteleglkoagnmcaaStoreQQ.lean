/- What is proved: a store carried along beside rows that stand. Conditions: the memory holds a store. -/
import Derived.Test.YteleglkoagnmcaaStoreX0
set_option linter.unusedSimpArgs false
set_option linter.unusedVariables false
namespace Go.Proofs.Yteleglkoagnmcaa
open Go.RowKit

/-- the world holds the store of this data; the blocks of Q, which were there in w0, stand as they stood -/
def KQ (w0 : World) (Q : Nat → Prop) (s : Nat) (v : V) (w : World) : Prop :=
  ∃ b F, StoreV b w s v F ∧ (∀ k, Q k → k < w0.heap.size ∧ ¬ F k) ∧ Chg (fun k => ¬ Q k) w0 w
def KQPost (w0 : World) (Q : Nat → Prop) (s : Nat) (r : Value) (v : V) (e : Ending) (w : World) : Prop := e = .returned r ∧ KQ w0 Q s v w

section
variable {w0 w w' : World} {s : Nat} {v v' : V} {Q : Nat → Prop}
theorem K.toQ (h : K w0 s v w) : KQ w0 (· < w0.heap.size) s v w := by
  obtain ⟨F, h1, h2⟩ := h
  exact ⟨_, F, h1, fun k hk => ⟨hk, fun hF => absurd (h1.low hF) (by omega)⟩, h2.mono fun _ _ h => h.elim⟩
theorem KQ.quiet (h : KQ w0 Q s v w) (hc : Chg NoB w w') : KQ w0 Q s v w' := by
  obtain ⟨b, F, h1, h2, h3⟩ := h
  exact ⟨b, F, h1.quiet hc, h2, h3.step hc fun _ _ h => h.elim⟩
theorem KQ.chg (h : KQ w0 Q s v w) : Chg (fun k => ¬ Q k) w0 w := by
  obtain ⟨_, _, _, _, h⟩ := h
  exact h
theorem KQ.of {P : Program} {f : FuncId} {args : Array Value} {r : Value} (h : KQ w0 Q s v w) (hc : ∀ b F, StoreV b w s v F → Calls P f args w (VPost b s F r v' w)) : Calls P f args w (KQPost w0 Q s r v') := by
  obtain ⟨b, F, h1, h2, h3⟩ := h
  refine (hc b F h1).mono fun e w' hp => ?_
  obtain ⟨he, F', h4, h5, h6⟩ := hp
  refine ⟨he, b, F', h4, fun k hk => ⟨(h2 k hk).1, fun hF => (h2 k hk).2 (h6 k hF ?_)⟩, h3.step h5 fun k _ hF hq => (h2 k hq).2 hF⟩
  have := (h2 k hk).1
  have := h3.size
  omega
/-- what Get leaves: its row stands from here on, too -/
def KQGet (w0 : World) (Q : Nat → Prop) (s : Nat) (v : V) (l : List UInt8) (w : World) (e : Ending) (w' : World) : Prop :=
  ∃ A c, e = .returned (.tuple #[.slice A l.length c, .int .i64 0]) ∧ CellsAt w' A (bv l) ∧ (A = none → l = [] ∧ c = 0) ∧ KQ w' (fun k => Q k ∨ w.heap.size ≤ k ∧ k < w'.heap.size) s v w' ∧ Chg (fun k => ¬ Q k) w0 w' ∧ (∀ ad, A = some ad → w.heap.size ≤ ad.block ∧ ad.block < w'.heap.size) ∧ Chg NoB w w'
theorem get_q (h : KQ w0 Q s v w) {nm : ByteArray} {n : Nat} (hsz : nm.size ≤ maxLen) (hn : mayName nm = true) (hl : lookD nm v.dir = some n) : Calls Try.prog 35 #[ptr s, .string nm] w (KQGet w0 Q s v (v.bytes n) w) := by
  obtain ⟨b, F, h1, h2, h3⟩ := h
  refine (get_v h1 hsz hn hl).mono fun e w' hp => ?_
  obtain ⟨A, c, he, ho, hs, hch⟩ := hp
  have hsize := hch.size
  have h0 := h3.size
  refine ⟨A, c, he, CellsAt.of_own ho, fun hA => ?_, ⟨b, F, hs, fun k hk => ?_, Chg.refl _ _⟩, h3.step hch fun _ _ h => h.elim, fun ad hA => ?_, hch⟩
  · subst hA
    rcases ho.2 with ⟨h4, h5⟩ | ⟨_, _, _, h4, _⟩
    · injection h4 with _ _ h6
      exact ⟨List.eq_nil_of_length_eq_zero h5, h6⟩
    · injection h4 with h6
      cases h6
  · rcases hk with hk | ⟨hk, hk'⟩
    · exact ⟨by have := (h2 k hk).1; omega, (h2 k hk).2⟩
    · exact ⟨hk', fun hF => absurd (h1.lt hF) (by omega)⟩
  · exact ho.lt ad.block (by rw [hA]; rfl)
theorem Chg.noB (h : Chg (fun k => ¬ Q k) w w') (hq : ∀ k, k < w.heap.size → Q k) : Chg NoB w w' := h.mono fun k hk hn => hn (hq k hk)
/-- a row below w0 or within Q stands -/
theorem KQ.noB (h : KQ w0 Q s v w) {w1 : World} (hc : Chg NoB w1 w0) (hq : ∀ k, k < w1.heap.size → Q k) : Chg NoB w1 w := hc.step h.chg fun k hk hn => hn (hq k hk)
theorem CellsAt.head {w : World} {A : Option Addr} {l : List UInt8} (h : CellsAt w A (bv l)) {i : Nat} (hi : i < l.length) : ∃ ad, A = some ad ∧ w.cell? (ad.add i) = some (.int .u8 l[i].toNat) := by
  obtain ⟨ad, ha, hc⟩ := h (by rw [bv_length]; omega)
  exact ⟨ad, ha, hc i _ (by simp [bv, hi])⟩
end
end Go.Proofs.Yteleglkoagnmcaa
