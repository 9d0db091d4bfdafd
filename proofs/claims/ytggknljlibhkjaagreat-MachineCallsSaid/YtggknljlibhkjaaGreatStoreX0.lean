import Derived.Test.YtggknljlibhkjaaGreatStoreW
set_option linter.unusedSimpArgs false
set_option linter.unusedVariables false
namespace Go.Proofs.YtggknljlibhkjaaGreat
open Go.RowKit
def K (w0 : World) (s : Nat) (v : V) (w : World) : Prop := ∃ F, StoreV w0.heap.size w s v F ∧ Chg NoB w0 w
def KPost (w0 : World) (s : Nat) (r : Value) (v : V) (e : Ending) (w : World) : Prop := e = .returned r ∧ K w0 s v w
section
variable {w0 w w' : World} {s : Nat} {v v' : V}
theorem K.quiet (h : K w0 s v w) (hc : Chg NoB w w') : K w0 s v w' := by
 obtain ⟨F, h1, h2⟩ := h
 exact ⟨F, h1.quiet hc, h2.trans hc⟩
theorem K.chg (h : K w0 s v w) : Chg NoB w0 w := h.choose_spec.2
theorem K.of {P : Program} {f : FuncId} {args : Array Value} {r : Value} (h : K w0 s v w) (hc : ∀ F, StoreV w0.heap.size w s v F → Calls P f args w (VPost w0.heap.size s F r v' w)) : Calls P f args w (KPost w0 s r v') := by
 obtain ⟨F, h1, h2⟩ := h
 refine (hc F h1).mono fun e w' hp => ?_
 obtain ⟨he, F', h3, h4, _⟩ := hp
 exact ⟨he, F', h3, h2.step h4 fun i hi hF => absurd (h1.low hF) (by omega)⟩
def KGet (w0 w : World) (s : Nat) (v : V) (l : List UInt8) (e : Ending) (w' : World) : Prop :=
 ∃ A c, e = .returned (.tuple #[.slice A l.length c, .int .i64 0]) ∧ (∃ b, w'.ownsRow b 5 1 (.slice A l.length c) l.length (bv l)) ∧ CellsAt w' A (bv l) ∧ K w0 s v w' ∧ Chg NoB w w'
end
def nmA : ByteArray := ⟨#[97]⟩
def nmB : ByteArray := ⟨#[98]⟩
deriving instance DecidableEq for VR, V
def kv1 : V := ⟨9, [[]], [], [⟨0, nmA, 0⟩]⟩
def kv2 : V := ⟨9, [[7]], [], [⟨0, nmA, 1⟩]⟩
def kv3 : V := ⟨9, [[7]], [(nmA, 0)], [⟨0, nmA, 1⟩]⟩
def kv4 : V := ⟨9, [[7]], [(nmA, 0)], [⟨0, nmA, 1⟩, ⟨0, nmA, 0⟩]⟩
def kv5 : V := ⟨9, [[7]], [(nmA, 0)], [⟨0, nmA, 1⟩, ⟨0, nmA, 1⟩]⟩
def kv6 : V := ⟨9, [[7, 2, 1, 0, 0]], [(nmA, 0)], [⟨0, nmA, 1⟩, ⟨0, nmA, 5⟩]⟩
def kv7 : V := ⟨9, [[7, 2, 1, 0, 0]], [(nmA, 0)], [⟨0, nmA, 2⟩, ⟨0, nmA, 5⟩]⟩
def kv8 : V := ⟨9, [[7, 2, 1, 0, 0]], [(nmA, 0)], [⟨0, nmA, 3⟩, ⟨0, nmA, 5⟩]⟩
end Go.Proofs.YtggknljlibhkjaaGreat
