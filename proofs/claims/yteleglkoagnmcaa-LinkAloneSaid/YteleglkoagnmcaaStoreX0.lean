/- What is proved: contracts of a store's functions that carry the store along from a first world, and the small known play. Conditions: the memory holds a store. -/
import Derived.Test.YteleglkoagnmcaaStoreW
set_option linter.unusedSimpArgs false
set_option linter.unusedVariables false
namespace Go.Proofs.Yteleglkoagnmcaa
open Go.RowKit

/-- the world holds the store of this data, made behind w0, and all that was there in w0 stands -/
def K (w0 : World) (s : Nat) (v : V) (w : World) : Prop := ∃ F, StoreV w0.heap.size w s v F ∧ Chg NoB w0 w
/-- what a call leaves -/
def KPost (w0 : World) (s : Nat) (r : Value) (v : V) (e : Ending) (w : World) : Prop := e = .returned r ∧ K w0 s v w

section
variable {w0 w w' : World} {s : Nat} {v v' : V}

theorem K.quiet (h : K w0 s v w) (hc : Chg NoB w w') : K w0 s v w' := by
  obtain ⟨F, h1, h2⟩ := h
  exact ⟨F, h1.quiet hc, h2.trans hc⟩
theorem K.chg (h : K w0 s v w) : Chg NoB w0 w := h.choose_spec.2
theorem K.of {P : Program} {f : FuncId} {args : Array Value} {r : Value} (h : K w0 s v w) (hc : ∀ F, StoreV w0.heap.size w s v F → Calls P f args w (VPost w0.heap.size s F r v' w)) : Calls P f args w (KPost w0 s r v') := by
  obtain ⟨F, h1, h2⟩ := h
  refine (hc F h1).mono fun e w' hp => ?_
  obtain ⟨he, F', h3, h4, _⟩ := hp
  exact ⟨he, F', h3, h2.step h4 fun i hi hF => absurd (h1.low hF) (by omega)⟩

theorem room_k (h : K w0 s v w) : Calls Try.prog 41 #[ptr s] w (KPost w0 s (.int .i64 v.room) v) := h.of fun _ h => room_v h
theorem put_k (h : K w0 s v w) (nm : ByteArray) (hsz : nm.size ≤ maxLen) {A : Option Addr} {c : Nat} {l : List UInt8} (hA : A = none → l = [] ∧ c = 0) (hcl : CellsAt w A (bv l)) :
    Calls Try.prog 22 #[ptr s, .string nm, .slice A l.length c] w (KPost w0 s (.int .i64 (v.put nm l).1) (v.put nm l).2) := h.of fun _ h => put_v h nm hsz hA hcl
theorem new_k (c : Nat) (hc : c ≤ 67108864) (w : World) : Calls Try.prog 27 #[.int .i64 c] w fun e w' => ∃ s, e = .returned (.tuple #[ptr s, .int .i64 0]) ∧ K w s ⟨c, [], [], []⟩ w' := by
  refine (new_v c hc w).mono fun e w' hp => ?_
  obtain ⟨s, F, he, hs, hch⟩ := hp
  exact ⟨s, he, F, hs, hch⟩

def KGet (w0 w : World) (s : Nat) (v : V) (l : List UInt8) (e : Ending) (w' : World) : Prop :=
  ∃ A c, e = .returned (.tuple #[.slice A l.length c, .int .i64 0]) ∧ (∃ b, w'.ownsRow b 5 1 (.slice A l.length c) l.length (bv l)) ∧ CellsAt w' A (bv l) ∧ K w0 s v w' ∧ Chg NoB w w'
theorem get_k (h : K w0 s v w) {nm : ByteArray} {n : Nat} (hsz : nm.size ≤ maxLen) (hn : mayName nm = true) (hl : lookD nm v.dir = some n) : Calls Try.prog 35 #[ptr s, .string nm] w (KGet w0 w s v (v.bytes n)) := by
  obtain ⟨F, h1, h2⟩ := h
  refine (get_v h1 hsz hn hl).mono fun e w' hp => ?_
  obtain ⟨A, c, he, ho, hs, hch⟩ := hp
  exact ⟨A, c, he, ⟨_, ho⟩, CellsAt.of_own ho, ⟨F, hs, h2.trans hch⟩, hch⟩
theorem getno_k (h : K w0 s v w) {nm : ByteArray} (hsz : nm.size ≤ maxLen) (n : Nat) (hn : mayName nm = false ∧ n = 2 ∨ mayName nm = true ∧ lookD nm v.dir = none ∧ n = 6) :
    Calls Try.prog 35 #[ptr s, .string nm] w (KPost w0 s (.tuple #[.slice none 0 0, .int .i64 n]) v) := h.of fun _ h => getno_v h hsz n hn

end

def nmA : ByteArray := ⟨#[97]⟩
def nmB : ByteArray := ⟨#[98]⟩
deriving instance DecidableEq for VR, V
def kv1 : V := ⟨9, [[]], [], [⟨0, nmA, 0⟩]⟩
def kv2 : V := ⟨9, [[7]], [], [⟨0, nmA, 1⟩]⟩
def kv3 : V := ⟨9, [[7]], [(nmA, 0)], [⟨0, nmA, 1⟩]⟩
def kv4 : V := ⟨9, [[7]], [(nmA, 0)], [⟨0, nmA, 1⟩, ⟨0, nmA, 0⟩]⟩
def kv5 : V := ⟨9, [[7]], [(nmA, 0)], [⟨0, nmA, 1⟩, ⟨0, nmA, 1⟩]⟩
def kv6 : V := ⟨9, [[7, 2, 1, 0, 0]], [(nmA, 0)], [⟨0, nmA, 1⟩, ⟨0, nmA, 5⟩]⟩
def kv7 : V := ⟨9, [[7, 2, 1, 0, 0]], [(nmA, 0)], [⟨0, nmA, 2⟩, ⟨0, nmA, 5⟩]⟩
def kv8 : V := ⟨9, [[7, 2, 1, 0, 0]], [(nmA, 0)], [⟨0, nmA, 3⟩, ⟨0, nmA, 5⟩]⟩
theorem known_1 : V.fresh ⟨9, [], [], []⟩ nmA = (1, kv1) := by decide +kernel
theorem known_2 : kv1.write 1 [7] = (0, kv2) := by decide +kernel
theorem known_3 : kv2.old nmA = (0, kv2) := by decide +kernel
theorem known_4 : kv2.register 1 = (0, kv3) := by decide +kernel
theorem known_5 : kv3.old nmA = (2, kv4) := by decide +kernel
theorem known_6 : kv4.read 2 = (7, kv5) := by decide +kernel
theorem known_7 : kv5.eof 2 = true := by decide +kernel
theorem known_8 : kv5.write 2 (bytesOfWord 258) = (0, kv6) := by decide +kernel
theorem known_9 : kv6.length 1 = 5 := by decide +kernel
theorem known_10 : kv6.seek 1 2 = kv7 := by decide +kernel
theorem known_11 : kv7.read 1 = (1, kv8) := by decide +kernel
theorem known_12 : (kv8.put nmB [0, 0, 0, 0, 0]).1 = 5 := by decide +kernel
end Go.Proofs.Yteleglkoagnmcaa
