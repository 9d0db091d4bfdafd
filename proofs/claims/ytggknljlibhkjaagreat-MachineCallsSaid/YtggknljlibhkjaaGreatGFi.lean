import Derived.Test.YtggknljlibhkjaaGreatGSm
import Derived.Test.YtggknljlibhkjaaGreatIter
import Derived.Test.YtggknljlibhkjaaGreatTail
import Derived.RangeFuncNested
import Derived.RangeFuncBound
import Derived.RangeFuncCalls
import Derived.RangeFuncLeaves
import Derived.RangeFuncKeeps
import Derived.Shelf.Abstract
import Derived.Shelf.RegionOpen
import Derived.WalkKit
import Derived.OwnWalkIn
import Derived.TacticsInMore
import Derived.LoopNIn
import Derived.LoopIn
import Derived.Laws.EntriesVeiled
set_option linter.unusedSimpArgs false
set_option linter.unusedVariables false
namespace Go.Proofs.YtggknljlibhkjaaGreat
open Go.RowKit Go.Maps Go.Sort
def constR : Value → Option (DataW Unit × List MemPlace) := fun _ => some (.nil, [])
end Go.Proofs.YtggknljlibhkjaaGreat
set_option linter.unusedSimpArgs false
set_option linter.unusedVariables false
namespace Go.Proofs.YtggknljlibhkjaaGreat
open Go.RowKit Go.Maps Go.Sort
def sortN (l : List (List UInt8)) : List ByteArray := (l.mergeSort leB).map fun x => ⟨x.toArray⟩
def Sto.files (S : Sto) : List (ByteArray × Nat) := (sortN (S.dir.map fun e => e.1.data.toList)).map fun n => (n, ((lookD n S.dir).map S.len).getD 0)
structure FilesAt (base : Nat) (w : World) (a b : Nat) (L : List (ByteArray × Nat)) : Prop where
 names : ∃ A c, Blk w a 189 #[.slice A L.length c] ∧ w.ownsRow base 9 1 (.slice A L.length c) L.length (L.map fun e => .string e.1)
 sizes : ∃ A c, Blk w b 190 #[.slice A L.length c] ∧ w.ownsRow base 3 1 (.slice A L.length c) L.length (L.map fun e => .int .i64 e.2)
 lo : base ≤ a ∧ base ≤ b
section
variable {base : Nat} {w w' : World} {s a b : Nat} {S : Sto} {L : List (ByteArray × Nat)}
structure FiInv (S : Sto) (w W : World) (a b : Nat) (v : Value) (N : List ByteArray) (k : Nat) : Prop where
 chg : Chg NoB w W
 ba : Blk W a 189 #[v]
 nm : W.ownsRow w.heap.size 9 1 v N.length (N.map .string)
 sz : ∃ B d, Blk W b 190 #[.slice B k d] ∧ W.ownsRow w.heap.size 3 1 (.slice B k d) k ((N.take k).map fun n => .int .i64 (((lookD n S.dir).map S.len).getD 0))
 lo : w.heap.size ≤ a ∧ w.heap.size ≤ b ∧ a ≠ b
def FilesPost (base : Nat) (L : List (ByteArray × Nat)) (w : World) (e : Ending) (w' : World) : Prop :=
 ∃ a b, e = .returned (.func (.func 133) #[] #[ptr a, ptr b]) ∧ FilesAt base w' a b L ∧ Chg NoB w w'
end
end Go.Proofs.YtggknljlibhkjaaGreat
set_option linter.unusedSimpArgs false
set_option linter.unusedVariables false
namespace Go.Proofs.YtggknljlibhkjaaGreat
open Go.RowKit Go.Shelf
attribute [local go_sem] Oper.semAt_some
structure FilesX (base : Nat) (A : Option Addr) (c : Nat) (B : Option Addr) (d : Nat) (a b : Nat) (L : List (ByteArray × Nat)) (w : World) : Prop where
 ba : Blk w a 189 #[.slice A L.length c]
 na : w.ownsRow base 9 1 (.slice A L.length c) L.length (L.map fun e => .string e.1)
 bb : Blk w b 190 #[.slice B L.length d]
 nb : w.ownsRow base 3 1 (.slice B L.length d) L.length (L.map fun e => .int .i64 e.2)
 lo : base ≤ a ∧ base ≤ b
@[reducible] def encF (e : ByteArray × Nat) : Array Value := #[.string e.1, .int .i64 e.2]
end Go.Proofs.YtggknljlibhkjaaGreat
