/-
  No cell of these rows narrows 'for every input' (looked for: loops, veiled, ifaces, maps, wideKeys, modest, calm, conditions, laid).
  DERIVED. THE GIVEN ROWS OF THIS SEAT. 7 by the template 'for every input the law returns true; each argument reads behind the call as it read before'; 0 by the template 'total and deterministic' (their statements: YteleglkoagnmcaaTotals.lean).
  GIVEN WITH THE SEED: the statements are not yours to turn. If you find one false, say at which input.
  Laid BY PROGRAM, IN A SANDBOX (cutbox-rows.mjs): the forced cells as the released guide's own fill.sh prints them over the translation 68ae45a5e4073035… (all of the seat's roots in one cut). By AI agents, Wed Nov 11 2026. No macro, syntax, notation, axiom, sorry.
-/
import Derived.Test.YteleglkoagnmcaaChecked
import GoSem.Claim
import GoSem.ClaimJoined
import GoSem.ClaimMapViews
import Derived.JoinedTies
import Derived.KernelRfl
namespace Go.Proofs.Yteleglkoagnmcaa
/- THE CELL 'sum', in the pinned program and in every row, IS THE sha256 OF THE DUMP (.gsa) THAT YteleglkoagnmcaaProg.lean LOADS. Nothing in Lean hashes anything: it is a label: what it is worth is what the hold of that sum in a sandbox is worth. -/
noncomputable def Try.pinned : Pinned := { name := "yteleglkoagnmcaa", sum := "68ae45a5e40730359f0bdda34fed54b8721ac0c5cef45c110cd9af99ed01335a", checked := Try.checked }
namespace Rows
def none {H : Type} : Left H := { results := [], args := [] }

/-- 'selfsamelaw09.LinkBytes': WHATEVER THE INPUT: true; the input reads as it did. -/
def linkBytesSpec : ChangeSpec := { name := "linkBytes", fn := fun _ => fun
  | [d1, d2] => { results := [.lit (.bool true)], args := [d1, d2] }
  | _ => none }
def linkBytesRow : OpenClaim := { program := "yteleglkoagnmcaa", sum := "68ae45a5e40730359f0bdda34fed54b8721ac0c5cef45c110cd9af99ed01335a", func := "selfsame/selfsamelaw09.LinkBytes", spec := "linkBytes", unfollowed := true, recurses := true, apart := false }
def LinkBytesSaid : Prop := linkBytesRow.holds Try.pinned (OpenSpec.ofChange linkBytesSpec)

/-- ITS FALSE NEIGHBOUR: 'it returns false'. Refute it at one input. -/
def linkBytesWrong : ChangeSpec := { name := "linkBytes", fn := fun _ => fun
  | [d1, d2] => { results := [.lit (.bool false)], args := [d1, d2] }
  | _ => none }
def LinkBytesWrongFalsely : Prop := linkBytesRow.holds Try.pinned (OpenSpec.ofChange linkBytesWrong)

/-- 'selfsamelaw09.LinkMeans': WHATEVER THE INPUT: true; the input reads as it did. -/
def linkMeansSpec : ChangeSpec := { name := "linkMeans", fn := fun _ => fun
  | [d1, d2] => { results := [.lit (.bool true)], args := [d1, d2] }
  | _ => none }
def linkMeansRow : OpenClaim := { program := "yteleglkoagnmcaa", sum := "68ae45a5e40730359f0bdda34fed54b8721ac0c5cef45c110cd9af99ed01335a", func := "selfsame/selfsamelaw09.LinkMeans", spec := "linkMeans", unfollowed := true, recurses := true, apart := false }
def LinkMeansSaid : Prop := linkMeansRow.holds Try.pinned (OpenSpec.ofChange linkMeansSpec)

/-- ITS FALSE NEIGHBOUR: 'it returns false'. Refute it at one input. -/
def linkMeansWrong : ChangeSpec := { name := "linkMeans", fn := fun _ => fun
  | [d1, d2] => { results := [.lit (.bool false)], args := [d1, d2] }
  | _ => none }
def LinkMeansWrongFalsely : Prop := linkMeansRow.holds Try.pinned (OpenSpec.ofChange linkMeansWrong)

/-- 'selfsamelaw09.LinkKeys': WHATEVER THE INPUT: true; the input reads as it did. -/
def linkKeysSpec : ChangeSpec := { name := "linkKeys", fn := fun _ => fun
  | [d1, d2] => { results := [.lit (.bool true)], args := [d1, d2] }
  | _ => none }
def linkKeysRow : OpenClaim := { program := "yteleglkoagnmcaa", sum := "68ae45a5e40730359f0bdda34fed54b8721ac0c5cef45c110cd9af99ed01335a", func := "selfsame/selfsamelaw09.LinkKeys", spec := "linkKeys", unfollowed := true, recurses := true, apart := false }
def LinkKeysSaid : Prop := linkKeysRow.holds Try.pinned (OpenSpec.ofChange linkKeysSpec)

/-- ITS FALSE NEIGHBOUR: 'it returns false'. Refute it at one input. -/
def linkKeysWrong : ChangeSpec := { name := "linkKeys", fn := fun _ => fun
  | [d1, d2] => { results := [.lit (.bool false)], args := [d1, d2] }
  | _ => none }
def LinkKeysWrongFalsely : Prop := linkKeysRow.holds Try.pinned (OpenSpec.ofChange linkKeysWrong)

/-- 'selfsamelaw09.LinkCalls': WHATEVER THE INPUT: true; the input reads as it did. -/
def linkCallsSpec : ChangeSpec := { name := "linkCalls", fn := fun _ => fun
  | [d1, d2] => { results := [.lit (.bool true)], args := [d1, d2] }
  | _ => none }
def linkCallsRow : OpenClaim := { program := "yteleglkoagnmcaa", sum := "68ae45a5e40730359f0bdda34fed54b8721ac0c5cef45c110cd9af99ed01335a", func := "selfsame/selfsamelaw09.LinkCalls", spec := "linkCalls", unfollowed := true, recurses := true, apart := false }
def LinkCallsSaid : Prop := linkCallsRow.holds Try.pinned (OpenSpec.ofChange linkCallsSpec)

/-- ITS FALSE NEIGHBOUR: 'it returns false'. Refute it at one input. -/
def linkCallsWrong : ChangeSpec := { name := "linkCalls", fn := fun _ => fun
  | [d1, d2] => { results := [.lit (.bool false)], args := [d1, d2] }
  | _ => none }
def LinkCallsWrongFalsely : Prop := linkCallsRow.holds Try.pinned (OpenSpec.ofChange linkCallsWrong)

/-- 'selfsamelaw09.LinkNil': WHATEVER THE INPUT: true; the input reads as it did. -/
def linkNilSpec : ChangeSpec := { name := "linkNil", fn := fun _ => fun
  | [] => { results := [.lit (.bool true)], args := [] }
  | _ => none }
def linkNilRow : OpenClaim := { program := "yteleglkoagnmcaa", sum := "68ae45a5e40730359f0bdda34fed54b8721ac0c5cef45c110cd9af99ed01335a", func := "selfsame/selfsamelaw09.LinkNil", spec := "linkNil", unfollowed := true, recurses := true, apart := false }
def LinkNilSaid : Prop := linkNilRow.holds Try.pinned (OpenSpec.ofChange linkNilSpec)

/-- ITS FALSE NEIGHBOUR: 'it returns false'. Refute it at one input. -/
def linkNilWrong : ChangeSpec := { name := "linkNil", fn := fun _ => fun
  | [] => { results := [.lit (.bool false)], args := [] }
  | _ => none }
def LinkNilWrongFalsely : Prop := linkNilRow.holds Try.pinned (OpenSpec.ofChange linkNilWrong)

/-- 'selfsamelaw09.LinkAlone': WHATEVER THE INPUT: true; the input reads as it did. -/
def linkAloneSpec : ChangeSpec := { name := "linkAlone", fn := fun _ => fun
  | [d1, d2, d3] => { results := [.lit (.bool true)], args := [d1, d2, d3] }
  | _ => none }
def linkAloneRow : OpenClaim := { program := "yteleglkoagnmcaa", sum := "68ae45a5e40730359f0bdda34fed54b8721ac0c5cef45c110cd9af99ed01335a", func := "selfsame/selfsamelaw09.LinkAlone", spec := "linkAlone", unfollowed := true, recurses := true, apart := false }
def LinkAloneSaid : Prop := linkAloneRow.holds Try.pinned (OpenSpec.ofChange linkAloneSpec)

/-- ITS FALSE NEIGHBOUR: 'it returns false'. Refute it at one input. -/
def linkAloneWrong : ChangeSpec := { name := "linkAlone", fn := fun _ => fun
  | [d1, d2, d3] => { results := [.lit (.bool false)], args := [d1, d2, d3] }
  | _ => none }
def LinkAloneWrongFalsely : Prop := linkAloneRow.holds Try.pinned (OpenSpec.ofChange linkAloneWrong)

/-- 'selfsamelaw09.LinkLays': WHATEVER THE INPUT: true; the input reads as it did. -/
def linkLaysSpec : ChangeSpec := { name := "linkLays", fn := fun _ => fun
  | [d] => { results := [.lit (.bool true)], args := [d] }
  | _ => none }
def linkLaysRow : OpenClaim := { program := "yteleglkoagnmcaa", sum := "68ae45a5e40730359f0bdda34fed54b8721ac0c5cef45c110cd9af99ed01335a", func := "selfsame/selfsamelaw09.LinkLays", spec := "linkLays", unfollowed := true, recurses := true, apart := false }
def LinkLaysSaid : Prop := linkLaysRow.holds Try.pinned (OpenSpec.ofChange linkLaysSpec)

/-- ITS FALSE NEIGHBOUR: 'it returns false'. Refute it at one input. -/
def linkLaysWrong : ChangeSpec := { name := "linkLays", fn := fun _ => fun
  | [d] => { results := [.lit (.bool false)], args := [d] }
  | _ => none }
def LinkLaysWrongFalsely : Prop := linkLaysRow.holds Try.pinned (OpenSpec.ofChange linkLaysWrong)

/- THE SECOND FORM. 'bulk': how many values and letters a reading holds, each counted each time it is reached (what is shared counts as often as it is met; a slice's spare places count too). A statement '..UptoSaid' is the law's where the arguments, and the package variables that the reading takes, are together of bulk at most 1048576: NARROWER than '..Said'. Prove '..Said' where nothing that the law and all that it calls make is longer than what came in: it says more and counts as full. Else prove '..UptoSaid'. A law counts once. -/
mutual
def uptoBulk {H : Type} : DataW H → Nat
  | .lit (.string bytes) => bytes.length + 1
  | .lit _ => 1
  | .nil => 1
  | .ptr d => uptoBulk d + 1
  | .slice elems spare => uptoBulkAll elems + uptoBulkAll spare + 1
  | .agg parts => uptoBulkAll parts + 1
  | .iface _ d => uptoBulk d + 1
  | .map entries => uptoBulkEntries entries + 1
  | .held _ => 1
def uptoBulkAll {H : Type} : List (DataW H) → Nat
  | [] => 0
  | d :: r => uptoBulk d + uptoBulkAll r
def uptoBulkEntries {H : Type} : List (Lit × DataW H) → Nat
  | [] => 0
  | x :: r => uptoBulkEntry x + uptoBulkEntries r
def uptoBulkEntry {H : Type} : Lit × DataW H → Nat
  | (.string bytes, d) => bytes.length + uptoBulk d + 1
  | (_, d) => uptoBulk d + 1
 end
def uptoSmall : (H : Type) → List (DataW H) → Bool := fun _ ds => decide (uptoBulkAll ds ≤ 1048576)
def OpenSpec.upto (s : _root_.Go.ChangeSpec) : _root_.Go.OpenSpec := { _root_.Go.OpenSpec.ofChange s with cond := some uptoSmall }

/-- 'selfsamelaw09.LinkBytes', WHERE WHAT IT READS IS OF BULK AT MOST 1048576: true; the input reads as it did. -/
def linkBytesUptoRow : OpenClaim := { program := "yteleglkoagnmcaa", sum := "68ae45a5e40730359f0bdda34fed54b8721ac0c5cef45c110cd9af99ed01335a", func := "selfsame/selfsamelaw09.LinkBytes", spec := "linkBytes", unfollowed := true, recurses := true, apart := false, narrowed := true }
def LinkBytesUptoSaid : Prop := linkBytesUptoRow.holds Try.pinned (OpenSpec.upto linkBytesSpec)

/-- 'selfsamelaw09.LinkMeans', WHERE WHAT IT READS IS OF BULK AT MOST 1048576: true; the input reads as it did. -/
def linkMeansUptoRow : OpenClaim := { program := "yteleglkoagnmcaa", sum := "68ae45a5e40730359f0bdda34fed54b8721ac0c5cef45c110cd9af99ed01335a", func := "selfsame/selfsamelaw09.LinkMeans", spec := "linkMeans", unfollowed := true, recurses := true, apart := false, narrowed := true }
def LinkMeansUptoSaid : Prop := linkMeansUptoRow.holds Try.pinned (OpenSpec.upto linkMeansSpec)

/-- 'selfsamelaw09.LinkKeys', WHERE WHAT IT READS IS OF BULK AT MOST 1048576: true; the input reads as it did. -/
def linkKeysUptoRow : OpenClaim := { program := "yteleglkoagnmcaa", sum := "68ae45a5e40730359f0bdda34fed54b8721ac0c5cef45c110cd9af99ed01335a", func := "selfsame/selfsamelaw09.LinkKeys", spec := "linkKeys", unfollowed := true, recurses := true, apart := false, narrowed := true }
def LinkKeysUptoSaid : Prop := linkKeysUptoRow.holds Try.pinned (OpenSpec.upto linkKeysSpec)

/-- 'selfsamelaw09.LinkCalls', WHERE WHAT IT READS IS OF BULK AT MOST 1048576: true; the input reads as it did. -/
def linkCallsUptoRow : OpenClaim := { program := "yteleglkoagnmcaa", sum := "68ae45a5e40730359f0bdda34fed54b8721ac0c5cef45c110cd9af99ed01335a", func := "selfsame/selfsamelaw09.LinkCalls", spec := "linkCalls", unfollowed := true, recurses := true, apart := false, narrowed := true }
def LinkCallsUptoSaid : Prop := linkCallsUptoRow.holds Try.pinned (OpenSpec.upto linkCallsSpec)

/-- 'selfsamelaw09.LinkNil', WHERE WHAT IT READS IS OF BULK AT MOST 1048576: true; the input reads as it did. -/
def linkNilUptoRow : OpenClaim := { program := "yteleglkoagnmcaa", sum := "68ae45a5e40730359f0bdda34fed54b8721ac0c5cef45c110cd9af99ed01335a", func := "selfsame/selfsamelaw09.LinkNil", spec := "linkNil", unfollowed := true, recurses := true, apart := false, narrowed := true }
def LinkNilUptoSaid : Prop := linkNilUptoRow.holds Try.pinned (OpenSpec.upto linkNilSpec)

/-- 'selfsamelaw09.LinkAlone', WHERE WHAT IT READS IS OF BULK AT MOST 1048576: true; the input reads as it did. -/
def linkAloneUptoRow : OpenClaim := { program := "yteleglkoagnmcaa", sum := "68ae45a5e40730359f0bdda34fed54b8721ac0c5cef45c110cd9af99ed01335a", func := "selfsame/selfsamelaw09.LinkAlone", spec := "linkAlone", unfollowed := true, recurses := true, apart := false, narrowed := true }
def LinkAloneUptoSaid : Prop := linkAloneUptoRow.holds Try.pinned (OpenSpec.upto linkAloneSpec)

/-- 'selfsamelaw09.LinkLays', WHERE WHAT IT READS IS OF BULK AT MOST 1048576: true; the input reads as it did. -/
def linkLaysUptoRow : OpenClaim := { program := "yteleglkoagnmcaa", sum := "68ae45a5e40730359f0bdda34fed54b8721ac0c5cef45c110cd9af99ed01335a", func := "selfsame/selfsamelaw09.LinkLays", spec := "linkLays", unfollowed := true, recurses := true, apart := false, narrowed := true }
def LinkLaysUptoSaid : Prop := linkLaysUptoRow.holds Try.pinned (OpenSpec.upto linkLaysSpec)

end Rows
end Go.Proofs.Yteleglkoagnmcaa
