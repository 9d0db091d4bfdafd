/-
  No cell of these rows narrows 'for every input' (looked for: loops, veiled, ifaces, maps, wideKeys, modest, calm, conditions, laid).
  DERIVED. THE GIVEN ROWS OF THIS SEAT. 3 by the template 'for every input the law returns true; each argument reads behind the call as it read before'; 0 by the template 'total and deterministic' (their statements: YtggknljlibhkjaaTotals.lean).
  GIVEN WITH THE SEED: the statements are not yours to turn. If you find one false, say at which input.
  Laid BY PROGRAM, IN A SANDBOX (cutbox-rows.mjs): the forced cells as the released guide's own fill.sh prints them over the translation d7890933774b682e… (all of the seat's roots in one cut). By AI agents, Wed Nov 11 2026. No macro, syntax, notation, axiom, sorry.
-/
import Derived.Test.YtggknljlibhkjaaChecked
import GoSem.Claim
import GoSem.ClaimJoined
import GoSem.ClaimMapViews
import Derived.JoinedTies
import Derived.KernelRfl
namespace Go.Proofs.Ytggknljlibhkjaa
/- THE CELL 'sum', in the pinned program and in every row, IS THE sha256 OF THE DUMP (.gsa) THAT YtggknljlibhkjaaProg.lean LOADS. Nothing in Lean hashes anything: it is a label: what it is worth is what the hold of that sum in a sandbox is worth. -/
noncomputable def Try.pinned : Pinned := { name := "ytggknljlibhkjaa", sum := "d7890933774b682e2e2be6c9cb05af97575f969c41b0f2ca0fa91ba8b007479e", checked := Try.checked }
namespace Rows
def none {H : Type} : Left H := { results := [], args := [] }

/-- 'selfsamelaw05.MachineFresh': WHATEVER THE INPUT: true; the input reads as it did. -/
def machineFreshSpec : ChangeSpec := { name := "machineFresh", fn := fun _ => fun
  | [d1, d2, d3] => { results := [.lit (.bool true)], args := [d1, d2, d3] }
  | _ => none }
def machineFreshRow : OpenClaim := { program := "ytggknljlibhkjaa", sum := "d7890933774b682e2e2be6c9cb05af97575f969c41b0f2ca0fa91ba8b007479e", func := "selfsame/selfsamelaw05.MachineFresh", spec := "machineFresh", unfollowed := true, recurses := true, apart := false }
def MachineFreshSaid : Prop := machineFreshRow.holds Try.pinned (OpenSpec.ofChange machineFreshSpec)

/-- ITS FALSE NEIGHBOUR: 'it returns false'. Refute it at one input. -/
def machineFreshWrong : ChangeSpec := { name := "machineFresh", fn := fun _ => fun
  | [d1, d2, d3] => { results := [.lit (.bool false)], args := [d1, d2, d3] }
  | _ => none }
def MachineFreshWrongFalsely : Prop := machineFreshRow.holds Try.pinned (OpenSpec.ofChange machineFreshWrong)

/-- 'selfsamelaw05.MachineStores': WHATEVER THE INPUT: true; the input reads as it did. -/
def machineStoresSpec : ChangeSpec := { name := "machineStores", fn := fun _ => fun
  | [d1, d2, d3, d4, d5] => { results := [.lit (.bool true)], args := [d1, d2, d3, d4, d5] }
  | _ => none }
def machineStoresRow : OpenClaim := { program := "ytggknljlibhkjaa", sum := "d7890933774b682e2e2be6c9cb05af97575f969c41b0f2ca0fa91ba8b007479e", func := "selfsame/selfsamelaw05.MachineStores", spec := "machineStores", unfollowed := true, recurses := true, apart := false }
def MachineStoresSaid : Prop := machineStoresRow.holds Try.pinned (OpenSpec.ofChange machineStoresSpec)

/-- ITS FALSE NEIGHBOUR: 'it returns false'. Refute it at one input. -/
def machineStoresWrong : ChangeSpec := { name := "machineStores", fn := fun _ => fun
  | [d1, d2, d3, d4, d5] => { results := [.lit (.bool false)], args := [d1, d2, d3, d4, d5] }
  | _ => none }
def MachineStoresWrongFalsely : Prop := machineStoresRow.holds Try.pinned (OpenSpec.ofChange machineStoresWrong)

/-- 'selfsamelaw05.MachineNil': WHATEVER THE INPUT: true; the input reads as it did. -/
def machineNilSpec : ChangeSpec := { name := "machineNil", fn := fun _ => fun
  | [] => { results := [.lit (.bool true)], args := [] }
  | _ => none }
def machineNilRow : OpenClaim := { program := "ytggknljlibhkjaa", sum := "d7890933774b682e2e2be6c9cb05af97575f969c41b0f2ca0fa91ba8b007479e", func := "selfsame/selfsamelaw05.MachineNil", spec := "machineNil", unfollowed := true, recurses := true, apart := false }
def MachineNilSaid : Prop := machineNilRow.holds Try.pinned (OpenSpec.ofChange machineNilSpec)

/-- ITS FALSE NEIGHBOUR: 'it returns false'. Refute it at one input. -/
def machineNilWrong : ChangeSpec := { name := "machineNil", fn := fun _ => fun
  | [] => { results := [.lit (.bool false)], args := [] }
  | _ => none }
def MachineNilWrongFalsely : Prop := machineNilRow.holds Try.pinned (OpenSpec.ofChange machineNilWrong)

/- THE SECOND FORM. 'bulk': how many values and letters a reading holds, each counted each time it is reached (what is shared counts as often as it is met; a slice's spare places count too). A statement '..UptoSaid' is the law's where the arguments, and the package variables that the reading takes, are together of bulk at most 1048576: NARROWER than '..Said'. Prove '..Said' where nothing that the law and all that it calls make is longer than what came in: it says more and counts as full. Else prove '..UptoSaid'. A law counts once. -/
mutual
def uptoBulk {H : Type} : DataW H → Nat
  | .lit (.string bytes) => bytes.length + 1
  | .lit _ => 1
  | .nil => 1
  | .ptr d => uptoBulk d + 1
  | .slice elems spare => uptoBulkAll elems + uptoBulkAll spare + 1
  | .agg parts => uptoBulkAll parts + 1
  | .iface _ d => uptoBulk d + 1
  | .map entries => uptoBulkEntries entries + 1
  | .held _ => 1
def uptoBulkAll {H : Type} : List (DataW H) → Nat
  | [] => 0
  | d :: r => uptoBulk d + uptoBulkAll r
def uptoBulkEntries {H : Type} : List (Lit × DataW H) → Nat
  | [] => 0
  | x :: r => uptoBulkEntry x + uptoBulkEntries r
def uptoBulkEntry {H : Type} : Lit × DataW H → Nat
  | (.string bytes, d) => bytes.length + uptoBulk d + 1
  | (_, d) => uptoBulk d + 1
 end
def uptoSmall : (H : Type) → List (DataW H) → Bool := fun _ ds => decide (uptoBulkAll ds ≤ 1048576)
def OpenSpec.upto (s : _root_.Go.ChangeSpec) : _root_.Go.OpenSpec := { _root_.Go.OpenSpec.ofChange s with cond := some uptoSmall }

/-- 'selfsamelaw05.MachineFresh', WHERE WHAT IT READS IS OF BULK AT MOST 1048576: true; the input reads as it did. -/
def machineFreshUptoRow : OpenClaim := { program := "ytggknljlibhkjaa", sum := "d7890933774b682e2e2be6c9cb05af97575f969c41b0f2ca0fa91ba8b007479e", func := "selfsame/selfsamelaw05.MachineFresh", spec := "machineFresh", unfollowed := true, recurses := true, apart := false, narrowed := true }
def MachineFreshUptoSaid : Prop := machineFreshUptoRow.holds Try.pinned (OpenSpec.upto machineFreshSpec)

/-- 'selfsamelaw05.MachineStores', WHERE WHAT IT READS IS OF BULK AT MOST 1048576: true; the input reads as it did. -/
def machineStoresUptoRow : OpenClaim := { program := "ytggknljlibhkjaa", sum := "d7890933774b682e2e2be6c9cb05af97575f969c41b0f2ca0fa91ba8b007479e", func := "selfsame/selfsamelaw05.MachineStores", spec := "machineStores", unfollowed := true, recurses := true, apart := false, narrowed := true }
def MachineStoresUptoSaid : Prop := machineStoresUptoRow.holds Try.pinned (OpenSpec.upto machineStoresSpec)

/-- 'selfsamelaw05.MachineNil', WHERE WHAT IT READS IS OF BULK AT MOST 1048576: true; the input reads as it did. -/
def machineNilUptoRow : OpenClaim := { program := "ytggknljlibhkjaa", sum := "d7890933774b682e2e2be6c9cb05af97575f969c41b0f2ca0fa91ba8b007479e", func := "selfsame/selfsamelaw05.MachineNil", spec := "machineNil", unfollowed := true, recurses := true, apart := false, narrowed := true }
def MachineNilUptoSaid : Prop := machineNilUptoRow.holds Try.pinned (OpenSpec.upto machineNilSpec)

end Rows
end Go.Proofs.Ytggknljlibhkjaa
