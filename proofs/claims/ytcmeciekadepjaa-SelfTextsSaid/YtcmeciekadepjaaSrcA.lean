/- What is proved: the sources that the program holds, and what Source and Modules answer. Conditions: none. -/
import Derived.Test.YtcmeciekadepjaaProg
import Derived.Test.YtcmeciekadepjaaHeap
import Derived.WalkKit
namespace Go.Proofs.Ytcmeciekadepjaa
open Go.RowKit
/-- the long texts among a code's constants -/
def longs : Code → List ByteArray
  | .region _ ops _ => ops.toList.filterMap fun o => match o.op with
    | .assign (.const (.string b)) => if b.size > 100 then some b else none
    | _ => none
  | .seq a b => longs a ++ longs b
  | .block _ c => longs c
  | .scope c => longs c
  | .loop c => longs c
  | .cond _ a b => longs a ++ longs b
  | _ => []
noncomputable def src (i : Nat) : ByteArray := (((Try.f6.body.map longs).getD [])[i]?).getD ⟨#[]⟩
noncomputable def frameOf (r : Stepped) : Frame := match r with
  | .next m => ((m.gs[0]?).map (·.frame)).getD (Frame.enter Try.prog 0 #[] .normal)
  | _ => Frame.enter Try.prog 0 #[] .normal
theorem calls_runN {f : FuncId} {args : Array Value} {w : World} {v : Value} (n : Nat) (h : ∀ cs, runN Try.prog n (lone (Frame.enter Try.prog f args .normal) cs w) = .next (lone (frameOf (runN Try.prog n (lone (Frame.enter Try.prog f args .normal) cs w))) cs w)
   ∧ (frameOf (runN Try.prog n (lone (Frame.enter Try.prog f args .normal) cs w))).fn = f ∧ (frameOf (runN Try.prog n (lone (Frame.enter Try.prog f args .normal) cs w))).leaving Try.prog w (.returned v)) :
   Calls Try.prog f args w fun e w' => e = .returned v ∧ w = w' := fun cs => ⟨.returned v, w, _, ⟨rfl, rfl⟩, ⟨n, (h cs).1⟩, (h cs).2.1, (h cs).2.2⟩
theorem src_sizes : (List.range 5).all (fun i => decide (10 ≤ (src i).size) && decide ((src i).size ≤ 65535)) = true := by decide +kernel
def nmB : List ByteArray := [⟨#[83, 99, 97, 110]⟩, ⟨#[66, 97, 115, 101]⟩, ⟨#[71, 101, 110]⟩, ⟨#[80, 97, 114, 115, 101]⟩, ⟨#[77, 97, 105, 110]⟩]
theorem src_0 (w : World) : Calls Try.prog 6 #[.string ⟨#[83, 99, 97, 110]⟩] w fun e w' => e = .returned (.tuple #[.string (src 0), .bool true]) ∧ w = w' :=
  calls_runN 23 fun cs => ⟨by kernel_rfl, by kernel_rfl, by kernel_rfl, by kernel_rfl, by kernel_rfl, Try.f6, by kernel_rfl, by kernel_rfl⟩
theorem src_1 (w : World) : Calls Try.prog 6 #[.string ⟨#[66, 97, 115, 101]⟩] w fun e w' => e = .returned (.tuple #[.string (src 1), .bool true]) ∧ w = w' :=
  calls_runN 29 fun cs => ⟨by kernel_rfl, by kernel_rfl, by kernel_rfl, by kernel_rfl, by kernel_rfl, Try.f6, by kernel_rfl, by kernel_rfl⟩
theorem src_2 (w : World) : Calls Try.prog 6 #[.string ⟨#[71, 101, 110]⟩] w fun e w' => e = .returned (.tuple #[.string (src 2), .bool true]) ∧ w = w' :=
  calls_runN 35 fun cs => ⟨by kernel_rfl, by kernel_rfl, by kernel_rfl, by kernel_rfl, by kernel_rfl, Try.f6, by kernel_rfl, by kernel_rfl⟩
theorem src_3 (w : World) : Calls Try.prog 6 #[.string ⟨#[80, 97, 114, 115, 101]⟩] w fun e w' => e = .returned (.tuple #[.string (src 3), .bool true]) ∧ w = w' :=
  calls_runN 41 fun cs => ⟨by kernel_rfl, by kernel_rfl, by kernel_rfl, by kernel_rfl, by kernel_rfl, Try.f6, by kernel_rfl, by kernel_rfl⟩
theorem src_4 (w : World) : Calls Try.prog 6 #[.string ⟨#[77, 97, 105, 110]⟩] w fun e w' => e = .returned (.tuple #[.string (src 4), .bool true]) ∧ w = w' :=
  calls_runN 47 fun cs => ⟨by kernel_rfl, by kernel_rfl, by kernel_rfl, by kernel_rfl, by kernel_rfl, Try.f6, by kernel_rfl, by kernel_rfl⟩
theorem mods_c (w : World) : Calls Try.prog 5 #[] w fun e w' => e = .returned (.slice (some ⟨w.heap.size, 0, none⟩) 5 5) ∧ w' = w.alloc (.cells (nmB.map Value.string).toArray 9) := by
  go_enter Try.func5, Try.ntmps5
  go_wp2_with fail
  go_ret
  exact ⟨rfl, rfl⟩
end Go.Proofs.Ytcmeciekadepjaa
