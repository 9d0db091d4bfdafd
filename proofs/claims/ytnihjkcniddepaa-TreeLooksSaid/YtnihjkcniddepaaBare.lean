/- What is proved: the contract of tree's bare. Conditions: the library's variable holds a number. -/
import Derived.Test.YtnihjkcniddepaaName
import Derived.Test.YtnihjkcniddepaaTree
import Derived.Outline
namespace Go.Proofs.Ytnihjkcniddepaa
open Go.RowKit
def hasP (parts : ByteArray) (c : UInt8) : Bool := Lib.contains parts.data.toList [c]
theorem has_c (parts : ByteArray) (hs : parts.size < 100) (g : Nat) (c : UInt8) (m : Int) (w : World) (hm : w.cell? ⟨0, 0, none⟩ = some (.int .i64 m)) (hg : w.cell? ⟨g, 0, none⟩ = some (.string parts)) :
    Calls Try.prog 53 #[.string ⟨#[c]⟩, .pointer (some ⟨g, 0, none⟩)] w fun e w' => e = .returned (.bool (hasP parts c)) ∧ w = w' := by
  have H := Go.Lib.hid (Try.strings_Contains parts ⟨#[c]⟩ m w (by omega) hm)
  clear hm
  go_enter Try.func53, Try.ntmps53
  go_wp2_with fail
  refine H.out.mono ?_
  rintro e w' ⟨rfl, rfl⟩
  go_wp2_with fail
  go_ret
  exact ⟨rfl, rfl⟩
/-- does a node name but these parts? -/
def bareT (d : Own) (kn : Nat) (parts : ByteArray) : Bool :=
  (d.nm.toList.isEmpty || hasP parts 78) && (d.val == 0 || hasP parts 86) && (!d.mark || hasP parts 77) && (((kn : Int) == 0) || hasP parts 75)
theorem var0_block {w : World} {m : Int} (hm : w.cell? ⟨0, 0, none⟩ = some (.int .i64 m)) : 0 < w.heap.size := block_lt_of_cell hm
set_option maxHeartbeats 4000000 in
theorem bare_c (d : Own) (kA : Option Addr) (kn kc : Nat) (hk : kn ≤ maxLen) (parts : ByteArray) (hs : parts.size < 100) (w : World) (hv : Var0 w) :
    Calls Try.prog 38 #[nodeV d kA kn kc, .string parts] w fun e w' => e = .returned (.bool (bareT d kn parts)) ∧ Chg NoB w w' := by
  obtain ⟨m, hm⟩ := hv
  have hb := var0_block hm
  unfold maxLen at hk
  have Hs := Go.Lib.hid hs
  clear hs
  unfold nodeV
  have hz : ∀ (C : Array Value) c, Calls Try.prog 53 #[.string ⟨#[c]⟩, .pointer (some ⟨w.heap.size + 1, 0, none⟩)] ((w.alloc (.cells C 28)).alloc (.cells #[.string parts] 9)) fun e w' => e = .returned (.bool (hasP parts c)) ∧ ((w.alloc (.cells C 28)).alloc (.cells #[.string parts] 9)) = w' :=
    fun C c => has_c parts Hs.out _ c m _ ((((Chg.refl NoB w).alloc _).alloc _).cell hm id) (Blk.cell (by simpa using Blk.new (w.alloc (.cells C 28)) 9 #[.string parts]) 0)
  have Hz := Go.Lib.hid hz
  clear hz hm
  have HC : Hid (∀ (o o' : Obj), Chg NoB w ((w.alloc o).alloc o')) := Go.Lib.hid fun o o' => ((Chg.refl NoB w).alloc o).alloc o'
  go_enter Try.func38, Try.ntmps38
  go_wp2_with (go_at_call 53; refine (Hz.out _ _).mono ?_; rintro e w' ⟨rfl, rfl⟩)
  all_goals
      go_ret
      exact ⟨congrArg (fun b => Ending.returned (.bool b)) (by simp [bareT, *]), HC.out _ _⟩
end Go.Proofs.Ytnihjkcniddepaa
