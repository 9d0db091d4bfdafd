/- What is proved: the contracts of find, Get, Seek, Delete. Conditions: the memory holds a store. -/
import Derived.Test.YtggknljlibhkjaaStoreI
namespace Go.Proofs.Ytggknljlibhkjaa
open Go.RowKit
section
variable {base : Nat} {w : World} {s : Nat} {S : Sto}

theorem find_arg (h : StoreAt base w s S) {nm : ByteArray} (hsz : nm.size ≤ maxLen) (hn : mayName nm = false) :
    Calls Try.prog 51 #[ptr s, .string nm] w (Quiet (.tuple #[.pointer none, .int .i64 2]) w) := by
  have Hth := Go.Lib.hid (there_c h)
  have H := Go.Lib.hid h
  have Hsz := Go.Lib.hid hsz
  have Hn := Go.Lib.hid hn
  clear h hsz hn
  unfold ptr at Hth ⊢
  go_enter Try.func51, Try.ntmps51
  go_wp2_with fail
  refine Hth.out.mono ?_
  rintro e w' ⟨rfl, rfl⟩
  go_wp2_with fail
  refine (mayName_c nm Hsz.out w).mono ?_
  rw [Hn.out]
  rintro e w1 ⟨rfl, hc⟩
  have Hc := Go.Lib.hid hc
  clear hc
  go_wp2_with fail
  go_ret2
  exact ⟨rfl, Hc.out⟩

theorem find_none (h : StoreAt base w s S) {nm : ByteArray} (hsz : nm.size ≤ maxLen) (hn : mayName nm = true) (hl : lookD nm S.dir = none) :
    Calls Try.prog 51 #[ptr s, .string nm] w (Quiet (.tuple #[.pointer none, .int .i64 6]) w) := by
  have Hth := Go.Lib.hid (there_c h)
  have H := Go.Lib.hid h
  have Hsz := Go.Lib.hid hsz
  have Hn := Go.Lib.hid hn
  have Hl := Go.Lib.hid hl
  clear h hsz hn hl
  unfold ptr at Hth ⊢
  go_enter Try.func51, Try.ntmps51
  go_wp2_with fail
  refine Hth.out.mono ?_
  rintro e w' ⟨rfl, rfl⟩
  go_wp2_with fail
  refine (mayName_c nm Hsz.out w).mono ?_
  rw [Hn.out]
  rintro e w1 ⟨rfl, hc⟩
  have h1 := H.out.chg hc (fun _ _ => id)
  have hlk := h1.lookup nm
  rw [Hl.out] at hlk
  simp only [Option.map_none, Option.getD_none] at hlk
  have c0 := h1.cell0
  have Hc := Go.Lib.hid hc
  clear h1 hc
  go_wp2_with fail
  go_ret2
  exact ⟨rfl, Hc.out⟩

theorem find_ok (h : StoreAt base w s S) {f : Nat} {nm : ByteArray} (hsz : nm.size ≤ maxLen) (hn : mayName nm = true) (hl : lookD nm S.dir = some f) :
    Calls Try.prog 51 #[ptr s, .string nm] w (Quiet (.tuple #[ptr f, .int .i64 0]) w) := by
  have Hth := Go.Lib.hid (there_c h)
  have H := Go.Lib.hid h
  have Hsz := Go.Lib.hid hsz
  have Hn := Go.Lib.hid hn
  have Hl := Go.Lib.hid hl
  clear h hsz hn hl
  unfold ptr at Hth ⊢
  go_enter Try.func51, Try.ntmps51
  go_wp2_with fail
  refine Hth.out.mono ?_
  rintro e w' ⟨rfl, rfl⟩
  go_wp2_with fail
  refine (mayName_c nm Hsz.out w).mono ?_
  rw [Hn.out]
  rintro e w1 ⟨rfl, hc⟩
  have h1 := H.out.chg hc (fun _ _ => id)
  have hlk := h1.lookup nm
  rw [Hl.out] at hlk
  simp only [Option.map_some, Option.getD_some] at hlk
  have c0 := h1.cell0
  have Hc := Go.Lib.hid hc
  clear h1 hc
  unfold ptr at hlk
  go_wp2_with fail
  go_ret2
  exact ⟨rfl, Hc.out⟩

def GetPost (l : List UInt8) (w : World) (e : Ending) (w' : World) : Prop :=
  ∃ A c, e = .returned (.tuple #[.slice A l.length c, .int .i64 0]) ∧ w'.ownsRow w.heap.size 5 1 (.slice A l.length c) l.length (bv l) ∧ Chg NoB w w'

end
end Go.Proofs.Ytggknljlibhkjaa
