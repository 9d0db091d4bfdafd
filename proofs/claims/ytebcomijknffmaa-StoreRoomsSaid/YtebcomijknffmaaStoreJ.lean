/- What is proved: the contracts of find, Get, Seek, Delete. Conditions: the memory holds a store. -/
import Derived.Test.YtebcomijknffmaaStoreI
namespace Go.Proofs.Ytebcomijknffmaa
open Go.RowKit
section
variable {base : Nat} {w : World} {s : Nat} {S : Sto}

theorem find_arg (h : StoreAt base w s S) {nm : ByteArray} (hsz : nm.size ≤ maxLen) (hn : mayName nm = false) :
    Calls Try.prog 47 #[ptr s, .string nm] w (Quiet (.tuple #[.pointer none, .int .i64 2]) w) := by
  have Hth := Go.Lib.hid (there_c h)
  have H := Go.Lib.hid h
  have Hsz := Go.Lib.hid hsz
  have Hn := Go.Lib.hid hn
  clear h hsz hn
  unfold ptr at Hth ⊢
  go_enter Try.func47, Try.ntmps47
  go_wp2_with fail
  refine Hth.out.mono ?_
  rintro e w' ⟨rfl, rfl⟩
  go_wp2_with fail
  refine (mayName_c nm Hsz.out w).mono ?_
  rw [Hn.out]
  rintro e w1 ⟨rfl, hc⟩
  have Hc := Go.Lib.hid hc
  clear hc
  go_wp2_with fail
  go_ret2
  exact ⟨rfl, Hc.out⟩

theorem find_none (h : StoreAt base w s S) {nm : ByteArray} (hsz : nm.size ≤ maxLen) (hn : mayName nm = true) (hl : lookD nm S.dir = none) :
    Calls Try.prog 47 #[ptr s, .string nm] w (Quiet (.tuple #[.pointer none, .int .i64 6]) w) := by
  have Hth := Go.Lib.hid (there_c h)
  have H := Go.Lib.hid h
  have Hsz := Go.Lib.hid hsz
  have Hn := Go.Lib.hid hn
  have Hl := Go.Lib.hid hl
  clear h hsz hn hl
  unfold ptr at Hth ⊢
  go_enter Try.func47, Try.ntmps47
  go_wp2_with fail
  refine Hth.out.mono ?_
  rintro e w' ⟨rfl, rfl⟩
  go_wp2_with fail
  refine (mayName_c nm Hsz.out w).mono ?_
  rw [Hn.out]
  rintro e w1 ⟨rfl, hc⟩
  have h1 := H.out.chg hc (fun _ _ => id)
  have hlk := h1.lookup nm
  rw [Hl.out] at hlk
  simp only [Option.map_none, Option.getD_none] at hlk
  have c0 := h1.cell0
  have Hc := Go.Lib.hid hc
  clear h1 hc
  go_wp2_with fail
  go_ret2
  exact ⟨rfl, Hc.out⟩

theorem find_ok (h : StoreAt base w s S) {f : Nat} {nm : ByteArray} (hsz : nm.size ≤ maxLen) (hn : mayName nm = true) (hl : lookD nm S.dir = some f) :
    Calls Try.prog 47 #[ptr s, .string nm] w (Quiet (.tuple #[ptr f, .int .i64 0]) w) := by
  have Hth := Go.Lib.hid (there_c h)
  have H := Go.Lib.hid h
  have Hsz := Go.Lib.hid hsz
  have Hn := Go.Lib.hid hn
  have Hl := Go.Lib.hid hl
  clear h hsz hn hl
  unfold ptr at Hth ⊢
  go_enter Try.func47, Try.ntmps47
  go_wp2_with fail
  refine Hth.out.mono ?_
  rintro e w' ⟨rfl, rfl⟩
  go_wp2_with fail
  refine (mayName_c nm Hsz.out w).mono ?_
  rw [Hn.out]
  rintro e w1 ⟨rfl, hc⟩
  have h1 := H.out.chg hc (fun _ _ => id)
  have hlk := h1.lookup nm
  rw [Hl.out] at hlk
  simp only [Option.map_some, Option.getD_some] at hlk
  have c0 := h1.cell0
  have Hc := Go.Lib.hid hc
  clear h1 hc
  unfold ptr at hlk
  go_wp2_with fail
  go_ret2
  exact ⟨rfl, Hc.out⟩

def GetPost (l : List UInt8) (w : World) (e : Ending) (w' : World) : Prop :=
  ∃ A c, e = .returned (.tuple #[.slice A l.length c, .int .i64 0]) ∧ w'.ownsRow w.heap.size 5 1 (.slice A l.length c) l.length (bv l) ∧ Chg NoB w w'

theorem get_ok (h : StoreAt base w s S) {f : Nat} {x : Fl} {nm : ByteArray} (hsz : nm.size ≤ maxLen) (hn : mayName nm = true) (hl : lookD nm S.dir = some f) (hx : S.fl f = some x) :
    Calls Try.prog 17 #[ptr s, .string nm] w (GetPost x.b w) := by
  have Hf := Go.Lib.hid (find_ok h hsz hn hl)
  have H := Go.Lib.hid h
  have Hx := Go.Lib.hid hx
  have hle : x.b.length ≤ 67108864 := by
    have := h.len_le (f := f) (by unfold Sto.held; exact List.mem_append.2 (.inl (List.mem_map.2 ⟨_, lookD_mem hl, rfl⟩)))
    simpa [Sto.len, hx] using this
  clear h hsz hn hl hx
  unfold ptr at Hf ⊢
  go_enter Try.func17, Try.ntmps17
  go_wp2_with fail
  refine Hf.out.mono ?_
  rintro e w1 ⟨rfl, hc⟩
  have h1 := H.out.chg hc (fun _ _ => id)
  have cf : w1.cell? ⟨f, 0, none⟩ = some (.slice x.A x.b.length x.c) := (h1.flb _ _ Hx.out).cell 0
  have Hcl := Go.Lib.hid (clone_c w1 x.A x.c x.b (by omega) (fun hA => by
    rcases (h1.flo _ _ Hx.out).2 with ⟨hv, h0⟩ | ⟨g, cap, cur, hv, _⟩
    · unfold Fl.v at hv; injection hv with _ _ hc; exact ⟨List.eq_nil_of_length_eq_zero h0, hc⟩
    · unfold Fl.v at hv; rw [hA] at hv; cases hv) (CellsAt.of_own (h1.flo _ _ Hx.out)))
  have Hc := Go.Lib.hid hc
  clear h1 hc
  go_wp2_with fail
  refine Hcl.out.mono ?_
  rintro e w2 ⟨v, rfl, ho, hc2⟩
  obtain ⟨A, c, rfl⟩ := own_slice ho
  have Hp : Hid (GetPost x.b w (.returned (.tuple #[.slice A x.b.length c, .int .i64 0])) w2) :=
    Go.Lib.hid ⟨A, c, rfl, ⟨ho.1, by
      rcases ho.2 with h | ⟨g, cap, cur, h1, h2, h3⟩
      · exact .inl h
      · exact .inr ⟨g, cap, cur, h1, Nat.le_trans Hc.out.size h2, h3⟩⟩, Hc.out.trans hc2⟩
  clear ho hc2
  go_wp2_with fail
  go_ret2
  exact Hp.out

theorem get_no (h : StoreAt base w s S) {nm : ByteArray} (hsz : nm.size ≤ maxLen) {n : Int} (hn : mayName nm = false ∧ n = 2 ∨ mayName nm = true ∧ lookD nm S.dir = none ∧ n = 6) :
    Calls Try.prog 17 #[ptr s, .string nm] w (Quiet (.tuple #[.slice none 0 0, .int .i64 n]) w) := by
  have hf : Calls Try.prog 47 #[ptr s, .string nm] w (Quiet (.tuple #[.pointer none, .int .i64 n]) w) := by
    rcases hn with ⟨hn, rfl⟩ | ⟨hn, hl, rfl⟩
    · exact find_arg h hsz hn
    · exact find_none h hsz hn hl
  have Hf := Go.Lib.hid hf
  have d : (n != 0) = true := by rcases hn with ⟨_, rfl⟩ | ⟨_, _, rfl⟩ <;> rfl
  clear h hsz hn hf
  unfold ptr at Hf ⊢
  go_enter Try.func17, Try.ntmps17
  go_wp2_with fail
  refine Hf.out.mono ?_
  rintro e w1 ⟨rfl, hc⟩
  have Hc := Go.Lib.hid hc
  clear hc
  go_wp2_with fail
  go_ret2
  exact ⟨rfl, Hc.out⟩
end
end Go.Proofs.Ytebcomijknffmaa
