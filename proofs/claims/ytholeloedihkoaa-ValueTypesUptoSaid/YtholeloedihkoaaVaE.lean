/- What is proved: what value's functions answer of a type, of a variable, that is not there; Scalar, find, Offset. Conditions: the memory holds the types. -/
import Derived.Test.YtholeloedihkoaaVaB
import Derived.Laws.ResultCell
set_option linter.unusedSimpArgs false
set_option linter.unusedVariables false
namespace Go.Proofs.Ytholeloedihkoaa
open Go.RowKit
abbrev VT : TypeId := 77
section
variable {lo : Nat} {w w' : World} {b : Nat} {T : Ti}
/-- a variable that is not there -/
def NoV (w : World) (v : Value) : Prop := v = .pointer none ∨ ∃ b, v = ptr b ∧ Blk w b VT #[.pointer none, .int .u32 0, .pointer none, .slice none 0 0]
theorem NoV.quiet {v : Value} (h : NoV w v) (hc : Chg NoB w w') : NoV w' v := by
  rcases h with rfl | ⟨b, rfl, hb⟩
  · exact .inl rfl
  · exact .inr ⟨b, rfl, hb.chg hc id⟩
theorem vthere_no {v : Value} (h : NoV w v) : Calls Try.prog 49 #[v] w fun e w' => e = .returned (.bool false) ∧ w = w' := by
  rcases h with rfl | ⟨b, rfl, hb⟩
  · go_enter Try.func49, Try.ntmps49
    go_wp2_with fail
    go_ret
    exact ⟨rfl, rfl⟩
  · have c0 : w.cell? ⟨b, 0, none⟩ = some (.pointer none) := hb.cell 0
    clear hb
    unfold ptr
    go_enter Try.func49, Try.ntmps49
    go_wp2_with fail
    go_ret
    exact ⟨rfl, rfl⟩
theorem scalar_no {v : Value} (h : NoT w v) : Calls Try.prog 38 #[v] w fun e w' => e = .returned (.bool false) ∧ w = w' := by
  have Hth := Go.Lib.hid (there_no h)
  clear h
  go_enter Try.func38, Try.ntmps38
  go_wp2_with fail
  refine Hth.out.mono ?_
  rintro e w1 ⟨rfl, rfl⟩
  go_wp2_with fail
  go_ret
  exact ⟨rfl, rfl⟩
theorem find_no {v : Value} (h : NoT w v) (s : ByteArray) : Calls Try.prog 50 #[v, .string s] w fun e w' => e = .returned (.tuple #[.int .i64 0, .int .i64 1]) ∧ w = w' := by
  have Hth := Go.Lib.hid (there_no h)
  clear h
  go_enter Try.func50, Try.ntmps50
  go_wp2_with fail
  refine Hth.out.mono ?_
  rintro e w1 ⟨rfl, rfl⟩
  go_wp2_with fail
  go_ret2
  exact ⟨rfl, rfl⟩
theorem offset_no {v : Value} (h : NoT w v) (s : ByteArray) : Calls Try.prog 29 #[v, .string s] w fun e w' => e = .returned (.tuple #[.int .i64 0, .int .i64 1]) ∧ w = w' := by
  have Hth := Go.Lib.hid (find_no h s)
  clear h
  go_enter Try.func29, Try.ntmps29
  go_wp2_with fail
  refine Hth.out.mono ?_
  rintro e w1 ⟨rfl, rfl⟩
  go_wp2_with fail
  go_ret2
  exact ⟨rfl, rfl⟩
theorem new_no {v : Value} (h : NoT w v) : Calls Try.prog 16 #[v] w fun e w' => e = .returned (.tuple #[.pointer none, .int .i64 1]) ∧ w = w' := by
  have Hth := Go.Lib.hid (there_no h)
  clear h
  go_enter Try.func16, Try.ntmps16
  go_wp2_with fail
  refine Hth.out.mono ?_
  rintro e w1 ⟨rfl, rfl⟩
  go_wp2_with fail
  go_ret2
  exact ⟨rfl, rfl⟩
theorem fit_no {v : Value} (h : NoT w v) (x : Int) : Calls Try.prog 48 #[v, .int .u32 x] w fun e w' => e = .returned (.int .u32 0) ∧ w = w' := by
  have Hth := Go.Lib.hid (kind_no h)
  clear h
  go_enter Try.func48, Try.ntmps48
  go_wp2_with fail
  refine Hth.out.mono ?_
  rintro e w1 ⟨rfl, rfl⟩
  go_wp2_with fail
  go_ret
  exact ⟨rfl, rfl⟩
theorem elem_no {v : Value} (h : NoV w v) (x : Int) : Calls Try.prog 24 #[v, .int .i64 x] w fun e w' => e = .returned (.tuple #[.pointer none, .int .i64 1]) ∧ w = w' := by
  have Hth := Go.Lib.hid (vthere_no h)
  clear h
  go_enter Try.func24, Try.ntmps24
  go_wp2_with fail
  refine Hth.out.mono ?_
  rintro e w1 ⟨rfl, rfl⟩
  go_wp2_with fail
  go_ret2
  exact ⟨rfl, rfl⟩
theorem field_no {v : Value} (h : NoV w v) (s : ByteArray) : Calls Try.prog 20 #[v, .string s] w fun e w' => e = .returned (.tuple #[.pointer none, .int .i64 1]) ∧ w = w' := by
  have Hth := Go.Lib.hid (vthere_no h)
  clear h
  go_enter Try.func20, Try.ntmps20
  go_wp2_with fail
  refine Hth.out.mono ?_
  rintro e w1 ⟨rfl, rfl⟩
  go_wp2_with fail
  go_ret2
  exact ⟨rfl, rfl⟩
theorem get_no {v : Value} (h : NoV w v) : Calls Try.prog 19 #[v] w (Quiet (.tuple #[(.agg #[.int .u32 0, .pointer none]), .int .i64 1]) w) := by
  have Hth := Go.Lib.hid (fun W (hW : Chg NoB w W) => vthere_no (h.quiet hW))
  clear h
  go_enter Try.func19, Try.ntmps19
  go_wp2_with fail
  refine (Hth.out _ ((Chg.refl NoB w).alloc _)).mono ?_
  rintro e w1 ⟨rfl, rfl⟩
  go_wp2_with fail
  try simp only [Exit.inBlock, Exit.then]
  refine bodyPost_ret (v := .tuple #[(.agg #[.int .u32 0, .pointer none]), .int .i64 1]) ?_ rfl ?_
  · rw [results_cell_tmp rfl]
    go_simp
  exact ⟨rfl, (Chg.refl NoB w).alloc _⟩
theorem set_no {v : Value} (h : NoV w v) (x : Int) (y : Option Addr) : Calls Try.prog 18 #[v, .agg #[.int .u32 x, .pointer y]] w (Quiet (.int .i64 1) w) := by
  have Hth := Go.Lib.hid (fun W (hW : Chg NoB w W) => get_no (h.quiet hW))
  clear h
  go_enter Try.func18, Try.ntmps18
  go_wp2_with fail
  refine (Hth.out _ ((Chg.refl NoB w).alloc _)).mono ?_
  rintro e w1 ⟨rfl, hc⟩
  have HC := Go.Lib.hid hc
  clear hc
  go_wp2_with fail
  go_ret
  exact ⟨rfl, (((Chg.refl NoB w).alloc _).trans HC.out).alloc _⟩
theorem type_no {v : Value} (h : NoV w v) : Calls Try.prog 53 #[v] w fun e w' => e = .returned (.pointer none) ∧ w = w' := by
  have Hth := Go.Lib.hid (vthere_no h)
  clear h
  go_enter Try.func53, Try.ntmps53
  go_wp2_with fail
  refine Hth.out.mono ?_
  rintro e w1 ⟨rfl, rfl⟩
  go_wp2_with fail
  go_ret
  exact ⟨rfl, rfl⟩
theorem bytes_no {v : Value} (h : NoV w v) : Calls Try.prog 21 #[v] w fun e w' => e = .returned (.slice none 0 0) ∧ w = w' := by
  have Hth := Go.Lib.hid (vthere_no h)
  clear h
  go_enter Try.func21, Try.ntmps21
  go_wp2_with fail
  refine Hth.out.mono ?_
  rintro e w1 ⟨rfl, rfl⟩
  go_wp2_with fail
  go_ret
  exact ⟨rfl, rfl⟩
/-! ### Fields -/
theorem fields_c (a : Option Addr) (w : World) : Calls Try.prog 40 #[.pointer a] w fun e w' => ∃ p, e = .returned (.func (.func 55) #[] #[ptr p]) ∧ Blk w' p 28 #[.pointer a] ∧ Chg NoB w w' ∧ w.heap.size ≤ p := by
  go_enter Try.func40, Try.ntmps40
  go_wp2_with fail
  go_ret
  exact ⟨_, rfl, Blk.new _ _ _, (Chg.refl NoB w).alloc _, Nat.le_refl _⟩
theorem fields1_no {v u : Value} {p : Nat} (h : NoT w v) (hb : Blk w p 28 #[v]) : Calls Try.prog 55 #[u, ptr p] w fun e w' => e = .returned (.tuple #[]) ∧ w = w' := by
  have c0 : w.cell? ⟨p, 0, none⟩ = some v := hb.cell 0
  have Hth := Go.Lib.hid (there_no h)
  clear h hb
  unfold ptr
  go_enter Try.func55, Try.ntmps55
  go_wp2_with fail
  refine Hth.out.mono ?_
  rintro e w1 ⟨rfl, rfl⟩
  go_wp2_with fail
  try simp only [Exit.inBlock, Exit.then]
  refine bodyPost_ret (results_none rfl _ _ _) rfl ?_
  exact ⟨rfl, rfl⟩
end
end Go.Proofs.Ytholeloedihkoaa
