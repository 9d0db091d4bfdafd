/- What is proved: the small known play answers yes. Conditions: none. -/
import Derived.Test.YtlglnebnldmceaaStoreX
set_option linter.unusedSimpArgs false
set_option linter.unusedVariables false
namespace Go.Proofs.Ytlglnebnldmceaa
open Go.RowKit

def Yes (w : World) (e : Ending) (w' : World) : Prop := e = .returned (.bool true) ∧ Chg NoB w w'

theorem known_c (w0 : World) : Calls Try.prog 6 #[] w0 (Yes w0) := by
  go_enter Try.func6, Try.ntmps6
  have H0 := Go.Lib.hid (new_k 9 (by decide) w0)
  go_wp2_with fail
  refine H0.out.mono ?_
  rintro e w1 ⟨s, rfl, h⟩
  clear H0
  have H1 := Go.Lib.hid (show Calls _ _ _ _ (KPost w0 s (.int .i64 1) kv1) from known_1 ▸ fresh_k h nmA (by decide))
  clear h
  unfold ptr
  have N := Go.Lib.hid num_c
  go_wp2_with fail
  refine (N.out _ _).mono ?_
  rintro e w1' ⟨rfl, rfl⟩
  unfold ptr nmA at H1
  go_wp2_with fail
  refine H1.out.mono ?_
  rintro e w2 ⟨rfl, h⟩
  clear H1
  have H2 := Go.Lib.hid (show Calls _ _ _ _ (KPost w0 s (.int .i64 0) kv2) from known_2 ▸ write_k h 1 7)
  clear h
  unfold ptr at H2
  go_wp2_with fail
  refine H2.out.mono ?_
  rintro e w3 ⟨rfl, h⟩
  clear H2
  have H3 := Go.Lib.hid (show Calls _ _ _ _ (KPost w0 s (.int .i64 0) kv2) from known_3 ▸ old_k h nmA (by decide))
  clear h
  unfold ptr nmA at H3
  go_wp2_with fail
  refine H3.out.mono ?_
  rintro e w4 ⟨rfl, h⟩
  clear H3
  have H4 := Go.Lib.hid (show Calls _ _ _ _ (KPost w0 s (.int .i64 0) kv3) from known_4 ▸ register_k h 1)
  clear h
  unfold ptr at H4
  go_wp2_with fail
  refine H4.out.mono ?_
  rintro e w5 ⟨rfl, h⟩
  clear H4
  have H5 := Go.Lib.hid (show Calls _ _ _ _ (KPost w0 s (.int .i64 2) kv4) from known_5 ▸ old_k h nmA (by decide))
  clear h
  unfold ptr nmA at H5
  go_wp2_with fail
  refine H5.out.mono ?_
  rintro e w6 ⟨rfl, h⟩
  clear H5
  have H6 := Go.Lib.hid (show Calls _ _ _ _ (KPost w0 s (.int .u8 7) kv5) from known_6 ▸ read_k h 2)
  clear h
  unfold ptr at H6
  go_wp2_with fail
  refine H6.out.mono ?_
  rintro e w7 ⟨rfl, h⟩
  clear H6
  have H7 := Go.Lib.hid (show Calls _ _ _ _ (KPost w0 s (.bool true) kv5) from known_7 ▸ eof_k h 2)
  clear h
  unfold ptr at H7
  go_wp2_with fail
  refine H7.out.mono ?_
  rintro e w8 ⟨rfl, h⟩
  clear H7
  have H8 := Go.Lib.hid (show Calls _ _ _ _ (KPost w0 s (.int .i64 0) kv6) from known_8 ▸ writeWord_k h 2 258 (by decide))
  clear h
  unfold ptr at H8
  go_wp2_with fail
  refine H8.out.mono ?_
  rintro e w9 ⟨rfl, h⟩
  clear H8
  have H9 := Go.Lib.hid (show Calls _ _ _ _ (KPost w0 s (.int .i64 5) kv6) from known_9 ▸ length_k h 1)
  clear h
  unfold ptr at H9
  go_wp2_with fail
  refine H9.out.mono ?_
  rintro e w10 ⟨rfl, h⟩
  clear H9
  have H10 := Go.Lib.hid (show Calls _ _ _ _ (KPost w0 s (.tuple #[]) kv7) from known_10 ▸ seek_k h 1 2 (by decide))
  clear h
  unfold ptr at H10
  go_wp2_with fail
  refine H10.out.mono ?_
  rintro e w11 ⟨rfl, h⟩
  clear H10
  have H11 := Go.Lib.hid (show Calls _ _ _ _ (KPost w0 s (.int .u8 1) kv8) from known_11 ▸ read_k h 1)
  clear h
  unfold ptr at H11
  go_wp2_with fail
  refine (N.out _ _).mono ?_
  rintro e w1' ⟨rfl, rfl⟩
  go_wp2_with fail
  refine (N.out _ _).mono ?_
  rintro e w1' ⟨rfl, rfl⟩
  go_wp2_with fail
  refine (N.out _ _).mono ?_
  rintro e w1' ⟨rfl, rfl⟩
  go_wp2_with fail
  refine H11.out.mono ?_
  rintro e w12 ⟨rfl, h⟩
  clear H11
  have hmk : ∀ w, (Instr.makeSlice 43 (.int .i64 5) (.int .i64 5)).run Try.prog w = .ok (.slice (some ⟨w.heap.size, 0, none⟩) 5 5) (w.alloc (.cells #[.int .u8 0, .int .u8 0, .int .u8 0, .int .u8 0, .int .u8 0] 5)) := fun _ => by kernel_rfl
  have h' : K w0 s kv8 (w12.alloc (Obj.cells #[.int .u8 0, .int .u8 0, .int .u8 0, .int .u8 0, .int .u8 0] 5)) := h.quiet ((Chg.refl _ _).alloc _)
  have H12 := Go.Lib.hid (show Calls _ _ _ _ (KPost w0 s (.int .i64 5) _) from known_12 ▸ put_k h' nmB (by decide) (A := some ⟨w12.heap.size, 0, none⟩) (c := 5) (l := [0, 0, 0, 0, 0]) (fun h => by cases h) (cells_of_blk (Blk.new w12 5 _)))
  clear h h'
  unfold ptr nmB at H12
  go_wp2_with fail
  refine H12.out.mono ?_
  rintro e w13 ⟨rfl, h⟩
  have H := Go.Lib.hid h.chg
  clear H12 h
  go_wp2_with fail
  refine (N.out _ _).mono ?_
  rintro e w1' ⟨rfl, rfl⟩
  go_wp2_with fail
  go_ret
  exact ⟨rfl, H.out⟩
end Go.Proofs.Ytlglnebnldmceaa
