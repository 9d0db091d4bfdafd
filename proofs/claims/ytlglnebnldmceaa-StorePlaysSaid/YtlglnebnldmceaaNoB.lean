/- What is proved: what Write, WriteWord, ReadWord, Files, Same do of a store that is not there. Conditions: as each theorem says. -/
import Derived.Test.YtlglnebnldmceaaNo
import Derived.Test.YtlglnebnldmceaaFiC
set_option linter.unusedSimpArgs false
set_option linter.unusedVariables false
namespace Go.Proofs.Ytlglnebnldmceaa
open Go.RowKit
section
variable {w w' : World} {sv : Value}
theorem no_Write (h : Gone w sv) (f : Int) (b : Int) : Calls Try.prog 16 #[sv, .int .i64 f, .int .u8 b] w (Quiet (.int .i64 1) w) := by
  have Hp := Go.Lib.hid (fun (W : World) (hW : Chg NoB w W) (v : Value) => no_put (h.quiet hW) f v)
  clear h
  go_enter Try.func16, Try.ntmps16
  go_wp2_with fail
  refine (Hp.out _ ((Chg.refl NoB w).alloc _) _).mono ?_
  rintro e w2 ⟨rfl, hc⟩
  have Hc := Go.Lib.hid (((Chg.refl NoB w).alloc _).trans hc)
  clear hc
  go_wp2_with fail
  go_ret
  exact ⟨rfl, Hc.out⟩
theorem no_WriteWord (h : Gone w sv) (f : Int) (n : Nat) (hn : n < 4294967296) : Calls Try.prog 21 #[sv, .int .i64 f, .int .u32 n] w (Quiet (.int .i64 1) w) := by
  have hca : Chg NoB w (w.alloc (Obj.cells #[Value.int .u32 n] 39)) := (Chg.refl _ _).alloc _
  have Hwb := Go.Lib.hid (wordBytes_c (w.alloc (Obj.cells #[Value.int .u32 n] 39)) w.heap.size n hn ((Blk.new w 39 #[Value.int .u32 n]).cell 0))
  have Hca := Go.Lib.hid hca
  have Hp := Go.Lib.hid (fun (W : World) (hW : Chg NoB w W) (v : Value) => no_put (h.quiet hW) f v)
  clear h hca hn
  go_enter Try.func21, Try.ntmps21
  go_wp2_with fail
  refine Hwb.out.mono ?_
  rintro e w2 ⟨v, rfl, ho, hc⟩
  have Hc2 := Go.Lib.hid (Hca.out.trans hc)
  clear ho hc
  go_wp2_with fail
  refine (Hp.out _ Hc2.out _).mono ?_
  rintro e w3 ⟨rfl, hc⟩
  have Hc3 := Go.Lib.hid (Hc2.out.trans hc)
  clear hc
  go_wp2_with fail
  go_ret
  exact ⟨rfl, Hc3.out⟩
set_option maxHeartbeats 1000000 in
theorem no_ReadWord (h : Gone w sv) (f : Int) : Calls Try.prog 40 #[sv, .int .i64 f] w (Quiet (.int .u32 0) w) := by
  have Hr := Go.Lib.hid (fun (W : World) (hW : Chg NoB w W) => no_Read (h.quiet hW) f)
  have H0 : Hid (Chg NoB w w) := Go.Lib.hid (Chg.refl _ _)
  clear h
  go_enter Try.func40, Try.ntmps40
  go_wp2_with fail
  refine wp_loop_rounds 5 ?_
  rw [rounds_succ]
  go_wp2_with fail
  refine (Hr.out _ H0.out).mono ?_
  rintro e w1 ⟨rfl, h1⟩
  have H1 := Go.Lib.hid (H0.out.trans h1)
  clear h1
  go_wp2_with fail
  rw [rounds_succ]
  go_wp2_with fail
  refine (Hr.out _ H1.out).mono ?_
  rintro e w2 ⟨rfl, h1⟩
  have H2 := Go.Lib.hid (H1.out.trans h1)
  clear h1
  go_wp2_with fail
  rw [rounds_succ]
  go_wp2_with fail
  refine (Hr.out _ H2.out).mono ?_
  rintro e w3 ⟨rfl, h1⟩
  have H3 := Go.Lib.hid (H2.out.trans h1)
  clear h1
  go_wp2_with fail
  rw [rounds_succ]
  go_wp2_with fail
  refine (Hr.out _ H3.out).mono ?_
  rintro e w4 ⟨rfl, h1⟩
  have H4 := Go.Lib.hid (H3.out.trans h1)
  clear h1
  go_wp2_with fail
  rw [rounds_succ]
  go_wp2_with fail
  go_ret
  exact ⟨rfl, H4.out⟩
theorem no_Files (h : Gone w sv) : Calls Try.prog 67 #[sv] w (FilesPost w.heap.size [] w) := by
  have Hth := Go.Lib.hid (fun (W : World) (hW : Chg NoB w W) => there_no (h.quiet hW))
  clear h
  go_enter Try.func67, Try.ntmps67
  go_wp2_with fail
  refine (Hth.out _ (((Chg.refl NoB w).alloc _).alloc _)).mono ?_
  rintro e w2 ⟨rfl, rfl⟩
  go_wp2_with fail
  go_ret
  refine ⟨_, _, rfl, ⟨⟨none, 0, (Blk.new _ _ _).alloc _, World.ownsRow_nil _ _ _ _⟩, ⟨none, 0, Blk.new1 _ _ _ _, World.ownsRow_nil _ _ _ _⟩, Nat.le_refl _, Nat.le_succ _⟩, ((Chg.refl NoB w).alloc _).alloc _⟩
theorem no_Same (h : Gone w sv) {tv : Value} (k : Gone w tv) : Calls Try.prog 13 #[sv, tv] w (Quiet (.bool true) w) := by
  have Hs := Go.Lib.hid (there_no h)
  have Ht := Go.Lib.hid (there_no k)
  clear h k
  go_enter Try.func13, Try.ntmps13
  go_wp2_with fail
  refine Hs.out.mono ?_
  rintro e w2 ⟨rfl, rfl⟩
  go_wp2_with fail
  refine Hs.out.mono ?_
  rintro e w2 ⟨rfl, rfl⟩
  go_wp2_with fail
  refine Ht.out.mono ?_
  rintro e w2 ⟨rfl, rfl⟩
  go_wp2_with fail
  go_ret
  exact ⟨rfl, Chg.refl _ _⟩
theorem no_Same_l {base s : Nat} {S : Sto} (h : Gone w sv) (k : StoreAt base w s S) : Calls Try.prog 13 #[sv, ptr s] w (Quiet (.bool false) w) := by
  have Hs := Go.Lib.hid (there_no h)
  have Ht := Go.Lib.hid (there_c k)
  clear h k
  unfold ptr at Ht ⊢
  go_enter Try.func13, Try.ntmps13
  go_wp2_with fail
  refine Hs.out.mono ?_
  rintro e w2 ⟨rfl, rfl⟩
  go_wp2_with fail
  refine Hs.out.mono ?_
  rintro e w2 ⟨rfl, rfl⟩
  go_wp2_with fail
  refine Ht.out.mono ?_
  rintro e w2 ⟨rfl, rfl⟩
  go_wp2_with fail
  go_ret
  exact ⟨rfl, Chg.refl _ _⟩
theorem no_Same_r {base s : Nat} {S : Sto} (h : Gone w sv) (k : StoreAt base w s S) : Calls Try.prog 13 #[ptr s, sv] w (Quiet (.bool false) w) := by
  have Hs := Go.Lib.hid (there_no h)
  have Ht := Go.Lib.hid (there_c k)
  clear h k
  unfold ptr at Ht ⊢
  go_enter Try.func13, Try.ntmps13
  go_wp2_with fail
  refine Ht.out.mono ?_
  rintro e w2 ⟨rfl, rfl⟩
  go_wp2_with fail
  refine Hs.out.mono ?_
  rintro e w2 ⟨rfl, rfl⟩
  go_wp2_with fail
  refine Ht.out.mono ?_
  rintro e w2 ⟨rfl, rfl⟩
  go_wp2_with fail
  refine Hs.out.mono ?_
  rintro e w2 ⟨rfl, rfl⟩
  go_wp2_with fail
  go_ret
  exact ⟨rfl, Chg.refl _ _⟩
end
end Go.Proofs.Ytlglnebnldmceaa
