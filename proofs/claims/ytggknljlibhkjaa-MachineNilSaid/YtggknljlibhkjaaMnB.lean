/- What is proved: MachineNil: what is answered of a machine that is not there, or without a store. Conditions: none. -/
import Derived.Test.YtggknljlibhkjaaMnA
import Derived.Test.YtggknljlibhkjaaCpE
set_option linter.unusedSimpArgs false
set_option linter.unusedVariables false
namespace Go.Proofs.Ytggknljlibhkjaa
open Go Go.RowKit
theorem ofW0 : ofW 0 = some In.zero := by kernel_rfl
theorem step0 (c : Cp) : stepF c 0 = (c.next.set 0 (c.R 0), .none) := by
  unfold stepF
  rw [ofW0]
  show insF c.next In.zero = _
  unfold insF
  rw [if_pos (.inl rfl)]
  rfl
structure Zr (k : Nat) (d : Mc) : Prop where
  ok : d.Ok
  h : d.heap = 0
  n : d.n = 64
  kind : d.kind = 0
  code : d.code = 0
  pc : d.c.pc = k
  M : ∀ i, d.M i = 0
section
variable {k : Nat} {d : Mc}
theorem Zr.ev (h : Zr k d) : d.ev = (d.c.next.set 0 (d.c.R 0), .none) := by
  unfold Mc.ev
  have e : wordAt d.M (4 * d.c.pc.toNat) = 0 := by simp [wordAt, h.M]
  rw [e, step0]
theorem Zr.alone (h : Zr k d) : d.alone := fun _ _ h4 => by
  rw [h.ev] at h4; exact absurd h4 (show ¬ (0 : Int) = 4 by decide)
theorem Zr.next (h : Zr k d) (hk : k < 16) : Zr (k + 1) d.next := by
  have hh := h.h
  have hn := h.n
  have hp := h.pc
  have hok := (next_ok h.ok (by omega)).1
  have e : d.next = { d with c := d.c.next.set 0 (d.c.R 0) } := by
    unfold Mc.next
    rw [if_neg (fun e => e h.kind), if_neg (by rw [hn, hp]; simp; omega), h.ev]
    rfl
  rw [e] at hok ⊢
  exact ⟨hok, h.h, h.n, h.kind, h.code, by show (d.c.pc + 1) % 4294967296 = _; rw [hp]; omega, h.M⟩
theorem Zr.stop (h : Zr 16 d) : d.next = { d with kind := 6, code := 0 } := by
  unfold Mc.next
  rw [if_neg (fun e => e h.kind), if_pos (by rw [h.n, h.pc]; decide)]
theorem Zr.iter (h : Zr 1 d) : ∀ j, j ≤ 15 → Zr (1 + j) (d.iter j)
  | 0, _ => h
  | j + 1, hj => (h.iter j (by omega)).next (by omega)
theorem Zr.end_ (h : Zr 1 d) : (d.iter 16).kind = 6 ∧ (d.iter 16).code = 0 := by
  show (d.iter 15).next.kind = 6 ∧ (d.iter 15).next.code = 0
  rw [(h.iter 15 (by omega)).stop]
  exact ⟨rfl, rfl⟩
end
theorem Zr.new : Zr 0 (Mc.new 64 []) :=
  ⟨(mnew_ok 64 [] (by decide) (by decide) (by decide)).1, rfl, rfl, rfl, rfl, rfl, fun i => by simp [Mc.new, wb]⟩
set_option maxHeartbeats 1000000 in
theorem mnew_gone {w : World} {sv : Value} (h : Gone w sv) : Calls Try.prog 9 #[.int .i64 64, .slice none 0 0, sv] w (Quiet (.tuple #[.pointer none, .int .i64 2]) w) := by
  have HD := Go.Lib.hid (no_Drop h ⟨#[]⟩)
  clear h
  go_enter Try.func9, Try.ntmps9
  go_wp2_with fail
  refine HD.out.mono ?_
  rintro e w1 ⟨rfl, hc⟩
  have HC := Go.Lib.hid hc
  clear hc
  go_wp2_with fail
  go_ret2
  exact ⟨rfl, HC.out⟩
set_option maxRecDepth 100000 in
set_option maxHeartbeats 4000000 in
theorem mnothing_c {w : World} {v : Value} (h : MGone w v) : Calls Try.prog 22 #[v] w (Quiet (.bool true) w) := by
  have G0 := Go.Lib.hid h
  have C0 : Hid (Chg NoB w w) := Go.Lib.hid (Chg.refl _ _)
  have N := Go.Lib.hid num_c
  clear h
  go_enter Try.func22, Try.ntmps22
  go_wp2_with fail
  refine (mno_Word G0.out).mono ?_
  rintro e w1 ⟨rfl, h1⟩
  have G1 := Go.Lib.hid (G0.out.quiet h1)
  have C1 := Go.Lib.hid (C0.out.trans h1)
  clear h1 G0 C0
  go_wp2_with fail
  refine (mno_Byte G1.out).mono ?_
  rintro e w2 ⟨rfl, h1⟩
  have G2 := Go.Lib.hid (G1.out.quiet h1)
  have C2 := Go.Lib.hid (C1.out.trans h1)
  clear h1 G1 C1
  go_wp2_with fail
  refine (mno_Step G2.out).mono ?_
  rintro e w3 ⟨rfl, h1⟩
  have G3 := Go.Lib.hid (G2.out.quiet h1)
  have C3 := Go.Lib.hid (C2.out.trans h1)
  clear h1 G2 C2
  go_wp2_with fail
  refine (mno_Run G3.out).mono ?_
  rintro e w4 ⟨rfl, h1⟩
  have G4 := Go.Lib.hid (G3.out.quiet h1)
  have C4 := Go.Lib.hid (C3.out.trans h1)
  clear h1 G3 C3
  go_wp2_with fail
  have HX := Go.Lib.hid (mno_Stopped G4.out)
  unfold stopVal at HX
  refine HX.out.mono ?_
  rintro e w5 ⟨rfl, h1⟩
  have G5 := Go.Lib.hid (G4.out.quiet h1)
  have C5 := Go.Lib.hid (C4.out.trans h1)
  clear h1 G4 C4
  go_wp2_with fail
  clear HX
  have HX := Go.Lib.hid (mno_Cpu G5.out)
  unfold Cp.val Cp.arr Cp.zero at HX
  have heq := fun W => run_equalIn_regs 9997 #[.int .u32 0, .int .u32 0, .int .u32 0, .int .u32 0, .int .u32 0, .int .u32 0, .int .u32 0, .int .u32 0, .int .u32 0, .int .u32 0, .int .u32 0, .int .u32 0, .int .u32 0, .int .u32 0, .int .u32 0, .int .u32 0] (fun i hi => by
    rcases lt16 hi with rfl | rfl | rfl | rfl | rfl | rfl | rfl | rfl | rfl | rfl | rfl | rfl | rfl | rfl | rfl | rfl <;> exact ⟨_, rfl⟩) W
  refine HX.out.mono ?_
  rintro e w6 ⟨rfl, h1⟩
  have G6 := Go.Lib.hid (G5.out.quiet h1)
  have C6 := Go.Lib.hid (C5.out.trans h1)
  clear h1 G5 C5
  go_wp2_with fail
  clear HX heq
  refine (mno_SetCpu G6.out).mono ?_
  rintro e w7 ⟨rfl, h1⟩
  have G7 := Go.Lib.hid (G6.out.quiet h1)
  have C7 := Go.Lib.hid (C6.out.trans h1)
  clear h1 G6 C6
  go_wp2_with fail
  refine (N.out _ _).mono ?_
  rintro e wn ⟨rfl, he⟩
  obtain rfl := he.symm
  clear he
  go_wp2_with fail
  refine (N.out _ _).mono ?_
  rintro e wn ⟨rfl, he⟩
  obtain rfl := he.symm
  clear he
  go_wp2_with fail
  refine (N.out _ _).mono ?_
  rintro e wn ⟨rfl, he⟩
  obtain rfl := he.symm
  clear he
  go_wp2_with fail
  refine (mno_SetWord G7.out).mono ?_
  rintro e w8 ⟨rfl, h1⟩
  have G8 := Go.Lib.hid (G7.out.quiet h1)
  have C8 := Go.Lib.hid (C7.out.trans h1)
  clear h1 G7 C7
  go_wp2_with fail
  refine (N.out _ _).mono ?_
  rintro e wn ⟨rfl, he⟩
  obtain rfl := he.symm
  clear he
  go_wp2_with fail
  refine (mno_Heap G8.out).mono ?_
  rintro e w9 ⟨rfl, h1⟩
  have G9 := Go.Lib.hid (G8.out.quiet h1)
  have C9 := Go.Lib.hid (C8.out.trans h1)
  clear h1 G8 C8
  go_wp2_with fail
  refine (mno_Size G9.out).mono ?_
  rintro e w10 ⟨rfl, h1⟩
  have G10 := Go.Lib.hid (G9.out.quiet h1)
  have C10 := Go.Lib.hid (C9.out.trans h1)
  clear h1 G9 C9
  go_wp2_with fail
  refine (mno_Store G10.out).mono ?_
  rintro e w11 ⟨rfl, h1⟩
  have G11 := Go.Lib.hid (G10.out.quiet h1)
  have C11 := Go.Lib.hid (C10.out.trans h1)
  clear h1 G10 C10
  go_wp2_with fail
  refine (mno_Copy G11.out).mono ?_
  rintro e w12 ⟨rfl, h1⟩
  have G12 := Go.Lib.hid (G11.out.quiet h1)
  have C12 := Go.Lib.hid (C11.out.trans h1)
  clear h1 G11 C11
  go_wp2_with fail
  go_ret
  exact ⟨rfl, C12.out⟩
end Go.Proofs.Ytggknljlibhkjaa
