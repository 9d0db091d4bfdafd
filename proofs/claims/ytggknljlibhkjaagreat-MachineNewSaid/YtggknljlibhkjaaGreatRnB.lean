/- What is proved: the reference's Of of four bytes, and Word. Conditions: as each theorem says. -/
import Derived.Test.YtggknljlibhkjaaGreatRnA
set_option linter.unusedSimpArgs false
set_option linter.unusedVariables false
namespace Go.Proofs.YtggknljlibhkjaaGreat
open Go Go.RowKit
section
variable {P : Program} {ops : Array Oper} {Q : Exit → Act → World → Prop} {md : Region.Mode} {S : World → Prop}
variable {i t fuel : Nat} {oi : Oper} {v : Value} {listed : Array Bool} {a : Act} {w w' : World} {T : Act → World → Prop}
theorem opWpH (hi : ops[i]? = some oi) (hw : Region.wanted oi (yielded ops a.tmps) = true) (h : oi.wp P a w (fun a' w' => S w' ∧ T a' w') Q) : wpOp P ops Q i (fun a' w' => S w' ∧ T a' w') a w := by
  unfold wpOp
  rw [hi]
  simp only
  rw [if_pos hw]
  exact .inl h
theorem opSkipH (hi : ops[i]? = some oi) (hdst : oi.dst = none) (hw : Region.wanted oi (yielded ops a.tmps) = true) (hx : (execOp a.eval oi).run P w = .ok .skip w') (hS : S w')
    (h : T a w') : wpOp P ops Q i (fun a' w' => S w' ∧ T a' w') a w := by
  unfold wpOp
  rw [hi]
  simp only
  rw [if_pos hw]
  refine .inl ?_
  unfold Oper.wp
  rw [hx]
  exact ⟨hS, by rw [hdst]; exact h⟩
end
theorem cellq {w w' : World} {p : Addr} {v : Value} (hc : Chg NoB w w') (h : w.cell? p = some v) : w'.cell? p = some v := (World.cell?_of_block (hc.block _ (World.block_lt_of_cell? w _ h) id)).trans h
set_option maxRecDepth 100000 in
set_option maxHeartbeats 4000000 in
theorem rof_c (w : World) (mb off c : Nat) (x0 x1 x2 x3 : Int) (b0 : 0 ≤ x0 ∧ x0 < 256) (b1 : 0 ≤ x1 ∧ x1 < 256) (b2 : 0 ≤ x2 ∧ x2 < 256) (b3 : 0 ≤ x3 ∧ x3 < 256)
    (k0 : w.cell? ⟨mb, off, none⟩ = some (.int .u8 x0)) (k1 : w.cell? ⟨mb, off + 1, none⟩ = some (.int .u8 x1)) (k2 : w.cell? ⟨mb, off + 2, none⟩ = some (.int .u8 x2)) (k3 : w.cell? ⟨mb, off + 3, none⟩ = some (.int .u8 x3)) :
    Calls Tryz.prog 74 #[.slice (some ⟨mb, off, none⟩) 4 c] w (wordsPost [x0 + x1 * 256 + x2 * 65536 + x3 * 16777216] w) := by
  obtain ⟨i0, hi0, hz0, hz1, hz2⟩ := info_parts u32info
  have Hi := Go.Lib.hid (And.intro hi0 (And.intro hz0 (And.intro hz1 hz2)))
  have K := Go.Lib.hid (And.intro k0 (And.intro k1 (And.intro k2 k3)))
  obtain ⟨y3, hy3⟩ : ∃ y, 256 * x3 = y := ⟨_, rfl⟩
  obtain ⟨y2, hy2⟩ : ∃ y, x2 + y3 = y := ⟨_, rfl⟩
  obtain ⟨z2, hz2'⟩ : ∃ y, 256 * y2 = y := ⟨_, rfl⟩
  obtain ⟨y1, hy1⟩ : ∃ y, x1 + z2 = y := ⟨_, rfl⟩
  obtain ⟨z1, hz1'⟩ : ∃ y, 256 * y1 = y := ⟨_, rfl⟩
  obtain ⟨X, hX⟩ : ∃ y, x0 + z1 = y := ⟨_, rfl⟩
  have hXX : x0 + x1 * 256 + x2 * 65536 + x3 * 16777216 = X := by omega
  have m3 : IntKind.u32.wrap (256 * x3) = y3 := by rw [IntKind.wrap_u32]; omega
  have m2 : IntKind.u32.wrap (x2 + y3) = y2 := by rw [IntKind.wrap_u32]; omega
  have n2 : IntKind.u32.wrap (256 * y2) = z2 := by rw [IntKind.wrap_u32]; omega
  have m1 : IntKind.u32.wrap (x1 + z2) = y1 := by rw [IntKind.wrap_u32]; omega
  have n1 : IntKind.u32.wrap (256 * y1) = z1 := by rw [IntKind.wrap_u32]; omega
  have m0 : IntKind.u32.wrap (x0 + z1) = X := by rw [IntKind.wrap_u32]; omega
  have c0 : IntKind.u32.wrap x0 = x0 := by rw [IntKind.wrap_u32]; omega
  have c1 : IntKind.u32.wrap x1 = x1 := by rw [IntKind.wrap_u32]; omega
  have c2 : IntKind.u32.wrap x2 = x2 := by rw [IntKind.wrap_u32]; omega
  have c3 : IntKind.u32.wrap x3 = x3 := by rw [IntKind.wrap_u32]; omega
  rw [hXX]
  clear hi0 hz0 hz1 hz2 k0 k1 k2 k3 hy3 hy2 hz2' hy1 hz1' hX hXX
  go_enter Tryz.func74, Tryz.ntmps74
  go_wp2_with fail
  refine wp_loop_rounds 2 ?_
  rw [rounds_succ]
  go_wp2_with fail
  refine regionH (fun V' => Chg NoB w V') (by kernel_rfl) (Chg.refl NoB w).drew (fun hS => ?_)
  refine takeH (i := 0) (t := 12) (v := ?v0y1) rfl (by kernel_rfl) (by kernel_rfl) (by kernel_rfl) (fun _ _ _ h => h) rfl (Or.inl ⟨by rfl, ?h0y1⟩) hS ?r0y1
  case h0y1 => (intro V' hSw; go_simp; try with_reducible rfl)
  try simp only [List.setIfInBounds_toArray, List.set_cons_zero, List.set_cons_succ]
  refine takeH (i := 1) (t := 13) (v := ?v1y2) rfl (by kernel_rfl) (by kernel_rfl) (by kernel_rfl) (fun _ _ _ h => h) rfl (Or.inl ⟨by rfl, ?h1y2⟩) hS ?r1y2
  case h1y2 => (intro V' hSw; go_simp; try with_reducible rfl)
  try simp only [List.setIfInBounds_toArray, List.set_cons_zero, List.set_cons_succ]
  refine takeH (i := 2) (t := 14) (v := ?v2y3) rfl (by kernel_rfl) (by kernel_rfl) (by kernel_rfl) (fun _ _ _ h => h) rfl (Or.inl ⟨by rfl, ?h2y3⟩) hS ?r2y3
  case h2y3 => (intro V' hSw; go_simp; try with_reducible rfl)
  try simp only [List.setIfInBounds_toArray, List.set_cons_zero, List.set_cons_succ]
  refine takeH (i := 3) (t := 15) (v := ?v3y4) rfl (by kernel_rfl) (by kernel_rfl) (by kernel_rfl) (fun _ _ _ h => h) rfl (Or.inl ⟨by rfl, ?h3y4⟩) hS ?r3y4
  case h3y4 => (intro V' hSw; go_simp; try with_reducible rfl)
  try simp only [List.setIfInBounds_toArray, List.set_cons_zero, List.set_cons_succ]
  refine takeH (i := 4) (t := 16) (v := ?v4y5) rfl (by kernel_rfl) (by kernel_rfl) (by kernel_rfl) (fun _ _ _ h => h) rfl (Or.inl ⟨by rfl, ?h4y5⟩) hS ?r4y5
  case h4y5 => (intro V' hSw; have q := cellq hSw K.out.1; clear hSw; go_simp; try with_reducible rfl)
  try simp only [List.setIfInBounds_toArray, List.set_cons_zero, List.set_cons_succ]
  refine takeH (i := 5) (t := 17) (v := .int .u32 x0) rfl (by kernel_rfl) (by kernel_rfl) (by kernel_rfl) (fun _ _ _ h => h) rfl (Or.inl ⟨by rfl, ?h5y6⟩) hS ?r5y6
  case h5y6 => (intro V' hSw; go_simp; try simp only [c0])
  try simp only [List.setIfInBounds_toArray, List.set_cons_zero, List.set_cons_succ]
  refine takeH (i := 6) (t := 18) (v := ?v6y7) rfl (by kernel_rfl) (by kernel_rfl) (by kernel_rfl) (fun _ _ _ h => h) rfl (Or.inl ⟨by rfl, ?h6y7⟩) hS ?r6y7
  case h6y7 => (intro V' hSw; go_simp; try with_reducible rfl)
  try simp only [List.setIfInBounds_toArray, List.set_cons_zero, List.set_cons_succ]
  refine takeH (i := 7) (t := 19) (v := ?v7y8) rfl (by kernel_rfl) (by kernel_rfl) (by kernel_rfl) (fun _ _ _ h => h) rfl (Or.inl ⟨by rfl, ?h7y8⟩) hS ?r7y8
  case h7y8 => (intro V' hSw; go_simp; try with_reducible rfl)
  try simp only [List.setIfInBounds_toArray, List.set_cons_zero, List.set_cons_succ]
  refine takeH (i := 8) (t := 20) (v := .int .i64 1) rfl (by kernel_rfl) (by kernel_rfl) (by kernel_rfl) (fun _ _ _ h => h) rfl (Or.inl ⟨by rfl, ?h8y9⟩) hS ?r8y9
  case h8y9 => (intro V' hSw; go_simp; try rfl)
  try simp only [List.setIfInBounds_toArray, List.set_cons_zero, List.set_cons_succ]
  refine takeH (i := 9) (t := 21) (v := ?v9y10) rfl (by kernel_rfl) (by kernel_rfl) (by kernel_rfl) (fun _ _ _ h => h) rfl (Or.inl ⟨by rfl, ?h9y10⟩) hS ?r9y10
  case h9y10 => (intro V' hSw; go_simp; try with_reducible rfl)
  try simp only [List.setIfInBounds_toArray, List.set_cons_zero, List.set_cons_succ]
  refine takeH (i := 10) (t := 22) (v := ?v10y11) rfl (by kernel_rfl) (by kernel_rfl) (by kernel_rfl) (fun _ _ _ h => h) rfl (Or.inl ⟨by rfl, ?h10y11⟩) hS ?r10y11
  case h10y11 => (intro V' hSw; have q := cellq hSw K.out.2.1; clear hSw; go_simp; try with_reducible rfl)
  try simp only [List.setIfInBounds_toArray, List.set_cons_zero, List.set_cons_succ]
  refine takeH (i := 11) (t := 23) (v := .int .u32 x1) rfl (by kernel_rfl) (by kernel_rfl) (by kernel_rfl) (fun _ _ _ h => h) rfl (Or.inl ⟨by rfl, ?h11y12⟩) hS ?r11y12
  case h11y12 => (intro V' hSw; go_simp; try simp only [c1])
  try simp only [List.setIfInBounds_toArray, List.set_cons_zero, List.set_cons_succ]
  refine takeH (i := 12) (t := 24) (v := ?v12y13) rfl (by kernel_rfl) (by kernel_rfl) (by kernel_rfl) (fun _ _ _ h => h) rfl (Or.inl ⟨by rfl, ?h12y13⟩) hS ?r12y13
  case h12y13 => (intro V' hSw; go_simp; try with_reducible rfl)
  try simp only [List.setIfInBounds_toArray, List.set_cons_zero, List.set_cons_succ]
  refine takeH (i := 13) (t := 25) (v := ?v13y14) rfl (by kernel_rfl) (by kernel_rfl) (by kernel_rfl) (fun _ _ _ h => h) rfl (Or.inl ⟨by rfl, ?h13y14⟩) hS ?r13y14
  case h13y14 => (intro V' hSw; go_simp; try with_reducible rfl)
  try simp only [List.setIfInBounds_toArray, List.set_cons_zero, List.set_cons_succ]
  refine takeH (i := 14) (t := 26) (v := .int .i64 2) rfl (by kernel_rfl) (by kernel_rfl) (by kernel_rfl) (fun _ _ _ h => h) rfl (Or.inl ⟨by rfl, ?h14y15⟩) hS ?r14y15
  case h14y15 => (intro V' hSw; go_simp; try rfl)
  try simp only [List.setIfInBounds_toArray, List.set_cons_zero, List.set_cons_succ]
  refine takeH (i := 15) (t := 27) (v := ?v15y16) rfl (by kernel_rfl) (by kernel_rfl) (by kernel_rfl) (fun _ _ _ h => h) rfl (Or.inl ⟨by rfl, ?h15y16⟩) hS ?r15y16
  case h15y16 => (intro V' hSw; go_simp; try with_reducible rfl)
  try simp only [List.setIfInBounds_toArray, List.set_cons_zero, List.set_cons_succ]
  refine takeH (i := 16) (t := 28) (v := ?v16y17) rfl (by kernel_rfl) (by kernel_rfl) (by kernel_rfl) (fun _ _ _ h => h) rfl (Or.inl ⟨by rfl, ?h16y17⟩) hS ?r16y17
  case h16y17 => (intro V' hSw; have q := cellq hSw K.out.2.2.1; clear hSw; go_simp; try with_reducible rfl)
  try simp only [List.setIfInBounds_toArray, List.set_cons_zero, List.set_cons_succ]
  refine takeH (i := 17) (t := 29) (v := .int .u32 x2) rfl (by kernel_rfl) (by kernel_rfl) (by kernel_rfl) (fun _ _ _ h => h) rfl (Or.inl ⟨by rfl, ?h17y18⟩) hS ?r17y18
  case h17y18 => (intro V' hSw; go_simp; try simp only [c2])
  try simp only [List.setIfInBounds_toArray, List.set_cons_zero, List.set_cons_succ]
  refine takeH (i := 18) (t := 30) (v := ?v18y19) rfl (by kernel_rfl) (by kernel_rfl) (by kernel_rfl) (fun _ _ _ h => h) rfl (Or.inl ⟨by rfl, ?h18y19⟩) hS ?r18y19
  case h18y19 => (intro V' hSw; go_simp; try with_reducible rfl)
  try simp only [List.setIfInBounds_toArray, List.set_cons_zero, List.set_cons_succ]
  refine takeH (i := 19) (t := 31) (v := ?v19y20) rfl (by kernel_rfl) (by kernel_rfl) (by kernel_rfl) (fun _ _ _ h => h) rfl (Or.inl ⟨by rfl, ?h19y20⟩) hS ?r19y20
  case h19y20 => (intro V' hSw; go_simp; try with_reducible rfl)
  try simp only [List.setIfInBounds_toArray, List.set_cons_zero, List.set_cons_succ]
  refine takeH (i := 20) (t := 32) (v := .int .i64 3) rfl (by kernel_rfl) (by kernel_rfl) (by kernel_rfl) (fun _ _ _ h => h) rfl (Or.inl ⟨by rfl, ?h20y21⟩) hS ?r20y21
  case h20y21 => (intro V' hSw; go_simp; try rfl)
  try simp only [List.setIfInBounds_toArray, List.set_cons_zero, List.set_cons_succ]
  refine takeH (i := 21) (t := 33) (v := ?v21y22) rfl (by kernel_rfl) (by kernel_rfl) (by kernel_rfl) (fun _ _ _ h => h) rfl (Or.inl ⟨by rfl, ?h21y22⟩) hS ?r21y22
  case h21y22 => (intro V' hSw; go_simp; try with_reducible rfl)
  try simp only [List.setIfInBounds_toArray, List.set_cons_zero, List.set_cons_succ]
  refine takeH (i := 22) (t := 34) (v := ?v22y23) rfl (by kernel_rfl) (by kernel_rfl) (by kernel_rfl) (fun _ _ _ h => h) rfl (Or.inl ⟨by rfl, ?h22y23⟩) hS ?r22y23
  case h22y23 => (intro V' hSw; have q := cellq hSw K.out.2.2.2; clear hSw; go_simp; try with_reducible rfl)
  try simp only [List.setIfInBounds_toArray, List.set_cons_zero, List.set_cons_succ]
  refine takeH (i := 23) (t := 35) (v := .int .u32 x3) rfl (by kernel_rfl) (by kernel_rfl) (by kernel_rfl) (fun _ _ _ h => h) rfl (Or.inl ⟨by rfl, ?h23y24⟩) hS ?r23y24
  case h23y24 => (intro V' hSw; go_simp; try simp only [c3])
  try simp only [List.setIfInBounds_toArray, List.set_cons_zero, List.set_cons_succ]
  refine takeH (i := 24) (t := 36) (v := .int .u32 y3) rfl (by kernel_rfl) (by kernel_rfl) (by kernel_rfl) (fun _ _ _ h => h) rfl (Or.inl ⟨by rfl, ?h24y25⟩) hS ?r24y25
  case h24y25 => (intro V' hSw; go_simp; try simp only [m3])
  try simp only [List.setIfInBounds_toArray, List.set_cons_zero, List.set_cons_succ]
  refine takeH (i := 25) (t := 37) (v := .int .u32 y2) rfl (by kernel_rfl) (by kernel_rfl) (by kernel_rfl) (fun _ _ _ h => h) rfl (Or.inl ⟨by rfl, ?h25y26⟩) hS ?r25y26
  case h25y26 => (intro V' hSw; go_simp; try simp only [m2])
  try simp only [List.setIfInBounds_toArray, List.set_cons_zero, List.set_cons_succ]
  refine takeH (i := 26) (t := 38) (v := .int .u32 z2) rfl (by kernel_rfl) (by kernel_rfl) (by kernel_rfl) (fun _ _ _ h => h) rfl (Or.inl ⟨by rfl, ?h26y27⟩) hS ?r26y27
  case h26y27 => (intro V' hSw; go_simp; try simp only [n2])
  try simp only [List.setIfInBounds_toArray, List.set_cons_zero, List.set_cons_succ]
  refine takeH (i := 27) (t := 39) (v := .int .u32 y1) rfl (by kernel_rfl) (by kernel_rfl) (by kernel_rfl) (fun _ _ _ h => h) rfl (Or.inl ⟨by rfl, ?h27y28⟩) hS ?r27y28
  case h27y28 => (intro V' hSw; go_simp; try simp only [m1])
  try simp only [List.setIfInBounds_toArray, List.set_cons_zero, List.set_cons_succ]
  refine takeH (i := 28) (t := 40) (v := .int .u32 z1) rfl (by kernel_rfl) (by kernel_rfl) (by kernel_rfl) (fun _ _ _ h => h) rfl (Or.inl ⟨by rfl, ?h28y29⟩) hS ?r28y29
  case h28y29 => (intro V' hSw; go_simp; try simp only [n1])
  try simp only [List.setIfInBounds_toArray, List.set_cons_zero, List.set_cons_succ]
  refine takeH (i := 29) (t := 41) (v := .int .u32 X) rfl (by kernel_rfl) (by kernel_rfl) (by kernel_rfl) (fun _ _ _ h => h) rfl (Or.inl ⟨by rfl, ?h29y30⟩) hS ?r29y30
  case h29y30 => (intro V' hSw; go_simp; try simp only [m0])
  try simp only [List.setIfInBounds_toArray, List.set_cons_zero, List.set_cons_succ]
  refine manyH (i := 30) (l := []) (by kernel_rfl) ?hm
  case hm =>
    intro j hj
    obtain rfl : j = 30 := by simpa using hj
    refine opValH (t := 42) (v := ?bv30) (w' := (w.alloc (.cells #[.int .u32 X] 23)).drew) rfl rfl (by rfl) ?hx (((Chg.refl NoB w).alloc (.cells #[.int .u32 X] 23)).drew) ?hn
    case hx => (go_simp; try with_reducible rfl)
    case hn =>
      have hS := ((Chg.refl NoB w).alloc (.cells #[.int .u32 X] 23)).drew
      try simp only [List.setIfInBounds_toArray, List.set_cons_zero, List.set_cons_succ]
      refine manyH (i := 31) (l := []) (by kernel_rfl) ?hm
      case hm =>
        intro j hj
        obtain rfl : j = 31 := by simpa using hj
        refine opWpH rfl (by rfl) (wp_app _ (.tmp 12) (.tmp 42) _ rfl w.heap.size 23 i0 _ 4 Tryz.underlying29 Hi.out.1 Hi.out.2.1 Hi.out.2.2.1 Hi.out.2.2.2 rfl (.slice none 0 0) 0 [] rfl (World.ownsRow_nil _ _ _ _) (some ⟨w.heap.size, 0, none⟩) 1 1 [.int .u32 X] rfl rfl (cells_of_blk (show Blk (w.alloc (.cells #[.int .u32 X] 23)).drew _ _ _ from Blk.new w _ _)) (by simp [Value.oneCell']) (by unfold maxLen; omega) (by omega) (by simp) ?_)
        intro v1 w1 own1 gr1 at1
        have hS1 := (((Chg.refl NoB w).alloc (.cells #[.int .u32 X] 23)).drew.grown gr1 (by simp [Value.ownBlock]))
        refine ⟨hS1, ?_⟩
        have hS := hS1
        try simp only [List.setIfInBounds_toArray, List.set_cons_zero, List.set_cons_succ]
        refine takeH (i := 32) (t := 3) (v := ?v32y31) rfl (by kernel_rfl) (by kernel_rfl) (by kernel_rfl) (fun _ _ _ h => h) rfl (Or.inl ⟨by rfl, ?h32y31⟩) hS ?r32y31
        case h32y31 => (intro V' hSw; go_simp; try with_reducible rfl)
        try simp only [List.setIfInBounds_toArray, List.set_cons_zero, List.set_cons_succ]
        refine wpAnyH_done (by kernel_rfl) ?_ _
        obtain ⟨A, c', rfl⟩ := own_slice own1
        have H2 := Go.Lib.hid hS1
        have HO := Go.Lib.hid own1
        clear own1 gr1 at1 hS hS1
        go_wp2_with fail
        rw [rounds_succ]
        go_wp2_with fail
        go_ret
        exact ⟨A, c', rfl, CellsAt.of_own HO.out, H2.out⟩
section
variable {W W' : World} {r mb : Nat} {sv : Value} {d : Mc}
set_option maxRecDepth 100000 in
set_option maxHeartbeats 1000000 in
theorem rword_c (h : RMAt W r mb sv d) (hM : ∀ i, 0 ≤ d.M i ∧ d.M i < 256) (hn : d.n ≤ 16777216) (p : Nat) (hp : p + 4 ≤ d.n) : Calls Tryz.prog 26 #[.pointer (some ⟨r, 0, none⟩), .int .i64 p] W (Quiet (.int .u32 (wordAt d.M p)) W) := by
  have HO : Hid (Calls Tryz.prog 74 #[.slice (some ⟨mb, p, none⟩) 4 (d.n - p)] W (wordsPost [wordAt d.M p] W)) := Go.Lib.hid (rof_c W mb p _ _ _ _ _ (hM p) (hM (p + 1)) (hM (p + 2)) (hM (p + 3)) (h.byte (by omega)) (h.byte (by omega)) (h.byte (by omega)) (h.byte (by omega)))
  have k22 : W.cell? ⟨r, 22, none⟩ = some (.slice (some ⟨mb, 0, none⟩) d.n d.n) := by rw [h.m.cell 22]; rfl
  clear h
  generalize wordAt d.M p = x at *
  generalize d.n = n at *
  have e1 : n - p = n - p := rfl
  go_enter Tryz.func26, Tryz.ntmps26
  go_wp2_with fail
  refine HO.out.mono ?_
  rintro e w1 ⟨A, c, rfl, hcl, hq⟩
  obtain ⟨ad, rfl, hc⟩ := hcl (by simp [u32s])
  have hc0 := hc 0 (.int .u32 x) rfl
  have HQ := Go.Lib.hid hq
  clear hq hc HO
  rw [show ad.add 0 = ad from by cases ad; simp [Addr.add]] at hc0
  go_wp2_with fail
  go_ret
  exact ⟨rfl, HQ.out⟩
end
end Go.Proofs.YtggknljlibhkjaaGreat
