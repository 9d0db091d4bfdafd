/- What is proved: the contract of Bytes of a pointer's and of a basic variable. Conditions: the memory holds the variable. -/
import Derived.Test.YtholeloedihkoaaVaW
set_option linter.unusedSimpArgs false
set_option linter.unusedVariables false
namespace Go.Proofs.Ytholeloedihkoaa
open Go Go.RowKit
section
variable {w w' W W1 : World} {lo b tb c n : Nat} {x : Int} {p A : Option Addr} {T : Ti} {bs : List Nat}
theorem CellsAt.take {A : Option Addr} {xs : List Value} (h : CellsAt w A xs) (n : Nat) : CellsAt w A (xs.take n) := by
  intro hx
  obtain ⟨ad, h1, h2⟩ := h (by rw [List.length_take] at hx; omega)
  refine ⟨ad, h1, fun j u hu => h2 j u ?_⟩
  rw [List.getElem?_take] at hu
  split at hu
  · exact hu
  · cases hu
theorem u8s_take (l : List Int) (n : Nat) : (u8s l).take n = u8s (l.take n) := by simp [u8s]
theorem own_cap {base : Nat} {e : TypeId} {size n c : Nat} {A : Option Addr} {xs : List Value} (h : w.ownsRow base e size (.slice A n c) n xs) : n ≤ c ∧ c ≤ maxLen := by
  rcases h.2 with ⟨h1, _⟩ | ⟨g, cap, cur, h2, _, _, h3, h4, _⟩
  · injection h1 with _ h2 h3
    subst h2 h3
    exact ⟨Nat.le_refl _, by unfold maxLen; omega⟩
  · injection h2 with _ _ h5
    subst h5
    exact ⟨h3, h4⟩
set_option maxHeartbeats 2000000 in
set_option maxRecDepth 20000 in
theorem bytes_ptr (h : VC w b tb x p A n c bs) (hT : TiAt lo w tb T) (hk : T.kind = 9 ∧ T.size = 4) (hx : 0 ≤ x ∧ x < 4294967296) :
    Calls Try.prog 21 #[ptr b] w (BysPost (wordB (if p.isSome = true then 1 else 0)) w) := by
  obtain ⟨i0, hi0, hz0, hz1, hz2⟩ := info_parts3 u8info
  have Hi := Go.Lib.hid (And.intro hi0 (And.intro hz0 (And.intro hz1 hz2)))
  clear hi0 hz0 hz1 hz2
  have c0 : w.cell? ⟨b, 0, none⟩ = some (ptr tb) := h.blk.cell 0
  have c3 : w.cell? ⟨b, 3, none⟩ = some (.slice A n c) := h.blk.cell 3
  obtain ⟨t0, t1, _, _, _, t5⟩ := hT.cells
  rw [hk.1] at t0
  have hsz := hT.sz
  have hss := hk.2
  rw [hss] at t5 hsz
  have Hth := Go.Lib.hid (vthere_c h.blk)
  have c2 : w.cell? ⟨b, 2, none⟩ = some (.pointer p) := h.blk.cell 2
  have HV := Go.Lib.hid h
  obtain ⟨wm, hmk, hbr⟩ := make_br Hi w 4 (by omega)
  have HM : Hid ((Instr.makeSlice 51 (.int .i64 0) (.int .i64 4)).run Try.prog w = .ok (.slice (some ⟨w.heap.size, 0, none⟩) 0 4) wm) := Go.Lib.hid hmk
  have c2' := keepC hbr.chg c2
  have t5' := keepC hbr.chg t5
  have t0' := keepC hbr.chg t0
  have c0' := keepC hbr.chg c0
  have HBR := Go.Lib.hid hbr
  clear h hT hk hx hmk hbr
  unfold ptr at *
  go_enter Try.func21, Try.ntmps21
  cases p with
  | none =>
    go_wp2_with fail
    refine Hth.out.mono ?_
    rintro e w1 ⟨rfl, rfl⟩
    go_wp2_with fail
    rw [HM.out]
    go_wp2_with fail
    have hal := (Chg.refl NoB wm).alloc (Obj.cells #[.int .u32 0] 33)
    refine (word_c _ wm.heap.size 0 (by decide) ((Blk.new wm 33 #[.int .u32 0]).cell 0)).mono ?_
    rintro e w2 ⟨v2, rfl, own2, hc2⟩
    obtain ⟨A2, c2s, rfl⟩ := own_slice1' own2
    have HB2 := Go.Lib.hid (HBR.out.quiet (hal.trans hc2))
    have HO2 := Go.Lib.hid own2
    clear own2 hc2 hal
    go_wp2_with (first | (at_builtin; (refine wpList_app _ rfl (.tmp 101) (.tmp 104) _ rfl w.heap.size U8 i0 _ 1 Try.underlying51 Hi.out.1 Hi.out.2.1 Hi.out.2.2.1 Hi.out.2.2.2 rfl (.slice (some ⟨w.heap.size, 0, none⟩) 0 4) 0 [] rfl HB2.out.row A2 4 c2s (u8s (wordB 0)) rfl rfl (own_cells HO2.out) (fun u hu => by obtain ⟨y, _, rfl⟩ := List.mem_map.1 hu; rfl) (by unfold maxLen; omega) (by omega) (by have := HB2.out.chg.size; omega) ?_); intro v4 w4 own4 gr4 at4; have hB4 := HB2.out.grown (l' := wordB 0) (m := 4) (Chg.refl NoB _) own4 rfl gr4; obtain ⟨A3, c3s, rfl⟩ := own_slice1' own4; have HB3 : Hid (BR w (wordB 0) (.slice A3 4 c3s) w4) := Go.Lib.hid hB4; clear own4 gr4 at4 hB4; have q0 := keepC HB3.out.chg c0; have q5 := keepC HB3.out.chg t5) | (at_builtin; (refine wpList_zeros rfl (.tmp 106) (.tmp 116) _ _ rfl w.heap.size U8 i0 (.int .u8 0) .i64 Try.underlying51 Try.underlying3 Hi.out.1 Hi.out.2.1 Hi.out.2.2.1 Hi.out.2.2.2 rfl rfl (.slice A3 4 c3s) 4 (u8s (wordB 0)) rfl HB3.out.row .i64 0 (by first | rfl | (refine congrArg (Value.int .i64) ?_; omega)) (by omega) (by have := HB3.out.chg.size; omega) ?_); intro v4 w5 own5 gr5))
    go_ret
    have hB5 := HB3.out.grown (l' := []) (m := 0) (Chg.refl NoB _) own5 rfl gr5
    exact ⟨_, rfl, hB5.row, hB5.chg⟩
  | some pa =>
    go_wp2_with fail
    refine Hth.out.mono ?_
    rintro e w1 ⟨rfl, rfl⟩
    go_wp2_with fail
    rw [HM.out]
    go_wp2_with fail
    have hal := (Chg.refl NoB wm).alloc (Obj.cells #[.int .u32 1] 33)
    refine (word_c _ wm.heap.size 1 (by decide) ((Blk.new wm 33 #[.int .u32 1]).cell 0)).mono ?_
    rintro e w2 ⟨v2, rfl, own2, hc2⟩
    obtain ⟨A2, c2s, rfl⟩ := own_slice1' own2
    have HB2 := Go.Lib.hid (HBR.out.quiet (hal.trans hc2))
    have HO2 := Go.Lib.hid own2
    clear own2 hc2 hal
    go_wp2_with (first | (at_builtin; (refine wpList_app _ rfl (.tmp 101) (.tmp 104) _ rfl w.heap.size U8 i0 _ 1 Try.underlying51 Hi.out.1 Hi.out.2.1 Hi.out.2.2.1 Hi.out.2.2.2 rfl (.slice (some ⟨w.heap.size, 0, none⟩) 0 4) 0 [] rfl HB2.out.row A2 4 c2s (u8s (wordB 1)) rfl rfl (own_cells HO2.out) (fun u hu => by obtain ⟨y, _, rfl⟩ := List.mem_map.1 hu; rfl) (by unfold maxLen; omega) (by omega) (by have := HB2.out.chg.size; omega) ?_); intro v4 w4 own4 gr4 at4; have hB4 := HB2.out.grown (l' := wordB 1) (m := 4) (Chg.refl NoB _) own4 rfl gr4; obtain ⟨A3, c3s, rfl⟩ := own_slice1' own4; have HB3 : Hid (BR w (wordB 1) (.slice A3 4 c3s) w4) := Go.Lib.hid hB4; clear own4 gr4 at4 hB4; have q0 := keepC HB3.out.chg c0; have q5 := keepC HB3.out.chg t5) | (at_builtin; (refine wpList_zeros rfl (.tmp 106) (.tmp 116) _ _ rfl w.heap.size U8 i0 (.int .u8 0) .i64 Try.underlying51 Try.underlying3 Hi.out.1 Hi.out.2.1 Hi.out.2.2.1 Hi.out.2.2.2 rfl rfl (.slice A3 4 c3s) 4 (u8s (wordB 1)) rfl HB3.out.row .i64 0 (by first | rfl | (refine congrArg (Value.int .i64) ?_; omega)) (by omega) (by have := HB3.out.chg.size; omega) ?_); intro v4 w5 own5 gr5))
    go_ret
    have hB5 := HB3.out.grown (l' := []) (m := 0) (Chg.refl NoB _) own5 rfl gr5
    exact ⟨_, rfl, hB5.row, hB5.chg⟩
set_option maxHeartbeats 2000000 in
set_option maxRecDepth 20000 in
theorem bytes_bas (h : VC w b tb x p A n c bs) (hT : TiAt lo w tb T) (hk : T.kind ≠ 7 ∧ T.kind ≠ 8 ∧ T.kind ≠ 9) (hs4 : T.size ≤ 4) (hx : 0 ≤ x ∧ x < 4294967296) :
    Calls Try.prog 21 #[ptr b] w (BysPost ((wordB x).take T.size) w) := by
  obtain ⟨i0, hi0, hz0, hz1, hz2⟩ := info_parts3 u8info
  have Hi := Go.Lib.hid (And.intro hi0 (And.intro hz0 (And.intro hz1 hz2)))
  clear hi0 hz0 hz1 hz2
  have c0 : w.cell? ⟨b, 0, none⟩ = some (ptr tb) := h.blk.cell 0
  have c3 : w.cell? ⟨b, 3, none⟩ = some (.slice A n c) := h.blk.cell 3
  obtain ⟨t0, t1, _, _, _, t5⟩ := hT.cells
  have e7 : ((T.kind : Int) == 7) = false := by simp; omega
  have e8 : ((T.kind : Int) == 8) = false := by simp; omega
  have e9 : ((T.kind : Int) == 9) = false := by simp; omega
  have hsz := hT.sz
  obtain ⟨s, hss⟩ : ∃ s, T.size = s := ⟨_, rfl⟩
  rw [hss] at t5 hsz hs4 ⊢
  have Hth := Go.Lib.hid (vthere_c h.blk)
  have c1 : w.cell? ⟨b, 1, none⟩ = some (.int .u32 x) := h.blk.cell 1
  have HV := Go.Lib.hid h
  obtain ⟨wm, hmk, hbr⟩ := make_br Hi w s (by omega)
  have HM := Go.Lib.hid hmk
  have c3' := keepC hbr.chg c3
  have t0' := keepC hbr.chg t0
  have c0' := keepC hbr.chg c0
  have HBR := Go.Lib.hid hbr
  have HX := Go.Lib.hid hx
  clear h hT hk hx hmk hbr
  unfold ptr at *
  go_enter Try.func21, Try.ntmps21
  go_wp2_with fail
  refine Hth.out.mono ?_
  rintro e w1 ⟨rfl, rfl⟩
  go_wp2_with fail
  rw [HM.out]
  go_wp2_with fail
  refine regionT 17 (fun V' => Chg NoB w V') (by kernel_rfl) (by decide) (HBR.out.chg.drew) (fun inv hHeld => ?_)
  refine takeT (i := 0) (t := 27) (v := ?v0y1) rfl (by kernel_rfl) (by kernel_rfl) (by kernel_rfl) (fun _ _ _ h => h) (by kernel_rfl) (by kernel_rfl) (by decide) (by decide) rfl (Or.inl ⟨by rfl, ?h0y1⟩) inv hHeld ?r0y1
  case h0y1 => (intro V' hSw; clear hSw; go_simp; try with_reducible rfl)
  clear inv
  intro inv
  try simp only [List.setIfInBounds_toArray, List.set_cons_zero, List.set_cons_succ]
  refine takeT (i := 1) (t := 28) (v := ?v1y2) rfl (by kernel_rfl) (by kernel_rfl) (by kernel_rfl) (fun _ _ _ h => h) (by kernel_rfl) (by kernel_rfl) (by decide) (by decide) rfl (Or.inl ⟨by rfl, ?h1y2⟩) inv hHeld ?r1y2
  case h1y2 => (intro V' hSw; clear hSw; go_simp; try with_reducible rfl)
  clear inv
  intro inv
  try simp only [List.setIfInBounds_toArray, List.set_cons_zero, List.set_cons_succ]
  refine takeT (i := 2) (t := 29) (v := ?v2y3) rfl (by kernel_rfl) (by kernel_rfl) (by kernel_rfl) (fun _ _ _ h => h) (by kernel_rfl) (by kernel_rfl) (by decide) (by decide) rfl (Or.inl ⟨by rfl, ?h2y3⟩) inv hHeld ?r2y3
  case h2y3 => (intro V' hSw; clear hSw; go_simp; try with_reducible rfl)
  clear inv
  intro inv
  try simp only [List.setIfInBounds_toArray, List.set_cons_zero, List.set_cons_succ]
  refine takeT (i := 3) (t := 30) (v := ?v3y4) rfl (by kernel_rfl) (by kernel_rfl) (by kernel_rfl) (fun _ _ _ h => h) (by kernel_rfl) (by kernel_rfl) (by decide) (by decide) rfl (Or.inl ⟨by rfl, ?h3y4⟩) inv hHeld ?r3y4
  case h3y4 => (intro V' hSw; clear hSw; go_simp; try with_reducible rfl)
  clear inv
  intro inv
  try simp only [List.setIfInBounds_toArray, List.set_cons_zero, List.set_cons_succ]
  refine takeT (i := 4) (t := 31) (v := ?v4y5) rfl (by kernel_rfl) (by kernel_rfl) (by kernel_rfl) (fun _ _ _ h => h) (by kernel_rfl) (by kernel_rfl) (by decide) (by decide) rfl (Or.inl ⟨by rfl, ?h4y5⟩) inv hHeld ?r4y5
  case h4y5 => (intro V' hSw; clear hSw; go_simp; try with_reducible rfl)
  clear inv
  intro inv
  try simp only [List.setIfInBounds_toArray, List.set_cons_zero, List.set_cons_succ]
  refine takeT (i := 5) (t := 32) (v := ?v5y6) rfl (by kernel_rfl) (by kernel_rfl) (by kernel_rfl) (fun _ _ _ h => h) (by kernel_rfl) (by kernel_rfl) (by decide) (by decide) rfl (Or.inl ⟨by rfl, ?h5y6⟩) inv hHeld ?r5y6
  case h5y6 => (intro V' hSw; have hq := keepC hSw c1; clear hSw; go_simp; try with_reducible rfl)
  clear inv
  intro inv
  try simp only [List.setIfInBounds_toArray, List.set_cons_zero, List.set_cons_succ]
  refine takeT (i := 8) (t := 35) (v := ?v8y7) rfl (by kernel_rfl) (by kernel_rfl) (by kernel_rfl) (fun _ _ _ h => h) (by kernel_rfl) (by kernel_rfl) (by decide) (by decide) rfl (Or.inl ⟨by rfl, ?h8y7⟩) inv hHeld ?r8y7
  case h8y7 => (intro V' hSw; clear hSw; go_simp; try with_reducible rfl)
  clear inv
  intro inv
  try simp only [List.setIfInBounds_toArray, List.set_cons_zero, List.set_cons_succ]
  refine takeT (i := 9) (t := 36) (v := ?v9y8) rfl (by kernel_rfl) (by kernel_rfl) (by kernel_rfl) (fun _ _ _ h => h) (by kernel_rfl) (by kernel_rfl) (by decide) (by decide) rfl (Or.inl ⟨by rfl, ?h9y8⟩) inv hHeld ?r9y8
  case h9y8 => (intro V' hSw; clear hSw; go_simp; try with_reducible rfl)
  clear inv
  intro inv
  try simp only [List.setIfInBounds_toArray, List.set_cons_zero, List.set_cons_succ]
  refine takeT (i := 10) (t := 37) (v := ?v10y9) rfl (by kernel_rfl) (by kernel_rfl) (by kernel_rfl) (fun _ _ _ h => h) (by kernel_rfl) (by kernel_rfl) (by decide) (by decide) rfl (Or.inl ⟨by rfl, ?h10y9⟩) inv hHeld ?r10y9
  case h10y9 => (intro V' hSw; clear hSw; go_simp; try with_reducible rfl)
  clear inv
  intro inv
  try simp only [List.setIfInBounds_toArray, List.set_cons_zero, List.set_cons_succ]
  refine takeT (i := 11) (t := 38) (v := ?v11y10) rfl (by kernel_rfl) (by kernel_rfl) (by kernel_rfl) (fun _ _ _ h => h) (by kernel_rfl) (by kernel_rfl) (by decide) (by decide) rfl (Or.inl ⟨by rfl, ?h11y10⟩) inv hHeld ?r11y10
  case h11y10 => (intro V' hSw; have hq := keepC hSw c0; clear hSw; go_simp; try with_reducible rfl)
  clear inv
  intro inv
  try simp only [List.setIfInBounds_toArray, List.set_cons_zero, List.set_cons_succ]
  refine takeT (i := 12) (t := 39) (v := ?v12y11) rfl (by kernel_rfl) (by kernel_rfl) (by kernel_rfl) (fun _ _ _ h => h) (by kernel_rfl) (by kernel_rfl) (by decide) (by decide) rfl (Or.inl ⟨by rfl, ?h12y11⟩) inv hHeld ?r12y11
  case h12y11 => (intro V' hSw; clear hSw; go_simp; try with_reducible rfl)
  clear inv
  intro inv
  try simp only [List.setIfInBounds_toArray, List.set_cons_zero, List.set_cons_succ]
  refine takeT (i := 13) (t := 40) (v := ?v13y12) rfl (by kernel_rfl) (by kernel_rfl) (by kernel_rfl) (fun _ _ _ h => h) (by kernel_rfl) (by kernel_rfl) (by decide) (by decide) rfl (Or.inl ⟨by rfl, ?h13y12⟩) inv hHeld ?r13y12
  case h13y12 => (intro V' hSw; clear hSw; go_simp; try with_reducible rfl)
  clear inv
  intro inv
  try simp only [List.setIfInBounds_toArray, List.set_cons_zero, List.set_cons_succ]
  refine takeT (i := 14) (t := 41) (v := ?v14y13) rfl (by kernel_rfl) (by kernel_rfl) (by kernel_rfl) (fun _ _ _ h => h) (by kernel_rfl) (by kernel_rfl) (by decide) (by decide) rfl (Or.inl ⟨by rfl, ?h14y13⟩) inv hHeld ?r14y13
  case h14y13 => (intro V' hSw; have hq := keepC hSw t5; clear hSw; go_simp; try with_reducible rfl)
  clear inv
  intro inv
  try simp only [List.setIfInBounds_toArray, List.set_cons_zero, List.set_cons_succ]
  refine valT (i := 6) (t := 33) (v := .slice (some ⟨wm.heap.size, 0, none⟩) 1 1) (w' := (wm.drew.alloc (.cells #[.int .u32 x] 33))) rfl (by kernel_rfl) rfl (by rfl) ?hx6 inv (by decide) (hHeld.alloc _) ?r6
  case hx6 => (go_simp; try rfl)
  intro inv2 hHeld2
  clear inv hHeld
  have inv := inv2
  have hHeld := hHeld2
  clear inv2 hHeld2
  try simp only [List.setIfInBounds_toArray, List.set_cons_zero, List.set_cons_succ]
  refine callT (i := 7) (t := 34) (f := 51) (args := #[.slice (some ⟨wm.heap.size, 0, none⟩) 1 1]) rfl (by kernel_rfl) rfl (by rfl) ?hx7 inv (by decide) ?hc7
  case hx7 => (go_simp; try rfl)
  case hc7 =>
    refine (word_c _ wm.heap.size x HX.out ((Blk.new wm.drew 33 #[.int .u32 x]).cell 0)).mono ?_
    rintro e w2 ⟨v2, rfl, own2, hc2⟩
    obtain ⟨A2, c2s, rfl⟩ := own_slice1' own2
    have HB2 := Go.Lib.hid (HBR.out.quiet ((((Chg.refl NoB wm).drew).alloc (.cells #[.int .u32 x] 33)).trans hc2))
    have HO2 := Go.Lib.hid own2
    have hcap := (own_cap own2).1
    have hcap2 := (own_cap own2).2
    unfold maxLen at hcap2
    clear own2
    refine ⟨_, rfl, hHeld.trans hc2, fun inv2 hHeld2 => ?_⟩
    clear inv hHeld hc2
    have inv := inv2
    have hHeld := hHeld2
    clear inv2 hHeld2
    have hsl : s ≤ c2s := by
      have : (wordB x).length = 4 := rfl
      omega
    have hs6 : (s : Int) ≤ 9223372036854775807 := by omega
    try simp only [List.setIfInBounds_toArray, List.set_cons_zero, List.set_cons_succ]
    refine takeT (i := 15) (t := 42) (v := .slice A2 s c2s) rfl (by kernel_rfl) (by kernel_rfl) (by kernel_rfl) (fun _ _ _ h => h) (by kernel_rfl) (by kernel_rfl) (by decide) (by decide) rfl (Or.inl ⟨by rfl, ?h15⟩) inv hHeld ?r15
    case h15 => (intro V' hSw; clear hSw hHeld; go_simp; try with_reducible rfl)
    clear inv
    intro inv
    try simp only [List.setIfInBounds_toArray, List.set_cons_zero, List.set_cons_succ]
    refine wpT (i := 16) rfl (by kernel_rfl) (by rfl) inv (by decide) (fun inv2 => ?_)
    clear inv
    have inv := inv2
    clear inv2
    have hwl : (wordB x).length = 4 := rfl
    refine wp_appK _ (.tmp 27) (.tmp 42) _ rfl w.heap.size U8 i0 (.int .u8 0) 1 1 Try.underlying51 Hi.out.1 Hi.out.2.1 Hi.out.2.2.1 Hi.out.2.2.2 rfl (by decide) (.slice (some ⟨w.heap.size, 0, none⟩) 0 s) 0 [] (by rfl) HB2.out.row A2 s c2s (u8s ((wordB x).take s)) (by rfl) (by rw [u8s_len, List.length_take]; omega) (by rw [← u8s_take]; exact CellsAt.take (own_cells HO2.out) s) (fun u hu => by obtain ⟨y, _, rfl⟩ := List.mem_map.1 hu; rfl) (by unfold maxLen; omega) (by omega) (by have := HB2.out.chg.size; omega) ?_
    intro v4 w4 own4 gr4 at4
    have hB4 := HB2.out.grown (l' := (wordB x).take s) (m := s) (Chg.refl NoB _) own4 (by rw [List.length_take]; omega) gr4
    obtain ⟨A3, c3s, rfl⟩ := own_slice1' own4
    rw [Nat.zero_add] at *
    have HB3 := Go.Lib.hid hB4
    clear own4 gr4 at4 hB4
    refine ⟨fun _ => HB3.out.chg, ?_⟩
    try simp only [List.setIfInBounds_toArray, List.set_cons_zero, List.set_cons_succ]
    refine lastV (i := 17) (t := 3) (v := .slice A3 s c3s) (w' := w4) rfl (by kernel_rfl) rfl (by rfl) ?hx17 (by decide) (by kernel_rfl) ?_
    case hx17 => (go_simp; try with_reducible rfl)
    clear inv hHeld
    obtain ⟨l3, hl3e⟩ : ∃ l3, (wordB x).take s = l3 := ⟨_, rfl⟩
    have hl3l : l3.length = s := by rw [← hl3e, List.length_take]; omega
    have HBe : BR w l3 (.slice A3 s c3s) w4 := by have h := HB3.out; rw [List.nil_append, hl3e] at h; exact h
    have q0 := keepC HB3.out.chg c0
    have q5 := keepC HB3.out.chg t5
    have hz0 : (s : Int) - (s : Int) = 0 := by omega
    have hrw := HBe.row
    rw [hl3l] at hrw
    have HRW := Go.Lib.hid hrw
    clear hrw
    go_wp2_with (at_builtin; go_must (refine wpList_zeros rfl (.tmp 106) (.tmp 116) _ _ rfl w.heap.size U8 i0 (.int .u8 0) .i64 Try.underlying51 Try.underlying3 Hi.out.1 Hi.out.2.1 Hi.out.2.2.1 Hi.out.2.2.2 rfl rfl (.slice A3 s c3s) s (u8s l3) rfl HRW.out .i64 0 (by first | rfl | (refine congrArg (Value.int .i64) ?_; omega)) (by omega) (by have := HB3.out.chg.size; omega) ?_); intro v4 w5 own5 gr5)
    go_ret
    have hB5 := HBe.grown (l' := []) (m := 0) (Chg.refl NoB _) (by rw [hl3l]; exact own5) rfl gr5
    rw [List.append_nil, ← hl3e] at hB5
    exact ⟨_, rfl, hB5.row, hB5.chg⟩
end
end Go.Proofs.Ytholeloedihkoaa
