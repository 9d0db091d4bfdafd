/- What is proved: machine.Copy; Byte of a machine and of a copy. Conditions: as each theorem says. -/
import Derived.Test.YtggknljlibhkjaaMcR
import Derived.Test.YtggknljlibhkjaaGCp
set_option linter.unusedSimpArgs false
set_option linter.unusedVariables false
namespace Go.Proofs.Ytggknljlibhkjaa
open Go Go.RowKit
section
variable {P : Program} {ops : Array Oper} {Q : Exit → Act → World → Prop} {md : Region.Mode} {S : World → Prop}
variable {i t fuel : Nat} {oi : Oper} {v : Value} {listed : Array Bool} {a : Act} {w w' : World} {T : Act → World → Prop}
theorem opSkipH (hi : ops[i]? = some oi) (hdst : oi.dst = none) (hw : Region.wanted oi (yielded ops a.tmps) = true) (hx : (execOp a.eval oi).run P w = .ok .skip w') (hS : S w')
    (h : T a w') : wpOp P ops Q i (fun a' w' => S w' ∧ T a' w') a w := by
  unfold wpOp
  rw [hi]
  simp only
  rw [if_pos hw]
  refine .inl ?_
  unfold Oper.wp
  rw [hx]
  exact ⟨hS, by rw [hdst]; exact h⟩
end
theorem add0 (b j : Nat) : (⟨b, 0, none⟩ : Addr).add j = ⟨b, j, none⟩ := by unfold Addr.add; split <;> simp_all
/-- a copy's memory -/
structure MLk (W : World) (p mb n cap : Nat) (M : Nat → Int) : Prop where
  m : W.cell? ⟨p, 22, none⟩ = some (.slice (some ⟨mb, 0, none⟩) n cap)
  b : ∀ j, j < n → W.cell? ⟨mb, j, none⟩ = some (.int .u8 (M j))
def mzArr : Array Value := Cp.zero.arr ++ #[.slice none 0 0, .int .u32 0, .pointer none, .int .i64 0, .int .u32 0, .map none]
def bytesM (d : Mc) : List UInt8 := (List.range d.n).map fun i => UInt8.ofNat (d.M i).toNat
def MCopyPost (W : World) (d : Mc) (e : Ending) (w' : World) : Prop :=
  ∃ p2 mb2 cap, e = .returned (.pointer (some ⟨p2, 0, none⟩)) ∧ MLk w' p2 mb2 d.n cap d.M ∧ Chg NoB W w' ∧ W.heap.size ≤ p2 ∧ W.heap.size ≤ mb2
section
variable {W : World} {p mb s mm : Nat} {d : Mc} {base : Nat} {v : V} {F : Nat → Prop}
set_option maxRecDepth 100000 in
set_option maxHeartbeats 2000000 in
theorem mcopy_c (h : MAt W p mb s mm d) (hd : d.Ok) (hs : StoreV base W s v F) : Calls Try.prog 19 #[.pointer (some ⟨p, 0, none⟩)] W (MCopyPost W d) := by
  have HT := Go.Lib.hid (mthere_c h)
  have hM := hd.m
  have hn0 : 0 < d.n := by have := hd.n; omega
  have hnb := hd.n.2.1
  have hlen : (bytesM d).length = d.n := by simp [bytesM]
  have hbl : ∀ j u, (bv (bytesM d))[j]? = some u → j < d.n ∧ u = .int .u8 (d.M j) := fun j u hj => by
    have hl := (List.getElem?_eq_some_iff.1 hj).1
    simp [bv, bytesM] at hl
    simp [bv, bytesM, hl] at hj
    refine ⟨hl, ?_⟩
    rw [← hj]
    have := hM j
    congr 1
    omega
  have HCL : Hid (∀ W', Chg NoB W W' → Calls Try.prog 47 #[.slice (some ⟨mb, 0, none⟩) d.n d.n] W' fun e w' => ∃ v, e = .returned v ∧ w'.ownsRow W'.heap.size U8 1 v d.n (bv (bytesM d)) ∧ Chg NoB W' w') := Go.Lib.hid fun W' hc => by
    have := clone_c W' (some ⟨mb, 0, none⟩) d.n (bytesM d) (by rw [hlen]; omega) (fun h => by cases h) (fun _ => ⟨_, rfl, fun j u hj => by
      obtain ⟨h1, rfl⟩ := hbl j u hj
      have := (h.quiet hc).byte h1
      rw [add0]; exact this⟩)
    rw [hlen] at this
    exact this
  have HST : Hid (∀ W', Chg NoB W W' → Calls Try.prog 48 #[.pointer (some ⟨s, 0, none⟩)] W' fun e w' => ∃ s2, e = .returned (.pointer (some ⟨s2, 0, none⟩)) ∧ Chg NoB W' w') := Go.Lib.hid fun W' hc =>
    (copy_v (hs.quiet hc)).mono fun e w' hq => by
      obtain ⟨c, v', F', ρ, he, _, _, _, hch⟩ := hq
      exact ⟨c, he, hch⟩
  have h22 : Hid ((d.arr mb s mm)[22]? = some (Value.slice (some ⟨mb, 0, none⟩) d.n d.n)) := Go.Lib.hid rfl
  have h24 : Hid ((d.arr mb s mm)[24]? = some (Value.pointer (some ⟨s, 0, none⟩))) := Go.Lib.hid rfl
  have H := Go.Lib.hid h
  have hplt := h.lt.1
  have HZ := Go.Lib.hid (fun cs => (Blk.new W MT cs))
  have HP := Go.Lib.hid (fun o => (h.quiet ((Chg.refl NoB W).alloc o)).m)
  clear h hs
  generalize har : d.arr mb s mm = AR at *
  have hsz : AR.size = 28 := by rw [← har]; rfl
  go_enter Try.func19, Try.ntmps19
  go_wp2_with fail
  refine HT.out.mono ?_
  rintro e w1 ⟨rfl, rfl⟩
  go_upto_region 4 with (first
    | (refine wpList_load_row rfl 65 (.tmp 8) rfl p rfl MT AR (0, 0) _ (by rw [← har]; exact H.out.m) Try.underlying65 rfl (by rw [← har]; kernel_rfl) ?_)
    | (refine wpList_store_row rfl 65 (.tmp 3) (.tmp 9) rfl W.heap.size AR rfl rfl MT _ (HZ.out _) (by rw [← har]; kernel_rfl) (by rw [← har]; rfl) (by rw [← har]; kernel_rfl) ?_))
  have hb1 : Blk ((W.alloc (.cells mzArr MT)).setRow W.heap.size AR) W.heap.size MT AR := (HZ.out _).setRow _
  have hpg : p ≠ W.heap.size := by omega
  have hb0 : Blk ((W.alloc (.cells mzArr MT)).setRow W.heap.size AR) p MT AR := by
    have := (HP.out (.cells mzArr MT))
    exact this.farRow hpg _
  have hc2 : Chg NoB W ((W.alloc (.cells mzArr MT)).setRow W.heap.size AR) := ((Chg.refl NoB W).alloc _).setRow (fun h => absurd h (by omega)) _
  change (Code.wp _ _ _ _ ((W.alloc (.cells mzArr MT)).setRow W.heap.size AR))
  have hgW : W.heap.size < ((W.alloc (.cells mzArr MT)).setRow W.heap.size AR).heap.size := by simp
  have hgE : W.heap.size ≤ W.heap.size := Nat.le_refl _
  have H2 := Go.Lib.hid (And.intro hb0 (And.intro hb1 hc2))
  clear hb0 hb1 hc2 HP HZ
  generalize (W.alloc (.cells mzArr MT)).setRow W.heap.size AR = W2 at *
  generalize hg : W.heap.size = g at *
  refine regionH (fun V' => Blk V' p MT AR) (by kernel_rfl) H2.out.1.drew (fun hS => ?_)
  refine takeH (i := 0) (t := 10) (v := ?v0y1) rfl (by kernel_rfl) (by kernel_rfl) (by kernel_rfl) (fun _ _ _ h => h) rfl (Or.inl ⟨by rfl, ?h0y1⟩) hS ?r0y1
  case h0y1 => (intro V' hSw; go_simp; try with_reducible rfl)
  try simp only [List.setIfInBounds_toArray, List.set_cons_zero, List.set_cons_succ]
  refine takeH (i := 1) (t := 11) (v := ?v1y2) rfl (by kernel_rfl) (by kernel_rfl) (by kernel_rfl) (fun _ _ _ h => h) rfl (Or.inl ⟨by rfl, ?h1y2⟩) hS ?r1y2
  case h1y2 => (intro V' hSw; go_simp; try with_reducible rfl)
  try simp only [List.setIfInBounds_toArray, List.set_cons_zero, List.set_cons_succ]
  refine takeH (i := 2) (t := 12) (v := ?v2y3) rfl (by kernel_rfl) (by kernel_rfl) (by kernel_rfl) (fun _ _ _ h => h) rfl (Or.inl ⟨by rfl, ?h2y3⟩) hS ?r2y3
  case h2y3 => (intro V' hSw; go_simp; try with_reducible rfl)
  try simp only [List.setIfInBounds_toArray, List.set_cons_zero, List.set_cons_succ]
  refine takeH (i := 3) (t := 13) (v := ?v3y4) rfl (by kernel_rfl) (by kernel_rfl) (by kernel_rfl) (fun _ _ _ h => h) rfl (Or.inl ⟨by rfl, ?h3y4⟩) hS ?r3y4
  case h3y4 => (intro V' hSw; have z22 := hSw.cell 22; rw [h22.out] at z22; clear hSw; go_simp; try with_reducible rfl)
  try simp only [List.setIfInBounds_toArray, List.set_cons_zero, List.set_cons_succ]
  refine takeH (i := 5) (t := 15) (v := ?v5y5) rfl (by kernel_rfl) (by kernel_rfl) (by kernel_rfl) (fun _ _ _ h => h) rfl (Or.inl ⟨by rfl, ?h5y5⟩) hS ?r5y5
  case h5y5 => (intro V' hSw; go_simp; try with_reducible rfl)
  try simp only [List.setIfInBounds_toArray, List.set_cons_zero, List.set_cons_succ]
  refine takeH (i := 6) (t := 16) (v := ?v6y6) rfl (by kernel_rfl) (by kernel_rfl) (by kernel_rfl) (fun _ _ _ h => h) rfl (Or.inl ⟨by rfl, ?h6y6⟩) hS ?r6y6
  case h6y6 => (intro V' hSw; go_simp; try with_reducible rfl)
  try simp only [List.setIfInBounds_toArray, List.set_cons_zero, List.set_cons_succ]
  refine takeH (i := 7) (t := 17) (v := ?v7y7) rfl (by kernel_rfl) (by kernel_rfl) (by kernel_rfl) (fun _ _ _ h => h) rfl (Or.inl ⟨by rfl, ?h7y7⟩) hS ?r7y7
  case h7y7 => (intro V' hSw; go_simp; try with_reducible rfl)
  try simp only [List.setIfInBounds_toArray, List.set_cons_zero, List.set_cons_succ]
  refine takeH (i := 8) (t := 18) (v := ?v8y8) rfl (by kernel_rfl) (by kernel_rfl) (by kernel_rfl) (fun _ _ _ h => h) rfl (Or.inl ⟨by rfl, ?h8y8⟩) hS ?r8y8
  case h8y8 => (intro V' hSw; have z24 := hSw.cell 24; rw [h24.out] at z24; clear hSw; go_simp; try with_reducible rfl)
  try simp only [List.setIfInBounds_toArray, List.set_cons_zero, List.set_cons_succ]
  refine manyH (i := 4) (l := []) (by kernel_rfl) ?hm
  case hm =>
    intro j hj
    obtain rfl : j = 4 := by simpa using hj
    refine opCallH (t := 14) (f := 47) (args := #[.slice (some ⟨mb, 0, none⟩) d.n d.n]) rfl rfl (by rfl) ?hx ?hc
    case hx => (go_simp; try rfl)
    case hc =>
      refine (HCL.out W2.drew H2.out.2.2.drew).mono ?_
      rintro ee w3 ⟨rv, rfl, hown, hq⟩
      obtain ⟨mb2, cap, rfl, hb2, hb3⟩ := hown.form hn0
      have hS := hS.chg hq (fun h => h)
      have hB1 := H2.out.2.1.drew.chg hq (fun h => h)
      have HC3 := Go.Lib.hid (H2.out.2.2.drew.trans hq)
      refine ⟨_, rfl, hS, ?_⟩
      try simp only [List.setIfInBounds_toArray, List.set_cons_zero, List.set_cons_succ]
      refine manyH (i := 9) (l := []) (by kernel_rfl) ?hm
      case hm =>
        intro j hj
        obtain rfl : j = 9 := by simpa using hj
        refine opCallH (t := 19) (f := 48) (args := #[.pointer (some ⟨s, 0, none⟩)]) rfl rfl (by rfl) ?hx ?hc
        case hx => (go_simp; try rfl)
        case hc =>
          refine (HST.out w3 HC3.out).mono ?_
          rintro ee w4 ⟨s2, rfl, hq4⟩
          have hS := hS.chg hq4 (fun h => h)
          have hB1 := hB1.chg hq4 (fun h => h)
          have hown4 := own_chg hown hq4 (fun _ _ => id)
          have HC4 := Go.Lib.hid (HC3.out.trans hq4)
          refine ⟨_, rfl, hS, ?_⟩
          try simp only [List.setIfInBounds_toArray, List.set_cons_zero, List.set_cons_succ]
          refine takeH (i := 10) (t := 20) (v := ?v10y9) rfl (by kernel_rfl) (by kernel_rfl) (by kernel_rfl) (fun _ _ _ h => h) rfl (Or.inl ⟨by rfl, ?h10y9⟩) hS ?r10y9
          case h10y9 => (intro V' hSw; go_simp; try with_reducible rfl)
          try simp only [List.setIfInBounds_toArray, List.set_cons_zero, List.set_cons_succ]
          refine manyH (i := 11) (l := []) (by kernel_rfl) ?hm
          case hm =>
            intro j hj
            obtain rfl : j = 11 := by simpa using hj
            have c22 := hB1.cell 22
            rw [h22.out] at c22
            have z22 := hB1.frozen 22
            refine opSkipH (w' := w4.setCell ⟨g, 22, none⟩ (.slice (some ⟨mb2, 0, none⟩) d.n cap)) rfl rfl (by rfl) ?hx (hS.far (p := ⟨g, 22, none⟩) hpg _) ?hn
            case hx => (go_simp; try rfl)
            case hn =>
              have hS := hS.far (p := ⟨g, 22, none⟩) hpg (.slice (some ⟨mb2, 0, none⟩) d.n cap)
              have hB2 := hB1.set_ 22 (.slice (some ⟨mb2, 0, none⟩) d.n cap)
              refine takeH (i := 12) (t := 21) (v := ?v12y10) rfl (by kernel_rfl) (by kernel_rfl) (by kernel_rfl) (fun _ _ _ h => h) rfl (Or.inl ⟨by rfl, ?h12y10⟩) hS ?r12y10
              case h12y10 => (intro V' hSw; go_simp; try with_reducible rfl)
              try simp only [List.setIfInBounds_toArray, List.set_cons_zero, List.set_cons_succ]
              have c24 : (w4.setCell ⟨g, 22, none⟩ (.slice (some ⟨mb2, 0, none⟩) d.n cap)).cell? ⟨g, 24, none⟩ = some (.pointer (some ⟨s, 0, none⟩)) := by
                rw [hB2.cell 24, Array.getElem?_setIfInBounds_ne (by decide), h24.out]
              have z24 := hB2.frozen 24
              refine storeLastH (i := 13) (w' := (w4.setCell ⟨g, 22, none⟩ (.slice (some ⟨mb2, 0, none⟩) d.n cap)).setCell ⟨g, 24, none⟩ (.pointer (some ⟨s2, 0, none⟩))) rfl (by kernel_rfl) rfl (by rfl) ?hz (hS.far (p := ⟨g, 24, none⟩) hpg _) (by kernel_rfl) ?hy
              case hz => (go_simp; try rfl)
              case hy =>
                have hB3 := hB2.set_ 24 (.pointer (some ⟨s2, 0, none⟩))
                have hC5 := (HC4.out.setCell (p := ⟨g, 22, none⟩) (fun h => absurd h (show ¬ g < W.heap.size by omega)) (.slice (some ⟨mb2, 0, none⟩) d.n cap)).setCell (p := ⟨g, 24, none⟩) (fun h => absurd h (show ¬ g < W.heap.size by omega)) (.pointer (some ⟨s2, 0, none⟩))
                have hO5 : ((w4.setCell ⟨g, 22, none⟩ (.slice (some ⟨mb2, 0, none⟩) d.n cap)).setCell ⟨g, 24, none⟩ (.pointer (some ⟨s2, 0, none⟩))).ownsRow W2.drew.heap.size U8 1 (.slice (some ⟨mb2, 0, none⟩) d.n cap) d.n (bv (bytesM d)) :=
                  own_chg hown4 (F := fun k => k = g) (((Chg.refl (fun k => k = g) w4).setCell (p := ⟨g, 22, none⟩) (fun _ => rfl) _).setCell (p := ⟨g, 24, none⟩) (fun _ => rfl) _) (fun k hk => by
                    have : mb2 = k := by simpa [Value.ownBlock] using hk
                    have : g < W2.drew.heap.size := hgW
                    omega)
                have HF := Go.Lib.hid (And.intro hB3 (And.intro hC5 hO5))
                clear hB1 hB2 hB3 hC5 hO5 hS hown hown4 c22 z22 c24 z24
                go_wp2_with fail
                go_ret
                have hdr : W2.drew.heap.size = W2.heap.size := rfl
                refine ⟨g, mb2, cap, rfl, ⟨?_, ?_⟩, HF.out.2.1, by omega, by omega⟩
                · have := HF.out.1.cell 22
                  rw [this, Array.getElem?_setIfInBounds_ne (by decide)]
                  have hsz22 : 22 < AR.size := by omega
                  simp [hsz22]
                · intro j hj
                  obtain ⟨ad, had, hcl⟩ := CellsAt.of_own HF.out.2.2 (by simp [bv, bytesM]; omega)
                  obtain rfl := Option.some.inj had
                  have := hcl j (.int .u8 (d.M j)) (by simp [bv, bytesM, hj]; have := hM j; omega)
                  rw [add0] at this; exact this
end
section
variable {W : World} {p mb n cap : Nat} {M : Nat → Int}
theorem MLk.chg {W' : World} {F : Nat → Prop} (h : MLk W p mb n cap M) (hc : Chg F W W') (h1 : ¬ F p) (h2 : ¬ F mb) : MLk W' p mb n cap M :=
  ⟨(World.cell?_of_block (hc.block p (World.block_lt_of_cell? W _ h.m) h1)).trans h.m, fun j hj => (World.cell?_of_block (hc.block mb (World.block_lt_of_cell? W _ (h.b j hj)) h2)).trans (h.b j hj)⟩
theorem kthere_c (h : MLk W p mb n cap M) : Calls Try.prog 40 #[.pointer (some ⟨p, 0, none⟩)] W fun e w' => e = .returned (.bool true) ∧ W = w' := by
  have k22 := h.m
  clear h
  have hne := Go.run_neq_slice_nil (P := Try.prog) W 62 5 (some ⟨mb, 0, none⟩) n cap Try.underlying62
  go_enter Try.func40, Try.ntmps40
  go_wp2_with fail
  go_ret
  exact ⟨rfl, rfl⟩
theorem kinside_c (h : MLk W p mb n cap M) (hn : n ≤ 16777216) (pl : Nat) (hp : pl < n) : Calls Try.prog 44 #[.pointer (some ⟨p, 0, none⟩), .int .u32 pl, .bool true] W fun e w' => e = .returned (.bool true) ∧ W = w' := by
  have k22 := h.m
  clear h
  go_enter Try.func44, Try.ntmps44
  go_wp2_with fail
  go_ret
  exact ⟨rfl, rfl⟩
theorem kbyte_c (h : MLk W p mb n cap M) (hn : n ≤ 16777216) (pl : Nat) (hp : pl < n) : Calls Try.prog 20 #[.pointer (some ⟨p, 0, none⟩), .int .u32 pl] W (Quiet (.tuple #[.int .u8 (M pl), .int .i64 0]) W) := by
  have HT := Go.Lib.hid (kthere_c h)
  have HI := Go.Lib.hid (kinside_c h hn pl hp)
  have hb := h.b pl hp
  have k22 := h.m
  clear h
  generalize M pl = x at *
  go_enter Try.func20, Try.ntmps20
  go_wp2_with fail
  refine HT.out.mono ?_
  rintro e w1 ⟨rfl, rfl⟩
  go_wp2_with fail
  refine HI.out.mono ?_
  rintro e w1 ⟨rfl, rfl⟩
  go_wp2_with fail
  go_ret2
  exact ⟨rfl, Chg.refl _ _⟩
end
end Go.Proofs.Ytggknljlibhkjaa
