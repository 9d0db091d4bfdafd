/- What is proved: the contracts of value.fresh and New: a new variable of a type that was built out of a shape. Conditions: the memory holds the type. -/
import Derived.Test.YtholeloedihkoaaVaT
import Derived.Test.YtholeloedihkoaaVaG
import Derived.Test.YtholeloedihkoaaApp
set_option linter.unusedSimpArgs false
set_option linter.unusedVariables false
namespace Go.Proofs.Ytholeloedihkoaa
open Go Go.RowKit
/-- a new variable's word -/
def Zr : Int → Option Addr → Prop := fun x p => x = 0 ∧ p = none
/-- ahead of a round of fresh's loops -/
structure FI (w : World) (tb : Nat) (K : List Ty) (k : Nat) (A : Option Addr) (c : Nat) (ks : VF) (W : World) : Prop where
  chg : Chg NoB w W
  blk : Blk W w.heap.size VT #[ptr tb, .int .u32 0, .pointer none, .slice A k c]
  row : W.ownsRow (w.heap.size + 1) PV 1 (.slice A k c) k (ks.blks.map ptr)
  at_ : VsAt Zr W (w.heap.size + 1) ks
  tys : ks.tys = K.take k
  hk : k ≤ K.length
  apart : ∀ j, (Value.slice A k c).ownBlock = some j → ¬ ks.foot j
/-- behind fresh's call of itself -/
structure FN (w : World) (tb : Nat) (K : List Ty) (k : Nat) (A : Option Addr) (c : Nat) (ks : VF) (kb : Nat) (x : Ty) (A1 : Option Addr) (c1 : Nat) (ks1 : VF) (m : Nat) (W : World) : Prop where
  fi : FI w tb K k A c ks W
  kid : VsAt Zr W m (.cons kb x A1 c1 ks1 .nil)
  old : ∀ j, ks.foot j → j < m
  rowm : ∀ j, (Value.slice A k c).ownBlock = some j → j < m
  bm : w.heap.size < m
  hx : K[k]? = some x
def FrPost (x : Ty) (W : World) (e : Ending) (W' : World) : Prop := ∃ b A c ks, e = .returned (ptr b) ∧ VsAt Zr W' W.heap.size (.cons b x A c ks .nil) ∧ Chg NoB W W'
section
variable {w W W1 W2 : World} {tb k c c1 c2 kb m : Nat} {K : List Ty} {A A1 A2 : Option Addr} {ks ks1 : VF} {x : Ty}
theorem FI.len (h : FI w tb K k A c ks W) : ks.len = k := by
  have := congrArg List.length h.tys
  rw [VF.tys_len, List.length_take] at this
  have := h.hk
  omega
theorem FI.quiet (h : FI w tb K k A c ks W) (hc : Chg NoB W W1) : FI w tb K k A c ks W1 :=
  ⟨h.chg.trans hc, h.blk.chg hc id, own_chg h.row hc fun _ _ => id, h.at_.quiet hc, h.tys, h.hk, h.apart⟩
theorem FI.start (w : World) (tb : Nat) (K : List Ty) : FI w tb K 0 none 0 .nil (w.alloc (.cells #[ptr tb, .int .u32 0, .pointer none, .slice none 0 0] VT)) :=
  ⟨(Chg.refl NoB w).alloc _, Blk.new _ _ _, World.ownsRow_nil _ _ _ _, trivial, rfl, Nat.zero_le _, fun j h => by simp [Value.ownBlock] at h⟩
theorem FI.fresh (h : FI w tb K k A c ks W) (hx : K[k]? = some x) (hk : VsAt Zr W1 W.heap.size (.cons kb x A1 c1 ks1 .nil)) (hc : Chg NoB W W1) : FN w tb K k A c ks kb x A1 c1 ks1 W.heap.size W1 :=
  ⟨h.quiet hc, hk, fun j hj => (h.at_.foot_ge ks hj).2, fun j hj => (h.row.lt j hj).2, h.blk.lt, hx⟩
theorem row_vtpv {base : Nat} {A : Option Addr} {k c : Nat} {xs : List Value} (h : W.ownsRow base PV 1 (.slice A k c) k xs) : ∀ j, (Value.slice A k c).ownBlock = some j → VtPv W j := by
  intro j hj
  rcases h.2 with ⟨h1, _⟩ | ⟨g, cap, cur, h2, _, hh, _⟩
  · rw [h1] at hj; simp [Value.ownBlock] at hj
  · rw [h2] at hj
    obtain rfl : g = j := by simpa [Value.ownBlock] using hj
    exact ⟨cur, _, .inr hh⟩
theorem take_succ_get {K : List Ty} {k : Nat} {x : Ty} (h : K[k]? = some x) : K.take (k + 1) = K.take k ++ [x] := by
  have hl := (List.getElem?_eq_some_iff.1 h)
  obtain ⟨hk, he⟩ := hl
  rw [List.take_succ_eq_append_getElem hk, he]
/-- one part more -/
theorem FN.grow {o : Obj} {v2 : Value} (h : FN w tb K k A c ks kb x A1 c1 ks1 m W) (hown : W2.ownsRow (w.heap.size + 1) PV 1 v2 (k + 1) (ks.blks.map ptr ++ [ptr kb])) (hg : (W.alloc o).grownBy W2 (Value.slice A k c).ownBlock)
    (hat : v2.ownBlock = (Value.slice A k c).ownBlock ∨ v2.ownBlock = some (W.alloc o).heap.size) :
    ∃ A2 c2, v2 = .slice A2 (k + 1) c2 ∧ FI w tb K (k + 1) A2 c2 (ks.snoc kb x A1 c1 ks1) (W2.setCell ⟨w.heap.size, 3, none⟩ v2) ∧ W2.cell? ⟨w.heap.size, 3, none⟩ = some (.slice A k c) ∧ W2.frozen? ⟨w.heap.size, 3, none⟩ = false ∧ Chg (fun j => (Value.slice A k c).ownBlock = some j) W W2 := by
  obtain ⟨A2, c2, rfl⟩ := own_slice1' hown
  have hch : Chg (fun j => (Value.slice A k c).ownBlock = some j) W W2 := (((Chg.refl NoB W).alloc o).mono fun _ _ h => h.elim).grown hg fun j hj _ => hj
  have hbn : ¬ (Value.slice A k c).ownBlock = some w.heap.size := own_blk_ne h.fi.row h.fi.blk (by decide)
  have hb2 := h.fi.blk.chg hch hbn
  have hVt := row_vtpv h.fi.row
  have hks := h.fi.at_.chg hch (fun j hj _ => hVt j hj) ks (fun j hj hF => h.fi.apart j hF hj)
  have hkid := h.kid.chg hch (fun j hj _ => hVt j hj) _ (fun j hj hF => by have := (h.kid.foot_ge _ hj).1; have := h.rowm j hF; omega)
  have hsn := VsAt.snoc hkid ks (lo := w.heap.size + 1) (by have := h.bm; omega) hks h.old
  have hb3 : Blk (W2.setCell ⟨w.heap.size, 3, none⟩ (.slice A2 (k + 1) c2)) w.heap.size VT #[ptr tb, .int .u32 0, .pointer none, .slice A2 (k + 1) c2] := by
    have := hb2.set_ 3 (.slice A2 (k + 1) c2)
    exact this
  have hset : Chg (fun j => j = w.heap.size) W2 (W2.setCell ⟨w.heap.size, 3, none⟩ (.slice A2 (k + 1) c2)) := (Chg.refl (fun j => j = w.heap.size) W2).setCell (p := ⟨w.heap.size, 3, none⟩) (fun _ => rfl) _
  refine ⟨A2, c2, rfl, ⟨?_, hb3, own_chg hown hset (fun j hj hjb => ?_) |> fun h => (by rw [VF.snoc_blks, List.map_append]; exact h), ?_, ?_, ?_, ?_⟩, hb2.cell 3, hb2.frozen 3, hch⟩
  · refine (h.fi.chg.step hch fun i hi hk => ?_).setCell (fun h => by simp at h) _
    have := (h.fi.row.lt i hk).1
    omega
  · subst hjb
    exact own_blk_ne hown hb2 (by decide) hj
  · exact hsn.chg hset (fun j hj _ => ⟨_, _, .inl (by subst hj; exact hb2)⟩) _ (fun j hj hjb => by have := (hsn.foot_ge _ hj).1; omega)
  · rw [VF.snoc_tys, h.fi.tys, take_succ_get h.hx]
  · have := (List.getElem?_eq_some_iff.1 h.hx).1
    omega
  · intro j hj hf
    have hlt : ∀ j, (ks.snoc kb x A1 c1 ks1).foot j → j < W.heap.size := fun j hj => by
      rcases VF.snoc_foot _ _ _ _ _ _ _ hj with hj | hj
      · exact (h.fi.at_.foot_ge ks hj).2
      · exact (h.kid.foot_ge _ hj).2
    rcases hat with hat | hat
    · rw [hat] at hj
      rcases VF.snoc_foot _ _ _ _ _ _ _ hf with hf | hf
      · exact h.fi.apart j hj hf
      · have := (h.kid.foot_ge _ hf).1
        have := h.rowm j hj
        omega
    · rw [hat] at hj
      injection hj with hj
      have := hlt j hf
      simp at hj
      omega
end
theorem flatF (fs : List Fd) : ∀ (j d : Nat) (f : Fd), d < 3 → fs[j]? = some f → (fs.flatMap Fd.cells)[j * 3 + d]? = f.cells[d]? := by
  induction fs with
  | nil => intro j d f _ h; simp at h
  | cons x r ih =>
    intro j d f hd h
    cases j with
    | zero =>
      obtain rfl : x = f := by simpa using h
      rw [List.flatMap_cons, List.getElem?_append_left (by simp [Fd.cells]; omega)]
      congr 1
      omega
    | succ j =>
      have := ih j d f hd (by simpa using h)
      rw [List.flatMap_cons, List.getElem?_append_right (by simp [Fd.cells]; omega)]
      rw [← this]
      congr 1
      simp [Fd.cells]
      omega
theorem vinfo : (Try.prog.info? PV).map (fun i => (i.zero, i.size, i.bytes)) = some (some (.pointer none), 1, 8) := by kernel_rfl
set_option maxHeartbeats 2000000 in
set_option maxRecDepth 100000 in
/-- the walk of fresh: over what its parts' calls give -/
theorem fresh_w {w : World} {b : Nat} {T : Ti} {K : List Ty} (h : TiAt 0 w b T) (HK : Hid (K.length ≤ 400000)) (hK : KidsOk T K) (IH : ∀ (j : Nat) x, K[j]? = some x → ∀ W, Chg NoB w W → Calls Try.prog 47 #[ptr x.b] W (FrPost x W)) :
    Calls Try.prog 47 #[ptr b] w (fun e w' => e = .returned (ptr w.heap.size) ∧ ∃ A c ks, FI w b K K.length A c ks w') := by
  obtain ⟨c0, c1, c2, c3, c4, c5⟩ := h.cells
  have HT := Go.Lib.hid h
  have HKK := Go.Lib.hid hK
  have HC := Go.Lib.hid IH
  have hnn := h.nn
  have hnf := h.nf
  clear h hK IH c0 c4 c5
  obtain ⟨i0, hi0, hz0, hz1, hz2⟩ := info_parts3 vinfo
  have Hi := Go.Lib.hid (And.intro hi0 (And.intro hz0 (And.intro hz1 hz2)))
  clear hi0 hz0 hz1 hz2
  have c1' := keepC ((Chg.refl NoB w).alloc (Obj.cells #[.pointer (some ⟨b, 0, none⟩), .int .u32 0, .pointer none, .slice none 0 0] VT)) c1
  unfold ptr
  go_enter Try.func47, Try.ntmps47
  go_wp2_with fail
  clear c1'
  go_loopw [13] (fun v13 wr => ∃ (k : Nat) (A : Option Addr) (c : Nat) (ks : VF), k ≤ T.n ∧ v13 = .int .i64 k ∧ FI w b K k A c ks wr) (fun v13 _ => T.n - (intOf v13).toNat)
  case atStart => exact ⟨0, none, 0, .nil, Nat.zero_le _, rfl, FI.start w b K⟩
  case round =>
    obtain ⟨k, A, c, ks, hk, rfl, hI⟩ := hrel
    have HI := Go.Lib.hid hI
    have q3 : wr.cell? ⟨w.heap.size, 3, none⟩ = some (.slice A k c) := hI.blk.cell 3
    have q2 : wr.cell? ⟨b, 2, none⟩ = some (optP T.base) := keepC hI.chg c2
    have q1 : wr.cell? ⟨b, 3, none⟩ = some (.slice T.fA T.fs.length T.fc) := keepC hI.chg c3
    clear hI
    by_cases hlt : k < T.n
    · obtain ⟨x, hx⟩ : ∃ x, K[k]? = some x := ⟨_, List.getElem?_eq_getElem (by have := HKK.out.len; omega)⟩
      have hb := HKK.out.base k x hlt hx
      rw [hb] at q2
      unfold optP at q2
      simp only [Option.map_some] at q2
      have HX := Go.Lib.hid hx
      clear hx hb
      go_wp2_with fail
      refine regionT 14 (fun V' => V'.cell? ⟨w.heap.size, 3, none⟩ = some (.slice A k c) ∧ V'.cell? ⟨b, 2, none⟩ = some (.pointer (some ⟨x.b, 0, none⟩))) (by kernel_rfl) (by decide) (⟨q3, q2⟩) (fun inv hHeld => ?_)
      refine takeT (i := 0) (t := 15) (v := ?v0y1) rfl (by kernel_rfl) (by kernel_rfl) (by kernel_rfl) (fun _ _ _ h => h) (by kernel_rfl) (by kernel_rfl) (by decide) (by decide) rfl (Or.inl ⟨by rfl, ?h0y1⟩) inv hHeld ?r0y1
      case h0y1 => (intro V' hSw; have hq1 := hSw.1; have hq2 := hSw.2; clear hSw; go_simp; try with_reducible rfl)
      clear inv
      intro inv
      try simp only [List.setIfInBounds_toArray, List.set_cons_zero, List.set_cons_succ]
      refine takeT (i := 1) (t := 16) (v := ?v1y2) rfl (by kernel_rfl) (by kernel_rfl) (by kernel_rfl) (fun _ _ _ h => h) (by kernel_rfl) (by kernel_rfl) (by decide) (by decide) rfl (Or.inl ⟨by rfl, ?h1y2⟩) inv hHeld ?r1y2
      case h1y2 => (intro V' hSw; have hq1 := hSw.1; have hq2 := hSw.2; clear hSw; go_simp; try with_reducible rfl)
      clear inv
      intro inv
      try simp only [List.setIfInBounds_toArray, List.set_cons_zero, List.set_cons_succ]
      refine takeT (i := 2) (t := 17) (v := ?v2y3) rfl (by kernel_rfl) (by kernel_rfl) (by kernel_rfl) (fun _ _ _ h => h) (by kernel_rfl) (by kernel_rfl) (by decide) (by decide) rfl (Or.inl ⟨by rfl, ?h2y3⟩) inv hHeld ?r2y3
      case h2y3 => (intro V' hSw; have hq1 := hSw.1; have hq2 := hSw.2; clear hSw; go_simp; try with_reducible rfl)
      clear inv
      intro inv
      try simp only [List.setIfInBounds_toArray, List.set_cons_zero, List.set_cons_succ]
      refine takeT (i := 3) (t := 18) (v := ?v3y4) rfl (by kernel_rfl) (by kernel_rfl) (by kernel_rfl) (fun _ _ _ h => h) (by kernel_rfl) (by kernel_rfl) (by decide) (by decide) rfl (Or.inl ⟨by rfl, ?h3y4⟩) inv hHeld ?r3y4
      case h3y4 => (intro V' hSw; have hq1 := hSw.1; have hq2 := hSw.2; clear hSw; go_simp; try with_reducible rfl)
      clear inv
      intro inv
      try simp only [List.setIfInBounds_toArray, List.set_cons_zero, List.set_cons_succ]
      refine takeT (i := 4) (t := 19) (v := ?v4y5) rfl (by kernel_rfl) (by kernel_rfl) (by kernel_rfl) (fun _ _ _ h => h) (by kernel_rfl) (by kernel_rfl) (by decide) (by decide) rfl (Or.inl ⟨by rfl, ?h4y5⟩) inv hHeld ?r4y5
      case h4y5 => (intro V' hSw; have hq1 := hSw.1; have hq2 := hSw.2; clear hSw; go_simp; try with_reducible rfl)
      clear inv
      intro inv
      try simp only [List.setIfInBounds_toArray, List.set_cons_zero, List.set_cons_succ]
      refine takeT (i := 5) (t := 20) (v := ?v5y6) rfl (by kernel_rfl) (by kernel_rfl) (by kernel_rfl) (fun _ _ _ h => h) (by kernel_rfl) (by kernel_rfl) (by decide) (by decide) rfl (Or.inl ⟨by rfl, ?h5y6⟩) inv hHeld ?r5y6
      case h5y6 => (intro V' hSw; have hq1 := hSw.1; have hq2 := hSw.2; clear hSw; go_simp; try with_reducible rfl)
      clear inv
      intro inv
      try simp only [List.setIfInBounds_toArray, List.set_cons_zero, List.set_cons_succ]
      refine takeT (i := 6) (t := 21) (v := ?v6y7) rfl (by kernel_rfl) (by kernel_rfl) (by kernel_rfl) (fun _ _ _ h => h) (by kernel_rfl) (by kernel_rfl) (by decide) (by decide) rfl (Or.inl ⟨by rfl, ?h6y7⟩) inv hHeld ?r6y7
      case h6y7 => (intro V' hSw; have hq1 := hSw.1; have hq2 := hSw.2; clear hSw; go_simp; try with_reducible rfl)
      clear inv
      intro inv
      try simp only [List.setIfInBounds_toArray, List.set_cons_zero, List.set_cons_succ]
      refine takeT (i := 7) (t := 22) (v := ?v7y8) rfl (by kernel_rfl) (by kernel_rfl) (by kernel_rfl) (fun _ _ _ h => h) (by kernel_rfl) (by kernel_rfl) (by decide) (by decide) rfl (Or.inl ⟨by rfl, ?h7y8⟩) inv hHeld ?r7y8
      case h7y8 => (intro V' hSw; have hq1 := hSw.1; have hq2 := hSw.2; clear hSw; go_simp; try with_reducible rfl)
      clear inv
      intro inv
      try simp only [List.setIfInBounds_toArray, List.set_cons_zero, List.set_cons_succ]
      refine takeT (i := 8) (t := 23) (v := ?v8y9) rfl (by kernel_rfl) (by kernel_rfl) (by kernel_rfl) (fun _ _ _ h => h) (by kernel_rfl) (by kernel_rfl) (by decide) (by decide) rfl (Or.inl ⟨by rfl, ?h8y9⟩) inv hHeld ?r8y9
      case h8y9 => (intro V' hSw; have hq1 := hSw.1; have hq2 := hSw.2; clear hSw; go_simp; try with_reducible rfl)
      clear inv
      intro inv
      try simp only [List.setIfInBounds_toArray, List.set_cons_zero, List.set_cons_succ]
      refine callT (i := 9) (t := 24) (f := 47) (args := #[ptr x.b]) rfl (by kernel_rfl) rfl (by rfl) ?hxc inv (by decide) ?hcc
      case hxc => (go_simp; try rfl)
      case hcc =>
        refine (HC.out k x HX.out wr.drew (HI.out.chg.drew)).mono ?_
        rintro e w1 ⟨kb, A1, c1, ks1, rfl, hkid, hcq⟩
        have HN := Go.Lib.hid ((HI.out.quiet (Chg.refl NoB wr).drew).fresh HX.out hkid hcq)
        have hS1 : (fun V' => V'.cell? ⟨w.heap.size, 3, none⟩ = some (.slice A k c) ∧ V'.cell? ⟨b, 2, none⟩ = some (.pointer (some ⟨x.b, 0, none⟩))) w1 := ⟨keepC hcq hHeld.1, keepC hcq hHeld.2⟩
        have HH1 := Go.Lib.hid (And.intro hcq hS1)
        clear hkid
        refine ⟨_, rfl, hS1, fun inv2 hHeld2 => ?_⟩
        clear inv hHeld hS1
        have inv := inv2
        have hHeld := hHeld2
        clear inv2 hHeld2
        try simp only [List.setIfInBounds_toArray, List.set_cons_zero, List.set_cons_succ]
        refine valT (i := 10) (t := 25) (v := .slice (some ⟨w1.heap.size, 0, none⟩) 1 1) (w' := w1.alloc (.cells #[ptr kb] PV)) rfl (by kernel_rfl) rfl (by rfl) ?hxb inv (by decide) ⟨keepC ((Chg.refl NoB w1).alloc _) hHeld.1, keepC ((Chg.refl NoB w1).alloc _) hHeld.2⟩ ?rb
        case hxb => (unfold ptr; go_simp; try rfl)
        case rb =>
          intro inv2 hHeld2
          clear inv hHeld
          have inv := inv2
          have hHeld := hHeld2
          clear inv2 hHeld2
          try simp only [List.setIfInBounds_toArray, List.set_cons_zero, List.set_cons_succ]
          refine wpT (i := 11) rfl (by kernel_rfl) (by rfl) inv (by decide) (fun inv2 => ?_)
          clear inv
          have inv := inv2
          clear inv2
          refine wp_appK _ (.tmp 19) (.tmp 25) _ rfl (w.heap.size + 1) PV i0 (.pointer none) 1 8 Try.underlying75 Hi.out.1 Hi.out.2.1 Hi.out.2.2.1 Hi.out.2.2.2 rfl (by decide) (.slice A (k) c) (k) (ks.blks.map ptr) (by rfl) (own_chg HN.out.fi.row ((Chg.refl NoB w1).alloc _) (fun _ _ => id)) (some ⟨w1.heap.size, 0, none⟩) 1 1 [ptr kb] (by rfl) rfl (cells_of_blk (Blk.new w1 _ _)) (by simp [Value.oneCell', ptr]) (by have := HN.out.fi.hk; have := HK.out; unfold maxLen; omega) (by have := HN.out.fi.hk; have := HK.out; omega) (by have := HN.out.fi.blk.lt; simp; omega) ?_
          intro v2 w2 own2 gr2 at2
          obtain ⟨A2, c2, rfl, hFI, hcl, hfr, hch⟩ := HN.out.grow own2 gr2 at2
          have HFI := Go.Lib.hid hFI
          clear own2 gr2 at2 hFI
          have hS2 : (fun V' => V'.cell? ⟨w.heap.size, 3, none⟩ = some (.slice A k c) ∧ V'.cell? ⟨b, 2, none⟩ = some (.pointer (some ⟨x.b, 0, none⟩))) w2 := ⟨hcl, (World.cell?_of_block (hch.block b (Nat.lt_of_lt_of_le HT.out.blk.lt HN.out.fi.chg.size) (own_blk_ne HN.out.fi.row (HT.out.blk.chg HN.out.fi.chg id) (by decide)))).trans HH1.out.2.2⟩
          refine ⟨fun _ => hS2, ?_⟩
          clear hHeld
          have hHeld := hS2
          clear hS2
          try simp only [List.setIfInBounds_toArray, List.set_cons_zero, List.set_cons_succ]
          refine takeT (i := 12) (t := 27) (v := ?v12y10) rfl (by kernel_rfl) (by kernel_rfl) (by kernel_rfl) (fun _ _ _ h => h) (by kernel_rfl) (by kernel_rfl) (by decide) (by decide) rfl (Or.inl ⟨by rfl, ?h12y10⟩) inv hHeld ?r12y10
          case h12y10 => (intro V' hSw; have hq1 := hSw.1; have hq2 := hSw.2; clear hSw; go_simp; try with_reducible rfl)
          clear inv
          intro inv
          try simp only [List.setIfInBounds_toArray, List.set_cons_zero, List.set_cons_succ]
          refine takeT (i := 13) (t := 28) (v := ?v13y11) rfl (by kernel_rfl) (by kernel_rfl) (by kernel_rfl) (fun _ _ _ h => h) (by kernel_rfl) (by kernel_rfl) (by decide) (by decide) rfl (Or.inl ⟨by rfl, ?h13y11⟩) inv hHeld ?r13y11
          case h13y11 => (intro V' hSw; have hq1 := hSw.1; have hq2 := hSw.2; clear hSw; go_simp; try with_reducible rfl)
          clear inv
          intro inv
          try simp only [List.setIfInBounds_toArray, List.set_cons_zero, List.set_cons_succ]
          refine lastT (i := 14) (w' := w2.setCell ⟨w.heap.size, 3, none⟩ (.slice A2 (k + 1) c2)) rfl (by kernel_rfl) rfl (by rfl) ?hxl (by decide) (by kernel_rfl) ?_
          case hxl => (go_simp; try with_reducible rfl)
          clear inv hHeld hcl hfr hch
          go_wp2_with fail
          go_roundw
          case rel => exact ⟨k + 1, A2, c2, _, by omega, by go_num, HFI.out⟩
          case measure => simp [intOf]; omega
    · obtain rfl : k = T.n := by omega
      go_wp2_with fail
      go_loopw [5, 35] (fun _ v35 wr => ∃ (j : Nat) (A : Option Addr) (c : Nat) (ks : VF), j ≤ T.fs.length ∧ v35 = .int .i64 j ∧ FI w b K (T.n + j) A c ks wr) (fun _ v35 _ => T.fs.length - (intOf v35).toNat)
      case atStart => exact ⟨0, A, c, ks, Nat.zero_le _, rfl, HI.out⟩
      case round =>
        clear HI q3 q2 q1
        obtain ⟨j, A, c, ks, hk, rfl, hI⟩ := hrel
        by_cases hlt : j < T.fs.length
        · obtain ⟨x, hx⟩ : ∃ x, K[T.n + j]? = some x := ⟨_, List.getElem?_eq_getElem (by have := HKK.out.len; omega)⟩
          obtain ⟨f, hf⟩ : ∃ f, T.fs[j]? = some f := ⟨_, List.getElem?_eq_getElem hlt⟩
          have hb := HKK.out.fs j f x hf hx
          obtain ⟨g, hg, hcell⟩ := row_cells HT.out.row (by omega)
          have hc3 := c3
          rw [hg] at hc3
          have q0 := keepC hI.chg (hcell _ _ (flatF T.fs j 0 f (by omega) hf))
          have q1 := keepC hI.chg (hcell _ _ (flatF T.fs j 1 f (by omega) hf))
          have q2 := keepC hI.chg (hcell _ _ (flatF T.fs j 2 f (by omega) hf))
          have q3 := keepC hI.chg hc3
          simp only [Fd.cells, Nat.add_zero] at q0 q1 q2
          unfold ptr at q1
          rw [hb] at q1
          have HI := Go.Lib.hid hI
          have HX := Go.Lib.hid hx
          clear hI hx hb hf hcell
          rw [hg]
          go_wp2_with fail
          have hal := (Chg.refl NoB wr).alloc (Obj.cells #[.string f.name, .pointer (some ⟨x.b, 0, none⟩), .int .i64 f.off] FT)
          have hbox := Blk.new wr FT #[.string f.name, .pointer (some ⟨x.b, 0, none⟩), .int .i64 f.off]
          generalize wr.alloc (Obj.cells #[.string f.name, .pointer (some ⟨x.b, 0, none⟩), .int .i64 f.off] FT) = wb at *
          generalize wr.heap.size = bx at *
          have HI := Go.Lib.hid (HI.out.quiet hal)
          have HB := Go.Lib.hid hbox
          have p3 : wb.cell? ⟨w.heap.size, 3, none⟩ = some (.slice A (T.n + j) c) := HI.out.blk.cell 3
          have p1 : wb.cell? ⟨bx, 1, none⟩ = some (.pointer (some ⟨x.b, 0, none⟩)) := hbox.cell 1
          clear hal hbox q0 q1 q2 q3
          refine regionT 12 (fun V' => V'.cell? ⟨w.heap.size, 3, none⟩ = some (.slice A (T.n + j) c) ∧ V'.cell? ⟨bx, 1, none⟩ = some (.pointer (some ⟨x.b, 0, none⟩))) (by kernel_rfl) (by decide) (⟨p3, p1⟩) (fun inv hHeld => ?_)
          refine takeT (i := 0) (t := 39) (v := ?v0y12) rfl (by kernel_rfl) (by kernel_rfl) (by kernel_rfl) (fun _ _ _ h => h) (by kernel_rfl) (by kernel_rfl) (by decide) (by decide) rfl (Or.inl ⟨by rfl, ?h0y12⟩) inv hHeld ?r0y12
          case h0y12 => (intro V' hSw; have hq1 := hSw.1; have hq2 := hSw.2; clear hSw; go_simp; try with_reducible rfl)
          clear inv
          intro inv
          try simp only [List.setIfInBounds_toArray, List.set_cons_zero, List.set_cons_succ]
          refine takeT (i := 1) (t := 40) (v := ?v1y13) rfl (by kernel_rfl) (by kernel_rfl) (by kernel_rfl) (fun _ _ _ h => h) (by kernel_rfl) (by kernel_rfl) (by decide) (by decide) rfl (Or.inl ⟨by rfl, ?h1y13⟩) inv hHeld ?r1y13
          case h1y13 => (intro V' hSw; have hq1 := hSw.1; have hq2 := hSw.2; clear hSw; go_simp; try with_reducible rfl)
          clear inv
          intro inv
          try simp only [List.setIfInBounds_toArray, List.set_cons_zero, List.set_cons_succ]
          refine takeT (i := 2) (t := 41) (v := ?v2y14) rfl (by kernel_rfl) (by kernel_rfl) (by kernel_rfl) (fun _ _ _ h => h) (by kernel_rfl) (by kernel_rfl) (by decide) (by decide) rfl (Or.inl ⟨by rfl, ?h2y14⟩) inv hHeld ?r2y14
          case h2y14 => (intro V' hSw; have hq1 := hSw.1; have hq2 := hSw.2; clear hSw; go_simp; try with_reducible rfl)
          clear inv
          intro inv
          try simp only [List.setIfInBounds_toArray, List.set_cons_zero, List.set_cons_succ]
          refine takeT (i := 3) (t := 42) (v := ?v3y15) rfl (by kernel_rfl) (by kernel_rfl) (by kernel_rfl) (fun _ _ _ h => h) (by kernel_rfl) (by kernel_rfl) (by decide) (by decide) rfl (Or.inl ⟨by rfl, ?h3y15⟩) inv hHeld ?r3y15
          case h3y15 => (intro V' hSw; have hq1 := hSw.1; have hq2 := hSw.2; clear hSw; go_simp; try with_reducible rfl)
          clear inv
          intro inv
          try simp only [List.setIfInBounds_toArray, List.set_cons_zero, List.set_cons_succ]
          refine takeT (i := 4) (t := 43) (v := ?v4y16) rfl (by kernel_rfl) (by kernel_rfl) (by kernel_rfl) (fun _ _ _ h => h) (by kernel_rfl) (by kernel_rfl) (by decide) (by decide) rfl (Or.inl ⟨by rfl, ?h4y16⟩) inv hHeld ?r4y16
          case h4y16 => (intro V' hSw; have hq1 := hSw.1; have hq2 := hSw.2; clear hSw; go_simp; try with_reducible rfl)
          clear inv
          intro inv
          try simp only [List.setIfInBounds_toArray, List.set_cons_zero, List.set_cons_succ]
          refine takeT (i := 5) (t := 44) (v := ?v5y17) rfl (by kernel_rfl) (by kernel_rfl) (by kernel_rfl) (fun _ _ _ h => h) (by kernel_rfl) (by kernel_rfl) (by decide) (by decide) rfl (Or.inl ⟨by rfl, ?h5y17⟩) inv hHeld ?r5y17
          case h5y17 => (intro V' hSw; have hq1 := hSw.1; have hq2 := hSw.2; clear hSw; go_simp; try with_reducible rfl)
          clear inv
          intro inv
          try simp only [List.setIfInBounds_toArray, List.set_cons_zero, List.set_cons_succ]
          refine takeT (i := 6) (t := 45) (v := ?v6y18) rfl (by kernel_rfl) (by kernel_rfl) (by kernel_rfl) (fun _ _ _ h => h) (by kernel_rfl) (by kernel_rfl) (by decide) (by decide) rfl (Or.inl ⟨by rfl, ?h6y18⟩) inv hHeld ?r6y18
          case h6y18 => (intro V' hSw; have hq1 := hSw.1; have hq2 := hSw.2; clear hSw; go_simp; try with_reducible rfl)
          clear inv
          intro inv
          try simp only [List.setIfInBounds_toArray, List.set_cons_zero, List.set_cons_succ]
          refine callT (i := 7) (t := 46) (f := 47) (args := #[ptr x.b]) rfl (by kernel_rfl) rfl (by rfl) ?hxc inv (by decide) ?hcc
          case hxc => (go_simp; try rfl)
          case hcc =>
            refine (HC.out (T.n + j) x HX.out wb.drew (HI.out.chg.drew)).mono ?_
            rintro e w1 ⟨kb, A1, c1, ks1, rfl, hkid, hcq⟩
            have HN := Go.Lib.hid ((HI.out.quiet (Chg.refl NoB wb).drew).fresh HX.out hkid hcq)
            have hS1 : (fun V' => V'.cell? ⟨w.heap.size, 3, none⟩ = some (.slice A (T.n + j) c) ∧ V'.cell? ⟨bx, 1, none⟩ = some (.pointer (some ⟨x.b, 0, none⟩))) w1 := ⟨keepC hcq hHeld.1, keepC hcq hHeld.2⟩
            have HH1 := Go.Lib.hid (And.intro hcq hS1)
            clear hkid
            refine ⟨_, rfl, hS1, fun inv2 hHeld2 => ?_⟩
            clear inv hHeld hS1
            have inv := inv2
            have hHeld := hHeld2
            clear inv2 hHeld2
            try simp only [List.setIfInBounds_toArray, List.set_cons_zero, List.set_cons_succ]
            refine valT (i := 8) (t := 47) (v := .slice (some ⟨w1.heap.size, 0, none⟩) 1 1) (w' := w1.alloc (.cells #[ptr kb] PV)) rfl (by kernel_rfl) rfl (by rfl) ?hxb inv (by decide) ⟨keepC ((Chg.refl NoB w1).alloc _) hHeld.1, keepC ((Chg.refl NoB w1).alloc _) hHeld.2⟩ ?rb
            case hxb => (unfold ptr; go_simp; try rfl)
            case rb =>
              intro inv2 hHeld2
              clear inv hHeld
              have inv := inv2
              have hHeld := hHeld2
              clear inv2 hHeld2
              try simp only [List.setIfInBounds_toArray, List.set_cons_zero, List.set_cons_succ]
              refine wpT (i := 9) rfl (by kernel_rfl) (by rfl) inv (by decide) (fun inv2 => ?_)
              clear inv
              have inv := inv2
              clear inv2
              refine wp_appK _ (.tmp 43) (.tmp 47) _ rfl (w.heap.size + 1) PV i0 (.pointer none) 1 8 Try.underlying75 Hi.out.1 Hi.out.2.1 Hi.out.2.2.1 Hi.out.2.2.2 rfl (by decide) (.slice A (T.n + j) c) (T.n + j) (ks.blks.map ptr) (by rfl) (own_chg HN.out.fi.row ((Chg.refl NoB w1).alloc _) (fun _ _ => id)) (some ⟨w1.heap.size, 0, none⟩) 1 1 [ptr kb] (by rfl) rfl (cells_of_blk (Blk.new w1 _ _)) (by simp [Value.oneCell', ptr]) (by have := HN.out.fi.hk; have := HK.out; unfold maxLen; omega) (by have := HN.out.fi.hk; have := HK.out; omega) (by have := HN.out.fi.blk.lt; simp; omega) ?_
              intro v2 w2 own2 gr2 at2
              obtain ⟨A2, c2, rfl, hFI, hcl, hfr, hch⟩ := HN.out.grow own2 gr2 at2
              have HFI := Go.Lib.hid hFI
              clear own2 gr2 at2 hFI
              have hS2 : (fun V' => V'.cell? ⟨w.heap.size, 3, none⟩ = some (.slice A (T.n + j) c) ∧ V'.cell? ⟨bx, 1, none⟩ = some (.pointer (some ⟨x.b, 0, none⟩))) w2 := ⟨hcl, (World.cell?_of_block (hch.block bx (Nat.lt_of_lt_of_le HB.out.drew.lt HH1.out.1.size) (own_blk_ne HN.out.fi.row (HB.out.drew.chg HH1.out.1 id) (by decide)))).trans HH1.out.2.2⟩
              refine ⟨fun _ => hS2, ?_⟩
              clear hHeld
              have hHeld := hS2
              clear hS2
              try simp only [List.setIfInBounds_toArray, List.set_cons_zero, List.set_cons_succ]
              refine takeT (i := 10) (t := 49) (v := ?v10y19) rfl (by kernel_rfl) (by kernel_rfl) (by kernel_rfl) (fun _ _ _ h => h) (by kernel_rfl) (by kernel_rfl) (by decide) (by decide) rfl (Or.inl ⟨by rfl, ?h10y19⟩) inv hHeld ?r10y19
              case h10y19 => (intro V' hSw; have hq1 := hSw.1; have hq2 := hSw.2; clear hSw; go_simp; try with_reducible rfl)
              clear inv
              intro inv
              try simp only [List.setIfInBounds_toArray, List.set_cons_zero, List.set_cons_succ]
              refine takeT (i := 11) (t := 50) (v := ?v11y20) rfl (by kernel_rfl) (by kernel_rfl) (by kernel_rfl) (fun _ _ _ h => h) (by kernel_rfl) (by kernel_rfl) (by decide) (by decide) rfl (Or.inl ⟨by rfl, ?h11y20⟩) inv hHeld ?r11y20
              case h11y20 => (intro V' hSw; have hq1 := hSw.1; have hq2 := hSw.2; clear hSw; go_simp; try with_reducible rfl)
              clear inv
              intro inv
              try simp only [List.setIfInBounds_toArray, List.set_cons_zero, List.set_cons_succ]
              refine lastT (i := 12) (w' := w2.setCell ⟨w.heap.size, 3, none⟩ (.slice A2 (T.n + j + 1) c2)) rfl (by kernel_rfl) rfl (by rfl) ?hxl (by decide) (by kernel_rfl) ?_
              case hxl => (go_simp; try with_reducible rfl)
              clear inv hHeld hcl hfr hch
              go_wp2_with fail
              go_roundw
              case rel => exact ⟨j + 1, A2, c2, _, by omega, by go_num, by have h := HFI.out; rwa [Nat.add_assoc] at h⟩
              case measure => simp [intOf]; omega
        · obtain rfl : j = T.fs.length := by omega
          have HI := Go.Lib.hid hI
          clear hI
          go_wp2_with fail
          go_ret
          have h := HI.out
          rw [← HKK.out.len] at h
          exact ⟨rfl, A, c, ks, h⟩
theorem VsAt.kids_len {C : Int → Option Addr → Prop} {W : World} {lo b c : Nat} {t : Ty} {A : Option Addr} {ks r : VF} (h : VsAt C W lo (.cons b t A c ks r)) : ∃ ts, t.ok W ts ∧ ks.tys = t.kids ts := h.2.2.2.1
theorem kids_few {W : World} {t : Ty} {ts : List (Nat × Ti)} (h : t.ok W ts) : (t.kids ts).length ≤ 400000 := by
  rw [h.kidsOk.len]
  have := h.1.nn
  have := h.1.nf
  omega
def FreshF (f : SF) : Prop := ∀ (i : Nat) (s : Sv) (ns : List ByteArray) (ks : SF), f.at? i = some (s, ns, ks) → ∀ (w : World) (b : Nat) (T : Ti), TyS w s ns ks (b, T) →
  Calls Try.prog 47 #[ptr b] w (FrPost ⟨s, ns, ks, b, T⟩ w)
theorem fresh_one {w : World} (t : Ty) (ih : FreshF t.ks) (h : TyS w t.s t.ns t.ks (t.b, t.T)) : Calls Try.prog 47 #[ptr t.b] w (FrPost t w) := by
  obtain ⟨ts, hok⟩ := h.ok
  have hok : t.ok w ts := hok
  refine (fresh_w hok.1 (Go.Lib.hid (kids_few hok)) hok.kidsOk fun j x hx W hW => ?_).mono ?_
  · obtain ⟨h1, i, h2⟩ := hok.kid hx
    refine ih i x.s x.ns x.ks h2 W x.b x.T ?_
    obtain ⟨ts', h3⟩ := h1.ok
    exact (h3.keepV (.of_quiet hW)).tyS
  · rintro e w' ⟨rfl, A, c, ks, hI⟩
    have hl := hI.len
    have hb := hI.blk
    have hr := hI.row
    have ht := hI.tys
    rw [← hl] at hb hr
    rw [List.take_length] at ht
    exact ⟨_, A, c, ks, rfl, ⟨Nat.le_refl _, ⟨0, none, hb, ⟨by decide, by decide⟩, rfl, rfl⟩, hr, ⟨ts, hok.keepV (.of_quiet hI.chg), ht⟩, hI.at_, trivial⟩, hI.chg⟩
theorem fresh_all : ∀ f : SF, FreshF f
  | .nil => fun i s ns ks h => by simp [SF.at?] at h
  | .cons s ns ks r => fun i s' ns' ks' h w b T hT => by
    cases i with
    | zero =>
      obtain ⟨rfl, rfl, rfl⟩ : s = s' ∧ ns = ns' ∧ ks = ks' := by simpa [SF.at?] using h
      exact fresh_one ⟨s, ns, ks, b, T⟩ (fresh_all ks) hT
    | succ i => exact fresh_all r i s' ns' ks' (by simpa [SF.at?] using h) w b T hT
theorem fresh_c {w : World} (t : Ty) (h : TyS w t.s t.ns t.ks (t.b, t.T)) : Calls Try.prog 47 #[ptr t.b] w (FrPost t w) := fresh_one t (fresh_all t.ks) h
theorem new_c {w : World} (t : Ty) (h : TyS w t.s t.ns t.ks (t.b, t.T)) : Calls Try.prog 16 #[ptr t.b] w fun e w' => ∃ b A c ks, e = .returned (.tuple #[ptr b, .int .i64 0]) ∧ VsAt Zr w' w.heap.size (.cons b t A c ks .nil) ∧ Chg NoB w w' := by
  obtain ⟨ts, hok⟩ := h.ok
  have hok : t.ok w ts := hok
  have Hth := Go.Lib.hid (there_c hok.1 hok.kind)
  have HF := Go.Lib.hid (fresh_c t h)
  clear hok
  unfold ptr at Hth HF ⊢
  go_enter Try.func16, Try.ntmps16
  go_wp2_with fail
  refine Hth.out.mono ?_
  rintro e w1 ⟨rfl, rfl⟩
  go_wp2_with fail
  refine HF.out.mono ?_
  rintro e w1 ⟨b, A, c, ks, rfl, h1, h2⟩
  have H1 := Go.Lib.hid (And.intro h1 h2)
  clear h1 h2
  unfold ptr
  go_wp2_with fail
  go_ret2
  exact ⟨b, A, c, ks, rfl, H1.out.1, H1.out.2⟩
end Go.Proofs.Ytholeloedihkoaa
