/- What is proved: the walk of ValueMeans. Conditions: the memory holds the arguments, which are small; the library's variable. -/
import Derived.Test.YtholeloedihkoaaVbH
import Derived.Test.YtholeloedihkoaaVbE
import Derived.Test.YtholeloedihkoaaTkH
set_option linter.unusedSimpArgs false
set_option linter.unusedVariables false
namespace Go.Proofs.Ytholeloedihkoaa
open Go Go.RowKit
section
variable {P : Program} {ops : Array Oper} {Q : Exit → Act → World → Prop} {md : Region.Mode} {S : World → Prop} {n : Nat}
variable {i fuel : Nat} {oi : Oper} {listed : Array Bool} {a : Act} {w w' : World}
/-- a store that comes up alone, ahead of n -/
theorem storeT (hi : ops[i]? = some oi) (hr : Region.ready md ops listed = [i]) (hdst : oi.dst = none) (hw : Region.wanted oi (yielded ops a.tmps) = true) (hx : (execOp a.eval oi).run P w = .ok .skip w') (inv : HeadInv md ops n listed) (hin : i < n) (hS : S w')
    (h : HeadInv md ops n (listed.setIfInBounds i true) → S w' → wpAnyT P md ops Q S n fuel (listed.setIfInBounds i true) a w') : wpAnyT P md ops Q S n (fuel + 1) listed a w := by
  refine oneTI hi hr inv hin fun inv2 => ?_
  rw [if_pos hw]
  unfold Oper.wp
  rw [hx]
  exact ⟨fun _ => hS, by rw [hdst]; exact h inv2 hS⟩
end
theorem VF.at_rev : ∀ (v : VF) {i kb : Nat} {x : Ty} {A : Option Addr} {c : Nat} {kk : VF}, v.at? i = some (.cons kb x A c kk .nil) → v.tys[i]? = some x ∧ v.blks[i]? = some kb
  | .nil, _, _, _, _, _, _, h => by simp [VF.at?] at h
  | .cons b t A c ks r, 0, _, _, _, _, _, h => by
    simp only [VF.at?, Option.some.injEq, VF.cons.injEq] at h
    obtain ⟨rfl, rfl, _⟩ := h
    exact ⟨rfl, rfl⟩
  | .cons b t A c ks r, i + 1, _, _, _, _, _, h => by
    simp only [VF.at?] at h
    have := VF.at_rev r h
    simpa [VF.tys, VF.blks] using this
/-- ahead of a round of the last loops: the bytes, and what is left of them -/
def LSt (wr : World) (gb N cb : Nat) (bv : List Int) (gr cr ei : Nat) (W : World) : Prop :=
  Chg NoB wr W ∧ W.ownsRow 0 U8 1 (.slice (some ⟨gb, 0, none⟩) N cb) N (u8s bv) ∧ ∃ l', RestAt N bv ei l' ∧ W.ownsRow (gb + 1) U8 1 (.slice (some ⟨gr, 0, none⟩) N cr) N (u8s l')
theorem LSt.quiet {wr : World} {gb N cb : Nat} {bv : List Int} {gr cr ei : Nat} {W W' : World} (h : LSt wr gb N cb bv gr cr ei W) (hc : Chg NoB W W') : LSt wr gb N cb bv gr cr ei W' := by
  obtain ⟨h1, h2, l', h3, h4⟩ := h
  exact ⟨h1.trans hc, own_chg h2 hc (fun _ _ => id), l', h3, own_chg h4 hc (fun _ _ => id)⟩
theorem LSt.wipe {wr : World} {gb N cb : Nat} {bv : List Int} {gr cr : Nat} {off e : Nat → Nat} {L : List (List Int)} {i : Nat} {l l' l'' : List Int} {W W' : World} (h : LSt wr gb N cb bv gr cr (e i) W) (hg : wr.heap.size ≤ gr) (hL : Lays N bv off e L) (hi : L[i]? = some l) (hr : RestAt N bv (e i) l')
    (hw : Wiped l' (off i) l.length l'') (ho : W'.ownsRow (gb + 1) U8 1 (.slice (some ⟨gr, 0, none⟩) N cr) N (u8s l'')) (hc : Chg (fun k => k = gr) W W') : LSt wr gb N cb bv gr cr (e (i + 1)) W' := by
  obtain ⟨h1, h2, _, _, h4⟩ := h
  have hgr := (ho.lt gr rfl).1
  refine ⟨h1.step hc (fun k hk hF => by subst hF; omega), own_chg h2 hc (fun k hk hF => ?_), l'', hr.step hL hi hw, ho⟩
  subst hF
  have : gb = k := by simpa [Value.ownBlock] using hk
  omega
theorem own_n0 {W : World} {t : Ty} {ts : List (Nat × Ti)} (h : t.ok W ts) (hk : t.s.k ≠ 7) : t.T.n = 0 := by
  obtain ⟨h1, h2, h3, h4⟩ := h
  unfold OwnTy at h4
  rw [if_neg hk] at h4
  split at h4
  · exact h4.2.1
  · split at h4
    · exact h4.1
    · obtain ⟨n, _, _, _, h⟩ := h4
      rw [h]
      rfl
theorem ty_size {W : World} {s : Sv} {ns : List ByteArray} {ks : SF} {b : Nat} {T : Ti} (h : TyS W s ns ks (b, T)) : T.size = sizeS s.k s.n (sizesF ks) := by
  obtain ⟨h1, h2, ts, h3, h4⟩ := h
  exact h4.sz (TysF.sizes ks h3)
/-- Offset, at a field's name -/
theorem offset_at {w : World} {t : Ty} {ts : List (Nat × Ti)} (hok : t.ok w ts) (hk : t.T.kind = 8) (he : errOf t.s t.ns t.ks = 0) {j : Nat} {nm : ByteArray} (hn : t.ns[j]? = some nm) :
    ∃ f, t.T.fs[j]? = some f ∧ ∀ W, Chg NoB w W → Calls Try.prog 29 #[ptr t.b, .string nm] W fun e w' => e = .returned (.tuple #[.int .i64 f.off, .int .i64 0]) ∧ W = w' := by
  obtain ⟨hn1, hn2, hn3, hn4⟩ := rec_names hok hk he
  have hjl := (List.getElem?_eq_some_iff.1 hn).1
  have hfl : t.T.fs.length = t.ns.length := by rw [← hn1, List.length_map]
  obtain ⟨f, hf⟩ : ∃ f, t.T.fs[j]? = some f := ⟨_, List.getElem?_eq_getElem (by omega)⟩
  have hfn : f.name = nm := by
    have : (t.T.fs.map (·.name))[j]? = some f.name := by rw [List.getElem?_map, hf]; rfl
    rw [hn1, hn] at this
    injection this with this
    exact this.symm
  have hlk : lookS nm (places t.T.fs) = some (.int .i64 j) := lookS_get _ j (by rw [places_keys, hn1]; exact hn2) (by rw [places_get hf, hfn])
  cases hm : t.T.mb with
  | none => rw [hok.1.mbn hm] at hf; simp at hf
  | some m => exact ⟨f, hf, fun W hW => offset_c (hok.1.quiet hW) hk hm nm hlk hf⟩
def AnyC : Int → Option Addr → Prop := fun _ _ => True
/-- the two variables of the law -/
structure VM (w : World) (s : Sv) (ns : List ByteArray) (ks : SF) (t : Ty) (vb : Nat) (Av : Option Addr) (cv : Nat) (kv : VF) (ob : Nat) (Ao : Option Addr) (co : Nat) (ko : VF) (m : Nat) (W : World) : Prop where
  chg : Chg NoB w W
  box : Blk W w.heap.size ShT (shArr s)
  va : VsAt AnyC W 0 (.cons vb t Av cv kv .nil)
  oa : VsAt Zr W m (.cons ob t Ao co ko .nil)
  vlt : ∀ k, (VF.cons vb t Av cv kv .nil).foot k → w.heap.size ≤ k ∧ k < m
  sh : t.s = s ∧ t.ns = ns ∧ t.ks = ks
theorem VM.quiet {w W W' : World} {s : Sv} {ns : List ByteArray} {ks : SF} {t : Ty} {vb : Nat} {Av : Option Addr} {cv : Nat} {kv : VF} {ob : Nat} {Ao : Option Addr} {co : Nat} {ko : VF} {m : Nat} (h : VM w s ns ks t vb Av cv kv ob Ao co ko m W) (hc : Chg NoB W W') : VM w s ns ks t vb Av cv kv ob Ao co ko m W' :=
  ⟨h.chg.trans hc, h.box.chg hc id, h.va.quiet hc, h.oa.quiet hc, h.vlt, h.sh⟩
/-- a word is set in one of the first one's parts -/
theorem VM.set {w W W' : World} {s : Sv} {ns : List ByteArray} {ks : SF} {t : Ty} {vb : Nat} {Av : Option Addr} {cv : Nat} {kv : VF} {ob : Nat} {Ao : Option Addr} {co : Nat} {ko : VF} {m b tb k n c : Nat} {x : Int} {p A : Option Addr} {cs : Array Value} (h : VM w s ns ks t vb Av cv kv ob Ao co ko m W)
    (hb : Blk W b VT cs) (hf : (VF.cons vb t Av cv kv .nil).foot b) (hs : ∀ q x p s, Blk W b VT #[q, .int .u32 x, .pointer p, s] → ∃ x' p', Blk W' b VT #[q, .int .u32 x', .pointer p', s] ∧ (0 ≤ x' ∧ x' < 4294967296)) (hc : Chg (fun j => j = b) W W') : VM w s ns ks t vb Av cv kv ob Ao co ko m W' := by
  obtain ⟨h1, h2⟩ := h.vlt b hf
  refine ⟨h.chg.step hc (fun i hi hF => by subst hF; omega), h.box.chg hc (fun hF => Blk.ne_ h.box hb (by decide) hF), VsAt.set hc ⟨cs, hb⟩ (fun q x p s hq => ?_) _ h.va, h.oa.chg hc (fun j hj _ => by subst hj; exact ⟨_, _, .inl hb⟩) _ (fun j hj hF => by have := (h.oa.foot_ge _ hj).1; omega), h.vlt, h.sh⟩
  obtain ⟨x', p', h3, h4⟩ := hs q x p s hq
  exact ⟨x', p', h3, h4, trivial⟩
theorem SetPost.blk {w w' : World} {b tb k n c : Nat} {x x' : Int} {p p' A : Option Addr} {e : Ending} (h : SetPost b tb k x' p' A n c w e w') (hb : Blk w b VT #[ptr tb, .int .u32 x, .pointer p, .slice A n c]) (hx : 0 ≤ x' ∧ x' < 4294967296) :
    ∀ q x p s, Blk w b VT #[q, .int .u32 x, .pointer p, s] → ∃ x' p', Blk w' b VT #[q, .int .u32 x', .pointer p', s] ∧ (0 ≤ x' ∧ x' < 4294967296) := by
  intro q y r s hq
  unfold Blk at hb hq
  rw [hb] at hq
  injection hq with hq
  injection hq with hq _
  injection hq with hq
  injection hq with h0 hq
  injection hq with h1 hq
  injection hq with h2 hq
  injection hq with h3 hq
  subst h0 h3
  exact ⟨_, _, h.2.2, fitK_in k hx⟩
set_option maxHeartbeats 16000000 in
set_option maxRecDepth 30000 in
theorem valueMeans_walk {w : World} {s : Sv} {ns : List ByteArray} {ks : SF} {A : Option Addr} {c : Nat} {l : List ActD} {mv : Int} (h : IsS w s ns ks) (hlen : ks.len ≤ 209715) (hsm : ks.small) (hact : IsActs w A l) (hl : l.length ≤ c) (hc : c ≤ maxLen) (hm : w.cell? ⟨0, 0, none⟩ = some (.int .i64 mv)) :
    Calls Try.prog 5 #[s.val, .slice A l.length c] w (fun e w' => e = .returned (.bool true) ∧ Chg NoB w w') := by
  have HS := Go.Lib.hid h
  have HSM := Go.Lib.hid (And.intro hlen hsm)
  have HA := Go.Lib.hid hact
  have HLC := Go.Lib.hid (And.intro hl hc)
  have HM := Go.Lib.hid hm
  obtain ⟨al, hal⟩ : ∃ al, l.length = al := ⟨_, rfl⟩
  have HAL := Go.Lib.hid hal
  rw [hal]
  unfold maxLen at hc
  have hal2 : al ≤ 9223372036854775807 := by omega
  clear h hlen hsm hact hl hc hm hal
  unfold Sv.val
  have hbx := Blk.new w ShT (shArr s)
  have hab : Chg NoB w (w.alloc (Obj.cells (shArr s) ShT)) := (Chg.refl NoB w).alloc _
  unfold shArr at hbx hab
  have HB := Go.Lib.hid (And.intro hbx hab)
  have b0 := hbx.cell 0
  have b1 := hbx.cell 1
  have b2 := hbx.cell 2
  have b3 := hbx.cell 3
  simp only [List.getElem?_toArray, List.getElem?_cons_succ, List.getElem?_cons_zero] at b0 b1 b2 b3
  clear hbx hab b0 b1 b2 b3
  go_enter Try.func5, Try.ntmps5
  go_wp2_with fail
  refine (known_c (keepC HB.out.2 HM.out)).mono ?_
  rintro e w1 ⟨rfl, hc⟩
  have HB1 := Go.Lib.hid (And.intro (HB.out.1.chg hc id) (HB.out.2.trans hc))
  clear HB hc
  have b0 : w1.cell? ⟨w.heap.size, 0, none⟩ = some (.int .i64 s.k) := HB1.out.1.cell 0
  have b1 : w1.cell? ⟨w.heap.size, 1, none⟩ = some (.int .i64 s.n) := HB1.out.1.cell 1
  have b2 : w1.cell? ⟨w.heap.size, 2, none⟩ = some (.slice s.nA s.nl s.nc) := HB1.out.1.cell 2
  have b3 : w1.cell? ⟨w.heap.size, 3, none⟩ = some (.slice s.pA s.pl s.pc) := HB1.out.1.cell 3
  go_wp2_with fail
  clear b0 b1 b2 b3
  refine (small_c (HS.out.quiet HB1.out.2)).mono ?_
  rintro e w2 ⟨q, rfl, hc⟩
  have HB2 := Go.Lib.hid (And.intro (HB1.out.1.chg hc id) (HB1.out.2.trans hc))
  clear HB1 hc
  cases q with
  | false =>
    go_wp2_with fail
    go_ret
    exact ⟨rfl, HB2.out.2⟩
  | true =>
    go_wp2_with fail
    have hmu := much_c (HA.out.quiet HB2.out.2) HLC.out.1 HLC.out.2
    rw [HAL.out] at hmu
    refine hmu.mono ?_
    clear hmu
    rintro e w3 ⟨q, rfl, hq, rfl⟩
    have b0 : w2.cell? ⟨w.heap.size, 0, none⟩ = some (.int .i64 s.k) := HB2.out.1.cell 0
    have b1 : w2.cell? ⟨w.heap.size, 1, none⟩ = some (.int .i64 s.n) := HB2.out.1.cell 1
    have b2 : w2.cell? ⟨w.heap.size, 2, none⟩ = some (.slice s.nA s.nl s.nc) := HB2.out.1.cell 2
    have b3 : w2.cell? ⟨w.heap.size, 3, none⟩ = some (.slice s.pA s.pl s.pc) := HB2.out.1.cell 3
    cases q with
    | true =>
      go_wp2_with fail
      go_ret
      exact ⟨rfl, HB2.out.2⟩
    | false =>
      have hal60 := hq rfl
      go_wp2_with fail
      refine (refMake_c (HS.out.quiet HB2.out.2) HSM.out.1 HSM.out.2).mono ?_
      rintro e w3 ⟨rfl, hc⟩
      have HB3 := Go.Lib.hid (And.intro (HB2.out.1.chg hc id) (HB2.out.2.trans hc))
      clear hc b0 b1 b2 b3 HB2
      obtain ⟨er, her⟩ : ∃ er, errOf s ns ks = er := ⟨_, rfl⟩
      rw [her]
      by_cases he0 : er = 0
      · subst he0
        have b0 : w3.cell? ⟨w.heap.size, 0, none⟩ = some (.int .i64 s.k) := HB3.out.1.cell 0
        have b1 : w3.cell? ⟨w.heap.size, 1, none⟩ = some (.int .i64 s.n) := HB3.out.1.cell 1
        have b2 : w3.cell? ⟨w.heap.size, 2, none⟩ = some (.slice s.nA s.nl s.nc) := HB3.out.1.cell 2
        have b3 : w3.cell? ⟨w.heap.size, 3, none⟩ = some (.slice s.pA s.pl s.pc) := HB3.out.1.cell 3
        have HER := Go.Lib.hid her
        clear her
        go_wp2_with fail
        have hbd := build_c (HS.out.quiet HB3.out.2) (keepC HB3.out.2 HM.out) (by have := HSM.out.1; omega) HSM.out.2.few
        rw [HER.out] at hbd
        refine hbd.mono ?_
        clear hbd
        rintro e w4 hbt
        obtain ⟨_, tb, T, rfl, hT, hTk, hTy, hc⟩ : (0 : Int) = 0 ∧ ∃ b T, e = .returned (.tuple #[ptr b, .int .i64 0]) ∧ TiAt w3.heap.size w4 b T ∧ T.kind ≠ 0 ∧ TyS w4 s ns ks (b, T) ∧ Chg NoB w3 w4 := by
          rcases hbt with hbt | hbt
          · exact hbt
          · exact absurd rfl hbt.1
        have HB4 := Go.Lib.hid (And.intro (HB3.out.1.chg hc id) (HB3.out.2.trans hc))
        have HTY := Go.Lib.hid hTy
        have HS4 : Hid (w.heap.size ≤ w4.heap.size) := Go.Lib.hid HB4.out.2.size
        clear hT hTk hTy hc b0 b1 b2 b3 HB3 hbt
        unfold ptr
        go_wp2_with fail
        refine (new_c (w := w4) ⟨s, ns, ks, tb, T⟩ HTY.out).mono ?_
        rintro e w5 ⟨vb, Av, cv, kv, rfl, hv, hc⟩
        obtain ⟨ts, hok⟩ := HTY.out.ok
        have hTy5 := (hok.keepV (.of_quiet hc)).tyS
        have HB5 := Go.Lib.hid (And.intro (HB4.out.1.chg hc id) (HB4.out.2.trans hc))
        have HV5 := Go.Lib.hid hv
        have HTY5 := Go.Lib.hid hTy5
        clear hv hc hok hTy5 HB4
        unfold ptr
        go_wp2_with fail
        refine (new_c (w := w5) ⟨s, ns, ks, tb, T⟩ HTY5.out).mono ?_
        rintro e w6 ⟨ob, Ao, co, ko, rfl, ho, hc⟩
        have hVM : VM w s ns ks ⟨s, ns, ks, tb, T⟩ vb Av cv kv ob Ao co ko w5.heap.size w6 :=
          ⟨HB5.out.2.trans hc, HB5.out.1.chg hc id, ((HV5.out.quiet hc).mono (Nat.zero_le _)).imp (fun _ _ _ => trivial), ho, fun k hk => ⟨by have := (HV5.out.foot_ge _ hk).1; have := HS4.out; omega, (HV5.out.foot_ge _ hk).2⟩, rfl, rfl, rfl⟩
        have HVM := Go.Lib.hid hVM
        clear hVM ho hc HB5 HV5 HTY5
        unfold ptr
        go_wp2_with fail
        refine (num_c (w := w6) 0).mono ?_
        rintro e w7 ⟨rfl, rfl⟩
        go_wp2_with fail
        refine (num_c (w := w6) 0).mono ?_
        rintro e w7 ⟨rfl, rfl⟩
        go_wp2_with fail
        go_loopw [11, 12, 13, 14] (fun v11 _ _ _ wr => ∃ i : Nat, i ≤ al ∧ v11 = .int .i64 i ∧ VM w s ns ks ⟨s, ns, ks, tb, T⟩ vb Av cv kv ob Ao co ko w5.heap.size wr) (fun v11 _ _ _ _ => al - (intOf v11).toNat)
        case atStart => exact ⟨0, Nat.zero_le _, rfl, HVM.out⟩
        case round =>
          clear HVM
          obtain ⟨i, hi, rfl, hV⟩ := hrel
          have HVM := Go.Lib.hid hV
          clear hV
          by_cases hlt : i < al
          · have b0 : wr.cell? ⟨w.heap.size, 0, none⟩ = some (.int .i64 s.k) := HVM.out.box.cell 0
            have b1 : wr.cell? ⟨w.heap.size, 1, none⟩ = some (.int .i64 s.n) := HVM.out.box.cell 1
            have b2 : wr.cell? ⟨w.heap.size, 2, none⟩ = some (.slice s.nA s.nl s.nc) := HVM.out.box.cell 2
            have b3 : wr.cell? ⟨w.heap.size, 3, none⟩ = some (.slice s.pA s.pl s.pc) := HVM.out.box.cell 3
            obtain ⟨act, hact⟩ : ∃ act, l[i]? = some act := ⟨_, List.getElem?_eq_getElem (by have := HAL.out; omega)⟩
            obtain ⟨ab, ao, hAa, a0, a1, a2, hia⟩ := HA.out i act hact
            have HACT := Go.Lib.hid (And.intro a0 (And.intro a1 hia))
            subst hAa
            have p0 := keepC HVM.out.chg a0
            clear hact a0 a1 a2 hia
            have HAT : Hid (∀ W, Chg NoB wr W → Calls Try.prog 26 #[.pointer (some ⟨vb, 0, none⟩), .agg #[.int .i64 s.k, .int .i64 s.n, .slice s.nA s.nl s.nc, .slice s.pA s.pl s.pc], .slice act.pA act.path.length act.pc] W (AtPost AnyC wr (.cons vb ⟨s, ns, ks, tb, T⟩ Av cv kv .nil) W)) := Go.Lib.hid fun W hW => by
              have hcw := HVM.out.chg.trans hW
              have hia := HACT.out.2.2
              exact at_c HVM.out.va hW (HS.out.quiet hcw) HER.out (hia.row.chg hcw (fun _ _ => id)) rfl (by have := hia.pc; omega) hia.ints
            go_wp2_with fail
            refine regionT 15 (fun V_ => Chg NoB wr V_) (by kernel_rfl) (by decide) ((Chg.refl NoB wr).drew) (fun inv hHeld => ?_)
            refine takeT (i := 0) (t := 76) (v := ?v0y1) rfl (by kernel_rfl) (by kernel_rfl) (by kernel_rfl) (fun _ _ _ h => h) (by kernel_rfl) (by kernel_rfl) (by decide) (by decide) rfl (Or.inl ⟨by rfl, ?h0y1⟩) inv hHeld ?r0y1
            case h0y1 => (intro V' hSw; clear hSw; go_simp; try with_reducible rfl)
            clear inv
            intro inv
            try simp only [List.setIfInBounds_toArray, List.set_cons_zero, List.set_cons_succ]
            refine takeT (i := 1) (t := 77) (v := ?v1y2) rfl (by kernel_rfl) (by kernel_rfl) (by kernel_rfl) (fun _ _ _ h => h) (by kernel_rfl) (by kernel_rfl) (by decide) (by decide) rfl (Or.inl ⟨by rfl, ?h1y2⟩) inv hHeld ?r1y2
            case h1y2 => (intro V' hSw; have hq0 := keepC hSw b0; have hq1 := keepC hSw b1; have hq2 := keepC hSw b2; have hq3 := keepC hSw b3; clear hSw; go_simp; try with_reducible rfl)
            clear inv
            intro inv
            try simp only [List.setIfInBounds_toArray, List.set_cons_zero, List.set_cons_succ]
            refine takeT (i := 2) (t := 78) (v := ?v2y3) rfl (by kernel_rfl) (by kernel_rfl) (by kernel_rfl) (fun _ _ _ h => h) (by kernel_rfl) (by kernel_rfl) (by decide) (by decide) rfl (Or.inl ⟨by rfl, ?h2y3⟩) inv hHeld ?r2y3
            case h2y3 => (intro V' hSw; clear hSw; go_simp; try with_reducible rfl)
            clear inv
            intro inv
            try simp only [List.setIfInBounds_toArray, List.set_cons_zero, List.set_cons_succ]
            refine takeT (i := 3) (t := 79) (v := ?v3y4) rfl (by kernel_rfl) (by kernel_rfl) (by kernel_rfl) (fun _ _ _ h => h) (by kernel_rfl) (by kernel_rfl) (by decide) (by decide) rfl (Or.inl ⟨by rfl, ?h3y4⟩) inv hHeld ?r3y4
            case h3y4 => (intro V' hSw; clear hSw; go_simp; try with_reducible rfl)
            clear inv
            intro inv
            try simp only [List.setIfInBounds_toArray, List.set_cons_zero, List.set_cons_succ]
            refine takeT (i := 4) (t := 80) (v := ?v4y5) rfl (by kernel_rfl) (by kernel_rfl) (by kernel_rfl) (fun _ _ _ h => h) (by kernel_rfl) (by kernel_rfl) (by decide) (by decide) rfl (Or.inl ⟨by rfl, ?h4y5⟩) inv hHeld ?r4y5
            case h4y5 => (intro V' hSw; clear hSw; go_simp; try with_reducible rfl)
            clear inv
            intro inv
            try simp only [List.setIfInBounds_toArray, List.set_cons_zero, List.set_cons_succ]
            refine takeT (i := 5) (t := 81) (v := ?v5y6) rfl (by kernel_rfl) (by kernel_rfl) (by kernel_rfl) (fun _ _ _ h => h) (by kernel_rfl) (by kernel_rfl) (by decide) (by decide) rfl (Or.inl ⟨by rfl, ?h5y6⟩) inv hHeld ?r5y6
            case h5y6 => (intro V' hSw; clear hSw; go_simp; try with_reducible rfl)
            clear inv
            intro inv
            try simp only [List.setIfInBounds_toArray, List.set_cons_zero, List.set_cons_succ]
            refine takeT (i := 6) (t := 82) (v := ?v6y7) rfl (by kernel_rfl) (by kernel_rfl) (by kernel_rfl) (fun _ _ _ h => h) (by kernel_rfl) (by kernel_rfl) (by decide) (by decide) rfl (Or.inl ⟨by rfl, ?h6y7⟩) inv hHeld ?r6y7
            case h6y7 => (intro V' hSw; have hq := keepC hSw p0; clear hSw; go_simp; try with_reducible rfl)
            clear inv
            intro inv
            try simp only [List.setIfInBounds_toArray, List.set_cons_zero, List.set_cons_succ]
            refine manyT (i := 7) (l := [12]) (by kernel_rfl) (by decide) inv ?ho
            case ho =>
              intro j hj
              simp only [List.mem_cons, List.not_mem_nil, or_false] at hj
              rcases hj with rfl | rfl
              ·
                intro inv2
                clear inv
                have inv := inv2
                clear inv2
                refine opCall (t := 83) (f := 26) (args := #[.pointer (some ⟨vb, 0, none⟩), .agg #[.int .i64 s.k, .int .i64 s.n, .slice s.nA s.nl s.nc, .slice s.pA s.pl s.pc], .slice act.pA act.path.length act.pc]) rfl rfl (by rfl) ?hx ?hc
                case hx => (go_simp; try rfl)
                case hc =>
                  refine (HAT.out wr.drew hHeld).mono ?_
                  rintro e w1 ⟨x, s', no, rfl, hc1, hno⟩
                  refine ⟨_, rfl, hHeld.trans hc1, ?_⟩
                  have hHeld := hHeld.trans hc1
                  try simp only [List.setIfInBounds_toArray, List.set_cons_zero, List.set_cons_succ]
                  unfold Sv.val
                  refine takeT (i := 8) (t := 75) (v := ?v8y8) rfl (by kernel_rfl) (by kernel_rfl) (by kernel_rfl) (fun _ _ _ h => h) (by kernel_rfl) (by kernel_rfl) (by decide) (by decide) rfl (Or.inl ⟨by rfl, ?h8y8⟩) inv hHeld ?r8y8
                  case h8y8 => (intro V' hSw; clear hSw; go_simp; try with_reducible rfl)
                  clear inv
                  intro inv
                  try simp only [List.setIfInBounds_toArray, List.set_cons_zero, List.set_cons_succ]
                  refine takeT (i := 9) (t := 84) (v := ?v9y9) rfl (by kernel_rfl) (by kernel_rfl) (by kernel_rfl) (fun _ _ _ h => h) (by kernel_rfl) (by kernel_rfl) (by decide) (by decide) rfl (Or.inl ⟨by rfl, ?h9y9⟩) inv hHeld ?r9y9
                  case h9y9 => (intro V' hSw; clear hSw; go_simp; try with_reducible rfl)
                  clear inv
                  intro inv
                  try simp only [List.setIfInBounds_toArray, List.set_cons_zero, List.set_cons_succ]
                  refine takeT (i := 10) (t := 85) (v := ?v10y10) rfl (by kernel_rfl) (by kernel_rfl) (by kernel_rfl) (fun _ _ _ h => h) (by kernel_rfl) (by kernel_rfl) (by decide) (by decide) rfl (Or.inl ⟨by rfl, ?h10y10⟩) inv hHeld ?r10y10
                  case h10y10 => (intro V' hSw; clear hSw; go_simp; try with_reducible rfl)
                  clear inv
                  intro inv
                  try simp only [List.setIfInBounds_toArray, List.set_cons_zero, List.set_cons_succ]
                  refine takeT (i := 11) (t := 86) (v := ?v11y11) rfl (by kernel_rfl) (by kernel_rfl) (by kernel_rfl) (fun _ _ _ h => h) (by kernel_rfl) (by kernel_rfl) (by decide) (by decide) rfl (Or.inl ⟨by rfl, ?h11y11⟩) inv hHeld ?r11y11
                  case h11y11 => (intro V' hSw; clear hSw; go_simp; try with_reducible rfl)
                  clear inv
                  intro inv
                  try simp only [List.setIfInBounds_toArray, List.set_cons_zero, List.set_cons_succ]
                  refine valT (i := 12) (t := 13) (v := .pointer (some ⟨w1.heap.size, 0, none⟩)) (w' := w1.alloc (.cells #[.int .i64 0, .int .i64 0, .slice none 0 0, .slice none 0 0] ShT)) rfl (by kernel_rfl) rfl (by rfl) ?hx12 inv (by decide) (hHeld.alloc _) ?r12
                  case hx12 => (go_simp; try rfl)
                  case r12 =>
                    intro inv2 hHeld2
                    have hBXS : wr.heap.size ≤ w1.heap.size := hHeld.size
                    have hBZ : Blk (w1.alloc (.cells #[.int .i64 0, .int .i64 0, .slice none 0 0, .slice none 0 0] ShT)) w1.heap.size ShT #[.int .i64 0, .int .i64 0, .slice none 0 0, .slice none 0 0] := Blk.new _ _ _
                    clear inv hHeld
                    have inv := inv2
                    have hHeld := hHeld2
                    clear inv2 hHeld2
                    generalize w1.alloc (.cells #[.int .i64 0, .int .i64 0, .slice none 0 0, .slice none 0 0] ShT) = w8 at *
                    generalize w1.heap.size = bz at *
                    try simp only [List.setIfInBounds_toArray, List.set_cons_zero, List.set_cons_succ]
                    refine takeT (i := 13) (t := 12) (v := ?v13y12) rfl (by kernel_rfl) (by kernel_rfl) (by kernel_rfl) (fun _ _ _ h => h) (by kernel_rfl) (by kernel_rfl) (by decide) (by decide) rfl (Or.inl ⟨by rfl, ?h13y12⟩) inv hHeld ?r13y12
                    case h13y12 => (intro V' hSw; clear hSw; go_simp; try with_reducible rfl)
                    clear inv
                    intro inv
                    try simp only [List.setIfInBounds_toArray, List.set_cons_zero, List.set_cons_succ]
                    have o0 : w8.cell? ⟨bz, 0, none⟩ = some (.int .i64 0) := hBZ.cell 0
                    have o1 : w8.cell? ⟨bz, 1, none⟩ = some (.int .i64 0) := hBZ.cell 1
                    have o2 : w8.cell? ⟨bz, 2, none⟩ = some (.slice none 0 0) := hBZ.cell 2
                    have o3 : w8.cell? ⟨bz, 3, none⟩ = some (.slice none 0 0) := hBZ.cell 3
                    have fo0 := hBZ.frozen 0
                    have fo1 := hBZ.frozen 1
                    have fo2 := hBZ.frozen 2
                    have fo3 := hBZ.frozen 3
                    have hW4 : Chg NoB wr (((((w8.setCell ⟨bz, 0, none⟩ (.int .i64 s'.k)).setCell ⟨bz, 1, none⟩ (.int .i64 s'.n)).setCell ⟨bz, 2, none⟩ (.slice s'.nA s'.nl s'.nc)).setCell ⟨bz, 3, none⟩ (.slice s'.pA s'.pl s'.pc))) := (((hHeld.setCell (fun h => absurd h (by simp; omega)) _).setCell (fun h => absurd h (by simp; omega)) _).setCell (fun h => absurd h (by simp; omega)) _).setCell (fun h => absurd h (by simp; omega)) _
                    refine storeT (i := 14) (w' := ((((w8.setCell ⟨bz, 0, none⟩ (.int .i64 s'.k)).setCell ⟨bz, 1, none⟩ (.int .i64 s'.n)).setCell ⟨bz, 2, none⟩ (.slice s'.nA s'.nl s'.nc)).setCell ⟨bz, 3, none⟩ (.slice s'.pA s'.pl s'.pc))) rfl (by kernel_rfl) rfl (by rfl) ?hx14 inv (by decide) hW4 ?r14
                    case hx14 => (go_simp; try with_reducible rfl)
                    case r14 =>
                      clear inv hHeld o0 o1 o2 o3 fo0 fo1 fo2 fo3 hBZ
                      intro inv hHeld
                      generalize ((((w8.setCell ⟨bz, 0, none⟩ (.int .i64 s'.k)).setCell ⟨bz, 1, none⟩ (.int .i64 s'.n)).setCell ⟨bz, 2, none⟩ (.slice s'.nA s'.nl s'.nc)).setCell ⟨bz, 3, none⟩ (.slice s'.pA s'.pl s'.pc)) = w9 at *
                      try simp only [List.setIfInBounds_toArray, List.set_cons_zero, List.set_cons_succ]
                      refine lastV (i := 15) (t := 14) (v := .int .i64 no) (w' := w9) rfl (by kernel_rfl) rfl (by rfl) ?hx15 (by decide) (by kernel_rfl) ?_
                      case hx15 => (go_simp; try with_reducible rfl)
                      clear inv hHeld
                      have HV9 := Go.Lib.hid (HVM.out.quiet hW4)
                      have HW4 := Go.Lib.hid hW4
                      clear hW4 hc1 b0 b1 b2 b3 p0 HAT
                      rcases hno with hno | ⟨rfl, b', t', A', c', k', rfl, hv', hf'⟩
                      · have hd : (no == 0) = false := by simpa using hno
                        go_wp2_with fail
                        go_roundw
                        case rel => exact ⟨i + 1, by omega, by go_num, HV9.out⟩
                        case measure => simp [intOf]; omega
                      · have hv9 := hv'.quiet HW4.out
                        have a1 := keepC HV9.out.chg HACT.out.2.1
                        have hwd := HACT.out.2.2.word
                        obtain ⟨x0, q0, hvc, hx0, _⟩ := hv9.vc
                        obtain ⟨ts', hok', _⟩ := hv9.kids_len
                        obtain ⟨_, ⟨xo, po, hob, _⟩, _⟩ := HV9.out.oa
                        have ho0 : w9.cell? ⟨ob, 0, none⟩ = some (.pointer (some ⟨tb, 0, none⟩)) := hob.cell 0
                        have hbf := hf' b' (.inl rfl)
                        have hbk := hvc.blk
                        by_cases hsc : t'.T.kind ≠ 7 ∧ t'.T.kind ≠ 8
                        · have hos := (own_size hok' hsc).2.2
                          have hSet := set_c hvc hok'.1 (by omega) hwd (p' := some ⟨ob, 0, none⟩) (.inr ⟨ob, _, rfl, ho0⟩)
                          have HSet := Go.Lib.hid hSet
                          have HB9 := Go.Lib.hid (And.intro hbk (And.intro hbf hwd))
                          unfold ptr at HSet
                          clear hv9 hwd hvc hok' hob ho0 hbf hbk hos hSet hv' hf'
                          unfold ptr
                          go_wp2_with fail
                          refine HSet.out.mono ?_
                          rintro e w10 hsp
                          have hV10 := HV9.out.set (n := 0) (tb := 0) (k := 0) (c := 0) (x := 0) (p := none) (A := none) HB9.out.1 HB9.out.2.1 (hsp.blk HB9.out.1 HB9.out.2.2) hsp.2.1
                          obtain ⟨rfl, _, _⟩ := hsp
                          have HV10 := Go.Lib.hid hV10
                          clear hV10
                          go_wp2_with fail
                          go_roundw
                          case rel => exact ⟨i + 1, by omega, by go_num, HV10.out⟩
                          case measure => simp [intOf]; omega
                        · have hSet := set_state hvc hok'.1 hok'.kind hsc (x' := act.word) (p' := some ⟨ob, 0, none⟩)
                          have HSet := Go.Lib.hid hSet
                          unfold ptr at HSet
                          clear hv9 hwd hvc hok' hob ho0 hbf hbk hSet hv' hf'
                          unfold ptr
                          go_wp2_with fail
                          refine HSet.out.mono ?_
                          rintro e w10 ⟨rfl, hq⟩
                          have HV10 := Go.Lib.hid (HV9.out.quiet hq)
                          clear hq
                          go_wp2_with fail
                          go_roundw
                          case rel => exact ⟨i + 1, by omega, by go_num, HV10.out⟩
                          case measure => simp [intOf]; omega
              ·
                intro inv2
                clear inv
                have inv := inv2
                clear inv2
                refine opVal (t := 13) (v := .pointer (some ⟨wr.drew.heap.size, 0, none⟩)) (w' := wr.drew.alloc (.cells #[.int .i64 0, .int .i64 0, .slice none 0 0, .slice none 0 0] ShT)) rfl rfl (by rfl) ?hx (hHeld.alloc _) ?hn
                case hx => (go_simp; try rfl)
                case hn =>
                  have hBXS : wr.heap.size ≤ wr.drew.heap.size := Nat.le_refl _
                  have hBZ0 : Blk (wr.drew.alloc (.cells #[.int .i64 0, .int .i64 0, .slice none 0 0, .slice none 0 0] ShT)) wr.drew.heap.size ShT #[.int .i64 0, .int .i64 0, .slice none 0 0, .slice none 0 0] := Blk.new _ _ _
                  have hHeld := hHeld.alloc (.cells #[.int .i64 0, .int .i64 0, .slice none 0 0, .slice none 0 0] ShT)
                  generalize wr.drew.alloc (.cells #[.int .i64 0, .int .i64 0, .slice none 0 0, .slice none 0 0] ShT) = w8 at *
                  generalize wr.drew.heap.size = bz at *
                  try simp only [List.setIfInBounds_toArray, List.set_cons_zero, List.set_cons_succ]
                  refine callT (i := 7) (t := 83) (f := 26) (args := #[.pointer (some ⟨vb, 0, none⟩), .agg #[.int .i64 s.k, .int .i64 s.n, .slice s.nA s.nl s.nc, .slice s.pA s.pl s.pc], .slice act.pA act.path.length act.pc]) rfl (by kernel_rfl) rfl (by rfl) ?hx7 inv (by decide) ?hc7
                  case hx7 => (go_simp; try rfl)
                  case hc7 =>
                    refine (HAT.out w8 hHeld).mono ?_
                    rintro e w1 ⟨x, s', no, rfl, hc1, hno⟩
                    refine ⟨_, rfl, hHeld.trans hc1, fun inv2 hHeld2 => ?_⟩
                    have hBZ := hBZ0.chg hc1 id
                    clear inv hHeld
                    have inv := inv2
                    have hHeld := hHeld2
                    clear inv2 hHeld2
                    try simp only [List.setIfInBounds_toArray, List.set_cons_zero, List.set_cons_succ]
                    unfold Sv.val
                    refine takeT (i := 8) (t := 75) (v := ?v8y13) rfl (by kernel_rfl) (by kernel_rfl) (by kernel_rfl) (fun _ _ _ h => h) (by kernel_rfl) (by kernel_rfl) (by decide) (by decide) rfl (Or.inl ⟨by rfl, ?h8y13⟩) inv hHeld ?r8y13
                    case h8y13 => (intro V' hSw; clear hSw; go_simp; try with_reducible rfl)
                    clear inv
                    intro inv
                    try simp only [List.setIfInBounds_toArray, List.set_cons_zero, List.set_cons_succ]
                    refine takeT (i := 9) (t := 84) (v := ?v9y14) rfl (by kernel_rfl) (by kernel_rfl) (by kernel_rfl) (fun _ _ _ h => h) (by kernel_rfl) (by kernel_rfl) (by decide) (by decide) rfl (Or.inl ⟨by rfl, ?h9y14⟩) inv hHeld ?r9y14
                    case h9y14 => (intro V' hSw; clear hSw; go_simp; try with_reducible rfl)
                    clear inv
                    intro inv
                    try simp only [List.setIfInBounds_toArray, List.set_cons_zero, List.set_cons_succ]
                    refine takeT (i := 10) (t := 85) (v := ?v10y15) rfl (by kernel_rfl) (by kernel_rfl) (by kernel_rfl) (fun _ _ _ h => h) (by kernel_rfl) (by kernel_rfl) (by decide) (by decide) rfl (Or.inl ⟨by rfl, ?h10y15⟩) inv hHeld ?r10y15
                    case h10y15 => (intro V' hSw; clear hSw; go_simp; try with_reducible rfl)
                    clear inv
                    intro inv
                    try simp only [List.setIfInBounds_toArray, List.set_cons_zero, List.set_cons_succ]
                    refine takeT (i := 11) (t := 86) (v := ?v11y16) rfl (by kernel_rfl) (by kernel_rfl) (by kernel_rfl) (fun _ _ _ h => h) (by kernel_rfl) (by kernel_rfl) (by decide) (by decide) rfl (Or.inl ⟨by rfl, ?h11y16⟩) inv hHeld ?r11y16
                    case h11y16 => (intro V' hSw; clear hSw; go_simp; try with_reducible rfl)
                    clear inv
                    intro inv
                    try simp only [List.setIfInBounds_toArray, List.set_cons_zero, List.set_cons_succ]
                    refine takeT (i := 13) (t := 12) (v := ?v13y17) rfl (by kernel_rfl) (by kernel_rfl) (by kernel_rfl) (fun _ _ _ h => h) (by kernel_rfl) (by kernel_rfl) (by decide) (by decide) rfl (Or.inl ⟨by rfl, ?h13y17⟩) inv hHeld ?r13y17
                    case h13y17 => (intro V' hSw; clear hSw; go_simp; try with_reducible rfl)
                    clear inv
                    intro inv
                    try simp only [List.setIfInBounds_toArray, List.set_cons_zero, List.set_cons_succ]
                    have o0 : w1.cell? ⟨bz, 0, none⟩ = some (.int .i64 0) := hBZ.cell 0
                    have o1 : w1.cell? ⟨bz, 1, none⟩ = some (.int .i64 0) := hBZ.cell 1
                    have o2 : w1.cell? ⟨bz, 2, none⟩ = some (.slice none 0 0) := hBZ.cell 2
                    have o3 : w1.cell? ⟨bz, 3, none⟩ = some (.slice none 0 0) := hBZ.cell 3
                    have fo0 := hBZ.frozen 0
                    have fo1 := hBZ.frozen 1
                    have fo2 := hBZ.frozen 2
                    have fo3 := hBZ.frozen 3
                    have hW4 : Chg NoB wr (((((w1.setCell ⟨bz, 0, none⟩ (.int .i64 s'.k)).setCell ⟨bz, 1, none⟩ (.int .i64 s'.n)).setCell ⟨bz, 2, none⟩ (.slice s'.nA s'.nl s'.nc)).setCell ⟨bz, 3, none⟩ (.slice s'.pA s'.pl s'.pc))) := (((hHeld.setCell (fun h => absurd h (by simp; omega)) _).setCell (fun h => absurd h (by simp; omega)) _).setCell (fun h => absurd h (by simp; omega)) _).setCell (fun h => absurd h (by simp; omega)) _
                    refine storeT (i := 14) (w' := ((((w1.setCell ⟨bz, 0, none⟩ (.int .i64 s'.k)).setCell ⟨bz, 1, none⟩ (.int .i64 s'.n)).setCell ⟨bz, 2, none⟩ (.slice s'.nA s'.nl s'.nc)).setCell ⟨bz, 3, none⟩ (.slice s'.pA s'.pl s'.pc))) rfl (by kernel_rfl) rfl (by rfl) ?hx14 inv (by decide) hW4 ?r14
                    case hx14 => (go_simp; try with_reducible rfl)
                    case r14 =>
                      clear inv hHeld o0 o1 o2 o3 fo0 fo1 fo2 fo3 hBZ
                      intro inv hHeld
                      generalize ((((w1.setCell ⟨bz, 0, none⟩ (.int .i64 s'.k)).setCell ⟨bz, 1, none⟩ (.int .i64 s'.n)).setCell ⟨bz, 2, none⟩ (.slice s'.nA s'.nl s'.nc)).setCell ⟨bz, 3, none⟩ (.slice s'.pA s'.pl s'.pc)) = w9 at *
                      try simp only [List.setIfInBounds_toArray, List.set_cons_zero, List.set_cons_succ]
                      refine lastV (i := 15) (t := 14) (v := .int .i64 no) (w' := w9) rfl (by kernel_rfl) rfl (by rfl) ?hx15 (by decide) (by kernel_rfl) ?_
                      case hx15 => (go_simp; try with_reducible rfl)
                      clear inv hHeld
                      have HV9 := Go.Lib.hid (HVM.out.quiet hW4)
                      have HW4 := Go.Lib.hid hW4
                      clear hW4 hc1 b0 b1 b2 b3 p0 HAT
                      rcases hno with hno | ⟨rfl, b', t', A', c', k', rfl, hv', hf'⟩
                      · have hd : (no == 0) = false := by simpa using hno
                        go_wp2_with fail
                        go_roundw
                        case rel => exact ⟨i + 1, by omega, by go_num, HV9.out⟩
                        case measure => simp [intOf]; omega
                      · have hv9 := hv'.quiet HW4.out
                        have a1 := keepC HV9.out.chg HACT.out.2.1
                        have hwd := HACT.out.2.2.word
                        obtain ⟨x0, q0, hvc, hx0, _⟩ := hv9.vc
                        obtain ⟨ts', hok', _⟩ := hv9.kids_len
                        obtain ⟨_, ⟨xo, po, hob, _⟩, _⟩ := HV9.out.oa
                        have ho0 : w9.cell? ⟨ob, 0, none⟩ = some (.pointer (some ⟨tb, 0, none⟩)) := hob.cell 0
                        have hbf := hf' b' (.inl rfl)
                        have hbk := hvc.blk
                        by_cases hsc : t'.T.kind ≠ 7 ∧ t'.T.kind ≠ 8
                        · have hos := (own_size hok' hsc).2.2
                          have hSet := set_c hvc hok'.1 (by omega) hwd (p' := some ⟨ob, 0, none⟩) (.inr ⟨ob, _, rfl, ho0⟩)
                          have HSet := Go.Lib.hid hSet
                          have HB9 := Go.Lib.hid (And.intro hbk (And.intro hbf hwd))
                          unfold ptr at HSet
                          clear hv9 hwd hvc hok' hob ho0 hbf hbk hos hSet hv' hf'
                          unfold ptr
                          go_wp2_with fail
                          refine HSet.out.mono ?_
                          rintro e w10 hsp
                          have hV10 := HV9.out.set (n := 0) (tb := 0) (k := 0) (c := 0) (x := 0) (p := none) (A := none) HB9.out.1 HB9.out.2.1 (hsp.blk HB9.out.1 HB9.out.2.2) hsp.2.1
                          obtain ⟨rfl, _, _⟩ := hsp
                          have HV10 := Go.Lib.hid hV10
                          clear hV10
                          go_wp2_with fail
                          go_roundw
                          case rel => exact ⟨i + 1, by omega, by go_num, HV10.out⟩
                          case measure => simp [intOf]; omega
                        · have hSet := set_state hvc hok'.1 hok'.kind hsc (x' := act.word) (p' := some ⟨ob, 0, none⟩)
                          have HSet := Go.Lib.hid hSet
                          unfold ptr at HSet
                          clear hv9 hwd hvc hok' hob ho0 hbf hbk hSet hv' hf'
                          unfold ptr
                          go_wp2_with fail
                          refine HSet.out.mono ?_
                          rintro e w10 ⟨rfl, hq⟩
                          have HV10 := Go.Lib.hid (HV9.out.quiet hq)
                          clear hq
                          go_wp2_with fail
                          go_roundw
                          case rel => exact ⟨i + 1, by omega, by go_num, HV10.out⟩
                          case measure => simp [intOf]; omega
          · obtain rfl : i = al := by omega
            clear HA HAL
            -- the two variables' bytes
            have hva := HVM.out.va
            obtain ⟨ts, hok, hks⟩ := hva.kids_len
            have hok : Ty.ok wr ⟨s, ns, ks, tb, T⟩ ts := hok
            have hszk := szOk kv hva.2.2.2.2.1
            have hbl := one_len hok hks hszk (wordAt wr vb) (toAt wr vb)
            have hBv := bytes_all _ wr hva 0 vb _ rfl rfl
            obtain ⟨bv, hbv⟩ : ∃ bv, bytesOf T (wordAt wr vb) (toAt wr vb) (bytesF wr kv) = bv := ⟨_, rfl⟩
            have hbl : bv.length = T.size := by rw [← hbv]; exact hbl
            have HBV := Go.Lib.hid hbv
            rw [show bytesOf (⟨s, ns, ks, tb, T⟩ : Ty).T (wordAt wr vb) (toAt wr vb) (bytesF wr kv) = bv from hbv] at hBv
            obtain ⟨N, hN⟩ : ∃ N, T.size = N := ⟨_, rfl⟩
            have HNT := Go.Lib.hid hN
            have hsz := hok.1.sz
            have hsz1 : 1 ≤ N ∧ N ≤ 262144 := by rw [← hN]; exact hsz
            have hbN : bv.length = N := by rw [hbl, hN]
            have HBvc := Go.Lib.hid hBv
            unfold ptr at HBvc
            have HOK := Go.Lib.hid (And.intro hok (And.intro hks hszk))
            have HBN := Go.Lib.hid hbN
            clear hbv hbl hBv hva hok hks hszk hsz hbN
            go_wp2_with fail
            refine HBvc.out.mono ?_
            rintro e w1 ⟨v1, rfl, own1, hc1⟩
            obtain ⟨A1, cb, rfl⟩ := own_slice1' own1
            rw [HBN.out] at own1 ⊢
            obtain ⟨gb, rfl, _⟩ := row_cells own1 (by omega)
            have HO1 := Go.Lib.hid (And.intro own1 hc1)
            clear own1 hc1 HBvc
            have hob := HVM.out.oa.quiet HO1.out.2
            obtain ⟨tso, hoko, hkso⟩ := hob.kids_len
            have hblo := one_len hoko hkso (szOk ko hob.2.2.2.2.1) (wordAt w1 ob) (toAt w1 ob)
            have hzb := zero_bytes _ hob _ (List.mem_cons_self)
            have hBo := bytes_all _ w1 hob 0 ob _ rfl rfl
            obtain ⟨bo, hbo⟩ : ∃ bo, bytesOf T (wordAt w1 ob) (toAt w1 ob) (bytesF w1 ko) = bo := ⟨_, rfl⟩
            rw [show bytesOf (⟨s, ns, ks, tb, T⟩ : Ty).T (wordAt w1 ob) (toAt w1 ob) (bytesF w1 ko) = bo from hbo] at hBo hzb hblo
            have hblo : bo.length = N := by rw [hblo]; exact hN
            have HBoc := Go.Lib.hid hBo
            have HZB := Go.Lib.hid (And.intro hzb hblo)
            unfold ptr at HBoc
            clear hob hoko hkso hblo hzb hBo hbo
            go_wp2_with fail
            refine HBoc.out.mono ?_
            rintro e w2 ⟨v2, rfl, own2, hc2⟩
            obtain ⟨A2, c2, rfl⟩ := own_slice1' own2
            rw [HZB.out.2] at own2 ⊢
            obtain ⟨g2, rfl, _⟩ := row_cells own2 (by omega)
            have HO2 := Go.Lib.hid (And.intro own2 hc2)
            clear own2 hc2 HBoc
            have HCW := Go.Lib.hid (HO1.out.2.trans HO2.out.2)
            have HV2 := Go.Lib.hid (HVM.out.quiet HCW.out)
            have HT2 := Go.Lib.hid (HOK.out.1.1.quiet HCW.out)
            have hTk := HOK.out.1.kind
            have hTk : T.kind ≠ 0 := hTk
            have HSz := Go.Lib.hid (size_c HT2.out hTk)
            rw [show (⟨s, ns, ks, tb, T⟩ : Ty).T.size = N from hN] at HSz
            have HTk := Go.Lib.hid hTk
            clear hTk hN
            unfold ptr at HSz
            go_wp2_with fail
            refine HSz.out.mono ?_
            rintro e w3 ⟨rfl, rfl⟩
            go_wp2_with fail
            refine HSz.out.mono ?_
            rintro e w3 ⟨rfl, rfl⟩
            go_wp2_with fail
            -- the other one's bytes are noughts
            go_loop [17] (fun v17 => ∃ i : Nat, i ≤ N ∧ v17 = .int .i64 i) (fun v17 => N - (intOf v17).toNat)
            case atStart => exact ⟨0, Nat.zero_le _, rfl⟩
            case round =>
              obtain ⟨i, hi, rfl⟩ := hrel
              by_cases hlt : i < N
              · have hcell := HO2.out.1.cellAt i (by omega)
                have hx0 : (u8s bo)[i]? = some (.int .u8 0) := by
                  obtain ⟨x, hx⟩ : ∃ x, bo[i]? = some x := ⟨_, List.getElem?_eq_getElem (by have := HZB.out.2; omega)⟩
                  unfold u8s
                  rw [List.getElem?_map, hx, HZB.out.1 x (List.mem_of_getElem? hx)]
                  rfl
                rw [hx0] at hcell
                clear hx0
                go_wp2_with fail
                go_round
                case rel => exact ⟨i + 1, by omega, by go_num⟩
                case measure => simp [intOf]; omega
              · obtain rfl : N = i := by omega
                obtain ⟨i0, hi0, hz0, hz1, hz2⟩ := info_parts3 u8info
                have Hi := Go.Lib.hid (And.intro hi0 (And.intro hz0 (And.intro hz1 hz2)))
                clear hi0 hz0 hz1 hz2
                have HOB := Go.Lib.hid (own_chg HO1.out.1 HO2.out.2 (fun _ _ => id))
                go_wp2_with (at_builtin; go_must (refine wpList_app _ rfl (.const (.slice none 0 0)) (.tmp 125) _ rfl w2.heap.size U8 i0 _ 1 Try.underlying51 Hi.out.1 Hi.out.2.1 Hi.out.2.2.1 Hi.out.2.2.2 rfl (.slice none 0 0) 0 [] rfl (World.ownsRow_nil _ _ _ _) (some ⟨gb, 0, none⟩) N cb (u8s bv) rfl (by rw [u8s_len]; exact HBN.out) (own_cells HOB.out) (fun u hu => by obtain ⟨y, _, rfl⟩ := List.mem_map.1 hu; rfl) (by unfold maxLen; omega) (by omega) (Nat.le_refl _) ?_); intro v3 w3 own3 gr3 at3; obtain ⟨A3, cr, rfl⟩ := own_slice1' own3)
                obtain ⟨gr, rfl, _⟩ := row_cells own3 (by omega)
                rw [Nat.zero_add] at own3
                have hown3 : w3.ownsRow w2.heap.size U8 1 (.slice (some ⟨gr, 0, none⟩) N cr) N (u8s bv) := own3
                have hq3 : Chg NoB w2 w3 := (Chg.refl NoB w2).grown gr3 (fun k hk _ => by simp [Value.ownBlock] at hk)
                have hgb := HO1.out.1.lt gb rfl
                have hgb2 := (HOB.out.lt gb rfl).2
                have hgr := (hown3.lt gr rfl).1
                have hcap1 := own_cap HO1.out.1
                have hcap3 := own_cap hown3
                unfold maxLen at hcap1 hcap3
                have hwg : wr.heap.size ≤ gr := by omega
                have hLS0 : LSt wr gb N cb bv gr cr 0 w3 := ⟨HCW.out.trans hq3, own_base (own_chg HOB.out hq3 (fun _ _ => id)) (Nat.zero_le _), bv, RestAt.start HBN.out, own_base hown3 (by omega)⟩
                have HLS0 := Go.Lib.hid hLS0
                have HWG := Go.Lib.hid hwg
                clear own3 gr3 at3 hown3 hq3 hgb hgb2 hgr hLS0 hwg HO1 HO2 HOB HSz HV2 HT2 HZB HCW
                generalize wr = wa at *
                by_cases hk7 : s.k = 7
                · have hT7 : T.kind = 7 := by have h : (T.kind : Int) = s.k := HOK.out.1.2.1; omega
                  obtain ⟨T0, hx1, hx2, hx3, hx4⟩ := arr_kids HOK.out.1 hT7
                  have hLl : (bytesF wa kv).length = T.n := by rw [HOK.out.2.2.1, ← VF.tys_len, HOK.out.2.1]; exact hx3
                  have hLall : ∀ l ∈ bytesF wa kv, l.length = T0.size := fun l hl => by
                    obtain ⟨i, hi⟩ := List.mem_iff_getElem?.1 hl
                    obtain ⟨x, hx⟩ : ∃ x, kv.tys[i]? = some x := ⟨_, List.getElem?_eq_getElem (by rw [VF.tys_len, ← HOK.out.2.2.1]; exact (List.getElem?_eq_some_iff.1 hi).1)⟩
                    rw [HOK.out.2.2.2 i l x hi hx, hx1 i x (by rw [← HOK.out.2.1]; exact hx)]
                  have hLy := arr_lays (N := N) hLall (by rw [hLl, ← HNT.out, ← hx3]; exact hx2)
                  have hbvE : padTo N (bytesF wa kv).flatten = bv := by
                    rw [← HBV.out]
                    unfold bytesOf
                    rw [if_pos hT7, HNT.out]
                  rw [hbvE] at hLy
                  have HLY := Go.Lib.hid hLy
                  have HAK := Go.Lib.hid (And.intro hx1 hx2)
                  have HLLen := Go.Lib.hid hLl
                  clear hx1 hx2 hx3 hx4 hLl hLall hLy hbvE
                  go_wp2_with fail
                  go_loopw [19, 20, 21, 22] (fun v19 _ _ _ wz => ∃ i : Nat, i ≤ T.n ∧ v19 = .int .i64 i ∧ LSt wa gb N cb bv gr cr (i * T0.size) wz) (fun v19 _ _ _ _ => T.n - (intOf v19).toNat)
                  case atStart => exact ⟨0, Nat.zero_le _, rfl, by rw [Nat.zero_mul]; exact HLS0.out⟩
                  case round =>
                    obtain ⟨i, hi, rfl, hL⟩ := hrel
                    have HL := Go.Lib.hid hL
                    clear hL
                    have hVz := HVM.out.quiet HL.out.1
                    have hTz := HOK.out.1.1.quiet HL.out.1
                    have b0 : wr.cell? ⟨w.heap.size, 0, none⟩ = some (.int .i64 s.k) := hVz.box.cell 0
                    rw [hk7] at b0
                    have HLen := Go.Lib.hid (len_c hTz HTk.out)
                    unfold ptr at HLen
                    have HVZ := Go.Lib.hid (And.intro hVz hTz)
                    clear hVz hTz
                    have hTnn : T.n ≤ 65535 := HOK.out.1.1.nn
                    by_cases hlt : i < T.n
                    · obtain ⟨kb, x, A', c', kk', hat, hka, hF⟩ := elem_at HVZ.out.1.va hT7 (j := i) hlt
                      obtain ⟨htx, hbx⟩ := VF.at_rev kv hat
                      have hxk : ((⟨s, ns, ks, tb, T⟩ : Ty).kids ts)[i]? = some x := by rw [← HOK.out.2.1]; exact htx
                      have hxT := HAK.out.1 i x hxk
                      have hxTy := (HOK.out.1.kid hxk).1
                      obtain ⟨tsx, hokx⟩ := hxTy.ok
                      have hbase := HOK.out.1.kidsOk.base i x hlt hxk
                      have HSx := Go.Lib.hid (size_c (hokx.1.quiet HL.out.1) hokx.kind)
                      have HBs := Go.Lib.hid (base_c HVZ.out.2 HTk.out)
                      rw [show (⟨s, ns, ks, tb, T⟩ : Ty).T.base = some x.b from hbase] at HBs
                      obtain ⟨lk, hlk⟩ : ∃ lk, (bytesF wa kv)[i]? = some lk := ⟨_, List.getElem?_eq_getElem (by rw [HLLen.out]; exact hlt)⟩
                      have hlkl := HOK.out.2.2.2 i lk x hlk htx
                      rw [hxT] at hlkl
                      obtain ⟨nn, hnn⟩ : ∃ nn, T0.size = nn := ⟨_, rfl⟩
                      rw [show (⟨x.s, x.ns, x.ks, x.b, x.T⟩ : Ty).T = T0 from hxT, hnn] at HSx
                      rw [hnn] at hlkl
                      obtain ⟨m, hm⟩ : ∃ m, i * nn = m := ⟨_, rfl⟩
                      have hgt := HLY.out.get hlk
                      simp only [hnn, hm, hlkl] at hgt
                      have HMN : Hid (i * T0.size = m) := Go.Lib.hid (by rw [hnn]; exact hm)
                      have hmn : m + nn ≤ N := hgt.2.1
                      have hmz : (i : Int) * (nn : Int) = (m : Int) := by rw [← hm]; exact (Int.natCast_mul _ _).symm
                      have hmw : IntKind.i64.wrap ((i : Int) * (nn : Int)) = (m : Int) := by rw [hmz]; exact IntWalk.i64_in _ (by omega)
                      have hnn1 : 1 ≤ nn := by rw [← hnn, ← hxT]; exact hokx.1.sz.1
                      have hs1 : (0 : Int) ≤ (m : Int) + (nn : Int) := by omega
                      have hs2 : (m : Int) + (nn : Int) ≤ (cb : Int) := by omega
                      have hs2' : (m : Int) + (nn : Int) ≤ (cr : Int) := by omega
                      have hs3 : ((m : Int) + (nn : Int)).toNat = m + nn := by omega
                      have hs4 : ¬ cb = m := by omega
                      have hs5 : ¬ cr = m := by omega
                      have hs6 : m ≤ m + nn := by omega
                      have hs7 : m + nn - m = nn := by omega
                      have hw1 : IntKind.i64.wrap (m : Int) = (m : Int) := IntWalk.i64_in _ (by omega)
                      have hw2 : IntKind.i64.wrap ((m : Int) + (nn : Int)) = (m : Int) + (nn : Int) := IntWalk.i64_in _ (by omega)
                      have HPL : Hid (lk.length = nn) := Go.Lib.hid hlkl
                      have HPC : Hid (∀ V', Chg NoB wr V' → CellsAt V' (some ⟨gb, m, none⟩) (u8s lk)) := Go.Lib.hid fun V' hV => by
                        have h := cells_part (own_chg HL.out.2.1 hV (fun _ _ => id)) hmn
                        rw [hgt.1] at h
                        exact h
                      have HBK : Hid (∀ W, Chg NoB wr W → Calls Try.prog 21 #[.pointer (some ⟨kb, 0, none⟩)] W (BysPost lk W)) := Go.Lib.hid fun W hW => by
                        have hvW := HVZ.out.1.va.quiet hW
                        exact bytes_all kv W hvW.2.2.2.2.1 i kb lk hbx (by rw [bytesF_quiet (HL.out.1.trans hW) kv HVM.out.va.2.2.2.2.1]; exact hlk)
                      have HEL := Go.Lib.hid (hF wr (Chg.refl _ _))
                      have HLK := Go.Lib.hid hlk
                      have HLL := Go.Lib.hid hlkl
                      unfold ptr at HEL HSx
                      unfold optP at HBs
                      simp only [Option.map_some] at HBs
                      clear hat hka hF htx hbx hxk hxT hxTy hokx hbase hlk hlkl hm hgt
                      go_wp2_with fail
                      refine HLen.out.mono ?_
                      rintro e w4 ⟨rfl, rfl⟩
                      go_wp2_with fail
                      refine HEL.out.mono ?_
                      rintro e w4 ⟨rfl, rfl⟩
                      go_wp2_with fail
                      refine HBs.out.mono ?_
                      rintro e w4 ⟨rfl, rfl⟩
                      go_wp2_with fail
                      refine HSx.out.mono ?_
                      rintro e w4 ⟨rfl, rfl⟩
                      go_wp2_with fail
                      refine regionT 19 (fun V' => Chg NoB (wr) V') (by kernel_rfl) (by decide) ((Chg.refl NoB wr).drew) (fun inv hHeld => ?_)
                      refine takeT (i := 0) (t := 147) (v := ?v0y18) rfl (by kernel_rfl) (by kernel_rfl) (by kernel_rfl) (fun _ _ _ h => h) (by kernel_rfl) (by kernel_rfl) (by decide) (by decide) rfl (Or.inl ⟨by rfl, ?h0y18⟩) inv hHeld ?r0y18
                      case h0y18 => (intro V' hSw; clear hSw; go_simp; first | done | with_reducible rfl | omega | rfl | decide)
                      clear inv
                      intro inv
                      try simp only [List.setIfInBounds_toArray, List.set_cons_zero, List.set_cons_succ]
                      refine callT (i := 1) (t := 148) (f := 14) (args := #[.int .i64 0]) rfl (by kernel_rfl) rfl (by rfl) ?hx19 inv (by decide) ?hc19
                      case hx19 => (go_simp; try rfl)
                      case hc19 =>
                        refine (num_c (w := wr.drew) 0).mono ?_
                        rintro e w4 ⟨rfl, rfl⟩
                        refine ⟨_, rfl, hHeld.trans (Chg.refl NoB _), fun inv2 hHeld2 => ?_⟩
                        clear inv hHeld
                        have inv := inv2
                        have hHeld := hHeld2
                        clear inv2 hHeld2
                        try simp only [List.setIfInBounds_toArray, List.set_cons_zero, List.set_cons_succ]
                        refine takeT (i := 2) (t := 149) (v := ?v2y20) rfl (by kernel_rfl) (by kernel_rfl) (by kernel_rfl) (fun _ _ _ h => h) (by kernel_rfl) (by kernel_rfl) (by decide) (by decide) rfl (Or.inl ⟨by rfl, ?h2y20⟩) inv hHeld ?r2y20
                        case h2y20 => (intro V' hSw; clear hSw; go_simp; first | done | with_reducible rfl | omega | rfl | decide)
                        clear inv
                        intro inv
                        try simp only [List.setIfInBounds_toArray, List.set_cons_zero, List.set_cons_succ]
                        refine takeT (i := 3) (t := 150) (v := ?v3y21) rfl (by kernel_rfl) (by kernel_rfl) (by kernel_rfl) (fun _ _ _ h => h) (by kernel_rfl) (by kernel_rfl) (by decide) (by decide) rfl (Or.inl ⟨by rfl, ?h3y21⟩) inv hHeld ?r3y21
                        case h3y21 => (intro V' hSw; clear hSw; go_simp; first | done | with_reducible rfl | omega | rfl | decide)
                        clear inv
                        intro inv
                        try simp only [List.setIfInBounds_toArray, List.set_cons_zero, List.set_cons_succ]
                        refine takeT (i := 4) (t := 151) (v := ?v4y22) rfl (by kernel_rfl) (by kernel_rfl) (by kernel_rfl) (fun _ _ _ h => h) (by kernel_rfl) (by kernel_rfl) (by decide) (by decide) rfl (Or.inl ⟨by rfl, ?h4y22⟩) inv hHeld ?r4y22
                        case h4y22 => (intro V' hSw; clear hSw; go_simp; first | done | with_reducible rfl | omega | rfl | decide)
                        clear inv
                        intro inv
                        try simp only [List.setIfInBounds_toArray, List.set_cons_zero, List.set_cons_succ]
                        refine takeT (i := 7) (t := 154) (v := ?v7y23) rfl (by kernel_rfl) (by kernel_rfl) (by kernel_rfl) (fun _ _ _ h => h) (by kernel_rfl) (by kernel_rfl) (by decide) (by decide) rfl (Or.inl ⟨by rfl, ?h7y23⟩) inv hHeld ?r7y23
                        case h7y23 => (intro V' hSw; clear hSw; go_simp; first | done | with_reducible rfl | omega | rfl | decide)
                        clear inv
                        intro inv
                        try simp only [List.setIfInBounds_toArray, List.set_cons_zero, List.set_cons_succ]
                        refine takeT (i := 8) (t := 155) (v := ?v8y24) rfl (by kernel_rfl) (by kernel_rfl) (by kernel_rfl) (fun _ _ _ h => h) (by kernel_rfl) (by kernel_rfl) (by decide) (by decide) rfl (Or.inl ⟨by rfl, ?h8y24⟩) inv hHeld ?r8y24
                        case h8y24 => (intro V' hSw; clear hSw; go_simp; first | done | with_reducible rfl | omega | rfl | decide)
                        clear inv
                        intro inv
                        try simp only [List.setIfInBounds_toArray, List.set_cons_zero, List.set_cons_succ]
                        refine takeT (i := 9) (t := 156) (v := ?v9y25) rfl (by kernel_rfl) (by kernel_rfl) (by kernel_rfl) (fun _ _ _ h => h) (by kernel_rfl) (by kernel_rfl) (by decide) (by decide) rfl (Or.inl ⟨by rfl, ?h9y25⟩) inv hHeld ?r9y25
                        case h9y25 => (intro V' hSw; clear hSw; go_simp; first | done | with_reducible rfl | omega | rfl | decide)
                        clear inv
                        intro inv
                        try simp only [List.setIfInBounds_toArray, List.set_cons_zero, List.set_cons_succ]
                        refine takeT (i := 10) (t := 157) (v := .int .i64 (m : Int)) rfl (by kernel_rfl) (by kernel_rfl) (by kernel_rfl) (fun _ _ _ h => h) (by kernel_rfl) (by kernel_rfl) (by decide) (by decide) rfl (Or.inl ⟨by rfl, ?h10y26⟩) inv hHeld ?r10y26
                        case h10y26 => (intro V' hSw; clear hSw; go_simp; first | done | with_reducible rfl | omega | rfl | decide)
                        clear inv
                        intro inv
                        try simp only [List.setIfInBounds_toArray, List.set_cons_zero, List.set_cons_succ]
                        refine takeT (i := 11) (t := 158) (v := ?v11y27) rfl (by kernel_rfl) (by kernel_rfl) (by kernel_rfl) (fun _ _ _ h => h) (by kernel_rfl) (by kernel_rfl) (by decide) (by decide) rfl (Or.inl ⟨by rfl, ?h11y27⟩) inv hHeld ?r11y27
                        case h11y27 => (intro V' hSw; clear hSw; go_simp; first | done | with_reducible rfl | omega | rfl | decide)
                        clear inv
                        intro inv
                        try simp only [List.setIfInBounds_toArray, List.set_cons_zero, List.set_cons_succ]
                        refine takeT (i := 12) (t := 159) (v := ?v12y28) rfl (by kernel_rfl) (by kernel_rfl) (by kernel_rfl) (fun _ _ _ h => h) (by kernel_rfl) (by kernel_rfl) (by decide) (by decide) rfl (Or.inl ⟨by rfl, ?h12y28⟩) inv hHeld ?r12y28
                        case h12y28 => (intro V' hSw; clear hSw; go_simp; first | done | with_reducible rfl | omega | rfl | decide)
                        clear inv
                        intro inv
                        try simp only [List.setIfInBounds_toArray, List.set_cons_zero, List.set_cons_succ]
                        refine takeT (i := 13) (t := 160) (v := .int .i64 (m : Int)) rfl (by kernel_rfl) (by kernel_rfl) (by kernel_rfl) (fun _ _ _ h => h) (by kernel_rfl) (by kernel_rfl) (by decide) (by decide) rfl (Or.inl ⟨by rfl, ?h13y29⟩) inv hHeld ?r13y29
                        case h13y29 => (intro V' hSw; clear hSw; go_simp; first | done | with_reducible rfl | omega | rfl | decide)
                        clear inv
                        intro inv
                        try simp only [List.setIfInBounds_toArray, List.set_cons_zero, List.set_cons_succ]
                        refine takeT (i := 14) (t := 161) (v := ?v14y30) rfl (by kernel_rfl) (by kernel_rfl) (by kernel_rfl) (fun _ _ _ h => h) (by kernel_rfl) (by kernel_rfl) (by decide) (by decide) rfl (Or.inl ⟨by rfl, ?h14y30⟩) inv hHeld ?r14y30
                        case h14y30 => (intro V' hSw; clear hSw; go_simp; first | done | with_reducible rfl | omega | rfl | decide)
                        clear inv
                        intro inv
                        try simp only [List.setIfInBounds_toArray, List.set_cons_zero, List.set_cons_succ]
                        refine takeT (i := 15) (t := 162) (v := .int .i64 ((m : Int) + (nn : Int))) rfl (by kernel_rfl) (by kernel_rfl) (by kernel_rfl) (fun _ _ _ h => h) (by kernel_rfl) (by kernel_rfl) (by decide) (by decide) rfl (Or.inl ⟨by rfl, ?h15y31⟩) inv hHeld ?r15y31
                        case h15y31 => (intro V' hSw; clear hSw; go_simp; first | done | with_reducible rfl | omega | rfl | decide)
                        clear inv
                        intro inv
                        try simp only [List.setIfInBounds_toArray, List.set_cons_zero, List.set_cons_succ]
                        refine takeT (i := 16) (t := 163) (v := .slice (some ⟨gb, m, none⟩) nn (cb - m)) rfl (by kernel_rfl) (by kernel_rfl) (by kernel_rfl) (fun _ _ _ h => h) (by kernel_rfl) (by kernel_rfl) (by decide) (by decide) rfl (Or.inl ⟨by rfl, ?h16y32⟩) inv hHeld ?r16y32
                        case h16y32 => (intro V' hSw; clear hSw; go_simp; first | done | with_reducible rfl | omega | rfl | decide)
                        clear inv
                        intro inv
                        try simp only [List.setIfInBounds_toArray, List.set_cons_zero, List.set_cons_succ]
                        refine takeT (i := 17) (t := 164) (v := .string (strOf lk)) rfl (by kernel_rfl) (by kernel_rfl) (by kernel_rfl) (fun _ _ _ h => h) (by kernel_rfl) (by kernel_rfl) (by decide) (by decide) rfl (Or.inl ⟨by rfl, ?h17y33⟩) inv hHeld ?r17y33
                        case h17y33 => (intro V' hSw; have hq := run_text (n := nn) (c := cb - m) HPL.out (HPC.out V' hSw); clear hSw; go_simp; try with_reducible rfl)
                        clear inv
                        intro inv
                        try simp only [List.setIfInBounds_toArray, List.set_cons_zero, List.set_cons_succ]
                        refine callT (i := 5) (t := 152) (f := 21) (args := #[.pointer (some ⟨kb, 0, none⟩)]) rfl (by kernel_rfl) rfl (by rfl) ?hx34 inv (by decide) ?hc34
                        case hx34 => (go_simp; try rfl)
                        case hc34 =>
                          refine (HBK.out wr.drew (Chg.refl NoB wr).drew).mono ?_
                          rintro e w5 ⟨vx, rfl, ownx, hcx⟩
                          refine ⟨_, rfl, hHeld.trans hcx, fun inv2 hHeld2 => ?_⟩
                          clear inv hHeld
                          have inv := inv2
                          have hHeld := hHeld2
                          clear inv2 hHeld2
                          obtain ⟨Ax, cx, rfl⟩ := own_slice1' ownx
                          rw [HLL.out] at ownx
                          have hc6 := Go.Lib.hid hHeld
                          have hll := HLL.out
                          try simp only [List.setIfInBounds_toArray, List.set_cons_zero, List.set_cons_succ]
                          have HT6 := run_text (A := Ax) (c := cx) hll (own_cells ownx)
                          refine valT (i := 6) (t := 153) (v := .string (strOf lk)) (w' := w5) rfl (by kernel_rfl) rfl (by rfl) ?hx6 inv (by decide) hHeld ?r6
                          case hx6 => (go_simp; try with_reducible rfl)
                          clear HT6
                          intro inv2 hHeld2
                          clear inv hHeld
                          have inv := inv2
                          have hHeld := hHeld2
                          clear inv2 hHeld2
                          try simp only [List.setIfInBounds_toArray, List.set_cons_zero, List.set_cons_succ]
                          refine takeT (i := 18) (t := 165) (v := ?v18y36) rfl (by kernel_rfl) (by kernel_rfl) (by kernel_rfl) (fun _ _ _ h => h) (by kernel_rfl) (by kernel_rfl) (by decide) (by decide) rfl (Or.inl ⟨by rfl, ?h18y36⟩) inv hHeld ?r18y36
                          case h18y36 => (intro V' hSw; clear hSw; go_simp; first | done | with_reducible rfl | omega | rfl | decide)
                          clear inv
                          intro inv
                          try simp only [List.setIfInBounds_toArray, List.set_cons_zero, List.set_cons_succ]
                          refine lastV (i := 19) (t := 166) (v := .bool false) (w' := w5) rfl (by kernel_rfl) rfl (by rfl) ?hx37 (by decide) (by kernel_rfl) ?_
                          case hx37 => (go_simp; try with_reducible rfl)
                          clear inv
                          clear hHeld
                          have HL6 := Go.Lib.hid (HL.out.quiet hc6.out)
                          go_wp2_with fail
                          obtain ⟨l', hra, hro⟩ := HL6.out.2.2
                          refine (wipe_c hro (a := m) (n := nn) (c := cr - m) (by omega) (by unfold maxLen; omega)).mono ?_
                          rintro e w7 ⟨rfl, l'', hw, ho, hc7⟩
                          have hLw := LSt.wipe (off := fun i => i * T0.size) (e := fun i => i * T0.size) (i := i) HL6.out HWG.out HLY.out HLK.out hra (by show Wiped l' (i * T0.size) lk.length l''; rw [HMN.out, HLL.out]; exact hw) ho hc7
                          have HL7 := Go.Lib.hid hLw
                          clear hra hro hw ho hc7 hLw
                          go_wp2_with fail
                          go_roundw
                          case rel => exact ⟨i + 1, by omega, by go_num, HL7.out⟩
                          case measure => simp [intOf]; omega
                    · obtain rfl : i = T.n := by omega
                      go_wp2_with fail
                      refine HLen.out.mono ?_
                      rintro e w4 ⟨rfl, rfl⟩
                      go_wp2_with fail
                      go_loopw [23, 24, 25, 26, 27, 28] (fun v23 _ _ _ _ _ wz => v23 = .int .i64 0 ∧ LSt wa gb N cb bv gr cr (T.n * T0.size) wz) (fun _ _ _ _ _ _ _ => 0)
                      case atStart => exact ⟨rfl, HL.out⟩
                      case round =>
                        clear HL
                        obtain ⟨rfl, hL⟩ := hrel
                        have HL := Go.Lib.hid hL
                        clear hL
                        have hVz := HVM.out.quiet HL.out.1
                        have hTz := HOK.out.1.1.quiet HL.out.1
                        have b0 : wr.cell? ⟨w.heap.size, 0, none⟩ = some (.int .i64 s.k) := hVz.box.cell 0
                        rw [hk7] at b0
                        have HLen := Go.Lib.hid (len_c hTz HTk.out)
                        unfold ptr at HLen
                        have HVZ := Go.Lib.hid (And.intro hVz hTz)
                        clear hVz hTz
                        have b2 : wr.cell? ⟨w.heap.size, 2, none⟩ = some (.slice s.nA s.nl s.nc) := HVZ.out.1.box.cell 2
                        rcases Nat.eq_zero_or_pos s.nl with hnl0 | hnl0
                        all_goals (
                          obtain ⟨l', hra, hro⟩ := HL.out.2.2
                          have hz := RestAt.done HLY.out (by rw [HLLen.out]; exact hra)
                          have HZ := Go.Lib.hid (And.intro hz hro)
                          clear hra hro hz
                          go_wp2_with fail
                          go_loop [29] (fun v29 => ∃ i : Nat, i ≤ N ∧ v29 = .int .i64 i) (fun v29 => N - (intOf v29).toNat)
                          case atStart => exact ⟨0, Nat.zero_le _, rfl⟩
                          case round =>
                            obtain ⟨i2, hi2, rfl⟩ := hrel
                            by_cases hlt2 : i2 < N
                            · have hcell := HZ.out.2.cellAt i2 (by omega)
                              have hx0 : (u8s l')[i2]? = some (.int .u8 0) := by
                                unfold u8s
                                rw [List.getElem?_map, HZ.out.1 i2 hlt2]
                                rfl
                              rw [hx0] at hcell
                              clear hx0
                              go_wp2_with fail
                              go_round
                              case rel => exact ⟨i2 + 1, by omega, by go_num⟩
                              case measure => simp [intOf]; omega
                            · have hi2N : i2 = N := by omega
                              have hdz : decide ((i2 : Int) < (N : Int)) = false := by simp; omega
                              go_wp2_with fail
                              go_ret
                              exact ⟨rfl, HVM.out.chg.trans HL.out.1⟩
                        )
                · have hTn := own_n0 HOK.out.1 hk7
                  have HTn0 : Hid (T.n = 0) := Go.Lib.hid hTn
                  clear hTn
                  have hd7 : (s.k == 7) = false := by simpa using hk7
                  by_cases hk8 : s.k = 8
                  · have hT8 : T.kind = 8 := by have h : (T.kind : Int) = s.k := HOK.out.1.2.1; omega
                    obtain ⟨hx1, hx2, hx3, hx4, hx5, hx6⟩ := rec_kids HOK.out.1 hT8
                    have hLl : (bytesF wa kv).length = (ns.zip ts).length := by rw [HOK.out.2.2.1, ← VF.tys_len, HOK.out.2.1]; exact hx3.symm
                    have hzl : (ns.zip ts).length = s.nl := by
                      have h1 := HS.out.ok.nl
                      have h2 : ns.length = ts.length := hx4
                      rw [List.length_zip]
                      omega
                    have hLs : ∀ (i : Nat) a x, (bytesF wa kv)[i]? = some a → (ns.zip ts)[i]? = some x → a.length = x.2.2.size := fun i a q ha hq => by
                      obtain ⟨x, hx⟩ : ∃ x, kv.tys[i]? = some x := ⟨_, List.getElem?_eq_getElem (by rw [VF.tys_len, ← HOK.out.2.2.1]; exact (List.getElem?_eq_some_iff.1 ha).1)⟩
                      rw [HOK.out.2.2.2 i a x ha hx, (hx5 i x q (by rw [← HOK.out.2.1]; exact hx) hq).1]
                    have hNz : recSize (ns.zip ts) = N := by rw [← HNT.out]; exact hx2.symm
                    have hLy := rec_lays hLl hLs (by rw [hNz]; omega)
                    have hbvE : padTo (recSize (ns.zip ts)) (recB ((recL (ns.zip ts)).1.zip (bytesF wa kv))) = bv := by
                      rw [← HBV.out]
                      unfold bytesOf
                      rw [if_neg (by omega), if_pos hT8, ← show T.fs = _ from hx1, hNz, HNT.out]
                    rw [hbvE, hNz] at hLy
                    obtain ⟨offR, eR, hLy, hFS⟩ : ∃ offR eR, Lays N bv offR eR (bytesF wa kv) ∧ ∀ (i : Nat) f, T.fs[i]? = some f → offR i = f.off := ⟨_, _, hLy, fun i f hf => by
                      have hx1 : T.fs = (recL (ns.zip ts)).1 := hx1
                      rw [← hx1, hf]
                      rfl⟩
                    have HLY := Go.Lib.hid hLy
                    have HFS := Go.Lib.hid hFS
                    have HE0 := Go.Lib.hid hLy.zero
                    have HLLen : Hid ((bytesF wa kv).length = s.nl) := Go.Lib.hid (by rw [hLl, hzl])
                    have HZL := Go.Lib.hid hzl
                    have HPLN : Hid (s.nl = s.pl) := Go.Lib.hid (by
                      have h1 := HS.out.ok.nl
                      have h2 := HS.out.len
                      have h3 := (rec_names HOK.out.1 hT8 HER.out).2.2.2
                      have h3 : ns.length = ks.len := h3
                      omega)
                    clear hx1 hx2 hx3 hx4 hx5 hx6 hLl hLs hLy hFS hbvE hzl hNz
                    go_wp2_with fail
                    go_loopw [19, 20, 21, 22] (fun v19 _ _ _ wz => v19 = .int .i64 0 ∧ LSt wa gb N cb bv gr cr 0 wz) (fun _ _ _ _ _ => 0)
                    case atStart => exact ⟨rfl, HLS0.out⟩
                    case round =>
                      obtain ⟨rfl, hL⟩ := hrel
                      have HL := Go.Lib.hid hL
                      clear hL
                      have hVz := HVM.out.quiet HL.out.1
                      have hTz := HOK.out.1.1.quiet HL.out.1
                      have b0 : wr.cell? ⟨w.heap.size, 0, none⟩ = some (.int .i64 s.k) := hVz.box.cell 0
                      rw [hk8] at b0
                      have HLen := Go.Lib.hid (len_c hTz HTk.out)
                      unfold ptr at HLen
                      have HVZ := Go.Lib.hid (And.intro hVz hTz)
                      clear hVz hTz
                      rw [show (⟨s, ns, ks, tb, T⟩ : Ty).T.n = 0 from HTn0.out] at HLen
                      go_wp2_with fail
                      refine HLen.out.mono ?_
                      rintro e w4 ⟨rfl, rfl⟩
                      go_wp2_with fail
                      go_loopw [23, 24, 25, 26, 27, 28] (fun v23 _ _ _ _ _ wz => ∃ i : Nat, i ≤ s.nl ∧ v23 = .int .i64 i ∧ LSt wa gb N cb bv gr cr (eR i) wz) (fun v23 _ _ _ _ _ _ => s.nl - (intOf v23).toNat)
                      case atStart => exact ⟨0, Nat.zero_le _, rfl, by rw [HE0.out]; exact HL.out⟩
                      case round =>
                        clear HL
                        obtain ⟨i, hi, rfl, hL⟩ := hrel
                        have HL := Go.Lib.hid hL
                        clear hL
                        have hVz := HVM.out.quiet HL.out.1
                        have hTz := HOK.out.1.1.quiet HL.out.1
                        have b0 : wr.cell? ⟨w.heap.size, 0, none⟩ = some (.int .i64 s.k) := hVz.box.cell 0
                        rw [hk8] at b0
                        have HLen := Go.Lib.hid (len_c hTz HTk.out)
                        unfold ptr at HLen
                        have HVZ := Go.Lib.hid (And.intro hVz hTz)
                        clear hVz hTz
                        have b2 : wr.cell? ⟨w.heap.size, 2, none⟩ = some (.slice s.nA s.nl s.nc) := HVZ.out.1.box.cell 2
                        have b3 : wr.cell? ⟨w.heap.size, 3, none⟩ = some (.slice s.pA s.pl s.pc) := HVZ.out.1.box.cell 3
                        have hnc := HS.out.ok.nc
                        have hppc := HS.out.ok.pc
                        unfold maxLen at hnc hppc
                        by_cases hlt : i < s.nl
                        · have hjp : i < s.pl := by have := HPLN.out; omega
                          obtain ⟨nm, hnm⟩ : ∃ nm, ns[i]? = some nm := ⟨_, List.getElem?_eq_getElem (by have := HS.out.ok.nl; omega)⟩
                          obtain ⟨kb, x, A', c', kk', hat, hka, hF⟩ := field_at HVZ.out.1.va hT8 HER.out hnm
                          obtain ⟨f, hf, hOf⟩ := offset_at HOK.out.1 hT8 HER.out hnm
                          obtain ⟨htx, hbx⟩ := VF.at_rev kv hat
                          have hxk : ((⟨s, ns, ks, tb, T⟩ : Ty).kids ts)[i]? = some x := by rw [← HOK.out.2.1]; exact htx
                          have hxTy := (HOK.out.1.kid hxk).1
                          have hxsz := ty_size hxTy
                          obtain ⟨tsx, hokx⟩ := hxTy.ok
                          obtain ⟨na, hna, hncell⟩ := HS.out.ok.names (by have := HS.out.ok.nl; simp; omega)
                          have hcw := HVZ.out.1.chg
                          have n0 := keepC hcw (hncell i (.string nm) (by rw [List.getElem?_map, hnm]; rfl))
                          obtain ⟨pb, po, sv, ns', kkk, hpA, ha, q0, q1, q2, q3, hIs⟩ := HS.out.part hjp
                          have hka' : ks.at? i = some (x.s, x.ns, x.ks) := hka
                          rw [hka'] at ha
                          injection ha with ha
                          injection ha with ha1 ha2
                          injection ha2 with ha2 ha3
                          subst ha1 ha2 ha3
                          have q0 := keepC hcw q0
                          have q1 := keepC hcw q1
                          have q2 := keepC hcw q2
                          have q3 := keepC hcw q3
                          rw [hna] at b2
                          rw [hpA] at b3
                          obtain ⟨hsm1, hsm2⟩ := SF.small.at_ ks HSM.out.2 hka'
                          have hSr := refSize_c (hIs.quiet hcw) hsm1 hsm2 (okF.at_ ks (err_parts HER.out).1 hka')
                          rw [← hxsz] at hSr
                          obtain ⟨lk, hlk⟩ : ∃ lk, (bytesF wa kv)[i]? = some lk := ⟨_, List.getElem?_eq_getElem (by rw [HLLen.out]; omega)⟩
                          have hlkl := HOK.out.2.2.2 i lk x hlk htx
                          obtain ⟨nn, hnn⟩ : ∃ nn, x.T.size = nn := ⟨_, rfl⟩
                          rw [hnn] at hlkl hSr
                          obtain ⟨m, hm⟩ : ∃ m, f.off = m := ⟨_, rfl⟩
                          have hoff : offR i = m := by rw [HFS.out i f hf]; exact hm
                          have hgt := HLY.out.get hlk
                          simp only [hoff, hlkl] at hgt
                          have hmn : m + nn ≤ N := hgt.2.1
                          have hnn1 : 1 ≤ nn := by rw [← hnn]; exact hokx.1.sz.1
                          have hs1 : (0 : Int) ≤ (m : Int) + (nn : Int) := by omega
                          have hs2 : (m : Int) + (nn : Int) ≤ (cb : Int) := by omega
                          have hs2' : (m : Int) + (nn : Int) ≤ (cr : Int) := by omega
                          have hs3 : ((m : Int) + (nn : Int)).toNat = m + nn := by omega
                          have hs4 : ¬ cb = m := by omega
                          have hs5 : ¬ cr = m := by omega
                          have hs6 : m ≤ m + nn := by omega
                          have hs7 : m + nn - m = nn := by omega
                          have hw1 : IntKind.i64.wrap (m : Int) = (m : Int) := IntWalk.i64_in _ (by omega)
                          have hw2 : IntKind.i64.wrap ((m : Int) + (nn : Int)) = (m : Int) + (nn : Int) := IntWalk.i64_in _ (by omega)
                          have HPL : Hid (lk.length = nn) := Go.Lib.hid hlkl
                          have HSr := Go.Lib.hid hSr
                          unfold Sv.val at HSr
                          have HEL := Go.Lib.hid (hF wr (Chg.refl _ _))
                          have HOf := Go.Lib.hid (hOf wr HL.out.1)
                          rw [hm] at HOf
                          have HLK := Go.Lib.hid hlk
                          have HLL := Go.Lib.hid hlkl
                          have HOFF := Go.Lib.hid hoff
                          have HBX := Go.Lib.hid (And.intro hbx hgt.1)
                          unfold ptr at HEL HOf
                          clear hat hka hka' hF hOf htx hbx hxk hxTy hxsz hokx hlk hlkl hm hgt hf hoff hncell hIs hSr hcw hsm1 hsm2 hnn hnm hna hpA
                          go_wp2_with fail
                          refine HEL.out.mono ?_
                          rintro e w4 ⟨rfl, rfl⟩
                          go_wp2_with fail
                          refine HOf.out.mono ?_
                          rintro e w4 ⟨rfl, rfl⟩
                          go_wp2_with fail
                          refine HSr.out.mono ?_
                          rintro e w3z ⟨rfl, hc3z⟩
                          have HL3 := Go.Lib.hid (HL.out.quiet hc3z)
                          have hv3 := HVZ.out.1.va.quiet hc3z
                          have HBK : Hid (∀ W, Chg NoB w3z W → Calls Try.prog 21 #[.pointer (some ⟨kb, 0, none⟩)] W (BysPost lk W)) := Go.Lib.hid fun W hW => by
                            have hvW := hv3.quiet hW
                            exact bytes_all kv W hvW.2.2.2.2.1 i kb lk HBX.out.1 (by rw [bytesF_quiet (HL3.out.1.trans hW) kv HVM.out.va.2.2.2.2.1]; exact HLK.out)
                          have HPC : Hid (∀ V', Chg NoB w3z V' → CellsAt V' (some ⟨gb, m, none⟩) (u8s lk)) := Go.Lib.hid fun V' hV => by
                            have h := cells_part (own_chg HL3.out.2.1 hV (fun _ _ => id)) hmn
                            rw [HBX.out.2] at h
                            exact h
                          clear hv3 hc3z b0 b2 b3 q0 q1 q2 q3 n0
                          go_wp2_with fail
                          refine regionT 18 (fun V' => Chg NoB (w3z) V') (by kernel_rfl) (by decide) ((Chg.refl NoB w3z).drew) (fun inv hHeld => ?_)
                          refine takeT (i := 0) (t := 216) (v := ?v0y38) rfl (by kernel_rfl) (by kernel_rfl) (by kernel_rfl) (fun _ _ _ h => h) (by kernel_rfl) (by kernel_rfl) (by decide) (by decide) rfl (Or.inl ⟨by rfl, ?h0y38⟩) inv hHeld ?r0y38
                          case h0y38 => (intro V' hSw; clear hSw; go_simp; first | done | with_reducible rfl | omega | rfl | decide)
                          clear inv
                          intro inv
                          try simp only [List.setIfInBounds_toArray, List.set_cons_zero, List.set_cons_succ]
                          refine takeT (i := 2) (t := 218) (v := ?v2y39) rfl (by kernel_rfl) (by kernel_rfl) (by kernel_rfl) (fun _ _ _ h => h) (by kernel_rfl) (by kernel_rfl) (by decide) (by decide) rfl (Or.inl ⟨by rfl, ?h2y39⟩) inv hHeld ?r2y39
                          case h2y39 => (intro V' hSw; clear hSw; go_simp; first | done | with_reducible rfl | omega | rfl | decide)
                          clear inv
                          intro inv
                          try simp only [List.setIfInBounds_toArray, List.set_cons_zero, List.set_cons_succ]
                          refine callT (i := 1) (t := 217) (f := 14) (args := #[.int .i64 0]) rfl (by kernel_rfl) rfl (by rfl) ?hx40 inv (by decide) ?hc40
                          case hx40 => (go_simp; try rfl)
                          case hc40 =>
                            refine (num_c (w := w3z.drew) 0).mono ?_
                            rintro e w4 ⟨rfl, rfl⟩
                            refine ⟨_, rfl, hHeld.trans (Chg.refl NoB _), fun inv2 hHeld2 => ?_⟩
                            clear inv hHeld
                            have inv := inv2
                            have hHeld := hHeld2
                            clear inv2 hHeld2
                            try simp only [List.setIfInBounds_toArray, List.set_cons_zero, List.set_cons_succ]
                            refine callT (i := 3) (t := 219) (f := 14) (args := #[.int .i64 0]) rfl (by kernel_rfl) rfl (by rfl) ?hx41 inv (by decide) ?hc41
                            case hx41 => (go_simp; try rfl)
                            case hc41 =>
                              refine (num_c (w := w3z.drew) 0).mono ?_
                              rintro e w4 ⟨rfl, rfl⟩
                              refine ⟨_, rfl, hHeld.trans (Chg.refl NoB _), fun inv2 hHeld2 => ?_⟩
                              clear inv hHeld
                              have inv := inv2
                              have hHeld := hHeld2
                              clear inv2 hHeld2
                              try simp only [List.setIfInBounds_toArray, List.set_cons_zero, List.set_cons_succ]
                              refine takeT (i := 4) (t := 220) (v := .int .i64 0) rfl (by kernel_rfl) (by kernel_rfl) (by kernel_rfl) (fun _ _ _ h => h) (by kernel_rfl) (by kernel_rfl) (by decide) (by decide) rfl (Or.inl ⟨by rfl, ?h4y42⟩) inv hHeld ?r4y42
                              case h4y42 => (intro V' hSw; clear hSw; go_simp; first | done | with_reducible rfl | omega | rfl | decide)
                              clear inv
                              intro inv
                              try simp only [List.setIfInBounds_toArray, List.set_cons_zero, List.set_cons_succ]
                              refine takeT (i := 5) (t := 221) (v := .bool false) rfl (by kernel_rfl) (by kernel_rfl) (by kernel_rfl) (fun _ _ _ h => h) (by kernel_rfl) (by kernel_rfl) (by decide) (by decide) rfl (Or.inl ⟨by rfl, ?h5y43⟩) inv hHeld ?r5y43
                              case h5y43 => (intro V' hSw; clear hSw; go_simp; first | done | with_reducible rfl | omega | rfl | decide)
                              clear inv
                              intro inv
                              try simp only [List.setIfInBounds_toArray, List.set_cons_zero, List.set_cons_succ]
                              refine takeT (i := 6) (t := 222) (v := ?v6y44) rfl (by kernel_rfl) (by kernel_rfl) (by kernel_rfl) (fun _ _ _ h => h) (by kernel_rfl) (by kernel_rfl) (by decide) (by decide) rfl (Or.inl ⟨by rfl, ?h6y44⟩) inv hHeld ?r6y44
                              case h6y44 => (intro V' hSw; clear hSw; go_simp; first | done | with_reducible rfl | omega | rfl | decide)
                              clear inv
                              intro inv
                              try simp only [List.setIfInBounds_toArray, List.set_cons_zero, List.set_cons_succ]
                              refine takeT (i := 7) (t := 223) (v := ?v7y45) rfl (by kernel_rfl) (by kernel_rfl) (by kernel_rfl) (fun _ _ _ h => h) (by kernel_rfl) (by kernel_rfl) (by decide) (by decide) rfl (Or.inl ⟨by rfl, ?h7y45⟩) inv hHeld ?r7y45
                              case h7y45 => (intro V' hSw; clear hSw; go_simp; first | done | with_reducible rfl | omega | rfl | decide)
                              clear inv
                              intro inv
                              try simp only [List.setIfInBounds_toArray, List.set_cons_zero, List.set_cons_succ]
                              refine takeT (i := 10) (t := 226) (v := ?v10y46) rfl (by kernel_rfl) (by kernel_rfl) (by kernel_rfl) (fun _ _ _ h => h) (by kernel_rfl) (by kernel_rfl) (by decide) (by decide) rfl (Or.inl ⟨by rfl, ?h10y46⟩) inv hHeld ?r10y46
                              case h10y46 => (intro V' hSw; clear hSw; go_simp; first | done | with_reducible rfl | omega | rfl | decide)
                              clear inv
                              intro inv
                              try simp only [List.setIfInBounds_toArray, List.set_cons_zero, List.set_cons_succ]
                              refine takeT (i := 11) (t := 227) (v := ?v11y47) rfl (by kernel_rfl) (by kernel_rfl) (by kernel_rfl) (fun _ _ _ h => h) (by kernel_rfl) (by kernel_rfl) (by decide) (by decide) rfl (Or.inl ⟨by rfl, ?h11y47⟩) inv hHeld ?r11y47
                              case h11y47 => (intro V' hSw; clear hSw; go_simp; first | done | with_reducible rfl | omega | rfl | decide)
                              clear inv
                              intro inv
                              try simp only [List.setIfInBounds_toArray, List.set_cons_zero, List.set_cons_succ]
                              refine takeT (i := 12) (t := 228) (v := ?v12y48) rfl (by kernel_rfl) (by kernel_rfl) (by kernel_rfl) (fun _ _ _ h => h) (by kernel_rfl) (by kernel_rfl) (by decide) (by decide) rfl (Or.inl ⟨by rfl, ?h12y48⟩) inv hHeld ?r12y48
                              case h12y48 => (intro V' hSw; clear hSw; go_simp; first | done | with_reducible rfl | omega | rfl | decide)
                              clear inv
                              intro inv
                              try simp only [List.setIfInBounds_toArray, List.set_cons_zero, List.set_cons_succ]
                              refine takeT (i := 13) (t := 229) (v := ?v13y49) rfl (by kernel_rfl) (by kernel_rfl) (by kernel_rfl) (fun _ _ _ h => h) (by kernel_rfl) (by kernel_rfl) (by decide) (by decide) rfl (Or.inl ⟨by rfl, ?h13y49⟩) inv hHeld ?r13y49
                              case h13y49 => (intro V' hSw; clear hSw; go_simp; first | done | with_reducible rfl | omega | rfl | decide)
                              clear inv
                              intro inv
                              try simp only [List.setIfInBounds_toArray, List.set_cons_zero, List.set_cons_succ]
                              refine takeT (i := 14) (t := 230) (v := .int .i64 ((m : Int) + (nn : Int))) rfl (by kernel_rfl) (by kernel_rfl) (by kernel_rfl) (fun _ _ _ h => h) (by kernel_rfl) (by kernel_rfl) (by decide) (by decide) rfl (Or.inl ⟨by rfl, ?h14y50⟩) inv hHeld ?r14y50
                              case h14y50 => (intro V' hSw; clear hSw; go_simp; first | done | with_reducible rfl | omega | rfl | decide)
                              clear inv
                              intro inv
                              try simp only [List.setIfInBounds_toArray, List.set_cons_zero, List.set_cons_succ]
                              refine takeT (i := 15) (t := 231) (v := .slice (some ⟨gb, m, none⟩) nn (cb - m)) rfl (by kernel_rfl) (by kernel_rfl) (by kernel_rfl) (fun _ _ _ h => h) (by kernel_rfl) (by kernel_rfl) (by decide) (by decide) rfl (Or.inl ⟨by rfl, ?h15y51⟩) inv hHeld ?r15y51
                              case h15y51 => (intro V' hSw; clear hSw; go_simp; first | done | with_reducible rfl | omega | rfl | decide)
                              clear inv
                              intro inv
                              try simp only [List.setIfInBounds_toArray, List.set_cons_zero, List.set_cons_succ]
                              refine takeT (i := 16) (t := 232) (v := .string (strOf lk)) rfl (by kernel_rfl) (by kernel_rfl) (by kernel_rfl) (fun _ _ _ h => h) (by kernel_rfl) (by kernel_rfl) (by decide) (by decide) rfl (Or.inl ⟨by rfl, ?h16y52⟩) inv hHeld ?r16y52
                              case h16y52 => (intro V' hSw; have hq := run_text (n := nn) (c := cb - m) HPL.out (HPC.out V' hSw); clear hSw; go_simp; try with_reducible rfl)
                              clear inv
                              intro inv
                              try simp only [List.setIfInBounds_toArray, List.set_cons_zero, List.set_cons_succ]
                              refine callT (i := 8) (t := 224) (f := 21) (args := #[.pointer (some ⟨kb, 0, none⟩)]) rfl (by kernel_rfl) rfl (by rfl) ?hx53 inv (by decide) ?hc53
                              case hx53 => (go_simp; try rfl)
                              case hc53 =>
                                refine (HBK.out w3z.drew (Chg.refl NoB w3z).drew).mono ?_
                                rintro e w5 ⟨vx, rfl, ownx, hcx⟩
                                refine ⟨_, rfl, hHeld.trans hcx, fun inv2 hHeld2 => ?_⟩
                                clear inv hHeld
                                have inv := inv2
                                have hHeld := hHeld2
                                clear inv2 hHeld2
                                obtain ⟨Ax, cx, rfl⟩ := own_slice1' ownx
                                rw [HLL.out] at ownx
                                have hc6 := Go.Lib.hid hHeld
                                have hll := HLL.out
                                try simp only [List.setIfInBounds_toArray, List.set_cons_zero, List.set_cons_succ]
                                have HT6 := run_text (A := Ax) (c := cx) hll (own_cells ownx)
                                refine valT (i := 9) (t := 225) (v := .string (strOf lk)) (w' := w5) rfl (by kernel_rfl) rfl (by rfl) ?hx9 inv (by decide) hHeld ?r9
                                case hx9 => (go_simp; try with_reducible rfl)
                                clear HT6
                                intro inv2 hHeld2
                                clear inv hHeld
                                have inv := inv2
                                have hHeld := hHeld2
                                clear inv2 hHeld2
                                try simp only [List.setIfInBounds_toArray, List.set_cons_zero, List.set_cons_succ]
                                refine takeT (i := 17) (t := 233) (v := ?v17y55) rfl (by kernel_rfl) (by kernel_rfl) (by kernel_rfl) (fun _ _ _ h => h) (by kernel_rfl) (by kernel_rfl) (by decide) (by decide) rfl (Or.inl ⟨by rfl, ?h17y55⟩) inv hHeld ?r17y55
                                case h17y55 => (intro V' hSw; clear hSw; go_simp; first | done | with_reducible rfl | omega | rfl | decide)
                                clear inv
                                intro inv
                                try simp only [List.setIfInBounds_toArray, List.set_cons_zero, List.set_cons_succ]
                                refine lastV (i := 18) (t := 234) (v := .bool false) (w' := w5) rfl (by kernel_rfl) rfl (by rfl) ?hx56 (by decide) (by kernel_rfl) ?_
                                case hx56 => (go_simp; try with_reducible rfl)
                                clear inv
                                clear hHeld
                                have HL6 := Go.Lib.hid (HL3.out.quiet hc6.out)
                                go_wp2_with fail
                                obtain ⟨l', hra, hro⟩ := HL6.out.2.2
                                refine (wipe_c hro (a := m) (n := nn) (c := cr - m) (by omega) (by unfold maxLen; omega)).mono ?_
                                rintro e w7 ⟨rfl, l'', hw, ho, hc7⟩
                                have hLw := LSt.wipe (off := offR) (e := eR) (i := i) HL6.out HWG.out HLY.out HLK.out hra (by rw [HOFF.out, HLL.out]; exact hw) ho hc7
                                have HL7 := Go.Lib.hid hLw
                                clear hra hro hw ho hc7 hLw
                                go_wp2_with fail
                                go_roundw
                                case rel => exact ⟨i + 1, by omega, by go_num, HL7.out⟩
                                case measure => simp [intOf]; omega
                        · have hin : i = s.nl := by omega
                          subst hin
                          obtain ⟨l', hra, hro⟩ := HL.out.2.2
                          have hz := RestAt.done HLY.out (by rw [HLLen.out]; exact hra)
                          have HZ := Go.Lib.hid (And.intro hz hro)
                          clear hra hro hz
                          go_wp2_with fail
                          go_loop [29] (fun v29 => ∃ i : Nat, i ≤ N ∧ v29 = .int .i64 i) (fun v29 => N - (intOf v29).toNat)
                          case atStart => exact ⟨0, Nat.zero_le _, rfl⟩
                          case round =>
                            obtain ⟨i2, hi2, rfl⟩ := hrel
                            by_cases hlt2 : i2 < N
                            · have hcell := HZ.out.2.cellAt i2 (by omega)
                              have hx0 : (u8s l')[i2]? = some (.int .u8 0) := by
                                unfold u8s
                                rw [List.getElem?_map, HZ.out.1 i2 hlt2]
                                rfl
                              rw [hx0] at hcell
                              clear hx0
                              go_wp2_with fail
                              go_round
                              case rel => exact ⟨i2 + 1, by omega, by go_num⟩
                              case measure => simp [intOf]; omega
                            · have hi2N : i2 = N := by omega
                              have hdz : decide ((i2 : Int) < (N : Int)) = false := by simp; omega
                              go_wp2_with fail
                              go_ret
                              exact ⟨rfl, HVM.out.chg.trans HL.out.1⟩
                  · have hd8 : (s.k == 8) = false := by simpa using hk8
                    have hkk : s.k = 9 ∨ 1 ≤ s.k ∧ s.k ≤ 5 := by
                      have h1 := (own_size HOK.out.1 ⟨by have h : (T.kind : Int) = s.k := HOK.out.1.2.1; show T.kind ≠ 7; omega, by have h : (T.kind : Int) = s.k := HOK.out.1.2.1; show T.kind ≠ 8; omega⟩).2.2
                      have h2 : (T.kind : Int) = s.k := HOK.out.1.2.1
                      have h1 : T.kind = 9 ∨ 1 ≤ T.kind ∧ T.kind ≤ 5 := h1
                      omega
                    go_wp2_with fail
                    go_loopw [19, 20, 21, 22] (fun v19 _ _ _ wz => v19 = .int .i64 0 ∧ LSt wa gb N cb bv gr cr 0 wz) (fun _ _ _ _ _ => 0)
                    case atStart => exact ⟨rfl, HLS0.out⟩
                    case round =>
                      obtain ⟨rfl, hL⟩ := hrel
                      have HL := Go.Lib.hid hL
                      clear hL
                      have hVz := HVM.out.quiet HL.out.1
                      have hTz := HOK.out.1.1.quiet HL.out.1
                      have b0 : wr.cell? ⟨w.heap.size, 0, none⟩ = some (.int .i64 s.k) := hVz.box.cell 0
                      rw [show s.k = s.k from rfl] at b0
                      have HLen := Go.Lib.hid (len_c hTz HTk.out)
                      unfold ptr at HLen
                      have HVZ := Go.Lib.hid (And.intro hVz hTz)
                      clear hVz hTz
                      rw [show (⟨s, ns, ks, tb, T⟩ : Ty).T.n = 0 from HTn0.out] at HLen
                      go_wp2_with fail
                      refine HLen.out.mono ?_
                      rintro e w4 ⟨rfl, rfl⟩
                      go_wp2_with fail
                      go_loopw [23, 24, 25, 26, 27, 28] (fun v23 _ _ _ _ _ wz => v23 = .int .i64 0 ∧ LSt wa gb N cb bv gr cr (0) wz) (fun _ _ _ _ _ _ _ => 0)
                      case atStart => exact ⟨rfl, HL.out⟩
                      case round =>
                        clear HL
                        obtain ⟨rfl, hL⟩ := hrel
                        have HL := Go.Lib.hid hL
                        clear hL
                        have hVz := HVM.out.quiet HL.out.1
                        have hTz := HOK.out.1.1.quiet HL.out.1
                        have b0 : wr.cell? ⟨w.heap.size, 0, none⟩ = some (.int .i64 s.k) := hVz.box.cell 0
                        rw [show s.k = s.k from rfl] at b0
                        have HLen := Go.Lib.hid (len_c hTz HTk.out)
                        unfold ptr at HLen
                        have HVZ := Go.Lib.hid (And.intro hVz hTz)
                        clear hVz hTz
                        have b2 : wr.cell? ⟨w.heap.size, 2, none⟩ = some (.slice s.nA s.nl s.nc) := HVZ.out.1.box.cell 2
                        rcases Nat.eq_zero_or_pos s.nl with hnl0 | hnl0
                        all_goals (
                          go_wp2_with fail
                          go_loop [29] (fun v29 => v29 = .int .i64 0) (fun _ => 0)
                          case atStart => rfl
                          case round =>
                            obtain rfl := hrel
                            have hN0 : decide ((0 : Int) < (N : Int)) = true := by simp; omega
                            by_cases h79 : 7 ≤ s.k
                            · have h8 : ¬ s.k ≤ 8 := by omega
                              have hd8 : decide (s.k ≤ 8) = false := by simpa using h8
                              go_wp2_with fail
                              go_ret
                              exact ⟨rfl, HVM.out.chg.trans HL.out.1⟩
                            · have hd7 : decide (7 ≤ s.k) = false := by simpa using h79
                              go_wp2_with fail
                              go_ret
                              exact ⟨rfl, HVM.out.chg.trans HL.out.1⟩
                        )
      · have hd : (er != 0) = true := by simpa using he0
        go_wp2_with fail
        go_ret
        exact ⟨rfl, HB3.out.2⟩
end Go.Proofs.Ytholeloedihkoaa
