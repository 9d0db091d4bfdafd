/- What is proved: the contract of Copy: its loop over the directory. Conditions: the memory holds a store. -/
import Derived.Test.YtebcomijknffmaaCpC
import Derived.Outline
import Derived.Test.YtebcomijknffmaaTail
import Derived.Deep.AppendLies
namespace Go.Proofs.Ytebcomijknffmaa
open Go.RowKit
section
variable {S S' : Sto} {w W W' : World} {base s c ov om k it : Nat} {l : List (Nat × Nat)} {D R : List (ByteArray × Nat)}
theorem cpInv_start (hs : StoreAt base w s S) (o1 o2 : Obj) (h1 : o1 = .map #[] 0) (h2 : o2 = .map #[] 0) :
    CpInv S w ((((w.alloc o1).alloc (.cells #[.map (some w.heap.size)] 96)).alloc o2).alloc (.cells #[.map (some (w.heap.size + 1 + 1)), .slice none 0 0, .int .i64 S.cap] 74))
      (w.heap.size + 1 + 1 + 1) (w.heap.size + 1) w.heap.size (emptySto (w.heap.size + 1 + 1) S.cap) [] [] 0 := by
  subst h1; subst h2
  have hb : Blk ((((w.alloc (.map #[] 0)).alloc (.cells #[.map (some w.heap.size)] 96)).alloc (.map #[] 0)).alloc (.cells #[.map (some (w.heap.size + 1 + 1)), .slice none 0 0, .int .i64 S.cap] 74)) (w.heap.size + 1 + 1 + 1) 74 #[.map (some (w.heap.size + 1 + 1)), .slice none 0 0, .int .i64 S.cap] := by
    have := Blk.new (((w.alloc (.map #[] 0)).alloc (.cells #[.map (some w.heap.size)] 96)).alloc (.map #[] 0)) 74 #[.map (some (w.heap.size + 1 + 1)), .slice none 0 0, .int .i64 S.cap]
    simpa using this
  have hm2 : MapIs (((w.alloc (.map #[] 0)).alloc (.cells #[.map (some w.heap.size)] 96)).alloc (.map #[] 0)) (w.heap.size + 1 + 1) [] := by
    have := MapIs.new ((w.alloc (.map #[] 0)).alloc (.cells #[.map (some w.heap.size)] 96))
    simpa using this
  have hov : Blk ((w.alloc (.map #[] 0)).alloc (.cells #[.map (some w.heap.size)] 96)) (w.heap.size + 1) 96 #[.map (some w.heap.size)] := Blk.new1 _ _ _ _
  have hft : ∀ b, foot (w.heap.size + 1 + 1 + 1) (emptySto (w.heap.size + 1 + 1) S.cap) b → b = w.heap.size + 1 + 1 + 1 ∨ b = w.heap.size + 1 + 1 := fun b hb => by
    rcases hb with rfl | rfl | hk | ⟨r, hr, _⟩ | ⟨f, x, hf, _⟩
    · exact .inl rfl
    · exact .inr rfl
    · simp [Sto.rv, emptySto, Value.ownBlock] at hk
    · cases hr
    · cases hf
  exact {
    st := emptySto_ok hb (hm2.alloc _) (by omega) (by omega) hs.small
    bov := (hov.alloc _).alloc _
    mom := (((MapIs.new w).alloc _).alloc _).alloc _
    ovf := fun hf => by rcases hft _ hf with h | h <;> omega
    omf := fun hf => by rcases hft _ hf with h | h <;> omega
    lo := ⟨by omega, Nat.le_refl _⟩
    kn := List.nodup_nil
    vn := List.nodup_nil
    kh := fun p hp => by cases hp
    vf := fun p hp => by cases hp
    dir := rfl
    dk := fun p hp => by cases hp
    rd := rfl
    rk := fun p hp => by simp at hp
    cap := rfl
    chg := (((((Chg.refl _ _).alloc _).alloc _).alloc _).alloc _) }
def dirV (l : List (ByteArray × Nat)) : List (Value × Value) := strs (l.map fun e => (e.1, ptr e.2))
/-- what holds ahead of each round of the loop over the directory -/
structure CpRel (S : Sto) (w W : World) (c ov om it : Nat) (S' : Sto) (l : List (Nat × Nat)) (D R : List (ByteArray × Nat)) (left : List (Value × Value)) : Prop where
  inv : CpInv S w W c ov om S' l D 0
  perm : (D ++ R).Perm S.dir
  iter : IterIs W it S.mb (dirV S.dir) left
  left : left.Perm (dirV R)
  lo : w.heap.size ≤ it ∧ it ≠ ov ∧ it ≠ om ∧ ¬ foot c S' it
theorem dirV_pick {x y : Value} {left' : List (Value × Value)} (h : ((x, y) :: left').Perm (dirV R)) : ∃ e R', x = .string e.1 ∧ y = ptr e.2 ∧ R.Perm (e :: R') ∧ left'.Perm (dirV R') := by
  have hm : (x, y) ∈ dirV R := h.subset (by simp)
  unfold dirV strs at hm
  rw [List.map_map] at hm
  obtain ⟨e, he, hxy⟩ := List.mem_map.1 hm
  obtain ⟨R1, R2, rfl⟩ := List.append_of_mem he
  have hp : (R1 ++ e :: R2).Perm (e :: (R1 ++ R2)) := List.perm_middle
  have hd : dirV (R1 ++ e :: R2) = dirV R1 ++ (x, y) :: dirV R2 := by
    unfold dirV strs
    rw [List.map_map, List.map_map, List.map_map, List.map_append, List.map_cons]
    rw [hxy]
  have hd2 : dirV (R1 ++ R2) = dirV R1 ++ dirV R2 := by unfold dirV strs; simp
  refine ⟨e, R1 ++ R2, ?_, ?_, hp, ?_⟩
  · injection hxy with h1 _; exact h1.symm
  · injection hxy with _ h1; exact h1.symm
  · rw [hd2]
    rw [hd] at h
    exact (h.trans List.perm_middle).cons_inv
theorem cpRel_step {W4 W5 : World} {S2 : Sto} {l2 : List (Nat × Nat)} {nm : ByteArray} {f : Nat} {left' : List (Value × Value)} (hs : StoreAt base w s S) (hI : CpInv S w W c ov om S' l D 0) (hp : (D ++ (nm, f) :: R).Perm S.dir) (hit : IterIs W it S.mb (strs (S.dir.map fun e => (e.1, ptr e.2))) left') (hlp : left'.Perm (dirV R))
    (hlo : w.heap.size ≤ it ∧ it ≠ ov ∧ it ≠ om ∧ ¬ foot c S' it) (hI2 : CpInv S w W4 c ov om S2 l2 D 0) (hf : (nm, f).2 ∈ l2.map (·.1)) (hmb : S2.mb = S'.mb) (hc4 : Chg (fun b => b = om) W.drew W4)
    (hft : ∀ b, foot c S2 b → foot c S' b ∨ W.drew.heap.size ≤ b) (hup : MapIs W5 S'.mb (strs (putS nm (ptr (img l2 f)) (S2.dir.map fun e => (e.1, ptr e.2))))) (hc5 : Chg (fun b => b = S'.mb) W4 W5) :
    CpRel S w W5 c ov om it (S2.enter nm (img l2 f)) l2 (D ++ [(nm, f)]) R left' := by
  have hitlt := hit.lt.2
  have hmblt : S.mb < w.heap.size := hs.map.lt
  have hmbf : foot c S' S'.mb := .inr (.inl rfl)
  have hlow := hI.st.low S'.mb hmbf
  have hit4 : IterIs W4 it S.mb (strs (S.dir.map fun e => (e.1, ptr e.2))) left' :=
    IterIs.chg (w := W.drew) (hit.of_block rfl rfl) hc4 (fun e => by have := hI.lo.2; omega) (fun e => hlo.2.2.1 e)
  have hit5 := hit4.chg hc5 (fun e => by omega) (fun e => hlo.2.2.2 (e ▸ hmbf))
  refine ⟨hI2.enter hs hp hf (by rw [hmb]; exact hup) (by rw [hmb]; exact hc5), by simpa using hp, hit5, hlp, hlo.1, hlo.2.1, hlo.2.2.1, fun hb => ?_⟩
  have hb2 : foot c S2 it := hb
  rcases hft it hb2 with h | h
  · exact hlo.2.2.2 h
  · have : W.drew.heap.size = W.heap.size := rfl
    omega
/-- the row of riders of a store that is being copied, one longer -/
theorem CpInv.grow {W5 : World} {r : Rd} {g cp : Nat} {t2 : TypeId} {cs2 : Array Value} (h : CpInv S w W c ov om S' l D k) (hs : StoreAt base w s S) (hr : S.rd[k]? = some r) (hk : r.f ∈ l.map (·.1))
    (hown : W5.ownsRow w.heap.size 84 1 (.slice (some ⟨g, 0, none⟩) (k + 1) cp) (k + 1) ((S'.rd.map fun r => ptr r.blk) ++ [ptr W.heap.size]))
    (hg : ((W.alloc (.cells #[ptr (img l r.f), .string r.name, .int .i64 r.pos] 87)).alloc (.cells cs2 t2)).grownBy W5 S'.rv.ownBlock) (hat : S'.rv.ownBlock = some g ∨ g = W.heap.size + 1 + 1) (hlen : S'.rd.length = k) :
    CpInv S w (W5.setCell ⟨c, 1, none⟩ (.slice (some ⟨g, 0, none⟩) (k + 1) cp)) c ov om (S'.rideP W.heap.size (img l r.f) r.name (some ⟨g, 0, none⟩) cp r.pos) l D (k + 1) ∧ Chg NoB w W5 ∧ W5.frozen? ⟨c, 1, none⟩ = false ∧ W5.cell? ⟨c, 1, none⟩ = some S'.rv := by
  have hca : Chg NoB W ((W.alloc (.cells #[ptr (img l r.f), .string r.name, .int .i64 r.pos] 87)).alloc (.cells cs2 t2)) := ((Chg.refl NoB W).alloc _).alloc _
  have hch : Chg (fun b => S'.rv.ownBlock = some b) W W5 := (hca.mono (fun _ _ h => h.elim)).grown hg (fun k hk _ => hk)
  have hb : Blk W5 W.heap.size 87 #[ptr (img l r.f), .string r.name, .int .i64 r.pos] :=
    ((Blk.new W 87 #[ptr (img l r.f), .string r.name, .int .i64 r.pos]).alloc _).grown hg (fun e => by have := (h.st.row.lt _ e.symm).2; omega)
  subst hlen
  have hrb : ∀ b, (Value.slice (some ⟨g, 0, none⟩) (S'.rd.length + 1) cp).ownBlock = some b → S'.rv.ownBlock = some b ∨ W.heap.size ≤ b := fun b hb => by
    have : b = g := by simpa [Value.ownBlock] using hb.symm
    subst this
    rcases hat with e | e
    · exact .inl e
    · exact .inr (by omega)
  have b0 : Blk W5 c 74 #[.map (some S'.mb), S'.rv, .int .i64 S'.cap] := h.st.blk.chg hch (own_blk_ne h.st.row h.st.blk (by decide))
  exact ⟨h.ride hs hr hk hch hb (Nat.le_refl _) hown hrb, h.chg.step hch fun b hb hk => by have := (h.st.row.lt b hk).1; omega, b0.frozen 1, b0.cell 1⟩
theorem CpInv.rowEq {W4 : World} {S2 : Sto} {l2 : List (Nat × Nat)} {rA : Option Addr} {rc : Nat} (h : CpInv S w W4 c ov om S2 l2 D k) (hrd : S2.rd = S'.rd) (hrA : S2.rA = S'.rA) (hrc : S2.rc = S'.rc) (hl : S'.rd.length = k) (h1 : S'.rA = rA) (h2 : S'.rc = rc) :
    S2.rd.length = k ∧ S2.rv = .slice rA k rc ∧ W4.ownsRow w.heap.size 84 1 (.slice rA k rc) k (S2.rd.map fun r => ptr r.blk) := by
  have e1 : S2.rd.length = k := by rw [hrd]; exact hl
  have e2 : S2.rv = .slice rA k rc := by unfold Sto.rv; rw [e1, hrA, hrc, h1, h2]
  refine ⟨e1, e2, ?_⟩
  have := h.st.row
  rw [e2, e1] at this
  exact this
theorem CpInv.cellEq {W4 : World} {S2 : Sto} {l2 : List (Nat × Nat)} {v : Value} (h : CpInv S w W4 c ov om S2 l2 D k) (hv : S2.rv = v) : W4.cell? ⟨c, 1, none⟩ = some v := by
  rw [← hv]; exact h.st.blk.cell 1
theorem CpInv.cellEqA {W4 : World} {S2 : Sto} {l2 : List (Nat × Nat)} {v : Value} (h : CpInv S w W4 c ov om S2 l2 D k) (hv : S2.rv = v) : ∀ o, (W4.alloc o).cell? ⟨c, 1, none⟩ = some v := fun o => by
  rw [← hv]; exact (h.st.blk.alloc o).cell 1
theorem CpInv.cellEqB {W4 : World} {S2 : Sto} {l2 : List (Nat × Nat)} {v : Value} (h : CpInv S w W4 c ov om S2 l2 D k) (hv : S2.rv = v) : ∀ o o2, ((W4.alloc o).alloc o2).cell? ⟨c, 1, none⟩ = some v := fun o o2 => by
  rw [← hv]; exact ((h.st.blk.alloc o).alloc o2).cell 1
def CopyPost (S : Sto) (w : World) (e : Ending) (w' : World) : Prop :=
  ∃ c ov om S' l D, e = .returned (ptr c) ∧ CpInv S w w' c ov om S' l D S.rd.length ∧ D.Perm S.dir
set_option maxHeartbeats 2000000 in
theorem copy_c (h : StoreAt base w s S) : Calls Try.prog 29 #[ptr s] w (CopyPost S w) := by
  have Hth := Go.Lib.hid (there_c h)
  have c0 := h.cell0
  have c1 := h.cell1
  have c2 := h.cell2
  have hsl := h.blk.lt
  have hst := cpInv_start h (.map #[] 0) (.map #[] 0) rfl rfl
  have Hm := Go.Lib.hid h.map
  have H := Go.Lib.hid h
  clear h
  have hmm := @run_makeMap Try.prog
  have e3 : ∀ o1 o2 o3 i, (((w.alloc o1).alloc o2).alloc o3).cell? ⟨s, i, none⟩ = w.cell? ⟨s, i, none⟩ := fun o1 o2 o3 i =>
    World.cell?_of_block (((((Chg.refl NoB w).alloc o1).alloc o2).alloc o3).block s hsl id)
  have e4 : ∀ o1 o2 o3 o4 i, ((((w.alloc o1).alloc o2).alloc o3).alloc o4).cell? ⟨s, i, none⟩ = w.cell? ⟨s, i, none⟩ := fun o1 o2 o3 o4 i =>
    World.cell?_of_block ((((((Chg.refl NoB w).alloc o1).alloc o2).alloc o3).alloc o4).block s hsl id)
  have Hst := Go.Lib.hid hst
  clear hst
  unfold ptr at Hth ⊢
  go_enter Try.func29, Try.ntmps29
  go_wp2_with fail
  refine Hth.out.mono ?_
  rintro e w' ⟨rfl, rfl⟩
  go_wp2_with (at_range; refine wpList_range_is _ rfl _ _ rfl 9 79 Try.underlying71 S.mb _ rfl (by repeat (first | exact Hm.out | apply MapIs.alloc)) ?_; intro w1 hit1 hch1 hsz1)
  have esz : ((((w.alloc (Obj.map #[] 0)).alloc (Obj.cells #[Value.map (some w.heap.size)] 96)).alloc (Obj.map #[] 0)).alloc (Obj.cells #[Value.map (some (w.heap.size + 1 + 1)), Value.slice none 0 0, Value.int IntKind.i64 ↑S.cap] 74)).heap.size = w.heap.size + 1 + 1 + 1 + 1 := by simp
  rw [esz] at hit1 ⊢
  have hinv1 := Hst.out.chg2 hch1 (fun _ _ hf => hf.elim)
  have hft : ∀ b, foot (w.heap.size + 1 + 1 + 1) (emptySto (w.heap.size + 1 + 1) S.cap) b → b = w.heap.size + 1 + 1 + 1 ∨ b = w.heap.size + 1 + 1 := fun b hb => by
    rcases hb with rfl | rfl | hk | ⟨r, hr, _⟩ | ⟨f, x, hf, _⟩
    · exact .inl rfl
    · exact .inr rfl
    · simp [Sto.rv, emptySto, Value.ownBlock] at hk
    · cases hr
    · cases hf
  have Hr1 : Hid (CpRel S w w1 (w.heap.size + 1 + 1 + 1) (w.heap.size + 1) w.heap.size (w.heap.size + 1 + 1 + 1 + 1) (emptySto (w.heap.size + 1 + 1) S.cap) [] [] S.dir (dirV S.dir)) := Go.Lib.hid
    ⟨hinv1, by simp, hit1, List.Perm.refl _, by omega, by omega, by omega, fun hf => by rcases hft _ hf with h | h <;> omega⟩
  clear hit1 hch1 hsz1 esz e3 e4 Hst hinv1 hft c0 c1 c2 hsl
  go_frame
  go_loopw [7] (fun _ wr => ∃ S' l D R left, CpRel S w wr (w.heap.size + 1 + 1 + 1) (w.heap.size + 1) w.heap.size (w.heap.size + 1 + 1 + 1 + 1) S' l D R left) (fun _ wr => leftN wr (w.heap.size + 1 + 1 + 1 + 1))
  case atStart => exact ⟨_, _, _, _, _, Hr1.out⟩
  case round =>
    obtain ⟨S', l, D, R, left, hrel⟩ := hrel
    have HR := Go.Lib.hid hrel
    clear hrel Hr1
    go_wp2_with (at_next; refine wpList_next_is _ rfl _ rfl _ _ _ _ rfl HR.out.iter ?_ ?_)
    · intro h0
      have Hdone : Hid (∃ S' l D, CpInv S w wr (w.heap.size + 1 + 1 + 1) (w.heap.size + 1) w.heap.size S' l D 0 ∧ D.Perm S.dir) := Go.Lib.hid (by
        refine ⟨_, _, _, HR.out.inv, ?_⟩
        have h1 := HR.out.left
        rw [h0] at h1
        have h2 : R = [] := by
          have := h1.length_eq
          unfold dirV strs at this
          simp at this
          exact List.eq_nil_of_length_eq_zero this.symm
        have h3 := HR.out.perm
        rw [h2, List.append_nil] at h3
        exact h3)
      clear h0 HR
      have Hst := Go.Lib.hid (let ⟨_, _, _, h, _⟩ := Hdone.out; H.out.chg h.chg (fun _ _ => id))
      have c1 := Hst.out.cell1
      rcases Hst.out.rA_cases with hrd | ⟨g, hA⟩
      · have Hrd := Go.Lib.hid hrd
        rw [hrd] at c1
        simp only [List.length_nil] at c1
        clear hrd
        go_wp2_with fail
        refine wp_loop_rounds 1 ?_
        rw [rounds_succ]
        go_wp2_with fail
        go_ret
        obtain ⟨S', l, D, h, hp⟩ := Hdone.out
        refine ⟨w.heap.size + 1 + 1 + 1, w.heap.size + 1, w.heap.size, S', l, D, rfl, ?_, hp⟩
        rw [Hrd.out]
        exact h
      · rw [hA] at c1
        have hn := Hst.out.nrd
        have HA := Go.Lib.hid hA
        clear hA Hst
        go_wp2_with fail
        clear c1 Hth
        obtain ⟨wo, rfl⟩ : ∃ wo : World, wo = wr := ⟨_, rfl⟩
        go_loopw [45] (fun i wr => ∃ k : Nat, k ≤ S.rd.length ∧ i = .int .i64 k ∧ ∃ S' l D, CpInv S w wr (w.heap.size + 1 + 1 + 1) (w.heap.size + 1) w.heap.size S' l D k ∧ D.Perm S.dir) (fun i _ => S.rd.length - (intOf i).toNat)
        case atStart => exact ⟨0, Nat.zero_le _, rfl, Hdone.out⟩
        case round =>
          clear Hdone
          obtain ⟨k, hk, rfl, S', l, D, hinv, hperm⟩ := hrel
          have HI := Go.Lib.hid hinv
          have Hperm := Go.Lib.hid hperm
          clear hinv hperm
          by_cases hlt : k < S.rd.length
          · obtain ⟨r, hr⟩ : ∃ r, S.rd[k]? = some r := ⟨_, List.getElem?_eq_getElem hlt⟩
            have hrA : S.rdAt ((k : Int) + 1) = some r := by
              unfold Sto.rdAt
              rw [if_pos (by omega), show ((k : Int) + 1).toNat - 1 = k from by omega]
              exact hr
            have Hst := Go.Lib.hid (H.out.chg HI.out.chg (fun _ _ => id))
            obtain ⟨g', hA', hcell⟩ := Hst.out.rcell hrA
            obtain rfl : g' = g := by rw [HA.out] at hA'; injection hA' with e; injection e with e; exact e.symm
            rw [show ((k : Int) + 1).toNat - 1 = k from by omega] at hcell
            obtain ⟨_, _, _, hm⟩ := rdAt_some hrA
            have Hkeep : Hid (∀ W', Chg NoB w W' → W'.cell? ⟨r.blk, 0, none⟩ = some (ptr r.f) ∧ W'.cell? ⟨r.blk, 1, none⟩ = some (.string r.name) ∧ W'.cell? ⟨r.blk, 2, none⟩ = some (.int .i64 r.pos)) := Go.Lib.hid fun W' hW =>
              ⟨((H.out.rdb r hm).chg hW id).cell 0, ((H.out.rdb r hm).chg hW id).cell 1, ((H.out.rdb r hm).chg hW id).cell 2⟩
            have Hcp := Go.Lib.hid (fun W' (hc : Chg NoB wr W') => copied_c H.out (HI.out.chg2 hc (fun _ _ hf => hf.elim)) (StoreAt.rd_held (S := S) hm))
            have c1 := HI.out.st.cell1
            have Hlen : Hid (S'.rd.length = k) := Go.Lib.hid (by
              have h1 := congrArg List.length HI.out.rd
              simp only [List.length_map, List.length_take] at h1
              omega)
            rw [Hlen.out] at c1
            have Hr := Go.Lib.hid hr
            have hwr : Chg NoB w wr.drew := HI.out.chg.drew
            obtain ⟨i0, hi0, hz0, hz1, hz2⟩ := info_parts ptrinfo
            have Hi := Go.Lib.hid (And.intro hi0 (And.intro hz0 (And.intro hz1 hz2)))
            clear hi0 hz0 hz1 hz2
            have Hub := Go.Lib.hid Try.underlying72
            have Hwlt : Hid (w.heap.size ≤ wr.heap.size) := Go.Lib.hid HI.out.chg.size
            have Hmb : Hid True := Go.Lib.hid trivial
            clear hr hrA hA' hm Hst Hmb
            generalize hrA : S'.rA = rA at *
            generalize hrc : S'.rc = rc at *
            have HrA := Go.Lib.hid hrA
            have Hrc := Go.Lib.hid hrc
            clear hrA hrc
            have Hnrd := Go.Lib.hid hn
            unfold ptr at hcell Hkeep Hcp
            go_wp2_with fail
            refine regionT 25 (fun W' => (W'.cell? ⟨r.blk, 0, none⟩ = some (.pointer (some ⟨r.f, 0, none⟩)) ∧ W'.cell? ⟨r.blk, 1, none⟩ = some (.string r.name) ∧ W'.cell? ⟨r.blk, 2, none⟩ = some (.int .i64 r.pos)) ∧ W'.cell? ⟨w.heap.size + 1 + 1 + 1, 1, none⟩ = some (.slice rA k rc)) (by kernel_rfl) (by decide) (⟨Hkeep.out _ hwr, c1⟩) (fun inv0 hHeld => ?_)
            refine takeT (i := 0) (t := 49) (v := ?v0) rfl (by kernel_rfl) (by kernel_rfl) (by kernel_rfl) (fun _ _ _ h => h) (by kernel_rfl) (by kernel_rfl) (by decide) (by decide) rfl (Or.inl ⟨by rfl, ?h0⟩) inv0 hHeld ?r0
            case h0 => (intro w hSw; (try dsimp only at hSw); go_simp; try with_reducible rfl)
            intro inv01
            clear inv0
            simp only [List.setIfInBounds_toArray, List.set_cons_zero, List.set_cons_succ]
            refine takeT (i := 1) (t := 50) (v := ?v1) rfl (by kernel_rfl) (by kernel_rfl) (by kernel_rfl) (fun _ _ _ h => h) (by kernel_rfl) (by kernel_rfl) (by decide) (by decide) rfl (Or.inl ⟨by rfl, ?h1⟩) inv01 hHeld ?r1
            case h1 => (intro w hSw; (try dsimp only at hSw); go_simp; try with_reducible rfl)
            intro inv11
            clear inv01
            simp only [List.setIfInBounds_toArray, List.set_cons_zero, List.set_cons_succ]
            refine takeT (i := 2) (t := 51) (v := ?v2) rfl (by kernel_rfl) (by kernel_rfl) (by kernel_rfl) (fun _ _ _ h => h) (by kernel_rfl) (by kernel_rfl) (by decide) (by decide) rfl (Or.inl ⟨by rfl, ?h2⟩) inv11 hHeld ?r2
            case h2 => (intro w hSw; (try dsimp only at hSw); go_simp; try with_reducible rfl)
            intro inv21
            clear inv11
            simp only [List.setIfInBounds_toArray, List.set_cons_zero, List.set_cons_succ]
            refine takeT (i := 3) (t := 52) (v := ?v3) rfl (by kernel_rfl) (by kernel_rfl) (by kernel_rfl) (fun _ _ _ h => h) (by kernel_rfl) (by kernel_rfl) (by decide) (by decide) rfl (Or.inl ⟨by rfl, ?h3⟩) inv21 hHeld ?r3
            case h3 => (intro w hSw; (try dsimp only at hSw); go_simp; try with_reducible rfl)
            intro inv31
            clear inv21
            simp only [List.setIfInBounds_toArray, List.set_cons_zero, List.set_cons_succ]
            refine takeT (i := 4) (t := 53) (v := ?v4) rfl (by kernel_rfl) (by kernel_rfl) (by kernel_rfl) (fun _ _ _ h => h) (by kernel_rfl) (by kernel_rfl) (by decide) (by decide) rfl (Or.inl ⟨by rfl, ?h4⟩) inv31 hHeld ?r4
            case h4 => (intro w hSw; (try dsimp only at hSw); go_simp; try with_reducible rfl)
            intro inv41
            clear inv31
            simp only [List.setIfInBounds_toArray, List.set_cons_zero, List.set_cons_succ]
            refine takeT (i := 5) (t := 54) (v := ?v5) rfl (by kernel_rfl) (by kernel_rfl) (by kernel_rfl) (fun _ _ _ h => h) (by kernel_rfl) (by kernel_rfl) (by decide) (by decide) rfl (Or.inl ⟨by rfl, ?h5⟩) inv41 hHeld ?r5
            case h5 => (intro w hSw; (try dsimp only at hSw); go_simp; try with_reducible rfl)
            intro inv51
            clear inv41
            simp only [List.setIfInBounds_toArray, List.set_cons_zero, List.set_cons_succ]
            refine takeT (i := 6) (t := 55) (v := ?v6) rfl (by kernel_rfl) (by kernel_rfl) (by kernel_rfl) (fun _ _ _ h => h) (by kernel_rfl) (by kernel_rfl) (by decide) (by decide) rfl (Or.inl ⟨by rfl, ?h6⟩) inv51 hHeld ?r6
            case h6 => (intro w hSw; (try dsimp only at hSw); go_simp; try with_reducible rfl)
            intro inv61
            clear inv51
            simp only [List.setIfInBounds_toArray, List.set_cons_zero, List.set_cons_succ]
            refine takeT (i := 7) (t := 56) (v := ?v7) rfl (by kernel_rfl) (by kernel_rfl) (by kernel_rfl) (fun _ _ _ h => h) (by kernel_rfl) (by kernel_rfl) (by decide) (by decide) rfl (Or.inl ⟨by rfl, ?h7⟩) inv61 hHeld ?r7
            case h7 => (intro w hSw; (try dsimp only at hSw); go_simp; try with_reducible rfl)
            intro inv71
            clear inv61
            simp only [List.setIfInBounds_toArray, List.set_cons_zero, List.set_cons_succ]
            refine takeT (i := 8) (t := 57) (v := ?v8) rfl (by kernel_rfl) (by kernel_rfl) (by kernel_rfl) (fun _ _ _ h => h) (by kernel_rfl) (by kernel_rfl) (by decide) (by decide) rfl (Or.inl ⟨by rfl, ?h8⟩) inv71 hHeld ?r8
            case h8 => (intro w hSw; (try dsimp only at hSw); go_simp; try with_reducible rfl)
            intro inv81
            clear inv71
            simp only [List.setIfInBounds_toArray, List.set_cons_zero, List.set_cons_succ]
            refine takeT (i := 9) (t := 58) (v := ?v9) rfl (by kernel_rfl) (by kernel_rfl) (by kernel_rfl) (fun _ _ _ h => h) (by kernel_rfl) (by kernel_rfl) (by decide) (by decide) rfl (Or.inl ⟨by rfl, ?h9⟩) inv81 hHeld ?r9
            case h9 => (intro w hSw; (try dsimp only at hSw); go_simp; try with_reducible rfl)
            intro inv91
            clear inv81
            simp only [List.setIfInBounds_toArray, List.set_cons_zero, List.set_cons_succ]
            refine takeT (i := 11) (t := 60) (v := ?v11) rfl (by kernel_rfl) (by kernel_rfl) (by kernel_rfl) (fun _ _ _ h => h) (by kernel_rfl) (by kernel_rfl) (by decide) (by decide) rfl (Or.inl ⟨by rfl, ?h11⟩) inv91 hHeld ?r11
            case h11 => (intro w hSw; (try dsimp only at hSw); go_simp; try with_reducible rfl)
            intro inv111
            clear inv91
            simp only [List.setIfInBounds_toArray, List.set_cons_zero, List.set_cons_succ]
            refine takeT (i := 12) (t := 61) (v := ?v12) rfl (by kernel_rfl) (by kernel_rfl) (by kernel_rfl) (fun _ _ _ h => h) (by kernel_rfl) (by kernel_rfl) (by decide) (by decide) rfl (Or.inl ⟨by rfl, ?h12⟩) inv111 hHeld ?r12
            case h12 => (intro w hSw; (try dsimp only at hSw); go_simp; try with_reducible rfl)
            intro inv121
            clear inv111
            simp only [List.setIfInBounds_toArray, List.set_cons_zero, List.set_cons_succ]
            refine takeT (i := 13) (t := 62) (v := ?v13) rfl (by kernel_rfl) (by kernel_rfl) (by kernel_rfl) (fun _ _ _ h => h) (by kernel_rfl) (by kernel_rfl) (by decide) (by decide) rfl (Or.inl ⟨by rfl, ?h13⟩) inv121 hHeld ?r13
            case h13 => (intro w hSw; (try dsimp only at hSw); go_simp; try with_reducible rfl)
            intro inv131
            clear inv121
            simp only [List.setIfInBounds_toArray, List.set_cons_zero, List.set_cons_succ]
            refine takeT (i := 14) (t := 63) (v := ?v14) rfl (by kernel_rfl) (by kernel_rfl) (by kernel_rfl) (fun _ _ _ h => h) (by kernel_rfl) (by kernel_rfl) (by decide) (by decide) rfl (Or.inl ⟨by rfl, ?h14⟩) inv131 hHeld ?r14
            case h14 => (intro w hSw; (try dsimp only at hSw); go_simp; try with_reducible rfl)
            intro inv141
            clear inv131
            simp only [List.setIfInBounds_toArray, List.set_cons_zero, List.set_cons_succ]
            refine takeT (i := 15) (t := 64) (v := ?v15) rfl (by kernel_rfl) (by kernel_rfl) (by kernel_rfl) (fun _ _ _ h => h) (by kernel_rfl) (by kernel_rfl) (by decide) (by decide) rfl (Or.inl ⟨by rfl, ?h15⟩) inv141 hHeld ?r15
            case h15 => (intro w hSw; (try dsimp only at hSw); go_simp; try with_reducible rfl)
            intro inv151
            clear inv141
            simp only [List.setIfInBounds_toArray, List.set_cons_zero, List.set_cons_succ]
            refine takeT (i := 16) (t := 65) (v := ?v16) rfl (by kernel_rfl) (by kernel_rfl) (by kernel_rfl) (fun _ _ _ h => h) (by kernel_rfl) (by kernel_rfl) (by decide) (by decide) rfl (Or.inl ⟨by rfl, ?h16⟩) inv151 hHeld ?r16
            case h16 => (intro w hSw; (try dsimp only at hSw); go_simp; try with_reducible rfl)
            intro inv161
            clear inv151
            simp only [List.setIfInBounds_toArray, List.set_cons_zero, List.set_cons_succ]
            refine takeT (i := 17) (t := 66) (v := ?v17) rfl (by kernel_rfl) (by kernel_rfl) (by kernel_rfl) (fun _ _ _ h => h) (by kernel_rfl) (by kernel_rfl) (by decide) (by decide) rfl (Or.inl ⟨by rfl, ?h17⟩) inv161 hHeld ?r17
            case h17 => (intro w hSw; (try dsimp only at hSw); go_simp; try with_reducible rfl)
            intro inv171
            clear inv161
            simp only [List.setIfInBounds_toArray, List.set_cons_zero, List.set_cons_succ]
            refine takeT (i := 18) (t := 67) (v := ?v18) rfl (by kernel_rfl) (by kernel_rfl) (by kernel_rfl) (fun _ _ _ h => h) (by kernel_rfl) (by kernel_rfl) (by decide) (by decide) rfl (Or.inl ⟨by rfl, ?h18⟩) inv171 hHeld ?r18
            case h18 => (intro w hSw; (try dsimp only at hSw); go_simp; try with_reducible rfl)
            intro inv181
            clear inv171
            simp only [List.setIfInBounds_toArray, List.set_cons_zero, List.set_cons_succ]
            refine callT (i := 10) (t := 59) (f := 55) (args := #[.pointer (some ⟨r.f, 0, none⟩), .pointer (some ⟨w.heap.size + 1, 0, none⟩)]) rfl (by kernel_rfl) rfl (by rfl) ?hx10 inv181 (by decide) ?hc10
            case hx10 => (go_simp; try rfl)
            case hc10 =>
              refine (Hcp.out _ (Chg.refl NoB wr).drew).mono ?_
              rintro e w4 ⟨S2, l2, rfl, hI2, hfl2, hmb, hrd, hrA4, hrc4, hc4, hft4⟩
              have hk4 : Chg NoB w w4 := hI2.chg
              have hs4 : wr.heap.size ≤ w4.heap.size := hc4.size
              obtain ⟨hlen4, hrv4, hrow4⟩ := CpInv.rowEq hI2 hrd hrA4 hrc4 Hlen.out HrA.out Hrc.out
              have hc41 := CpInv.cellEq hI2 hrv4
              have hc42 := CpInv.cellEqA hI2 hrv4
              have hc43 := CpInv.cellEqB hI2 hrv4
              refine ⟨_, rfl, ⟨Hkeep.out _ hk4, hc41⟩, fun inv101 hHeld10 => ?_⟩
              simp only [List.setIfInBounds_toArray, List.set_cons_zero, List.set_cons_succ]
              refine takeT (i := 19) (t := 68) (v := ?v19) rfl (by kernel_rfl) (by kernel_rfl) (by kernel_rfl) (fun _ _ _ h => h) (by kernel_rfl) (by kernel_rfl) (by decide) (by decide) rfl (Or.inl ⟨by rfl, ?h19⟩) inv101 hHeld10 ?r19
              case h19 => (intro w hSw; (try dsimp only at hSw); go_simp; try with_reducible rfl)
              intro inv191
              clear inv101
              simp only [List.setIfInBounds_toArray, List.set_cons_zero, List.set_cons_succ]
              refine valT (i := 20) (t := 69) (v := ?v20) (w' := w4.alloc (Obj.cells #[.pointer (some ⟨img l2 r.f, 0, none⟩), .string r.name, .int .i64 r.pos] 87)) rfl (by kernel_rfl) rfl (by rfl) ?hx20 inv191 (by decide) (⟨Hkeep.out _ (hk4.alloc _), hc42 _⟩) ?r20
              case hx20 => (go_simp; try with_reducible rfl)
              intro inv201 hHeld20
              clear inv191
              simp only [List.setIfInBounds_toArray, List.set_cons_zero, List.set_cons_succ]
              refine valT (i := 21) (t := 70) (v := ?v21) (w' := (w4.alloc (Obj.cells #[.pointer (some ⟨img l2 r.f, 0, none⟩), .string r.name, .int .i64 r.pos] 87)).alloc (Obj.cells #[.pointer (some ⟨w4.heap.size, 0, none⟩)] 84)) rfl (by kernel_rfl) rfl (by rfl) ?hx21 inv201 (by decide) (⟨Hkeep.out _ ((hk4.alloc _).alloc _), hc43 _ _⟩) ?r21
              case hx21 => (go_simp; try with_reducible rfl)
              intro inv211 hHeld21
              clear inv201
              simp only [List.setIfInBounds_toArray, List.set_cons_zero, List.set_cons_succ]
              refine oneTI (i := 22) rfl (by kernel_rfl) inv211 (by decide) (fun inv221 => ?_)
              clear inv211
              refine step_append_lies _ (by rfl) (.tmp 53) (.tmp 70) 72 (by rfl) w.heap.size 84 i0 _ 1 8 Hub.out Hi.out.1 Hi.out.2.1 Hi.out.2.2.1 Hi.out.2.2.2 (by rfl) (by omega) (.slice rA k rc) k (S2.rd.map fun r => ptr r.blk) (by rfl) ((hrow4.alloc _).alloc _) ⟨w4.heap.size + 1, 0, none⟩ 1 1 [ptr w4.heap.size] (by rfl) (by rfl) (World.news_of_block (Blk.new1 w4 _ _ _)) (by simp [ptr, Value.oneCell']) (by omega) (by have := Hnrd.out; unfold maxLen; omega) (by have := Hnrd.out; omega) (by have := hs4; have := Hwlt.out; simp; omega) (w4.heap.size + 1 + 1) (by simp) ?_
              intro gg cap w5 hown hgrow hat hlt2
              have hgr := CpInv.grow hI2 H.out Hr.out hfl2 hown (by rw [hrv4]; exact hgrow) (by rw [hrv4]; exact hat) hlen4
              have hf5 := hgr.2.2.1
              have hc5 := hgr.2.2.2
              rw [hrv4] at hc5
              have hH22 := And.intro (Hkeep.out _ hgr.2.1) hc5
              refine ⟨fun _ => hH22, ?_⟩
              try simp only [Act.put, List.setIfInBounds_toArray, List.set_cons_zero, List.set_cons_succ]
              refine takeT (i := 23) (t := 72) (v := ?v23) rfl (by kernel_rfl) (by kernel_rfl) (by kernel_rfl) (fun _ _ _ h => h) (by kernel_rfl) (by kernel_rfl) (by decide) (by decide) rfl (Or.inl ⟨by rfl, ?h23⟩) inv221 hH22 ?r23
              case h23 => (intro w hSw; (try dsimp only at hSw); go_simp; try with_reducible rfl)
              intro inv231
              clear inv221
              try simp only [List.setIfInBounds_toArray, List.set_cons_zero, List.set_cons_succ]
              refine takeT (i := 24) (t := 73) (v := ?v24) rfl (by kernel_rfl) (by kernel_rfl) (by kernel_rfl) (fun _ _ _ h => h) (by kernel_rfl) (by kernel_rfl) (by decide) (by decide) rfl (Or.inl ⟨by rfl, ?h24⟩) inv231 hH22 ?r24
              case h24 => (intro w hSw; (try dsimp only at hSw); go_simp; try with_reducible rfl)
              intro inv241
              clear inv231
              try simp only [List.setIfInBounds_toArray, List.set_cons_zero, List.set_cons_succ]
              refine lastT (i := 25) (w' := w5.setCell ⟨w.heap.size + 1 + 1 + 1, 1, none⟩ (.slice (some ⟨gg, 0, none⟩) (k + 1) cap)) rfl (by kernel_rfl) rfl (by rfl) ?hx25 (by decide) (by kernel_rfl) ?_
              case hx25 => (go_simp; try with_reducible rfl)
              have Hn := Go.Lib.hid hgr.1
              clear inv241 hH22 hHeld10 hHeld20 hHeld21 hgr hown hgrow hat hlt2 hf5 hc5 hI2 hfl2 hmb hrd hrA4 hrc4 hc4 hft4 hk4 hs4 hlen4 hrv4 hrow4 hc41 hc42 hc43 c1
              go_wp2_with fail
              go_roundw
              case rel => exact ⟨k + 1, by omega, by go_num, _, _, _, Hn.out, Hperm.out⟩
              case measure => simp [intOf]; omega
          · obtain rfl : k = S.rd.length := by omega
            go_wp2_with fail
            go_ret
            exact ⟨_, _, _, _, _, _, rfl, HI.out, Hperm.out⟩
    · intro x y left' w2 hxl hp hit' hch hsz hen
      obtain ⟨e, R', hx, hy, hRp, hlp⟩ := dirV_pick (hp.symm.trans HR.out.left)
      subst hx hy
      have hlo := HR.out.lo
      have hinv2 := HR.out.inv.chg2 hch (fun b _ (hb : b = _) => by subst hb; exact ⟨hlo.2.1, hlo.2.2.1, hlo.1, hlo.2.2.2⟩)
      have hperm : (D ++ e :: R').Perm S.dir := (List.Perm.append_left D hRp).symm.trans HR.out.perm |> fun h => h
      have hh : e.2 ∈ S.held := by unfold Sto.held; exact List.mem_append.2 (.inl (List.mem_map.2 ⟨e, hperm.subset (by simp), rfl⟩))
      have Hcp := Go.Lib.hid (fun W' (hc : Chg NoB w2 W') => copied_c H.out (hinv2.chg2 hc (fun _ _ hf => hf.elim)) hh)
      have HI := Go.Lib.hid hinv2
      have Hpm := Go.Lib.hid hperm
      have Hit := Go.Lib.hid hit'
      have Hlp := Go.Lib.hid hlp
      have Hmeas := Go.Lib.hid (And.intro HR.out.iter.leftN hp.length_eq)
      have Hlo := Go.Lib.hid hlo
      have c0 := hinv2.st.cell0
      clear hinv2 hperm hh hit' hlp hRp hxl hch hsz hlo
      obtain ⟨nm, f⟩ := e
      unfold ptr at hen Hcp
      simp only at hen Hcp c0
      have Hne : Hid (w.heap.size + 1 + 1 + 1 ≠ S'.mb) := Go.Lib.hid (Ne.symm (HI.out.st.map.blk_ne HI.out.st.blk))
      go_wp2_with fail
      set_option maxRecDepth 100000 in
      go_region_held3 (fun W' => W'.cell? ⟨w.heap.size + 1 + 1 + 1, 0, none⟩ = some (.map (some S'.mb)))
        (first
          | exact c0
          | exact hk4
          | exact put_keep_set Hne.out hk4)
        (first
          | (go_at_call 55; refine (Hcp.out _ (Chg.refl NoB w2).drew).mono ?_; rintro e w4 ⟨S2, l2, rfl, hI2, hfl2, hmb, hrd, hrA, hrc, hc4, hft4⟩; have hk4 := hI2.st.cell0; rw [hmb] at hk4; have hm4 := hI2.st.map; rw [hmb] at hm4; have hup4 := (updO_spec w4 (P := Try.prog) Try.underlying71 Try.underlying9 hm4 nm (ptr (img l2 f))).1; unfold ptr at hup4))
      have hup := (updO_spec w4 (P := Try.prog) Try.underlying71 Try.underlying9 hm4 nm (ptr (img l2 f))).2
      have hc5 : Chg (fun b => b = S'.mb) w4 (setB w4 S'.mb (updO Try.prog w4 71 S'.mb (S2.dir.map fun e => (e.1, ptr e.2)) nm (ptr (img l2 f)))) := setB_chg (F := fun b => b = S'.mb) (Chg.refl _ _) S'.mb (fun _ => rfl) _
      have hsz2 : w2.heap.size ≤ w4.heap.size := hc4.size
      have Hrel := Go.Lib.hid (cpRel_step H.out HI.out Hpm.out Hit.out Hlp.out Hlo.out hI2 hfl2 hmb hc4 hft4 hup hc5)
      have Hmeas2 : Hid (leftN (setB w4 S'.mb (updO Try.prog w4 71 S'.mb (S2.dir.map fun e => (e.1, ptr e.2)) nm (ptr (img l2 f)))) (w.heap.size + 1 + 1 + 1 + 1) < leftN wr (w.heap.size + 1 + 1 + 1 + 1)) := Go.Lib.hid (by
        rw [Hrel.out.iter.leftN, Hmeas.out.1, Hmeas.out.2]
        simp)
      clear hup hup4 hm4 hk4 hI2 hfl2 hmb hrd hrA hrc hc4 hft4 hc5
      unfold ptr at Hrel Hmeas2
      go_wp2_with fail
      go_roundw
      case rel =>
        repeat apply Exists.intro
        exact ⟨⟨_, _, _, _, _, Hrel.out⟩, rfl⟩
      case measure => exact Hmeas2.out
end
end Go.Proofs.Ytebcomijknffmaa
