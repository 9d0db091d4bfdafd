/- What is proved: the contract of the function within Copy that copies a file. Conditions: the memory holds a store, and one that is being copied. -/
import Derived.Test.YtebcomijknffmaaCpA
import Derived.Deep.RegionHeld3
namespace Go.Proofs.Ytebcomijknffmaa
open Go.RowKit
theorem zero_ptr (w : World) : (zeroValue 79).run Try.prog w = .ok (.pointer none) w := by kernel_rfl
open Classical in
/-- what the map's block holds behind 'm[k] = v', k a pointer -/
noncomputable def updP (P : Program) (w : World) (t : TypeId) (m : Nat) (l : List (Nat × Value)) (f : Nat) (v : Value) : Obj :=
  if h : ∃ o, (Instr.mapUpdate t (.map (some m)) (ptr f) v).run P w = .ok () (setB w m o) ∧ MapIs (setB w m o) m (ptrs (putS f v l)) then Classical.choose h else .map #[] 0
theorem updP_spec {P : Program} {w : World} {t k e te : TypeId} {j : TypeInfo} (ht : P.underlying t = some (.map k e)) (hp : P.underlying k = some (.pointer te)) (hte : P.info? te = some j) (hsz : j.size ≠ 0) {m : Nat} {l : List (Nat × Value)}
    (h : MapIs w m (ptrs l)) (hall : ∀ x ∈ l, ∃ t cs, Blk w x.1 t cs) {f : Nat} (hf : ∃ t cs, Blk w f t cs) (v : Value) :
    (Instr.mapUpdate t (.map (some m)) (ptr f) v).run P w = .ok () (setB w m (updP P w t m l f v)) ∧ MapIs (setB w m (updP P w t m l f v)) m (ptrs (putS f v l)) := by
  have hx := run_update_ptr (P := P) ht hp hte hsz h hall hf v
  unfold updP
  rw [dif_pos hx]
  exact Classical.choose_spec hx
section
variable {S S' : Sto} {w W W' : World} {base s c ov om k : Nat} {l : List (Nat × Nat)} {D : List (ByteArray × Nat)}
theorem own_none {W : World} {b : Nat} {e : TypeId} {n c : Nat} {A : Option Addr} {xs : List Value} (h : W.ownsRow b e 1 (.slice A n c) n xs) (hA : A = none) : xs = [] ∧ c = 0 := by
  rcases h.2 with ⟨h1, h2⟩ | ⟨g, cap, cur, h1, _⟩
  · injection h1 with _ h3 h4
    exact ⟨List.eq_nil_of_length_eq_zero (by have := h.1; omega), h4⟩
  · injection h1 with h3; subst hA; cases h3
theorem CpInv.blks (h : CpInv S w W c ov om S' l D k) (hs : StoreAt base w s S) : ∀ x ∈ ent l, ∃ t cs, Blk W x.1 t cs := by
  intro x hx
  obtain ⟨p, hp, rfl⟩ := List.mem_map.1 hx
  obtain ⟨y, hy⟩ := held_file hs (h.kh p hp)
  exact ⟨_, _, (hs.flb _ _ hy).chg h.chg id⟩
def CpPost (S : Sto) (w W : World) (c ov om : Nat) (S' : Sto) (D : List (ByteArray × Nat)) (k f : Nat) (e : Ending) (W' : World) : Prop :=
  ∃ S'' l', e = .returned (ptr (img l' f)) ∧ CpInv S w W' c ov om S'' l' D k ∧ f ∈ l'.map (·.1) ∧ S''.mb = S'.mb ∧ S''.rd = S'.rd ∧ S''.rA = S'.rA ∧ S''.rc = S'.rc ∧ Chg (fun b => b = om) W W' ∧ ∀ b, foot c S'' b → foot c S' b ∨ W.heap.size ≤ b
theorem copied_old (hs : StoreAt base w s S) (h : CpInv S w W c ov om S' l D k) {f : Nat} (hf : f ∈ l.map (·.1)) :
    Calls Try.prog 55 #[ptr f, ptr ov] W (CpPost S w W c ov om S' D k f) := by
  obtain ⟨j, hj, hsz⟩ := fileinfo
  have hfb : ∃ t cs, Blk W f t cs := by
    obtain ⟨p, hp, rfl⟩ := List.mem_map.1 hf
    exact h.blks hs (p.1, ptr p.2) (List.mem_map.2 ⟨p, hp, rfl⟩)
  have hlk := run_lookup_ptr (P := Try.prog) Try.underlying96 Try.underlying79 hj hsz (zero_ptr W) h.mom (h.blks hs) hfb
  rw [look_ent, if_pos hf] at hlk
  simp only [Option.getD_some] at hlk
  have c0 : W.cell? ⟨ov, 0, none⟩ = some (.map (some om)) := h.bov.cell 0
  have Hp : Hid (CpPost S w W c ov om S' D k f (.returned (ptr (img l f))) W) := Go.Lib.hid ⟨S', l, rfl, h, hf, rfl, rfl, rfl, rfl, Chg.refl _ _, fun b hb => .inl hb⟩
  clear h hs hj hsz hfb hf
  generalize img l f = g at *
  unfold ptr at hlk Hp ⊢
  go_enter Try.func55, Try.ntmps55
  go_wp2_with fail
  go_ret
  exact Hp.out
set_option maxHeartbeats 1000000 in
theorem copied_new (hs : StoreAt base w s S) (h : CpInv S w W c ov om S' l D k) {f : Nat} (hf : f ∉ l.map (·.1)) (hh : f ∈ S.held) :
    Calls Try.prog 55 #[ptr f, ptr ov] W (CpPost S w W c ov om S' D k f) := by
  obtain ⟨j, hj, hsz⟩ := fileinfo
  obtain ⟨x, hx⟩ := held_file hs hh
  have hS := hs.chg h.chg (fun _ _ => id)
  have hfb := hS.flb _ _ hx
  have hall := h.blks hs
  have hlk := run_lookup_ptr (P := Try.prog) Try.underlying96 Try.underlying79 hj hsz (zero_ptr W) h.mom hall ⟨_, _, hfb⟩
  rw [look_ent, if_neg hf] at hlk
  simp only [Option.getD_none] at hlk
  have c0 : W.cell? ⟨ov, 0, none⟩ = some (.map (some om)) := h.bov.cell 0
  have ho := hS.flo _ _ hx
  have hlen : x.b.length ≤ 140737488355328 := by
    have h1 := hS.len_le hh
    have h2 : S.len f = x.b.length := by simp [Sto.len, hx]
    omega
  have Hcl : Hid (∀ W', Chg NoB W W' → Calls Try.prog 42 #[.slice x.A x.b.length x.c] W' fun e w' => ∃ v, e = .returned v ∧ w'.ownsRow W'.heap.size 5 1 v x.b.length (bv x.b) ∧ Chg NoB W' w') := Go.Lib.hid fun W' hW =>
    clone_c W' x.A x.c x.b hlen (fun hA => by
      obtain ⟨h1, h2⟩ := own_none ho hA
      exact ⟨by simpa [bv] using h1, h2⟩) ((CellsAt.of_own ho).chg hW (fun _ _ => id))
  have hfo : f ≠ om := Ne.symm (h.mom.blk_ne hfb)
  have hvo : ov ≠ om := Ne.symm (h.mom.blk_ne h.bov)
  have Hkp : Hid (∀ W', Chg (fun b => b = om) W W' → W'.cell? ⟨ov, 0, none⟩ = some (.map (some om)) ∧ W'.cell? ⟨f, 0, none⟩ = some (.slice x.A x.b.length x.c)) := Go.Lib.hid fun W' hW => ⟨(h.bov.chg hW hvo).cell 0, (hfb.chg hW hfo).cell 0⟩
  have Hup : Hid (∀ (W' : World) (v : Value), Chg NoB W W' → (Instr.mapUpdate 96 (.map (some om)) (ptr f) v).run Try.prog W' = .ok () (setB W' om (updP Try.prog W' 96 om (ent l) f v)) ∧
      MapIs (setB W' om (updP Try.prog W' 96 om (ent l) f v)) om (ptrs (putS f v (ent l)))) := Go.Lib.hid fun W' v hW =>
    updP_spec Try.underlying96 Try.underlying79 hj hsz (h.mom.chg hW id) (fun x hx => by
      obtain ⟨t, cs, hb⟩ := hall x hx
      exact ⟨t, cs, hb.chg hW id⟩) ⟨_, _, hfb.chg hW id⟩ v
  have Hlk2 : Hid (∀ (W' : World) (g : Nat), Chg (fun b => b = om) W W' → MapIs W' om (ptrs (ent (l ++ [(f, g)]))) → (Instr.lookup 96 (.map (some om)) (ptr f) false).run Try.prog W' = .ok (ptr g) W') := Go.Lib.hid fun W' g hW hm => by
    have h1 := run_lookup_ptr (P := Try.prog) Try.underlying96 Try.underlying79 hj hsz (zero_ptr W') hm (fun y hy => by
      unfold ent at hy
      rw [List.map_append] at hy
      rcases List.mem_append.1 hy with hy | hy
      · obtain ⟨t, cs, hb⟩ := hall y hy
        exact ⟨t, cs, hb.chg hW (Ne.symm (h.mom.blk_ne hb))⟩
      · simp at hy; subst hy
        exact ⟨_, _, hfb.chg hW hfo⟩) ⟨_, _, hfb.chg hW hfo⟩
    rw [look_ent, if_pos (by simp), img_new hf] at h1
    exact h1
  have Hf := Go.Lib.hid (And.intro hf hh)
  have Hx := Go.Lib.hid hx
  have H := Go.Lib.hid h
  have c1 : W.cell? ⟨f, 0, none⟩ = some (.slice x.A x.b.length x.c) := hfb.cell 0
  clear h hs hj hsz hfb hf hh hall hS ho hlen hx hfo hvo
  unfold ptr at hlk Hup Hlk2 ⊢
  go_enter Try.func55, Try.ntmps55
  go_wp2_with fail
  set_option maxRecDepth 100000 in
  go_region_held3 (fun W' => W'.cell? ⟨ov, 0, none⟩ = some (.map (some om)) ∧ W'.cell? ⟨f, 0, none⟩ = some (.slice x.A x.b.length x.c))
    (first
      | exact Hkp.out _ (Chg.refl _ _).drew
      | exact Hkp.out _ ((Chg.refl (fun b => b = om) W).drew.trans (hc4.mono (fun _ _ h => h.elim)))
      | exact Hkp.out _ (((Chg.refl (fun b => b = om) W).drew.trans (hc4.mono (fun _ _ h => h.elim))).alloc _)
      | exact Hkp.out _ (setB_chg (((Chg.refl (fun b => b = om) W).drew.trans (hc4.mono (fun _ _ h => h.elim))).alloc _) om (fun _ => rfl) _))
    (first
      | (go_at_call 42; refine (Hcl.out _ (Chg.refl NoB W).drew).mono ?_; rintro e w4 ⟨v, rfl, ho4, hc4⟩; obtain ⟨A', c', rfl⟩ := own_slice ho4; have hup4 := (Hup.out (w4.alloc (Obj.cells #[Value.slice A' x.b.length c'] 82)) (.pointer (some ⟨w4.heap.size, 0, none⟩)) (((Chg.refl NoB W).drew.trans hc4).alloc _)).1))
  have hmm := (Hup.out (w4.alloc (Obj.cells #[Value.slice A' x.b.length c'] 82)) (.pointer (some ⟨w4.heap.size, 0, none⟩)) (((Chg.refl NoB W).drew.trans hc4).alloc _)).2
  have hput := put_ent (g := w4.heap.size) Hf.out.1
  unfold ptr at hput
  rw [hput] at hmm
  have hc5 : Chg (fun b => b = om) (w4.alloc (Obj.cells #[Value.slice A' x.b.length c'] 82)) (setB (w4.alloc (Obj.cells #[Value.slice A' x.b.length c'] 82)) om (updP Try.prog (w4.alloc (Obj.cells #[Value.slice A' x.b.length c'] 82)) 96 om (ent l) f (.pointer (some ⟨w4.heap.size, 0, none⟩)))) :=
    setB_chg (F := fun b => b = om) (Chg.refl _ _) om (fun _ => rfl) _
  have hc1 : Chg NoB W (w4.alloc (Obj.cells #[Value.slice A' x.b.length c'] 82)) := ((Chg.refl NoB W).drew.trans hc4).alloc _
  have hc6 := (hc1.mono (G := fun b => b = om) (fun _ _ h => h.elim)).trans hc5
  have hs4 : W.heap.size ≤ w4.heap.size := hc4.size
  have ho5 : (w4.alloc (Obj.cells #[Value.slice A' x.b.length c'] 82)).ownsRow W.heap.size 5 1 (.slice A' x.b.length c') x.b.length (bv x.b) := own_chg ho4 ((Chg.refl NoB w4).alloc _) (fun _ _ => id)
  have Hp := Go.Lib.hid (H.out.addFile Hx.out Hf.out.2 Hf.out.1 hc1 hs4 (Blk.new _ _ _) ho5 hc5 hmm)
  have Hl2 := Go.Lib.hid (Hlk2.out _ _ hc6 hmm)
  have Hk2 := Go.Lib.hid (Hkp.out _ hc6)
  have HC6 := Go.Lib.hid hc6
  have Himg := Go.Lib.hid (img_new (g := w4.heap.size) Hf.out.1)
  clear hmm hput hc5 hc1 hc6 ho5 ho4 hc4 hup4 Hlk2 Hkp Hup hlk c0 c1 Hcl
  generalize w4.heap.size = g at *
  generalize setB (w4.alloc (Obj.cells #[Value.slice A' x.b.length c'] 82)) om _ = W5 at *
  have c0 := Hk2.out.1
  have hlk := Hl2.out
  clear hs4 Hk2 Hl2
  go_wp2_with fail
  go_ret
  refine ⟨_, _, ?_, Hp.out.1, by simp, rfl, rfl, rfl, rfl, HC6.out, Hp.out.2⟩
  rw [Himg.out]
  rfl
theorem copied_c (hs : StoreAt base w s S) (h : CpInv S w W c ov om S' l D k) {f : Nat} (hh : f ∈ S.held) :
    Calls Try.prog 55 #[ptr f, ptr ov] W (CpPost S w W c ov om S' D k f) := by
  by_cases hf : f ∈ l.map (·.1)
  · exact copied_old hs h hf
  · exact copied_new hs h hf hh
end
end Go.Proofs.Ytebcomijknffmaa
