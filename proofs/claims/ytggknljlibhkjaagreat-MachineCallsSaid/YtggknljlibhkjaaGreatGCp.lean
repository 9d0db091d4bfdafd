import Derived.Test.YtggknljlibhkjaaGreatStoreS
import Derived.Deep.RegionHeld3
import Derived.Outline
import Derived.Test.YtggknljlibhkjaaGreatTail
import Derived.Deep.AppendLies
set_option linter.unusedSimpArgs false
set_option linter.unusedVariables false
namespace Go.Proofs.YtggknljlibhkjaaGreat
open Go.RowKit
def img : List (Nat × Nat) → Nat → Nat
 | [], _ => 0
 | p :: l, f => if f = p.1 then p.2 else img l f
theorem img_mem {l : List (Nat × Nat)} {f : Nat} (h : f ∈ l.map (·.1)) : (f, img l f) ∈ l := by
 induction l with
 | nil => simp at h
 | cons p l ih =>
  unfold img
  by_cases e : f = p.1
  ·rw [if_pos e, e]; simp
  ·rw [if_neg e]
   simp only [List.map_cons, List.mem_cons] at h
   exact List.mem_cons_of_mem _ (ih (h.resolve_left e))
theorem img_app {l m : List (Nat × Nat)} {f : Nat} (h : f ∈ l.map (·.1)) : img (l ++ m) f = img l f := by
 induction l with
 | nil => simp at h
 | cons p l ih =>
  simp only [List.cons_append, img]
  by_cases e : f = p.1
  ·rw [if_pos e, if_pos e]
  ·rw [if_neg e, if_neg e]
   simp only [List.map_cons, List.mem_cons] at h
   exact ih (h.resolve_left e)
theorem img_new {l : List (Nat × Nat)} {f g : Nat} (h : f ∉ l.map (·.1)) : img (l ++ [(f, g)]) f = g := by
 induction l with
 | nil => simp [img]
 | cons p l ih =>
  simp only [List.map_cons, List.mem_cons, not_or] at h
  simp only [List.cons_append, img]
  rw [if_neg h.1]
  exact ih h.2
def ent (l : List (Nat × Nat)) : List (Nat × Value) := l.map fun p => (p.1, ptr p.2)
theorem look_ent (l : List (Nat × Nat)) (f : Nat) : lookS f (ent l) = if f ∈ l.map (·.1) then some (ptr (img l f)) else none := by
 induction l with
 | nil => simp [ent, lookS]
 | cons p l ih =>
  unfold ent at ih ⊢
  simp only [List.map_cons, lookS, img, List.mem_cons]
  by_cases e : f = p.1
  ·subst e; simp
  ·have e2 : (f == p.1) = false := by simpa using e
   simp only [e2, e, if_false, false_or]
   exact ih
theorem put_ent {l : List (Nat × Nat)} {f g : Nat} (h : f ∉ l.map (·.1)) : putS f (ptr g) (ent l) = ent (l ++ [(f, g)]) := by
 induction l with
 | nil => rfl
 | cons p l ih =>
  simp only [List.map_cons, List.mem_cons, not_or] at h
  have e : (f == p.1) = false := by simpa using h.1
  unfold ent at ih ⊢
  simp only [List.map_cons, List.cons_append, putS, e]
  exact congrArg (_ :: ·) (ih h.2)
structure CpInv (S : Sto) (w : World) (W : World) (c ov om : Nat) (S' : Sto) (l : List (Nat × Nat)) (D : List (ByteArray × Nat)) (k : Nat) : Prop where
 st : StoreAt w.heap.size W c S'
 bov : Blk W ov 92 #[.map (some om)]
 mom : MapIs W om (ptrs (ent l))
 ovf : ¬ foot c S' ov
 omf : ¬ foot c S' om
 lo : w.heap.size ≤ ov ∧ w.heap.size ≤ om
 kn : (l.map (·.1)).Nodup
 vn : (l.map (·.2)).Nodup
 kh : ∀ p ∈ l, p.1 ∈ S.held
 vf : ∀ p ∈ l, ∃ A c' x, S.fl p.1 = some x ∧ S'.fl p.2 = some ⟨A, c', x.b⟩
 dir : S'.dir = D.map fun e => (e.1, img l e.2)
 dk : ∀ e ∈ D, e ∈ S.dir ∧ e.2 ∈ l.map (·.1)
 rd : S'.rd.map (fun r => (r.f, r.name, r.pos)) = (S.rd.take k).map fun r => (img l r.f, r.name, r.pos)
 rk : ∀ r ∈ S.rd.take k, r.f ∈ l.map (·.1)
 cap : S'.cap = S.cap
 chg : Chg NoB w W
section
variable {S S' : Sto} {w W W' : World} {base s c ov om k : Nat} {l : List (Nat × Nat)} {D : List (ByteArray × Nat)}
theorem CpInv.fits (h : CpInv S w W c ov om S' l D k) (hs : StoreAt base w s S) {m : List Nat} (hm : ∀ x ∈ m, x ∈ l.map (·.2)) : sumOf S'.len (dedup m) ≤ S'.cap := by
 have h1 : sumOf S'.len (dedup m) ≤ sumOf S'.len (l.map (·.2)) := sumOf_le_sub (nodup_dedup _) fun x hx => hm x (mem_dedup.1 hx)
 have h2 : sumOf S'.len (l.map (·.2)) = sumOf S.len (l.map (·.1)) := by
  unfold sumOf
  rw [List.map_map, List.map_map]
  refine congrArg List.sum (List.map_congr_left fun p hp => ?_)
  obtain ⟨A, c', x, h3, h4⟩ := h.vf p hp
  simp [Sto.len, h3, h4]
 have h3 : sumOf S.len (l.map (·.1)) ≤ S.used := sumOf_le_sub h.kn fun x hx => by
  obtain ⟨p, hp, rfl⟩ := List.mem_map.1 hx
  exact mem_dedup.2 (h.kh p hp)
 have h4 := hs.fits
 rw [h.cap]
 omega
theorem CpInv.held (h : CpInv S w W c ov om S' l D k) : ∀ x ∈ S'.held, x ∈ l.map (·.2) := by
 intro x hx
 unfold Sto.held at hx
 rcases List.mem_append.1 hx with hx | hx
 ·rw [h.dir, List.map_map] at hx
  obtain ⟨e, he, rfl⟩ := List.mem_map.1 hx
  exact List.mem_map.2 ⟨_, img_mem (h.dk e he).2, rfl⟩
 ·have h1 := congrArg (List.map (·.1)) h.rd
  rw [List.map_map, List.map_map] at h1
  have h2 : S'.rd.map (·.f) = (S.rd.take k).map fun r => img l r.f := h1
  rw [h2] at hx
  obtain ⟨r, hr, rfl⟩ := List.mem_map.1 hx
  exact List.mem_map.2 ⟨_, img_mem (h.rk r hr), rfl⟩
theorem CpInv.chg2 {F : Nat → Prop} (h : CpInv S w W c ov om S' l D k) (hc : Chg F W W') (hF : ∀ b, b < W.heap.size → F b → b ≠ ov ∧ b ≠ om ∧ w.heap.size ≤ b ∧ ¬ foot c S' b) : CpInv S w W' c ov om S' l D k where
 st := h.st.chg hc fun b hb hf => (hF b (h.st.lt b hb) hf).2.2.2 hb
 bov := h.bov.chg hc fun hf => (hF _ h.bov.lt hf).1 rfl
 mom := h.mom.chg hc fun hf => (hF _ h.mom.lt hf).2.1 rfl
 ovf := h.ovf
 omf := h.omf
 lo := h.lo
 kn := h.kn
 vn := h.vn
 kh := h.kh
 vf := h.vf
 dir := h.dir
 dk := h.dk
 rd := h.rd
 rk := h.rk
 cap := h.cap
 chg := h.chg.step hc fun b hb hf => by
  have := h.chg.size
  exact absurd (hF b (by omega) hf).2.2.1 (by omega)
theorem CpInv.addFile (h : CpInv S w W c ov om S' l D k) {f g : Nat} {A : Option Addr} {c' : Nat} {x : Fl} (hx : S.fl f = some x) (hf : f ∈ S.held) (hn : f ∉ l.map (·.1)) {W1 W2 : World} (hc1 : Chg NoB W W1) (hg : W.heap.size ≤ g)
  (hb : Blk W1 g 96 #[.slice A x.b.length c']) (ho : W1.ownsRow W.heap.size 5 1 (.slice A x.b.length c') x.b.length (bv x.b)) (hc2 : Chg (fun b => b = om) W1 W2) (hm : MapIs W2 om (ptrs (ent (l ++ [(f, g)])))) :
  CpInv S w W2 c ov om (S'.addFile g ⟨A, c', x.b⟩) (l ++ [(f, g)]) D k ∧ ∀ b, foot c (S'.addFile g ⟨A, c', x.b⟩) b → foot c S' b ∨ W.heap.size ≤ b := by
 have hsz := h.chg.size
 have hoo : W1.ownsRow w.heap.size 5 1 (.slice A x.b.length c') x.b.length (bv x.b) := by
  refine ⟨ho.1, ?_⟩
  rcases ho.2 with h1 | ⟨g', cap, cur, h1, h2, h3⟩
  ·exact .inl h1
  ·exact .inr ⟨g', cap, cur, h1, by omega, h3⟩
 obtain ⟨hst, hft⟩ := h.st.addFile (x := ⟨A, c', x.b⟩) hc1 hg hb hoo (fun b hb => (ho.lt b hb).1)
 have hom1 := h.mom.chg hc1 id
 have hov1 := h.bov.chg hc1 id
 have hne : ov ≠ om := Ne.symm (h.mom.blk_ne h.bov)
 have hlo : ∀ b, b < W.heap.size → ¬ foot c S' b → ¬ foot c (S'.addFile g ⟨A, c', x.b⟩) b := fun b hb hnf hf => by
  rcases hft b hf with h1 | h1
  ·exact hnf h1
  ·omega
 have hgn : g ∉ l.map (·.2) := fun hm => by
  obtain ⟨p, hp, rfl⟩ := List.mem_map.1 hm
  obtain ⟨A', c'', y, _, h2⟩ := h.vf p hp
  have := (h.st.flb _ _ h2).lt
  omega
 have hkeep : ∀ p ∈ l, (S'.addFile g ⟨A, c', x.b⟩).fl p.2 = S'.fl p.2 := fun p hp => by
  unfold Sto.addFile
  simp only
  rw [if_neg]
  rintro rfl
  exact hgn (List.mem_map.2 ⟨p, hp, rfl⟩)
 have hnf := hlo om h.mom.lt h.omf
 refine ⟨?_, hft⟩
 exact {
  st := hst.chg hc2 fun b hb e => by subst e; exact hnf hb
  bov := hov1.chg hc2 hne
  mom := hm
  ovf := hlo ov h.bov.lt h.ovf
  omf := hnf
  lo := h.lo
  kn := by
   rw [List.map_append, List.nodup_append]
   refine ⟨h.kn, by simp, fun a ha b hb hab => ?_⟩
   simp at hb
   subst hb hab
   exact hn ha
  vn := by
   rw [List.map_append, List.nodup_append]
   refine ⟨h.vn, by simp, fun a ha b hb hab => ?_⟩
   simp at hb
   subst hb hab
   exact hgn ha
  kh := fun p hp => by
   rcases List.mem_append.1 hp with hp | hp
   ·exact h.kh p hp
   ·simp at hp; subst hp; exact hf
  vf := fun p hp => by
   rcases List.mem_append.1 hp with hp | hp
   ·rw [hkeep p hp]; exact h.vf p hp
   ·simp at hp; subst hp
    exact ⟨A, c', x, hx, by simp [Sto.addFile]⟩
  dir := by
   show S'.dir = _
   rw [h.dir]
   exact List.map_congr_left fun e he => by rw [img_app (h.dk e he).2]
  dk := fun e he => ⟨(h.dk e he).1, by rw [List.map_append]; exact List.mem_append.2 (.inl (h.dk e he).2)⟩
  rd := by
   show S'.rd.map _ = _
   rw [h.rd]
   exact List.map_congr_left fun r hr => by rw [img_app (h.rk r hr)]
  rk := fun r hr => by rw [List.map_append]; exact List.mem_append.2 (.inl (h.rk r hr))
  cap := h.cap
  chg := (h.chg.trans hc1).step hc2 fun b hb e => by have := h.lo.2; omega }
end
end Go.Proofs.YtggknljlibhkjaaGreat
set_option linter.unusedSimpArgs false
set_option linter.unusedVariables false
namespace Go.Proofs.YtggknljlibhkjaaGreat
open Go.RowKit
theorem zero_ptr (w : World) : (zeroValue 93).run Tryz.prog w = .ok (.pointer none) w := by kernel_rfl
open Classical in
noncomputable def updP (P : Program) (w : World) (t : TypeId) (m : Nat) (l : List (Nat × Value)) (f : Nat) (v : Value) : Obj :=
 if h : ∃ o, (Instr.mapUpdate t (.map (some m)) (ptr f) v).run P w = .ok () (setB w m o) ∧ MapIs (setB w m o) m (ptrs (putS f v l)) then Classical.choose h else .map #[] 0
theorem updP_spec {P : Program} {w : World} {t k e te : TypeId} {j : TypeInfo} (ht : P.underlying t = some (.map k e)) (hp : P.underlying k = some (.pointer te)) (hte : P.info? te = some j) (hsz : j.size ≠ 0) {m : Nat} {l : List (Nat × Value)}
  (h : MapIs w m (ptrs l)) (hall : ∀ x ∈ l, ∃ t cs, Blk w x.1 t cs) {f : Nat} (hf : ∃ t cs, Blk w f t cs) (v : Value) :
  (Instr.mapUpdate t (.map (some m)) (ptr f) v).run P w = .ok () (setB w m (updP P w t m l f v)) ∧ MapIs (setB w m (updP P w t m l f v)) m (ptrs (putS f v l)) := by
 have hx := run_update_ptr (P := P) ht hp hte hsz h hall hf v
 unfold updP
 rw [dif_pos hx]
 exact Classical.choose_spec hx
section
variable {S S' : Sto} {w W W' : World} {base s c ov om k : Nat} {l : List (Nat × Nat)} {D : List (ByteArray × Nat)}
theorem own_none {W : World} {b : Nat} {e : TypeId} {n c : Nat} {A : Option Addr} {xs : List Value} (h : W.ownsRow b e 1 (.slice A n c) n xs) (hA : A = none) : xs = [] ∧ c = 0 := by
 rcases h.2 with ⟨h1, h2⟩ | ⟨g, cap, cur, h1, _⟩
 ·injection h1 with _ h3 h4
  exact ⟨List.eq_nil_of_length_eq_zero (by have := h.1; omega), h4⟩
 ·injection h1 with h3; subst hA; cases h3
theorem CpInv.blks (h : CpInv S w W c ov om S' l D k) (hs : StoreAt base w s S) : ∀ x ∈ ent l, ∃ t cs, Blk W x.1 t cs := by
 intro x hx
 obtain ⟨p, hp, rfl⟩ := List.mem_map.1 hx
 obtain ⟨y, hy⟩ := held_file hs (h.kh p hp)
 exact ⟨_, _, (hs.flb _ _ hy).chg h.chg id⟩
def CpPost (S : Sto) (w W : World) (c ov om : Nat) (S' : Sto) (D : List (ByteArray × Nat)) (k f : Nat) (e : Ending) (W' : World) : Prop :=
 ∃ S'' l', e = .returned (ptr (img l' f)) ∧ CpInv S w W' c ov om S'' l' D k ∧ f ∈ l'.map (·.1) ∧ S''.mb = S'.mb ∧ S''.rd = S'.rd ∧ S''.rA = S'.rA ∧ S''.rc = S'.rc ∧ Chg (fun b => b = om) W W' ∧ ∀ b, foot c S'' b → foot c S' b ∨ W.heap.size ≤ b
theorem copied_old (hs : StoreAt base w s S) (h : CpInv S w W c ov om S' l D k) {f : Nat} (hf : f ∈ l.map (·.1)) :
  Calls Tryz.prog 35 #[ptr f, ptr ov] W (CpPost S w W c ov om S' D k f) := by
 obtain ⟨j, hj, hsz⟩ := fileinfo
 have hfb : ∃ t cs, Blk W f t cs := by
  obtain ⟨p, hp, rfl⟩ := List.mem_map.1 hf
  exact h.blks hs (p.1, ptr p.2) (List.mem_map.2 ⟨p, hp, rfl⟩)
 have hlk := run_lookup_ptr (P := Tryz.prog) Tryz.underlying92 Tryz.underlying93 hj hsz (zero_ptr W) h.mom (h.blks hs) hfb
 rw [look_ent, if_pos hf] at hlk
 simp only [Option.getD_some] at hlk
 have c0 : W.cell? ⟨ov, 0, none⟩ = some (.map (some om)) := h.bov.cell 0
 have Hp : Hid (CpPost S w W c ov om S' D k f (.returned (ptr (img l f))) W) := Go.Lib.hid ⟨S', l, rfl, h, hf, rfl, rfl, rfl, rfl, Chg.refl _ _, fun b hb => .inl hb⟩
 clear h hs hj hsz hfb hf
 generalize img l f = g at *
 unfold ptr at hlk Hp ⊢
 go_enter Tryz.func35, Tryz.ntmps35
 go_wp2_with fail
 go_ret
 exact Hp.out
set_option maxHeartbeats 1000000 in
theorem copied_new (hs : StoreAt base w s S) (h : CpInv S w W c ov om S' l D k) {f : Nat} (hf : f ∉ l.map (·.1)) (hh : f ∈ S.held) :
  Calls Tryz.prog 35 #[ptr f, ptr ov] W (CpPost S w W c ov om S' D k f) := by
 obtain ⟨j, hj, hsz⟩ := fileinfo
 obtain ⟨x, hx⟩ := held_file hs hh
 have hS := hs.chg h.chg (fun _ _ => id)
 have hfb := hS.flb _ _ hx
 have hall := h.blks hs
 have hlk := run_lookup_ptr (P := Tryz.prog) Tryz.underlying92 Tryz.underlying93 hj hsz (zero_ptr W) h.mom hall ⟨_, _, hfb⟩
 rw [look_ent, if_neg hf] at hlk
 simp only [Option.getD_none] at hlk
 have c0 : W.cell? ⟨ov, 0, none⟩ = some (.map (some om)) := h.bov.cell 0
 have ho := hS.flo _ _ hx
 have hlen : x.b.length ≤ 140737488355328 := by
  have h1 := hS.len_le hh
  have h2 : S.len f = x.b.length := by simp [Sto.len, hx]
  omega
 have Hcl : Hid (∀ W', Chg NoB W W' → Calls Tryz.prog 36 #[.slice x.A x.b.length x.c] W' fun e w' => ∃ v, e = .returned v ∧ w'.ownsRow W'.heap.size 5 1 v x.b.length (bv x.b) ∧ Chg NoB W' w') := Go.Lib.hid fun W' hW =>
  clone_c W' x.A x.c x.b hlen (fun hA => by
   obtain ⟨h1, h2⟩ := own_none ho hA
   exact ⟨by simpa [bv] using h1, h2⟩) ((CellsAt.of_own ho).chg hW (fun _ _ => id))
 have hfo : f ≠ om := Ne.symm (h.mom.blk_ne hfb)
 have hvo : ov ≠ om := Ne.symm (h.mom.blk_ne h.bov)
 have Hkp : Hid (∀ W', Chg (fun b => b = om) W W' → W'.cell? ⟨ov, 0, none⟩ = some (.map (some om)) ∧ W'.cell? ⟨f, 0, none⟩ = some (.slice x.A x.b.length x.c)) := Go.Lib.hid fun W' hW => ⟨(h.bov.chg hW hvo).cell 0, (hfb.chg hW hfo).cell 0⟩
 have Hup : Hid (∀ (W' : World) (v : Value), Chg NoB W W' → (Instr.mapUpdate 92 (.map (some om)) (ptr f) v).run Tryz.prog W' = .ok () (setB W' om (updP Tryz.prog W' 92 om (ent l) f v)) ∧
   MapIs (setB W' om (updP Tryz.prog W' 92 om (ent l) f v)) om (ptrs (putS f v (ent l)))) := Go.Lib.hid fun W' v hW =>
  updP_spec Tryz.underlying92 Tryz.underlying93 hj hsz (h.mom.chg hW id) (fun x hx => by
   obtain ⟨t, cs, hb⟩ := hall x hx
   exact ⟨t, cs, hb.chg hW id⟩) ⟨_, _, hfb.chg hW id⟩ v
 have Hlk2 : Hid (∀ (W' : World) (g : Nat), Chg (fun b => b = om) W W' → MapIs W' om (ptrs (ent (l ++ [(f, g)]))) → (Instr.lookup 92 (.map (some om)) (ptr f) false).run Tryz.prog W' = .ok (ptr g) W') := Go.Lib.hid fun W' g hW hm => by
  have h1 := run_lookup_ptr (P := Tryz.prog) Tryz.underlying92 Tryz.underlying93 hj hsz (zero_ptr W') hm (fun y hy => by
   unfold ent at hy
   rw [List.map_append] at hy
   rcases List.mem_append.1 hy with hy | hy
   ·obtain ⟨t, cs, hb⟩ := hall y hy
    exact ⟨t, cs, hb.chg hW (Ne.symm (h.mom.blk_ne hb))⟩
   ·simp at hy; subst hy
    exact ⟨_, _, hfb.chg hW hfo⟩) ⟨_, _, hfb.chg hW hfo⟩
  rw [look_ent, if_pos (by simp), img_new hf] at h1
  exact h1
 have Hf := Go.Lib.hid (And.intro hf hh)
 have Hx := Go.Lib.hid hx
 have H := Go.Lib.hid h
 have c1 : W.cell? ⟨f, 0, none⟩ = some (.slice x.A x.b.length x.c) := hfb.cell 0
 clear h hs hj hsz hfb hf hh hall hS ho hlen hx hfo hvo
 unfold ptr at hlk Hup Hlk2 ⊢
 go_enter Tryz.func35, Tryz.ntmps35
 go_wp2_with fail
 set_option maxRecDepth 100000 in
 go_region_held3 (fun W' => W'.cell? ⟨ov, 0, none⟩ = some (.map (some om)) ∧ W'.cell? ⟨f, 0, none⟩ = some (.slice x.A x.b.length x.c))
  (first
   | exact Hkp.out _ (Chg.refl _ _).drew
   | exact Hkp.out _ ((Chg.refl (fun b => b = om) W).drew.trans (hc4.mono (fun _ _ h => h.elim)))
   | exact Hkp.out _ (((Chg.refl (fun b => b = om) W).drew.trans (hc4.mono (fun _ _ h => h.elim))).alloc _)
   | exact Hkp.out _ (setB_chg (((Chg.refl (fun b => b = om) W).drew.trans (hc4.mono (fun _ _ h => h.elim))).alloc _) om (fun _ => rfl) _))
  (first
   | (go_at_call 36; refine (Hcl.out _ (Chg.refl NoB W).drew).mono ?_; rintro e w4 ⟨v, rfl, ho4, hc4⟩; obtain ⟨A', c', rfl⟩ := own_slice ho4; have hup4 := (Hup.out (w4.alloc (Obj.cells #[Value.slice A' x.b.length c'] 96)) (.pointer (some ⟨w4.heap.size, 0, none⟩)) (((Chg.refl NoB W).drew.trans hc4).alloc _)).1))
 have hmm := (Hup.out (w4.alloc (Obj.cells #[Value.slice A' x.b.length c'] 96)) (.pointer (some ⟨w4.heap.size, 0, none⟩)) (((Chg.refl NoB W).drew.trans hc4).alloc _)).2
 have hput := put_ent (g := w4.heap.size) Hf.out.1
 unfold ptr at hput
 rw [hput] at hmm
 have hc5 : Chg (fun b => b = om) (w4.alloc (Obj.cells #[Value.slice A' x.b.length c'] 96)) (setB (w4.alloc (Obj.cells #[Value.slice A' x.b.length c'] 96)) om (updP Tryz.prog (w4.alloc (Obj.cells #[Value.slice A' x.b.length c'] 96)) 92 om (ent l) f (.pointer (some ⟨w4.heap.size, 0, none⟩)))) :=
  setB_chg (F := fun b => b = om) (Chg.refl _ _) om (fun _ => rfl) _
 have hc1 : Chg NoB W (w4.alloc (Obj.cells #[Value.slice A' x.b.length c'] 96)) := ((Chg.refl NoB W).drew.trans hc4).alloc _
 have hc6 := (hc1.mono (G := fun b => b = om) (fun _ _ h => h.elim)).trans hc5
 have hs4 : W.heap.size ≤ w4.heap.size := hc4.size
 have ho5 : (w4.alloc (Obj.cells #[Value.slice A' x.b.length c'] 96)).ownsRow W.heap.size 5 1 (.slice A' x.b.length c') x.b.length (bv x.b) := own_chg ho4 ((Chg.refl NoB w4).alloc _) (fun _ _ => id)
 have Hp := Go.Lib.hid (H.out.addFile Hx.out Hf.out.2 Hf.out.1 hc1 hs4 (Blk.new _ _ _) ho5 hc5 hmm)
 have Hl2 := Go.Lib.hid (Hlk2.out _ _ hc6 hmm)
 have Hk2 := Go.Lib.hid (Hkp.out _ hc6)
 have HC6 := Go.Lib.hid hc6
 have Himg := Go.Lib.hid (img_new (g := w4.heap.size) Hf.out.1)
 clear hmm hput hc5 hc1 hc6 ho5 ho4 hc4 hup4 Hlk2 Hkp Hup hlk c0 c1 Hcl
 generalize w4.heap.size = g at *
 generalize setB (w4.alloc (Obj.cells #[Value.slice A' x.b.length c'] 96)) om _ = W5 at *
 have c0 := Hk2.out.1
 have hlk := Hl2.out
 clear hs4 Hk2 Hl2
 go_wp2_with fail
 go_ret
 refine ⟨_, _, ?_, Hp.out.1, by simp, rfl, rfl, rfl, rfl, HC6.out, Hp.out.2⟩
 rw [Himg.out]
 rfl
theorem copied_c (hs : StoreAt base w s S) (h : CpInv S w W c ov om S' l D k) {f : Nat} (hh : f ∈ S.held) :
  Calls Tryz.prog 35 #[ptr f, ptr ov] W (CpPost S w W c ov om S' D k f) := by
 by_cases hf : f ∈ l.map (·.1)
 ·exact copied_old hs h hf
 ·exact copied_new hs h hf hh
end
end Go.Proofs.YtggknljlibhkjaaGreat
set_option linter.unusedSimpArgs false
set_option linter.unusedVariables false
namespace Go.Proofs.YtggknljlibhkjaaGreat
open Go.RowKit
section
variable {base : Nat} {w : World} {s : Nat} {S : Sto}
def Sto.rideP (S : Sto) (blk f : Nat) (nm : ByteArray) (rA : Option Addr) (rc p : Nat) : Sto := { S with rd := S.rd ++ [⟨blk, f, nm, p⟩], rA := rA, rc := rc }
theorem StoreAt.rideP (h : StoreAt base w s S) {f : Nat} {x : Fl} {nm : ByteArray} (hx : S.fl f = some x) (hn : mayName nm = true) (hlt : S.rd.length < 255) {p : Nat} (hp : p ≤ x.b.length) (hu : sumOf S.len (dedup (S.held ++ [f])) ≤ S.cap)
  {w1 : World} {blk : Nat} {rA : Option Addr} {rc : Nat} (hch : Chg (fun k => S.rv.ownBlock = some k) w w1) (hb : Blk w1 blk 104 #[ptr f, .string nm, .int .i64 p]) (hbn : w.heap.size ≤ blk)
  (hrow : w1.ownsRow base 102 1 (.slice rA (S.rd.length + 1) rc) (S.rd.length + 1) ((S.rd.map fun r => ptr r.blk) ++ [ptr blk]))
  (hrb : ∀ k, (Value.slice rA (S.rd.length + 1) rc).ownBlock = some k → S.rv.ownBlock = some k ∨ w.heap.size ≤ k) :
  StoreAt base (w1.setCell ⟨s, 1, none⟩ (.slice rA (S.rd.length + 1) rc)) s (S.rideP blk f nm rA rc p) ∧ Chg (foot s S) w (w1.setCell ⟨s, 1, none⟩ (.slice rA (S.rd.length + 1) rc)) ∧
   ∀ k, foot s (S.rideP blk f nm rA rc p) k → k < w.heap.size → foot s S k := by
 have hbase : base ≤ w.heap.size := by have := h.low s (.inl rfl); have := h.blk.lt; omega
 have hlts := h.blk.lt
 have hc2 : Chg (fun k => S.rv.ownBlock = some k ∨ k = s) w (w1.setCell ⟨s, 1, none⟩ (.slice rA (S.rd.length + 1) rc)) :=
  (hch.mono (fun _ _ h => .inl h)).setCell (p := ⟨s, 1, none⟩) (fun _ => .inr rfl) _
 have hc3 : Chg (fun k => k = s) w1 (w1.setCell ⟨s, 1, none⟩ (.slice rA (S.rd.length + 1) rc)) := (Chg.refl (fun k => k = s) _).setCell (p := ⟨s, 1, none⟩) (fun _ => rfl) _
 have nrow : ∀ {t : TypeId} {cs : Array Value} {g : Nat}, Blk w g t cs → 102 ≠ t → ¬ S.rv.ownBlock = some g := fun hg hne => own_blk_ne h.row hg hne
 have nS : ∀ {t : TypeId} {cs : Array Value} {g : Nat}, Blk w g t cs → t ≠ 101 → g ≠ s := fun hg hne => hg.ne_ h.blk hne
 have b0 : Blk w1 s 101 #[.map (some S.mb), S.rv, .int .i64 S.cap] := h.blk.chg hch (nrow h.blk (by decide))
 have hrv : (S.rideP blk f nm rA rc p).rv = .slice rA (S.rd.length + 1) rc := by unfold Sto.rideP Sto.rv; simp
 have hheld : (S.rideP blk f nm rA rc p).held = S.held ++ [f] := by unfold Sto.rideP Sto.held; simp
 have hlen : (S.rideP blk f nm rA rc p).len = S.len := rfl
 have hmem : ∀ r ∈ (S.rideP blk f nm rA rc p).rd, r ∈ S.rd ∨ r = ⟨blk, f, nm, p⟩ := fun r hr => by
  unfold Sto.rideP at hr
  simpa using hr
 have hft : ∀ k, foot s (S.rideP blk f nm rA rc p) k → k < w.heap.size → foot s S k := by
  intro k hk hlt
  rcases hk with rfl | rfl | hk | ⟨r, hr, rfl⟩ | hk
  ·exact .inl rfl
  ·exact .inr (.inl rfl)
  ·rw [hrv] at hk
   rcases hrb k hk with h1 | h1
   ·exact .inr (.inr (.inl h1))
   ·omega
  ·rcases hmem r hr with hr | rfl
   ·exact .inr (.inr (.inr (.inl ⟨r, hr, rfl⟩)))
   ·simp only at hlt
    omega
  ·exact .inr (.inr (.inr (.inr hk)))
 refine ⟨?_, hc2.mono (fun k _ hk => hk.elim (fun h => .inr (.inr (.inl h))) (fun h => .inl h)), hft⟩
 exact {
  blk := by rw [hrv]; exact b0.set_ 1 _
  map := h.map.chg hc2 (fun hk => hk.elim (fun hk => h.map.own_ne h.row hk) (fun e => h.map.blk_ne h.blk e))
  row := by
   rw [hrv]
   have e : (S.rideP blk f nm rA rc p).rd.map (fun r => ptr r.blk) = (S.rd.map fun r => ptr r.blk) ++ [ptr blk] := by unfold Sto.rideP; simp
   have e2 : (S.rideP blk f nm rA rc p).rd.length = S.rd.length + 1 := by unfold Sto.rideP; simp
   rw [e, e2]
   exact own_chg hrow hc3 (fun k hk e => by subst e; exact own_blk_ne hrow b0 (by decide) hk)
  rdb := fun r hr => by
   rcases hmem r hr with hr | rfl
   ·exact (h.rdb r hr).chg hc2 (fun hk => hk.elim (nrow (h.rdb r hr) (by decide)) (nS (h.rdb r hr) (by decide)))
   ·exact hb.chg hc3 (fun (e : blk = s) => by omega)
  rdn := by
   have e : (S.rideP blk f nm rA rc p).rd.map (·.blk) = S.rd.map (·.blk) ++ [blk] := by unfold Sto.rideP; simp
   rw [e, List.nodup_append]
   refine ⟨h.rdn, by simp, ?_⟩
   intro a ha b hb' hab
   simp at hb'
   obtain ⟨r, hr, rfl⟩ := List.mem_map.1 ha
   have := (h.rdb r hr).lt
   omega
  rdf := fun r hr => by
   rcases hmem r hr with hr | rfl
   ·exact h.rdf r hr
   ·exact ⟨x, hx, hp⟩
  dirf := h.dirf
  flb := fun g y hg => (h.flb g y hg).chg hc2 (fun hk => hk.elim (nrow (h.flb g y hg) (by decide)) (nS (h.flb g y hg) (by decide)))
  flo := fun g y hg => own_chg (h.flo g y hg) hc2 (fun k hk hk' => hk'.elim (fun hr => own_own_ne (h.flo g y hg) h.row (by decide) hk hr) (fun e => by subst e; exact own_blk_ne (h.flo g y hg) h.blk (by decide) hk))
  sep := h.sep
  low := fun k hk => by
   rcases Nat.lt_or_ge k w.heap.size with hlt | hge
   ·exact h.low k (hft k hk hlt)
   ·omega
  keys := h.keys
  dnames := h.dnames
  rnames := fun r hr => by
   rcases hmem r hr with hr | rfl
   ·exact h.rnames r hr
   ·exact hn
  small := h.small
  fits := by
   unfold Sto.used
   rw [hheld, hlen]
   exact hu
  nrd := by unfold Sto.rideP; simp; omega
  ndir := h.ndir }
end
theorem putD_new {nm : ByteArray} {f : Nat} : ∀ {d : List (ByteArray × Nat)}, nm ∉ d.map (·.1) → putD nm f d = d ++ [(nm, f)]
 | [], _ => rfl
 | e :: d, h => by
  simp only [List.map_cons, List.mem_cons, not_or] at h
  have e1 : (nm == e.1) = false := by
   cases hq : (nm == e.1) with
   | true => exact absurd ((MapKept.bytes_beq _ _).1 hq) h.1
   | false => rfl
  simp only [putD, e1, List.cons_append]
  exact congrArg (e :: ·) (putD_new h.2)
section
variable {S S' : Sto} {w W W1 : World} {base s c ov om k : Nat} {l : List (Nat × Nat)} {D : List (ByteArray × Nat)}
theorem CpInv.enter (h : CpInv S w W c ov om S' l D k) (hs : StoreAt base w s S) {e : ByteArray × Nat} {R : List (ByteArray × Nat)} (hp : (D ++ e :: R).Perm S.dir) (hk : e.2 ∈ l.map (·.1))
  (hm : MapIs W1 S'.mb (strs (putS e.1 (ptr (img l e.2)) (S'.dir.map fun e => (e.1, ptr e.2))))) (hc : Chg (fun b => b = S'.mb) W W1) : CpInv S w W1 c ov om (S'.enter e.1 (img l e.2)) l (D ++ [e]) k := by
 have hn : ((D ++ e :: R).map (·.1)).Nodup := (hp.map (·.1)).nodup_iff.2 hs.keys
 have he : e ∈ S.dir := hp.subset (by simp)
 have hlen : (D ++ e :: R).length = S.dir.length := hp.length_eq
 have hmbf : foot c S' S'.mb := .inr (.inl rfl)
 have hen : e.1 ∉ S'.dir.map (·.1) := by
  rw [h.dir, List.map_map]
  intro hm2
  have hm3 : e.1 ∈ D.map (·.1) := hm2
  rw [List.map_append, List.nodup_append] at hn
  exact hn.2.2 e.1 hm3 e.1 (by simp) rfl
 have hput := putD_new (f := img l e.2) hen
 rw [putS_dir] at hm
 have hdir : (S'.enter e.1 (img l e.2)).dir = (D ++ [e]).map fun e => (e.1, img l e.2) := by
  show putD _ _ S'.dir = _
  rw [hput, h.dir, List.map_append]
  rfl
 have hst : StoreAt w.heap.size W1 c (S'.enter e.1 (img l e.2)) := by
  refine h.st.setDir hm hc (fun q hq => ?_) (nodup_putD h.st.keys) ?_ ?_
  ·rcases mem_putD hq with rfl | hq
   ·obtain ⟨A, c', x, _, h2⟩ := h.vf _ (img_mem hk)
    exact ⟨⟨_, h2⟩, hs.dnames e he⟩
   ·exact ⟨h.st.dirf q hq, h.st.dnames q hq⟩
  ·rw [hput, h.dir]
   have := hs.ndir
   simp at hlen ⊢
   omega
  ·refine h.fits hs fun x hx => ?_
   rcases List.mem_append.1 hx with hx | hx
   ·obtain ⟨q, hq, rfl⟩ := List.mem_map.1 hx
    rcases mem_putD hq with rfl | hq
    ·exact List.mem_map.2 ⟨_, img_mem hk, rfl⟩
    ·exact h.held _ (List.mem_append.2 (.inl (List.mem_map.2 ⟨q, hq, rfl⟩)))
   ·exact h.held _ (List.mem_append.2 (.inr hx))
 exact {
  st := hst
  bov := h.bov.chg hc (fun e => h.ovf (e ▸ hmbf))
  mom := h.mom.chg hc (fun e => h.omf (e ▸ hmbf))
  ovf := fun hf => h.ovf hf
  omf := fun hf => h.omf hf
  lo := h.lo
  kn := h.kn
  vn := h.vn
  kh := h.kh
  vf := h.vf
  dir := hdir
  dk := fun q hq => by
   rcases List.mem_append.1 hq with hq | hq
   ·exact h.dk q hq
   ·simp at hq; subst hq; exact ⟨he, hk⟩
  rd := h.rd
  rk := h.rk
  cap := h.cap
  chg := h.chg.step hc fun b hb e => by have := h.st.low S'.mb hmbf; omega }
theorem CpInv.ride (h : CpInv S w W c ov om S' l D k) (hs : StoreAt base w s S) {r : Rd} (hr : S.rd[k]? = some r) (hk : r.f ∈ l.map (·.1)) {blk : Nat} {rA : Option Addr} {rc : Nat}
  (hch : Chg (fun b => S'.rv.ownBlock = some b) W W1) (hb : Blk W1 blk 104 #[ptr (img l r.f), .string r.name, .int .i64 r.pos]) (hbn : W.heap.size ≤ blk)
  (hrow : W1.ownsRow w.heap.size 102 1 (.slice rA (S'.rd.length + 1) rc) (S'.rd.length + 1) ((S'.rd.map fun r => ptr r.blk) ++ [ptr blk]))
  (hrb : ∀ b, (Value.slice rA (S'.rd.length + 1) rc).ownBlock = some b → S'.rv.ownBlock = some b ∨ W.heap.size ≤ b) :
  CpInv S w (W1.setCell ⟨c, 1, none⟩ (.slice rA (S'.rd.length + 1) rc)) c ov om (S'.rideP blk (img l r.f) r.name rA rc r.pos) l D (k + 1) := by
 have hrm : r ∈ S.rd := List.mem_of_getElem? hr
 obtain ⟨A, c', x, hx, hx2⟩ := h.vf _ (img_mem hk)
 have hlt : S'.rd.length < 255 := by
  have h1 := congrArg List.length h.rd
  have h2 := hs.nrd
  have h3 := (List.getElem?_eq_some_iff.1 hr).1
  simp only [List.length_map, List.length_take] at h1
  omega
 obtain ⟨y, hy, hpos⟩ := hs.rdf r hrm
 rw [hx] at hy
 injection hy with hy
 subst hy
 have hfit := h.fits hs (m := S'.held ++ [img l r.f]) fun z hz => by
  rcases List.mem_append.1 hz with hz | hz
  ·exact h.held z hz
  ·simp at hz; subst hz; exact List.mem_map.2 ⟨_, img_mem hk, rfl⟩
 obtain ⟨h1, h2, h3⟩ := h.st.rideP (x := ⟨A, c', x.b⟩) hx2 (hs.rnames r hrm) hlt hpos hfit hch hb hbn hrow hrb
 have hov : ¬ foot c S' ov := h.ovf
 have htake : S.rd.take (k + 1) = S.rd.take k ++ [r] := by rw [List.take_add_one, hr]; rfl
 exact {
  st := h1
  bov := h.bov.chg h2 h.ovf
  mom := h.mom.chg h2 h.omf
  ovf := fun hf => h.ovf (h3 _ hf h.bov.lt)
  omf := fun hf => h.omf (h3 _ hf h.mom.lt)
  lo := h.lo
  kn := h.kn
  vn := h.vn
  kh := h.kh
  vf := h.vf
  dir := h.dir
  dk := h.dk
  rd := by
   rw [htake, List.map_append]
   unfold Sto.rideP
   simp only [List.map_append, h.rd]
   rfl
  rk := fun q hq => by
   rw [htake] at hq
   rcases List.mem_append.1 hq with hq | hq
   ·exact h.rk q hq
   ·simp at hq; subst hq; exact hk
  cap := h.cap
  chg := h.chg.step h2 fun b hb hf => by have := h.st.low b hf; omega }
end
end Go.Proofs.YtggknljlibhkjaaGreat
set_option linter.unusedSimpArgs false
set_option linter.unusedVariables false
namespace Go.Proofs.YtggknljlibhkjaaGreat
open Go.RowKit
section
variable {S S' : Sto} {w W W' : World} {base s c ov om k it : Nat} {l : List (Nat × Nat)} {D R : List (ByteArray × Nat)}
theorem cpInv_start (hs : StoreAt base w s S) (o1 o2 : Obj) (h1 : o1 = .map #[] 0) (h2 : o2 = .map #[] 0) :
  CpInv S w ((((w.alloc o1).alloc (.cells #[.map (some w.heap.size)] 92)).alloc o2).alloc (.cells #[.map (some (w.heap.size + 1 + 1)), .slice none 0 0, .int .i64 S.cap] 101))
   (w.heap.size + 1 + 1 + 1) (w.heap.size + 1) w.heap.size (emptySto (w.heap.size + 1 + 1) S.cap) [] [] 0 := by
 subst h1; subst h2
 have hb : Blk ((((w.alloc (.map #[] 0)).alloc (.cells #[.map (some w.heap.size)] 92)).alloc (.map #[] 0)).alloc (.cells #[.map (some (w.heap.size + 1 + 1)), .slice none 0 0, .int .i64 S.cap] 101)) (w.heap.size + 1 + 1 + 1) 101 #[.map (some (w.heap.size + 1 + 1)), .slice none 0 0, .int .i64 S.cap] := by
  have := Blk.new (((w.alloc (.map #[] 0)).alloc (.cells #[.map (some w.heap.size)] 92)).alloc (.map #[] 0)) 101 #[.map (some (w.heap.size + 1 + 1)), .slice none 0 0, .int .i64 S.cap]
  simpa using this
 have hm2 : MapIs (((w.alloc (.map #[] 0)).alloc (.cells #[.map (some w.heap.size)] 92)).alloc (.map #[] 0)) (w.heap.size + 1 + 1) [] := by
  have := MapIs.new ((w.alloc (.map #[] 0)).alloc (.cells #[.map (some w.heap.size)] 92))
  simpa using this
 have hov : Blk ((w.alloc (.map #[] 0)).alloc (.cells #[.map (some w.heap.size)] 92)) (w.heap.size + 1) 92 #[.map (some w.heap.size)] := Blk.new1 _ _ _ _
 have hft : ∀ b, foot (w.heap.size + 1 + 1 + 1) (emptySto (w.heap.size + 1 + 1) S.cap) b → b = w.heap.size + 1 + 1 + 1 ∨ b = w.heap.size + 1 + 1 := fun b hb => by
  rcases hb with rfl | rfl | hk | ⟨r, hr, _⟩ | ⟨f, x, hf, _⟩
  ·exact .inl rfl
  ·exact .inr rfl
  ·simp [Sto.rv, emptySto, Value.ownBlock] at hk
  ·cases hr
  ·cases hf
 exact {
  st := emptySto_ok hb (hm2.alloc _) (by omega) (by omega) hs.small
  bov := (hov.alloc _).alloc _
  mom := (((MapIs.new w).alloc _).alloc _).alloc _
  ovf := fun hf => by rcases hft _ hf with h | h <;> omega
  omf := fun hf => by rcases hft _ hf with h | h <;> omega
  lo := ⟨by omega, Nat.le_refl _⟩
  kn := List.nodup_nil
  vn := List.nodup_nil
  kh := fun p hp => by cases hp
  vf := fun p hp => by cases hp
  dir := rfl
  dk := fun p hp => by cases hp
  rd := rfl
  rk := fun p hp => by simp at hp
  cap := rfl
  chg := (((((Chg.refl _ _).alloc _).alloc _).alloc _).alloc _) }
def dirV (l : List (ByteArray × Nat)) : List (Value × Value) := strs (l.map fun e => (e.1, ptr e.2))
structure CpRel (S : Sto) (w W : World) (c ov om it : Nat) (S' : Sto) (l : List (Nat × Nat)) (D R : List (ByteArray × Nat)) (left : List (Value × Value)) : Prop where
 inv : CpInv S w W c ov om S' l D 0
 perm : (D ++ R).Perm S.dir
 iter : IterIs W it S.mb (dirV S.dir) left
 left : left.Perm (dirV R)
 lo : w.heap.size ≤ it ∧ it ≠ ov ∧ it ≠ om ∧ ¬ foot c S' it
theorem dirV_pick {x y : Value} {left' : List (Value × Value)} (h : ((x, y) :: left').Perm (dirV R)) : ∃ e R', x = .string e.1 ∧ y = ptr e.2 ∧ R.Perm (e :: R') ∧ left'.Perm (dirV R') := by
 have hm : (x, y) ∈ dirV R := h.subset (by simp)
 unfold dirV strs at hm
 rw [List.map_map] at hm
 obtain ⟨e, he, hxy⟩ := List.mem_map.1 hm
 obtain ⟨R1, R2, rfl⟩ := List.append_of_mem he
 have hp : (R1 ++ e :: R2).Perm (e :: (R1 ++ R2)) := List.perm_middle
 have hd : dirV (R1 ++ e :: R2) = dirV R1 ++ (x, y) :: dirV R2 := by
  unfold dirV strs
  rw [List.map_map, List.map_map, List.map_map, List.map_append, List.map_cons]
  rw [hxy]
 have hd2 : dirV (R1 ++ R2) = dirV R1 ++ dirV R2 := by unfold dirV strs; simp
 refine ⟨e, R1 ++ R2, ?_, ?_, hp, ?_⟩
 ·injection hxy with h1 _; exact h1.symm
 ·injection hxy with _ h1; exact h1.symm
 ·rw [hd2]
  rw [hd] at h
  exact (h.trans List.perm_middle).cons_inv
theorem cpRel_step {W4 W5 : World} {S2 : Sto} {l2 : List (Nat × Nat)} {nm : ByteArray} {f : Nat} {left' : List (Value × Value)} (hs : StoreAt base w s S) (hI : CpInv S w W c ov om S' l D 0) (hp : (D ++ (nm, f) :: R).Perm S.dir) (hit : IterIs W it S.mb (strs (S.dir.map fun e => (e.1, ptr e.2))) left') (hlp : left'.Perm (dirV R))
  (hlo : w.heap.size ≤ it ∧ it ≠ ov ∧ it ≠ om ∧ ¬ foot c S' it) (hI2 : CpInv S w W4 c ov om S2 l2 D 0) (hf : (nm, f).2 ∈ l2.map (·.1)) (hmb : S2.mb = S'.mb) (hc4 : Chg (fun b => b = om) W.drew W4)
  (hft : ∀ b, foot c S2 b → foot c S' b ∨ W.drew.heap.size ≤ b) (hup : MapIs W5 S'.mb (strs (putS nm (ptr (img l2 f)) (S2.dir.map fun e => (e.1, ptr e.2))))) (hc5 : Chg (fun b => b = S'.mb) W4 W5) :
  CpRel S w W5 c ov om it (S2.enter nm (img l2 f)) l2 (D ++ [(nm, f)]) R left' := by
 have hitlt := hit.lt.2
 have hmblt : S.mb < w.heap.size := hs.map.lt
 have hmbf : foot c S' S'.mb := .inr (.inl rfl)
 have hlow := hI.st.low S'.mb hmbf
 have hit4 : IterIs W4 it S.mb (strs (S.dir.map fun e => (e.1, ptr e.2))) left' :=
  IterIs.chg (w := W.drew) (hit.of_block rfl rfl) hc4 (fun e => by have := hI.lo.2; omega) (fun e => hlo.2.2.1 e)
 have hit5 := hit4.chg hc5 (fun e => by omega) (fun e => hlo.2.2.2 (e ▸ hmbf))
 refine ⟨hI2.enter hs hp hf (by rw [hmb]; exact hup) (by rw [hmb]; exact hc5), by simpa using hp, hit5, hlp, hlo.1, hlo.2.1, hlo.2.2.1, fun hb => ?_⟩
 have hb2 : foot c S2 it := hb
 rcases hft it hb2 with h | h
 ·exact hlo.2.2.2 h
 ·have : W.drew.heap.size = W.heap.size := rfl
  omega
theorem CpInv.grow {W5 : World} {r : Rd} {g cp : Nat} {t2 : TypeId} {cs2 : Array Value} (h : CpInv S w W c ov om S' l D k) (hs : StoreAt base w s S) (hr : S.rd[k]? = some r) (hk : r.f ∈ l.map (·.1))
  (hown : W5.ownsRow w.heap.size 102 1 (.slice (some ⟨g, 0, none⟩) (k + 1) cp) (k + 1) ((S'.rd.map fun r => ptr r.blk) ++ [ptr W.heap.size]))
  (hg : ((W.alloc (.cells #[ptr (img l r.f), .string r.name, .int .i64 r.pos] 104)).alloc (.cells cs2 t2)).grownBy W5 S'.rv.ownBlock) (hat : S'.rv.ownBlock = some g ∨ g = W.heap.size + 1 + 1) (hlen : S'.rd.length = k) :
  CpInv S w (W5.setCell ⟨c, 1, none⟩ (.slice (some ⟨g, 0, none⟩) (k + 1) cp)) c ov om (S'.rideP W.heap.size (img l r.f) r.name (some ⟨g, 0, none⟩) cp r.pos) l D (k + 1) ∧ Chg NoB w W5 ∧ W5.frozen? ⟨c, 1, none⟩ = false ∧ W5.cell? ⟨c, 1, none⟩ = some S'.rv := by
 have hca : Chg NoB W ((W.alloc (.cells #[ptr (img l r.f), .string r.name, .int .i64 r.pos] 104)).alloc (.cells cs2 t2)) := ((Chg.refl NoB W).alloc _).alloc _
 have hch : Chg (fun b => S'.rv.ownBlock = some b) W W5 := (hca.mono (fun _ _ h => h.elim)).grown hg (fun k hk _ => hk)
 have hb : Blk W5 W.heap.size 104 #[ptr (img l r.f), .string r.name, .int .i64 r.pos] :=
  ((Blk.new W 104 #[ptr (img l r.f), .string r.name, .int .i64 r.pos]).alloc _).grown hg (fun e => by have := (h.st.row.lt _ e.symm).2; omega)
 subst hlen
 have hrb : ∀ b, (Value.slice (some ⟨g, 0, none⟩) (S'.rd.length + 1) cp).ownBlock = some b → S'.rv.ownBlock = some b ∨ W.heap.size ≤ b := fun b hb => by
  have : b = g := by simpa [Value.ownBlock] using hb.symm
  subst this
  rcases hat with e | e
  ·exact .inl e
  ·exact .inr (by omega)
 have b0 : Blk W5 c 101 #[.map (some S'.mb), S'.rv, .int .i64 S'.cap] := h.st.blk.chg hch (own_blk_ne h.st.row h.st.blk (by decide))
 exact ⟨h.ride hs hr hk hch hb (Nat.le_refl _) hown hrb, h.chg.step hch fun b hb hk => by have := (h.st.row.lt b hk).1; omega, b0.frozen 1, b0.cell 1⟩
theorem CpInv.rowEq {W4 : World} {S2 : Sto} {l2 : List (Nat × Nat)} {rA : Option Addr} {rc : Nat} (h : CpInv S w W4 c ov om S2 l2 D k) (hrd : S2.rd = S'.rd) (hrA : S2.rA = S'.rA) (hrc : S2.rc = S'.rc) (hl : S'.rd.length = k) (h1 : S'.rA = rA) (h2 : S'.rc = rc) :
  S2.rd.length = k ∧ S2.rv = .slice rA k rc ∧ W4.ownsRow w.heap.size 102 1 (.slice rA k rc) k (S2.rd.map fun r => ptr r.blk) := by
 have e1 : S2.rd.length = k := by rw [hrd]; exact hl
 have e2 : S2.rv = .slice rA k rc := by unfold Sto.rv; rw [e1, hrA, hrc, h1, h2]
 refine ⟨e1, e2, ?_⟩
 have := h.st.row
 rw [e2, e1] at this
 exact this
theorem CpInv.cellEq {W4 : World} {S2 : Sto} {l2 : List (Nat × Nat)} {v : Value} (h : CpInv S w W4 c ov om S2 l2 D k) (hv : S2.rv = v) : W4.cell? ⟨c, 1, none⟩ = some v := by
 rw [← hv]; exact h.st.blk.cell 1
theorem CpInv.cellEqA {W4 : World} {S2 : Sto} {l2 : List (Nat × Nat)} {v : Value} (h : CpInv S w W4 c ov om S2 l2 D k) (hv : S2.rv = v) : ∀ o, (W4.alloc o).cell? ⟨c, 1, none⟩ = some v := fun o => by
 rw [← hv]; exact (h.st.blk.alloc o).cell 1
theorem CpInv.cellEqB {W4 : World} {S2 : Sto} {l2 : List (Nat × Nat)} {v : Value} (h : CpInv S w W4 c ov om S2 l2 D k) (hv : S2.rv = v) : ∀ o o2, ((W4.alloc o).alloc o2).cell? ⟨c, 1, none⟩ = some v := fun o o2 => by
 rw [← hv]; exact ((h.st.blk.alloc o).alloc o2).cell 1
def CopyPost (S : Sto) (w : World) (e : Ending) (w' : World) : Prop :=
 ∃ c ov om S' l D, e = .returned (ptr c) ∧ CpInv S w w' c ov om S' l D S.rd.length ∧ D.Perm S.dir
set_option maxHeartbeats 2000000 in
theorem copy_c (h : StoreAt base w s S) : Calls Tryz.prog 10 #[ptr s] w (CopyPost S w) := by
 have Hth := Go.Lib.hid (there_c h)
 have c0 := h.cell0
 have c1 := h.cell1
 have c2 := h.cell2
 have hsl := h.blk.lt
 have hst := cpInv_start h (.map #[] 0) (.map #[] 0) rfl rfl
 have Hm := Go.Lib.hid h.map
 have H := Go.Lib.hid h
 clear h
 have hmm := @run_makeMap Tryz.prog
 have e3 : ∀ o1 o2 o3 i, (((w.alloc o1).alloc o2).alloc o3).cell? ⟨s, i, none⟩ = w.cell? ⟨s, i, none⟩ := fun o1 o2 o3 i =>
  World.cell?_of_block (((((Chg.refl NoB w).alloc o1).alloc o2).alloc o3).block s hsl id)
 have e4 : ∀ o1 o2 o3 o4 i, ((((w.alloc o1).alloc o2).alloc o3).alloc o4).cell? ⟨s, i, none⟩ = w.cell? ⟨s, i, none⟩ := fun o1 o2 o3 o4 i =>
  World.cell?_of_block ((((((Chg.refl NoB w).alloc o1).alloc o2).alloc o3).alloc o4).block s hsl id)
 have Hst := Go.Lib.hid hst
 clear hst
 unfold ptr at Hth ⊢
 go_enter Tryz.func10, Tryz.ntmps10
 go_wp2_with fail
 refine Hth.out.mono ?_
 rintro e w' ⟨rfl, rfl⟩
 go_wp2_with (at_range; refine wpList_range_is _ rfl _ _ rfl 9 93 Tryz.underlying98 S.mb _ rfl (by repeat (first | exact Hm.out | apply MapIs.alloc)) ?_; intro w1 hit1 hch1 hsz1)
 have esz : ((((w.alloc (Obj.map #[] 0)).alloc (Obj.cells #[Value.map (some w.heap.size)] 92)).alloc (Obj.map #[] 0)).alloc (Obj.cells #[Value.map (some (w.heap.size + 1 + 1)), Value.slice none 0 0, Value.int IntKind.i64 ↑S.cap] 101)).heap.size = w.heap.size + 1 + 1 + 1 + 1 := by simp
 rw [esz] at hit1 ⊢
 have hinv1 := Hst.out.chg2 hch1 (fun _ _ hf => hf.elim)
 have hft : ∀ b, foot (w.heap.size + 1 + 1 + 1) (emptySto (w.heap.size + 1 + 1) S.cap) b → b = w.heap.size + 1 + 1 + 1 ∨ b = w.heap.size + 1 + 1 := fun b hb => by
  rcases hb with rfl | rfl | hk | ⟨r, hr, _⟩ | ⟨f, x, hf, _⟩
  ·exact .inl rfl
  ·exact .inr rfl
  ·simp [Sto.rv, emptySto, Value.ownBlock] at hk
  ·cases hr
  ·cases hf
 have Hr1 : Hid (CpRel S w w1 (w.heap.size + 1 + 1 + 1) (w.heap.size + 1) w.heap.size (w.heap.size + 1 + 1 + 1 + 1) (emptySto (w.heap.size + 1 + 1) S.cap) [] [] S.dir (dirV S.dir)) := Go.Lib.hid
  ⟨hinv1, by simp, hit1, List.Perm.refl _, by omega, by omega, by omega, fun hf => by rcases hft _ hf with h | h <;> omega⟩
 clear hit1 hch1 hsz1 esz e3 e4 Hst hinv1 hft c0 c1 c2 hsl
 go_frame
 go_loopw [7] (fun _ wr => ∃ S' l D R left, CpRel S w wr (w.heap.size + 1 + 1 + 1) (w.heap.size + 1) w.heap.size (w.heap.size + 1 + 1 + 1 + 1) S' l D R left) (fun _ wr => leftN wr (w.heap.size + 1 + 1 + 1 + 1))
 case atStart => exact ⟨_, _, _, _, _, Hr1.out⟩
 case round =>
  obtain ⟨S', l, D, R, left, hrel⟩ := hrel
  have HR := Go.Lib.hid hrel
  clear hrel Hr1
  go_wp2_with (at_next; refine wpList_next_is _ rfl _ rfl _ _ _ _ rfl HR.out.iter ?_ ?_)
  ·intro h0
   have Hdone : Hid (∃ S' l D, CpInv S w wr (w.heap.size + 1 + 1 + 1) (w.heap.size + 1) w.heap.size S' l D 0 ∧ D.Perm S.dir) := Go.Lib.hid (by
    refine ⟨_, _, _, HR.out.inv, ?_⟩
    have h1 := HR.out.left
    rw [h0] at h1
    have h2 : R = [] := by
     have := h1.length_eq
     unfold dirV strs at this
     simp at this
     exact List.eq_nil_of_length_eq_zero this.symm
    have h3 := HR.out.perm
    rw [h2, List.append_nil] at h3
    exact h3)
   clear h0 HR
   have Hst := Go.Lib.hid (let ⟨_, _, _, h, _⟩ := Hdone.out; H.out.chg h.chg (fun _ _ => id))
   have c1 := Hst.out.cell1
   rcases Hst.out.rA_cases with hrd | ⟨g, hA⟩
   ·have Hrd := Go.Lib.hid hrd
    rw [hrd] at c1
    simp only [List.length_nil] at c1
    clear hrd
    go_wp2_with fail
    refine wp_loop_rounds 1 ?_
    rw [rounds_succ]
    go_wp2_with fail
    go_ret
    obtain ⟨S', l, D, h, hp⟩ := Hdone.out
    refine ⟨w.heap.size + 1 + 1 + 1, w.heap.size + 1, w.heap.size, S', l, D, rfl, ?_, hp⟩
    rw [Hrd.out]
    exact h
   ·rw [hA] at c1
    have hn := Hst.out.nrd
    have HA := Go.Lib.hid hA
    clear hA Hst
    go_wp2_with fail
    clear c1 Hth
    obtain ⟨wo, rfl⟩ : ∃ wo : World, wo = wr := ⟨_, rfl⟩
    go_loopw [45] (fun i wr => ∃ k : Nat, k ≤ S.rd.length ∧ i = .int .i64 k ∧ ∃ S' l D, CpInv S w wr (w.heap.size + 1 + 1 + 1) (w.heap.size + 1) w.heap.size S' l D k ∧ D.Perm S.dir) (fun i _ => S.rd.length - (intOf i).toNat)
    case atStart => exact ⟨0, Nat.zero_le _, rfl, Hdone.out⟩
    case round =>
     clear Hdone
     obtain ⟨k, hk, rfl, S', l, D, hinv, hperm⟩ := hrel
     have HI := Go.Lib.hid hinv
     have Hperm := Go.Lib.hid hperm
     clear hinv hperm
     by_cases hlt : k < S.rd.length
     ·obtain ⟨r, hr⟩ : ∃ r, S.rd[k]? = some r := ⟨_, List.getElem?_eq_getElem hlt⟩
      have hrA : S.rdAt ((k : Int) + 1) = some r := by
       unfold Sto.rdAt
       rw [if_pos (by omega), show ((k : Int) + 1).toNat - 1 = k from by omega]
       exact hr
      have Hst := Go.Lib.hid (H.out.chg HI.out.chg (fun _ _ => id))
      obtain ⟨g', hA', hcell⟩ := Hst.out.rcell hrA
      obtain rfl : g' = g := by rw [HA.out] at hA'; injection hA' with e; injection e with e; exact e.symm
      rw [show ((k : Int) + 1).toNat - 1 = k from by omega] at hcell
      obtain ⟨_, _, _, hm⟩ := rdAt_some hrA
      have Hkeep : Hid (∀ W', Chg NoB w W' → W'.cell? ⟨r.blk, 0, none⟩ = some (ptr r.f) ∧ W'.cell? ⟨r.blk, 1, none⟩ = some (.string r.name) ∧ W'.cell? ⟨r.blk, 2, none⟩ = some (.int .i64 r.pos)) := Go.Lib.hid fun W' hW =>
       ⟨((H.out.rdb r hm).chg hW id).cell 0, ((H.out.rdb r hm).chg hW id).cell 1, ((H.out.rdb r hm).chg hW id).cell 2⟩
      have Hcp := Go.Lib.hid (fun W' (hc : Chg NoB wr W') => copied_c H.out (HI.out.chg2 hc (fun _ _ hf => hf.elim)) (StoreAt.rd_held (S := S) hm))
      have c1 := HI.out.st.cell1
      have Hlen : Hid (S'.rd.length = k) := Go.Lib.hid (by
       have h1 := congrArg List.length HI.out.rd
       simp only [List.length_map, List.length_take] at h1
       omega)
      rw [Hlen.out] at c1
      have Hr := Go.Lib.hid hr
      have hwr : Chg NoB w wr.drew := HI.out.chg.drew
      obtain ⟨i0, hi0, hz0, hz1, hz2⟩ := info_parts ptrinfo
      have Hi := Go.Lib.hid (And.intro hi0 (And.intro hz0 (And.intro hz1 hz2)))
      clear hi0 hz0 hz1 hz2
      have Hub := Go.Lib.hid Tryz.underlying99
      have Hwlt : Hid (w.heap.size ≤ wr.heap.size) := Go.Lib.hid HI.out.chg.size
      have Hmb : Hid True := Go.Lib.hid trivial
      clear hr hrA hA' hm Hst Hmb
      generalize hrA : S'.rA = rA at *
      generalize hrc : S'.rc = rc at *
      have HrA := Go.Lib.hid hrA
      have Hrc := Go.Lib.hid hrc
      clear hrA hrc
      have Hnrd := Go.Lib.hid hn
      unfold ptr at hcell Hkeep Hcp
      go_wp2_with fail
      refine regionT 25 (fun W' => (W'.cell? ⟨r.blk, 0, none⟩ = some (.pointer (some ⟨r.f, 0, none⟩)) ∧ W'.cell? ⟨r.blk, 1, none⟩ = some (.string r.name) ∧ W'.cell? ⟨r.blk, 2, none⟩ = some (.int .i64 r.pos)) ∧ W'.cell? ⟨w.heap.size + 1 + 1 + 1, 1, none⟩ = some (.slice rA k rc)) (by kernel_rfl) (by decide) (⟨Hkeep.out _ hwr, c1⟩) (fun inv0 hHeld => ?_)
      refine takeT (i := 0) (t := 49) (v := ?v0) rfl (by kernel_rfl) (fun _ _ _ h => h) rfl (Or.inl ⟨by rfl, ?h0⟩) inv0 hHeld ?r0
      case h0 => (intro w hSw; (try dsimp only at hSw); go_simp; try with_reducible rfl)
      intro inv01
      clear inv0
      simp only [sw1, sw2, sw3]
      refine takeT (i := 1) (t := 50) (v := ?v1) rfl (by kernel_rfl) (fun _ _ _ h => h) rfl (Or.inl ⟨by rfl, ?h1⟩) inv01 hHeld ?r1
      case h1 => (intro w hSw; (try dsimp only at hSw); go_simp; try with_reducible rfl)
      intro inv11
      clear inv01
      simp only [sw1, sw2, sw3]
      refine takeT (i := 2) (t := 51) (v := ?v2) rfl (by kernel_rfl) (fun _ _ _ h => h) rfl (Or.inl ⟨by rfl, ?h2⟩) inv11 hHeld ?r2
      case h2 => (intro w hSw; (try dsimp only at hSw); go_simp; try with_reducible rfl)
      intro inv21
      clear inv11
      simp only [sw1, sw2, sw3]
      refine takeT (i := 3) (t := 52) (v := ?v3) rfl (by kernel_rfl) (fun _ _ _ h => h) rfl (Or.inl ⟨by rfl, ?h3⟩) inv21 hHeld ?r3
      case h3 => (intro w hSw; (try dsimp only at hSw); go_simp; try with_reducible rfl)
      intro inv31
      clear inv21
      simp only [sw1, sw2, sw3]
      refine takeT (i := 4) (t := 53) (v := ?v4) rfl (by kernel_rfl) (fun _ _ _ h => h) rfl (Or.inl ⟨by rfl, ?h4⟩) inv31 hHeld ?r4
      case h4 => (intro w hSw; (try dsimp only at hSw); go_simp; try with_reducible rfl)
      intro inv41
      clear inv31
      simp only [sw1, sw2, sw3]
      refine takeT (i := 5) (t := 54) (v := ?v5) rfl (by kernel_rfl) (fun _ _ _ h => h) rfl (Or.inl ⟨by rfl, ?h5⟩) inv41 hHeld ?r5
      case h5 => (intro w hSw; (try dsimp only at hSw); go_simp; try with_reducible rfl)
      intro inv51
      clear inv41
      simp only [sw1, sw2, sw3]
      refine takeT (i := 6) (t := 55) (v := ?v6) rfl (by kernel_rfl) (fun _ _ _ h => h) rfl (Or.inl ⟨by rfl, ?h6⟩) inv51 hHeld ?r6
      case h6 => (intro w hSw; (try dsimp only at hSw); go_simp; try with_reducible rfl)
      intro inv61
      clear inv51
      simp only [sw1, sw2, sw3]
      refine takeT (i := 7) (t := 56) (v := ?v7) rfl (by kernel_rfl) (fun _ _ _ h => h) rfl (Or.inl ⟨by rfl, ?h7⟩) inv61 hHeld ?r7
      case h7 => (intro w hSw; (try dsimp only at hSw); go_simp; try with_reducible rfl)
      intro inv71
      clear inv61
      simp only [sw1, sw2, sw3]
      refine takeT (i := 8) (t := 57) (v := ?v8) rfl (by kernel_rfl) (fun _ _ _ h => h) rfl (Or.inl ⟨by rfl, ?h8⟩) inv71 hHeld ?r8
      case h8 => (intro w hSw; (try dsimp only at hSw); go_simp; try with_reducible rfl)
      intro inv81
      clear inv71
      simp only [sw1, sw2, sw3]
      refine takeT (i := 9) (t := 58) (v := ?v9) rfl (by kernel_rfl) (fun _ _ _ h => h) rfl (Or.inl ⟨by rfl, ?h9⟩) inv81 hHeld ?r9
      case h9 => (intro w hSw; (try dsimp only at hSw); go_simp; try with_reducible rfl)
      intro inv91
      clear inv81
      simp only [sw1, sw2, sw3]
      refine takeT (i := 11) (t := 60) (v := ?v11) rfl (by kernel_rfl) (fun _ _ _ h => h) rfl (Or.inl ⟨by rfl, ?h11⟩) inv91 hHeld ?r11
      case h11 => (intro w hSw; (try dsimp only at hSw); go_simp; try with_reducible rfl)
      intro inv111
      clear inv91
      simp only [sw1, sw2, sw3]
      refine takeT (i := 12) (t := 61) (v := ?v12) rfl (by kernel_rfl) (fun _ _ _ h => h) rfl (Or.inl ⟨by rfl, ?h12⟩) inv111 hHeld ?r12
      case h12 => (intro w hSw; (try dsimp only at hSw); go_simp; try with_reducible rfl)
      intro inv121
      clear inv111
      simp only [sw1, sw2, sw3]
      refine takeT (i := 13) (t := 62) (v := ?v13) rfl (by kernel_rfl) (fun _ _ _ h => h) rfl (Or.inl ⟨by rfl, ?h13⟩) inv121 hHeld ?r13
      case h13 => (intro w hSw; (try dsimp only at hSw); go_simp; try with_reducible rfl)
      intro inv131
      clear inv121
      simp only [sw1, sw2, sw3]
      refine takeT (i := 14) (t := 63) (v := ?v14) rfl (by kernel_rfl) (fun _ _ _ h => h) rfl (Or.inl ⟨by rfl, ?h14⟩) inv131 hHeld ?r14
      case h14 => (intro w hSw; (try dsimp only at hSw); go_simp; try with_reducible rfl)
      intro inv141
      clear inv131
      simp only [sw1, sw2, sw3]
      refine takeT (i := 15) (t := 64) (v := ?v15) rfl (by kernel_rfl) (fun _ _ _ h => h) rfl (Or.inl ⟨by rfl, ?h15⟩) inv141 hHeld ?r15
      case h15 => (intro w hSw; (try dsimp only at hSw); go_simp; try with_reducible rfl)
      intro inv151
      clear inv141
      simp only [sw1, sw2, sw3]
      refine takeT (i := 16) (t := 65) (v := ?v16) rfl (by kernel_rfl) (fun _ _ _ h => h) rfl (Or.inl ⟨by rfl, ?h16⟩) inv151 hHeld ?r16
      case h16 => (intro w hSw; (try dsimp only at hSw); go_simp; try with_reducible rfl)
      intro inv161
      clear inv151
      simp only [sw1, sw2, sw3]
      refine takeT (i := 17) (t := 66) (v := ?v17) rfl (by kernel_rfl) (fun _ _ _ h => h) rfl (Or.inl ⟨by rfl, ?h17⟩) inv161 hHeld ?r17
      case h17 => (intro w hSw; (try dsimp only at hSw); go_simp; try with_reducible rfl)
      intro inv171
      clear inv161
      simp only [sw1, sw2, sw3]
      refine takeT (i := 18) (t := 67) (v := ?v18) rfl (by kernel_rfl) (fun _ _ _ h => h) rfl (Or.inl ⟨by rfl, ?h18⟩) inv171 hHeld ?r18
      case h18 => (intro w hSw; (try dsimp only at hSw); go_simp; try with_reducible rfl)
      intro inv181
      clear inv171
      simp only [sw1, sw2, sw3]
      refine callT (i := 10) (t := 59) (f := 35) (args := #[.pointer (some ⟨r.f, 0, none⟩), .pointer (some ⟨w.heap.size + 1, 0, none⟩)]) rfl (by kernel_rfl) rfl (by rfl) ?hx10 inv181 (by decide) ?hc10
      case hx10 => (go_simp; try rfl)
      case hc10 =>
       refine (Hcp.out _ (Chg.refl NoB wr).drew).mono ?_
       rintro e w4 ⟨S2, l2, rfl, hI2, hfl2, hmb, hrd, hrA4, hrc4, hc4, hft4⟩
       have hk4 : Chg NoB w w4 := hI2.chg
       have hs4 : wr.heap.size ≤ w4.heap.size := hc4.size
       obtain ⟨hlen4, hrv4, hrow4⟩ := CpInv.rowEq hI2 hrd hrA4 hrc4 Hlen.out HrA.out Hrc.out
       have hc41 := CpInv.cellEq hI2 hrv4
       have hc42 := CpInv.cellEqA hI2 hrv4
       have hc43 := CpInv.cellEqB hI2 hrv4
       refine ⟨_, rfl, ⟨Hkeep.out _ hk4, hc41⟩, fun inv101 hHeld10 => ?_⟩
       simp only [sw1, sw2, sw3]
       refine takeT (i := 19) (t := 68) (v := ?v19) rfl (by kernel_rfl) (fun _ _ _ h => h) rfl (Or.inl ⟨by rfl, ?h19⟩) inv101 hHeld10 ?r19
       case h19 => (intro w hSw; (try dsimp only at hSw); go_simp; try with_reducible rfl)
       intro inv191
       clear inv101
       simp only [sw1, sw2, sw3]
       refine valT (i := 20) (t := 69) (v := ?v20) (w' := w4.alloc (Obj.cells #[.pointer (some ⟨img l2 r.f, 0, none⟩), .string r.name, .int .i64 r.pos] 104)) rfl (by kernel_rfl) rfl (by rfl) ?hx20 inv191 (by decide) (⟨Hkeep.out _ (hk4.alloc _), hc42 _⟩) ?r20
       case hx20 => (go_simp; try with_reducible rfl)
       intro inv201 hHeld20
       clear inv191
       simp only [sw1, sw2, sw3]
       refine valT (i := 21) (t := 70) (v := ?v21) (w' := (w4.alloc (Obj.cells #[.pointer (some ⟨img l2 r.f, 0, none⟩), .string r.name, .int .i64 r.pos] 104)).alloc (Obj.cells #[.pointer (some ⟨w4.heap.size, 0, none⟩)] 102)) rfl (by kernel_rfl) rfl (by rfl) ?hx21 inv201 (by decide) (⟨Hkeep.out _ ((hk4.alloc _).alloc _), hc43 _ _⟩) ?r21
       case hx21 => (go_simp; try with_reducible rfl)
       intro inv211 hHeld21
       clear inv201
       simp only [sw1, sw2, sw3]
       refine oneTI (i := 22) rfl (by kernel_rfl) inv211 (by decide) (fun inv221 => ?_)
       clear inv211
       refine step_append_lies _ (by rfl) (.tmp 53) (.tmp 70) 99 (by rfl) w.heap.size 102 i0 _ 1 8 Hub.out Hi.out.1 Hi.out.2.1 Hi.out.2.2.1 Hi.out.2.2.2 (by rfl) (by omega) (.slice rA k rc) k (S2.rd.map fun r => ptr r.blk) (by rfl) ((hrow4.alloc _).alloc _) ⟨w4.heap.size + 1, 0, none⟩ 1 1 [ptr w4.heap.size] (by rfl) (by rfl) (World.news_of_block (Blk.new1 w4 _ _ _)) (by simp [ptr, Value.oneCell']) (by omega) (by have := Hnrd.out; unfold maxLen; omega) (by have := Hnrd.out; omega) (by have := hs4; have := Hwlt.out; simp; omega) (w4.heap.size + 1 + 1) (by simp) ?_
       intro gg cap w5 hown hgrow hat hlt2
       have hgr := CpInv.grow hI2 H.out Hr.out hfl2 hown (by rw [hrv4]; exact hgrow) (by rw [hrv4]; exact hat) hlen4
       have hf5 := hgr.2.2.1
       have hc5 := hgr.2.2.2
       rw [hrv4] at hc5
       have hH22 := And.intro (Hkeep.out _ hgr.2.1) hc5
       refine ⟨fun _ => hH22, ?_⟩
       try simp only [Act.put, List.setIfInBounds_toArray, List.set_cons_zero, List.set_cons_succ]
       refine takeT (i := 23) (t := 72) (v := ?v23) rfl (by kernel_rfl) (fun _ _ _ h => h) rfl (Or.inl ⟨by rfl, ?h23⟩) inv221 hH22 ?r23
       case h23 => (intro w hSw; (try dsimp only at hSw); go_simp; try with_reducible rfl)
       intro inv231
       clear inv221
       try simp only [sw1, sw2, sw3]
       refine takeT (i := 24) (t := 73) (v := ?v24) rfl (by kernel_rfl) (fun _ _ _ h => h) rfl (Or.inl ⟨by rfl, ?h24⟩) inv231 hH22 ?r24
       case h24 => (intro w hSw; (try dsimp only at hSw); go_simp; try with_reducible rfl)
       intro inv241
       clear inv231
       try simp only [sw1, sw2, sw3]
       refine lastT (i := 25) (w' := w5.setCell ⟨w.heap.size + 1 + 1 + 1, 1, none⟩ (.slice (some ⟨gg, 0, none⟩) (k + 1) cap)) rfl (by kernel_rfl) rfl (by rfl) ?hx25 (by decide) (by kernel_rfl) ?_
       case hx25 => (go_simp; try with_reducible rfl)
       have Hn := Go.Lib.hid hgr.1
       clear inv241 hH22 hHeld10 hHeld20 hHeld21 hgr hown hgrow hat hlt2 hf5 hc5 hI2 hfl2 hmb hrd hrA4 hrc4 hc4 hft4 hk4 hs4 hlen4 hrv4 hrow4 hc41 hc42 hc43 c1
       go_wp2_with fail
       go_roundw
       case rel => exact ⟨k + 1, by omega, by go_num, _, _, _, Hn.out, Hperm.out⟩
       case measure => simp [intOf]; omega
     ·obtain rfl : k = S.rd.length := by omega
      go_wp2_with fail
      go_ret
      exact ⟨_, _, _, _, _, _, rfl, HI.out, Hperm.out⟩
  ·intro x y left' w2 hxl hp hit' hch hsz hen
   obtain ⟨e, R', hx, hy, hRp, hlp⟩ := dirV_pick (hp.symm.trans HR.out.left)
   subst hx hy
   have hlo := HR.out.lo
   have hinv2 := HR.out.inv.chg2 hch (fun b _ (hb : b = _) => by subst hb; exact ⟨hlo.2.1, hlo.2.2.1, hlo.1, hlo.2.2.2⟩)
   have hperm : (D ++ e :: R').Perm S.dir := (List.Perm.append_left D hRp).symm.trans HR.out.perm |> fun h => h
   have hh : e.2 ∈ S.held := by unfold Sto.held; exact List.mem_append.2 (.inl (List.mem_map.2 ⟨e, hperm.subset (by simp), rfl⟩))
   have Hcp := Go.Lib.hid (fun W' (hc : Chg NoB w2 W') => copied_c H.out (hinv2.chg2 hc (fun _ _ hf => hf.elim)) hh)
   have HI := Go.Lib.hid hinv2
   have Hpm := Go.Lib.hid hperm
   have Hit := Go.Lib.hid hit'
   have Hlp := Go.Lib.hid hlp
   have Hmeas := Go.Lib.hid (And.intro HR.out.iter.leftN hp.length_eq)
   have Hlo := Go.Lib.hid hlo
   have c0 := hinv2.st.cell0
   clear hinv2 hperm hh hit' hlp hRp hxl hch hsz hlo
   obtain ⟨nm, f⟩ := e
   unfold ptr at hen Hcp
   simp only at hen Hcp c0
   have Hne : Hid (w.heap.size + 1 + 1 + 1 ≠ S'.mb) := Go.Lib.hid (Ne.symm (HI.out.st.map.blk_ne HI.out.st.blk))
   go_wp2_with fail
   set_option maxRecDepth 100000 in
   go_region_held3 (fun W' => W'.cell? ⟨w.heap.size + 1 + 1 + 1, 0, none⟩ = some (.map (some S'.mb)))
    (first
     | exact c0
     | exact hk4
     | exact put_keep_set Hne.out hk4)
    (first
     | (go_at_call 35; refine (Hcp.out _ (Chg.refl NoB w2).drew).mono ?_; rintro e w4 ⟨S2, l2, rfl, hI2, hfl2, hmb, hrd, hrA, hrc, hc4, hft4⟩; have hk4 := hI2.st.cell0; rw [hmb] at hk4; have hm4 := hI2.st.map; rw [hmb] at hm4; have hup4 := (updO_spec w4 (P := Tryz.prog) Tryz.underlying98 Tryz.underlying9 hm4 nm (ptr (img l2 f))).1; unfold ptr at hup4))
   have hup := (updO_spec w4 (P := Tryz.prog) Tryz.underlying98 Tryz.underlying9 hm4 nm (ptr (img l2 f))).2
   have hc5 : Chg (fun b => b = S'.mb) w4 (setB w4 S'.mb (updO Tryz.prog w4 98 S'.mb (S2.dir.map fun e => (e.1, ptr e.2)) nm (ptr (img l2 f)))) := setB_chg (F := fun b => b = S'.mb) (Chg.refl _ _) S'.mb (fun _ => rfl) _
   have hsz2 : w2.heap.size ≤ w4.heap.size := hc4.size
   have Hrel := Go.Lib.hid (cpRel_step H.out HI.out Hpm.out Hit.out Hlp.out Hlo.out hI2 hfl2 hmb hc4 hft4 hup hc5)
   have Hmeas2 : Hid (leftN (setB w4 S'.mb (updO Tryz.prog w4 98 S'.mb (S2.dir.map fun e => (e.1, ptr e.2)) nm (ptr (img l2 f)))) (w.heap.size + 1 + 1 + 1 + 1) < leftN wr (w.heap.size + 1 + 1 + 1 + 1)) := Go.Lib.hid (by
    rw [Hrel.out.iter.leftN, Hmeas.out.1, Hmeas.out.2]
    simp)
   clear hup hup4 hm4 hk4 hI2 hfl2 hmb hrd hrA hrc hc4 hft4 hc5
   unfold ptr at Hrel Hmeas2
   go_wp2_with fail
   go_roundw
   case rel =>
    repeat apply Exists.intro
    exact ⟨⟨_, _, _, _, _, Hrel.out⟩, rfl⟩
   case measure => exact Hmeas2.out
end
end Go.Proofs.YtggknljlibhkjaaGreat
set_option linter.unusedSimpArgs false
set_option linter.unusedVariables false
namespace Go.Proofs.YtggknljlibhkjaaGreat
open Go.RowKit
structure Sim (v v' : V) (ρ : Nat → Nat) : Prop where
 cap : v'.cap = v.cap
 dir : v'.dir.Perm (v.dir.map fun e => (e.1, ρ e.2))
 rd : v'.rd = v.rd.map fun r => ⟨ρ r.n, r.name, r.pos⟩
 bytes : ∀ n ∈ v.held, v'.bytes (ρ n) = v.bytes n
 inj : ∀ a ∈ v.held, ∀ b ∈ v.held, ρ a = ρ b → a = b
 keys : (v.dir.map (·.1)).Nodup
def idx (l : List (Nat × Nat)) (f : Nat) : Nat := (l.map (·.1)).idxOf f
section
variable {l : List (Nat × Nat)} {f g : Nat}
theorem idx_lt (h : f ∈ l.map (·.1)) : idx l f < l.length := by
 have := List.idxOf_lt_length_iff.2 h
 simpa [idx] using this
theorem idx_get (h : f ∈ l.map (·.1)) : (l[idx l f]'(idx_lt h)).1 = f := by
 have h1 : List.idxOf f (l.map (fun p : Nat × Nat => p.1)) < (l.map (fun p : Nat × Nat => p.1)).length := by
  have := idx_lt h
  unfold idx at this
  rw [List.length_map]
  exact this
 have h2 : (l.map (fun p : Nat × Nat => p.1))[List.idxOf f (l.map (fun p : Nat × Nat => p.1))]'h1 = f := List.getElem_idxOf h1
 rw [List.getElem_map] at h2
 exact h2
theorem img_idx (hk : (l.map (·.1)).Nodup) (h : f ∈ l.map (·.1)) : (l.map (·.2)).getD (idx l f) 0 = img l f := by
 have h1 := img_mem h
 obtain ⟨i, hi, e⟩ := List.mem_iff_getElem.1 h1
 have h2 : i = idx l f := (List.getElem_inj (h₀ := by simpa using hi) (h₁ := by simpa using idx_lt h) hk).1 (by
  simp only [List.getElem_map, e, idx_get h])
 subst h2
 have hlt := idx_lt h
 simp [List.getD_eq_getElem?_getD, hlt, e]
end
section
variable {S S' : Sto} {w W : World} {base s c ov om : Nat} {l : List (Nat × Nat)} {D : List (ByteArray × Nat)} {v : V} {φ : List Nat}
theorem CpInv.sim (h : CpInv S w W c ov om S' l D S.rd.length) (hs : StoreAt base w s S) (hp : D.Perm S.dir) (hr : Rep S v φ) :
  ∃ v' φ', Rep S' v' φ' ∧ Sim v v' (fun n => idx l (φ.getD n 0)) := by
 have hrk : ∀ r ∈ S.rd, r.f ∈ l.map (·.1) := fun r hr => h.rk r (by simpa using hr)
 have hheld : ∀ n ∈ v.held, φ.getD n 0 ∈ l.map (·.1) ∧ n < φ.length := fun n hn => by
  have hlt := hr.held_lt n hn
  refine ⟨?_, hlt⟩
  have h1 : φ.getD n 0 ∈ S.held := by rw [hr.held]; exact List.mem_map.2 ⟨n, hn, rfl⟩
  unfold Sto.held at h1
  rcases List.mem_append.1 h1 with h1 | h1
  ·obtain ⟨e, he, e2⟩ := List.mem_map.1 h1
   rw [← e2]; exact (h.dk e (hp.symm.subset he)).2
  ·obtain ⟨e, he, e2⟩ := List.mem_map.1 h1
   rw [← e2]; exact hrk e he
 let fb : Nat → List UInt8 := fun f => ((S.fl f).map (·.b)).getD []
 have hbytes : ∀ (i : Nat) (hi : i < l.length), (V.mk v.cap (l.map fun p => fb p.1) (D.map fun e => (e.1, idx l e.2)) (v.rd.map fun r => ⟨idx l (φ.getD r.n 0), r.name, r.pos⟩)).bytes i = fb l[i].1 := fun i hi => by
  unfold V.bytes
  simp [List.getD_eq_getElem?_getD, hi]
 refine ⟨⟨v.cap, l.map fun p => fb p.1, D.map fun e => (e.1, idx l e.2), v.rd.map fun r => ⟨idx l (φ.getD r.n 0), r.name, r.pos⟩⟩, l.map (·.2), ?_, ?_⟩
 ·refine ⟨by rw [h.cap, hr.cap], by simp, h.vn, ?_, ?_, ?_, ?_, ?_⟩
  ·intro i hi
   have hi' : i < l.length := by simpa using hi
   obtain ⟨A, c', x, h1, h2⟩ := h.vf l[i] (List.getElem_mem hi')
   refine ⟨A, c', ?_⟩
   rw [hbytes i hi', List.getElem_map, h2]
   simp only [fb, h1, Option.map_some, Option.getD_some]
  ·rw [h.dir]
   simp only [List.map_map, Function.comp_def]
   apply List.map_congr_left
   intro e he
   rw [img_idx h.kn (h.dk e he).2]
  ·intro e he
   obtain ⟨e', he', rfl⟩ := List.mem_map.1 he
   have := idx_lt (h.dk e' he').2
   simpa using this
  ·have h1 := h.rd
   rw [List.take_length] at h1
   have h2 := congrArg (List.map fun t : Nat × ByteArray × Nat => (img l t.1, t.2.1, t.2.2)) hr.rd
   simp only [List.map_map, Function.comp_def] at h1 h2 ⊢
   rw [h1, h2]
   apply List.map_congr_left
   intro r hr'
   rw [img_idx h.kn (hheld r.n (by unfold V.held; exact List.mem_append.2 (.inr (List.mem_map.2 ⟨r, hr', rfl⟩)))).1]
  ·intro r hr'
   obtain ⟨q, hq, rfl⟩ := List.mem_map.1 hr'
   have := idx_lt (hheld q.n (by unfold V.held; exact List.mem_append.2 (.inr (List.mem_map.2 ⟨q, hq, rfl⟩)))).1
   simpa using this
 ·refine ⟨rfl, ?_, rfl, ?_, ?_, ?_⟩
  ·have h1 := hp.map fun e : ByteArray × Nat => (e.1, idx l e.2)
   rw [hr.dir, List.map_map] at h1
   exact h1
  ·intro n hn
   obtain ⟨h1, h2⟩ := hheld n hn
   obtain ⟨A, c', h3⟩ := hr.fl n h2
   rw [hbytes _ (idx_lt h1)]
   simp only [fb]
   rw [idx_get h1, getD_lt h2, h3]
   rfl
  ·intro a ha b hb e
   obtain ⟨h1, h2⟩ := hheld a ha
   obtain ⟨h3, h4⟩ := hheld b hb
   have e1 := idx_get h1
   have e2 := idx_get h3
   refine getD_inj hr.nd h2 h4 ?_
   have e' : idx l (φ.getD a 0) = idx l (φ.getD b 0) := e
   have hh : ∀ (i j : Nat) (hi : i < l.length) (hj : j < l.length), i = j → l[i].1 = l[j].1 := fun i j hi hj h => by subst h; rfl
   rw [← e1, ← e2]
   exact hh _ _ (idx_lt h1) (idx_lt h3) e'
  ·have := hs.keys
   rw [hr.dir, List.map_map] at this
   exact this
end
theorem copy_v {base : Nat} {w : World} {s : Nat} {v : V} {F : Nat → Prop} (h : StoreV base w s v F) : Calls Tryz.prog 10 #[ptr s] w fun e w' =>
  ∃ c v' F' ρ, e = .returned (ptr c) ∧ StoreV w.heap.size w' c v' F' ∧ Sim v v' ρ ∧ StoreV base w' s v F ∧ Chg NoB w w' := by
 obtain ⟨S, φ, h1, h2, rfl⟩ := h
 refine (copy_c h1).mono fun e w' hp => ?_
 obtain ⟨c, ov, om, S', l, D, he, hi, hperm⟩ := hp
 obtain ⟨v', φ', h3, h4⟩ := hi.sim h1 hperm h2
 exact ⟨c, v', _, _, he, ⟨S', φ', hi.st, h3, rfl⟩, h4, ⟨S, φ, h1.chg hi.chg fun _ _ => id, h2, rfl⟩, hi.chg⟩
end Go.Proofs.YtggknljlibhkjaaGreat
