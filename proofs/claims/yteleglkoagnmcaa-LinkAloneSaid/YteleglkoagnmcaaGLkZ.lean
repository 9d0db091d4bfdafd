/- What is proved: how an image that is made grows. Conditions: as each theorem says. · What is proved: a row whose elements are of any size grows by noughts. Conditions: as each theorem says. -/
import Derived.Test.YteleglkoagnmcaaLkY
import Derived.Test.YteleglkoagnmcaaGLwC
set_option linter.unusedSimpArgs false
set_option linter.unusedVariables false
namespace Go.Proofs.Yteleglkoagnmcaa
open Go Go.RowKit
theorem plsCells_app (l m : List (Pl × PA)) : plsCells (l ++ m) = plsCells l ++ plsCells m := by simp [plsCells]
theorem plsCells_one (x : Pl × PA) : plsCells [x] = (plArr x.1 x.2).toList := by simp [plsCells]
theorem plsCells_set : ∀ (l : List (Pl × PA)) (i : Nat) (x : Pl × PA) (d : Nat), l[i]? = some x → plsCells (l.set i ({ x.1 with data := d }, x.2)) = (plsCells l).set (i * 5 + 3) (.int .i64 (d : Int))
  | [], i, x, d, h => by simp at h
  | y :: l, 0, x, d, h => by
    simp at h
    subst h
    simp [plsCells, plArr]
  | y :: l, i + 1, x, d, h => by
    have := plsCells_set l i x d (by simpa using h)
    simp only [plsCells, List.set_cons_succ, List.flatMap_cons] at this ⊢
    rw [this]
    have h5 : (plArr y.1 y.2).toList.length = 5 := rfl
    rw [List.set_append_right _ _ (by omega), h5]
    congr 2
    omega
section
variable {B W W1 : World} {ib g c : Nat} {wv mv : Value} {ws m : List Nat} {l : List (Pl × PA)} {x : Pl × PA}
theorem pls_one5 (l : List (Pl × PA)) : ∀ u ∈ plsCells l, u.oneCell' = true := by
  intro u hu
  unfold plsCells at hu
  obtain ⟨x, _, hx⟩ := List.mem_flatMap.1 hu
  simp [plArr] at hx
  rcases hx with rfl | rfl | rfl | rfl | rfl <;> rfl
theorem off_ib (h : ImB B W ib wv mv ws l) {t : TypeId} (ht : IMT ≠ t) : Off t (fun k => k = ib) W := off_blk h.box ht
theorem chg_ib (v : Value) (j : Nat) : Chg (fun k => k = ib) W1 (W1.setCell ⟨ib, j, none⟩ v) := (Chg.refl (fun k => k = ib) W1).setCell (p := ⟨ib, j, none⟩) (fun _ => rfl) v
/-- a module is put behind the others -/
theorem ImB.pushM {mv1 : Value} (h : ImB B W ib wv mv ws l) (own : W1.ownsRow B.heap.size PLT 5 mv1 (l.length + 1) (plsCells l ++ (plArr x.1 x.2).toList)) (gr : W.grownBy W1 mv.ownBlock) (he : EntAt W x.1 x.2) : ImB B (W1.setCell ⟨ib, 1, none⟩ mv1) ib wv mv1 ws (l ++ [x]) := by
  have hg := grown_own gr
  have hb1 : Blk W1 ib IMT #[wv, mv] := h.box.chg hg fun e => own_blk_ne h.mods h.box (by decide) e
  have hr1 := own_chg h.row hg fun k hk e => own_own_ne h.row h.mods (by decide) hk e
  have hoff : Off INT (fun k => mv.ownBlock = some k) W := off_own h.mods (by decide)
  have hibn : mv1.ownBlock ≠ some ib := own_blk_ne own hb1 (by decide)
  exact {
    box := hb1.set_ 1 mv1
    row := own_chg hr1 (chg_ib mv1 1) fun k hk e => own_blk_ne hr1 hb1 (by decide) (by rw [← e]; exact hk)
    mods := by
      rw [List.length_append, plsCells_app, plsCells_one]
      exact own_chg own (chg_ib mv1 1) fun k hk e => hibn (by rw [← e]; exact hk)
    ent := fun y hy => by
      have key : ∀ y : Pl × PA, EntAt W y.1 y.2 → EntAt (W1.setCell ⟨ib, 1, none⟩ mv1) y.1 y.2 := fun y hy => (hy.off hg hoff).off (chg_ib mv1 1) (off_blk hb1 (by decide))
      rcases List.mem_append.1 hy with hy | hy
      · exact key y (h.ent y hy)
      · rw [List.mem_singleton] at hy
        subst hy
        exact key y he
    chg := (h.chg.step hg fun k hk e => by have := own_at_ h.mods e; omega).step (chg_ib mv1 1) fun k hk e => by have := h.ibs; omega
    ibs := h.ibs
    num := h.num }
/-- words are put behind the others -/
theorem ImB.pushW {wv1 : Value} (h : ImB B W ib wv mv ws l) (own : W1.ownsRow B.heap.size U32T 1 wv1 (ws.length + m.length) (codeCells ws ++ codeCells m)) (gr : W.grownBy W1 wv.ownBlock) (hm : ∀ x ∈ m, x < 4294967296) : ImB B (W1.setCell ⟨ib, 0, none⟩ wv1) ib wv1 mv (ws ++ m) l := by
  have hg := grown_own gr
  have hb1 : Blk W1 ib IMT #[wv, mv] := h.box.chg hg fun e => own_blk_ne h.row h.box (by decide) e
  have hr1 := own_chg h.mods hg fun k hk e => own_own_ne h.mods h.row (by decide) hk e
  have hoff : Off INT (fun k => wv.ownBlock = some k) W := off_own h.row (by decide)
  have hibn : wv1.ownBlock ≠ some ib := own_blk_ne own hb1 (by decide)
  exact {
    box := hb1.set_ 0 wv1
    row := by
      rw [List.length_append, codeCells_app]
      exact own_chg own (chg_ib wv1 0) fun k hk e => hibn (by rw [← e]; exact hk)
    mods := own_chg hr1 (chg_ib wv1 0) fun k hk e => own_blk_ne hr1 hb1 (by decide) (by rw [← e]; exact hk)
    ent := fun y hy => ((h.ent y hy).off hg hoff).off (chg_ib wv1 0) (off_blk hb1 (by decide))
    chg := (h.chg.step hg fun k hk e => by have := own_at_ h.row e; omega).step (chg_ib wv1 0) fun k hk e => by have := h.ibs; omega
    ibs := h.ibs
    num := fun y hy => by
      rcases List.mem_append.1 hy with hy | hy
      · exact h.num y hy
      · exact hm y hy }
/-- where a module's data begin -/
theorem ImB.setD (h : ImB B W ib wv (.slice (some ⟨g, 0, none⟩) l.length c) ws l) {i : Nat} (hx : l[i]? = some x) (d : Nat) : ImB B (W.setCell ⟨g, i * 5 + 3, none⟩ (.int .i64 (d : Int))) ib wv (.slice (some ⟨g, 0, none⟩) l.length c) ws (l.set i ({ x.1 with data := d }, x.2)) := by
  have hlt := (List.getElem?_eq_some_iff.1 hx).1
  have hc : Chg (fun k => k = g) W (W.setCell ⟨g, i * 5 + 3, none⟩ (.int .i64 (d : Int))) := (Chg.refl (fun k => k = g) W).setCell (p := ⟨g, i * 5 + 3, none⟩) (fun _ => rfl) _
  exact {
    box := h.box.far (p := ⟨g, i * 5 + 3, none⟩) (fun e => own_blk_ne h.mods h.box (by decide) (by rw [e]; rfl)) _
    row := own_chg h.row hc fun k hk e => own_own_ne h.row h.mods (by decide) hk (by rw [e]; rfl)
    mods := by
      rw [List.length_set, plsCells_set l i x d hx]
      exact own_setK h.mods (by omega) _
    ent := fun y hy => by
      have hoff : Off INT (fun k => k = g) W := fun k hk hl => off_own h.mods (t := INT) (by decide) k (by rw [hk]; rfl) hl
      rcases List.mem_or_eq_of_mem_set hy with hy | hy
      · exact (h.ent y hy).off hc hoff
      · subst hy
        have := (h.ent x (List.mem_of_getElem? hx)).off hc hoff
        exact ⟨this.row, this.cap, this.tag⟩
    chg := h.chg.step hc fun k hk e => by have := own_at_ h.mods (k := g) rfl; omega
    ibs := h.ibs
    num := h.num }
end
/-! ### the modules while they are laid -/
def pls0 : List Ob → Nat → List Pl
  | [], _ => []
  | o :: l, n => plOf o n 0 :: pls0 l (n + o.code.length)
theorem pls0_len : ∀ (l : List Ob) (n : Nat), (pls0 l n).length = l.length
  | [], _ => rfl
  | o :: l, n => by simp [pls0, pls0_len l]
theorem pls0_snoc : ∀ (l : List Ob) (o : Ob) (n : Nat), pls0 (l ++ [o]) n = pls0 l n ++ [plOf o (n + cLen l) 0]
  | [], o, n => by simp [pls0, cLen]
  | q :: l, o, n => by
    rw [List.cons_append, pls0, pls0_snoc l o, pls0, List.cons_append, cLen_cons]
    congr 4
    omega
theorem pls0_get : ∀ (l : List Ob) (n k : Nat) (o : Ob), l[k]? = some o → (pls0 l n)[k]? = some (plOf o (n + cLen (l.take k)) 0)
  | [], n, k, o, h => by simp at h
  | q :: l, n, 0, o, h => by
    simp at h
    subst h
    simp [pls0, cLen]
  | q :: l, n, k + 1, o, h => by
    rw [pls0, List.getElem?_cons_succ, pls0_get l _ k o (by simpa using h), List.take_succ_cons, cLen_cons]
    congr 2
    omega
/-- the first k with their data's places, the others without -/
def plsK (d : List Ob) (k : Nat) : List Pl := (placed d).take k ++ (pls0 d (d.length + 2)).drop k
theorem plsK_zero (d : List Ob) : plsK d 0 = pls0 d (d.length + 2) := by simp [plsK]
theorem plsK_all (d : List Ob) : plsK d d.length = placed d := by
  unfold plsK
  rw [List.take_of_length_le (by rw [placed_len]; exact Nat.le_refl _), List.drop_eq_nil_of_le (by rw [pls0_len]; exact Nat.le_refl _), List.append_nil]
theorem plsK_get {d : List Ob} {k : Nat} {o : Ob} (h : d[k]? = some o) : (plsK d k)[k]? = some (plOf o (cAt d k) 0) := by
  have hlt := (List.getElem?_eq_some_iff.1 h).1
  have hl : ((placed d).take k).length = k := by rw [List.length_take, placed_len]; omega
  unfold plsK
  rw [List.getElem?_append_right (by omega), hl, Nat.sub_self, List.getElem?_drop]
  exact pls0_get d _ k o h
theorem plsK_set {d : List Ob} {k : Nat} {o : Ob} (h : d[k]? = some o) : (plsK d k).set k (plOf o (cAt d k) (dAt d k)) = plsK d (k + 1) := by
  have hlt := (List.getElem?_eq_some_iff.1 h).1
  have hl : ((placed d).take k).length = k := by rw [List.length_take, placed_len]; omega
  unfold plsK
  rw [List.set_append_right _ _ (by omega), hl, Nat.sub_self, List.take_add_one, placed_get h]
  have hd : (pls0 d (d.length + 2)).drop k = plOf o (d.length + 2 + cLen (d.take k)) 0 :: (pls0 d (d.length + 2)).drop (k + 1) := by
    have hk : k < (pls0 d (d.length + 2)).length := by rw [pls0_len]; exact hlt
    rw [List.drop_eq_getElem_cons hk]
    have := pls0_get d (d.length + 2) k o h
    rw [List.getElem?_eq_getElem hk] at this
    injection this with this
    rw [this]
  rw [hd, List.set_cons_zero]
  simp
end Go.Proofs.Yteleglkoagnmcaa
set_option linter.unusedSimpArgs false
set_option linter.unusedVariables false
namespace Go.Proofs.Yteleglkoagnmcaa
open Go Go.RowKit
section
variable {P : Program} (w : World)
theorem run_app_zerosB (base : Nat) (t tn ty e : TypeId) (i : TypeInfo) (z : Value) (kn : IntKind) (ht : P.underlying t = some (.slice e)) (htn : P.underlying tn = some (.int kn)) (hi : P.info? e = some i) (hz : i.zero = some z)
    (hsize : i.size = 1) (bytes : Nat) (hby : i.bytes = bytes) (hzc : z.cells = #[z]) (hz1 : z.oneCell' = true)
    (v : Value) (n : Nat) (xs : List Value) (hown : w.ownsRow base e 1 v n xs) (kq : IntKind) (m : Nat) (hm : 0 < m) (hsmall : n + m ≤ 140737488355328) (hbb : (n + m) * bytes ≤ 140737488355328) (hbase : base ≤ w.heap.size) :
    ∃ v' w', (Builtin.append_ #[t, tn] ty #[v, .int kq m]).run P w = .ok v' w' ∧ w'.ownsRow base e 1 v' (n + m) (xs ++ List.replicate m z) ∧ w.grownBy w' v.ownBlock ∧
      (v'.ownBlock = v.ownBlock ∨ v'.ownBlock = some w.heap.size) := by
  have hmb : m * bytes ≤ 281474976710656 := by
    have := Nat.mul_le_mul_right bytes (show m ≤ n + m by omega)
    omega
  have hzs : z.cells.size = 1 := by rw [hzc]; rfl
  have hlenx : xs.length = n := by have := hown.1; omega
  have hlen : (xs ++ List.replicate m z).length = n + m := by simp [hlenx]
  have grown : ∀ (old : Nat), old < n + m → ∀ (olds : List Value), olds = xs → ∀ (row : Option Nat),
      (w.drew.alloc (.cells (olds.toArray ++ Builtin.zeroCells z.cells m ++ Builtin.zeroCells z.cells (grownCap w (n + m) old e - (n + m))) e)).ownsRow base e 1
        (.slice (some ⟨w.heap.size, 0, none⟩) (n + m) (grownCap w (n + m) old e)) (n + m) (xs ++ List.replicate m z) ∧
      w.grownBy (w.drew.alloc (.cells (olds.toArray ++ Builtin.zeroCells z.cells m ++ Builtin.zeroCells z.cells (grownCap w (n + m) old e - (n + m))) e)) row := by
    intro old ho olds hol row
    subst hol
    have hge := grownCap_ge w (n + m) old e
    have hcm : grownCap w (n + m) old e ≤ maxLen := grownCap_le_maxLen w (n + m) old e (by unfold maxLen; omega)
    refine ⟨⟨by rw [hlen]; omega, .inr ⟨w.heap.size, _, _, rfl, hbase, heap_alloc_new w.drew _, hge, hcm, ?_, ?_⟩⟩, ⟨rfl, rfl, rfl, by simp, fun k hk _ => Below.heap_alloc w.drew _ k hk⟩⟩
    · simp only [Array.size_append, List.size_toArray, size_zeroCells, hzs, hlenx]
      omega
    · simp only [Array.toList_append, zeroCells_one z hzc]
      rw [show (n + m) * 1 = (olds ++ List.replicate m z).length by rw [hlen]; omega]
      exact List.take_left
  rcases hown.2 with ⟨rfl, rfl⟩ | ⟨g, cap, cur, rfl, hbg, hg, hnc, hcm, hcs, htake⟩
  · have hx : xs = [] := List.eq_nil_of_length_eq_zero hlenx
    have hr := Lib.run_append_grow_zeros (P := P) w t tn ty e i z kq kn ht htn hi hz none 0 0 [] (by simp [Builtin.firstCells]) m hm (by omega) (by omega) (by omega) (by rw [hby]; exact hmb) (by
      rw [hby]; exact growslice_fits (by omega) (by simpa using hbb))
    have hgr := grown 0 (by omega) [] hx.symm (Value.ownBlock (.slice none 0 0))
    exact ⟨_, _, hr, hgr.1, hgr.2, .inr rfl⟩
  · by_cases hroom : n + m ≤ cap
    · have hw : IntKind.i64.wrap (m : Int) = m := by rw [IntKind.wrap_i64]; omega
      have hneg : ¬ ((m : Int) < 0) := by omega
      have h48i : ¬ (281474976710656 < (m : Int) * (i.bytes : Int)) := by
        rw [hby, ← Int.natCast_mul]
        omega
      have hst := run_storeCells_at P g n e (List.replicate m z) 0 cur w hg (by simp; omega) (fun u hu => by rw [(List.mem_replicate.1 hu).2]; exact hz1)
      simp only [Nat.add_zero] at hst
      have hz0 := zeroCells_one z hzc m
      refine ⟨.slice (some ⟨g, 0, none⟩) (n + m) cap, w.setRow g (cur.toList.take n ++ List.replicate m z ++ cur.toList.drop (n + (List.replicate m z).length)).toArray, ?_, ⟨by rw [hlen]; omega, .inr ⟨g, cap, _, rfl, hbg, setRow_heap w g cur _ e _ hg, hroom, hcm, ?_, ?_⟩⟩, ⟨rfl, rfl, rfl, by simp, fun k _ hk => setRow_other w g k _ (fun e => hk (by simp [Value.ownBlock, e]))⟩, .inl rfl⟩
      · simp [Builtin.append_, run_underlying ht, run_underlying htn, sizeOf, typeInfo, zeroValue, hi, hz, asInt, asIntOf, hw, hneg, h48i, hroom, hsize, Addr.add_lit, hz0, hst]
        intro h0
        omega
      · simp only [List.size_toArray, List.length_append, List.length_take, List.length_drop, Array.length_toList, List.length_replicate]
        omega
      · have ht' : cur.toList.take n = xs := by rw [← htake]; congr 1; omega
        rw [ht', show (n + m) * 1 = (xs ++ List.replicate m z).length by rw [hlen]; omega]
        exact List.take_left
    · have holds : ∀ j u, xs[j]? = some u → w.drew.cell? ((⟨g, 0, none⟩ : Addr).add j) = some u := hown.cells (g := g) rfl
      have hf := run_firstCells_some (P := P) w.drew i.size n ⟨g, 0, none⟩ n cap xs (by rw [hsize, hlenx]; omega) holds
      have hr := Lib.run_append_grow_zeros (P := P) w t tn ty e i z kq kn ht htn hi hz (some ⟨g, 0, none⟩) n cap xs hf m hm (by omega) (by omega) (by omega) (by rw [hby]; exact hmb) (by
        rw [hby]; exact growslice_fits (by omega) hbb)
      have hgr := grown cap (by omega) xs rfl (Value.ownBlock (.slice (some ⟨g, 0, none⟩) n cap))
      exact ⟨_, _, hr, hgr.1, hgr.2, .inr rfl⟩

theorem run_app_zero0B (base : Nat) (t tn ty e : TypeId) (i : TypeInfo) (z : Value) (kn kq : IntKind) (ht : P.underlying t = some (.slice e)) (htn : P.underlying tn = some (.int kn)) (hi : P.info? e = some i) (hz : i.zero = some z)
    (v : Value) (n : Nat) (xs : List Value) (hown : w.ownsRow base e 1 v n xs) : (Builtin.append_ #[t, tn] ty #[v, .int kq 0]).run P w = .ok v w := by
  rcases hown.2 with ⟨rfl, rfl⟩ | ⟨g, cap, cur, rfl, hbg, hg, hnc, hcm, hcs, htake⟩
  · simp [Builtin.append_, run_underlying ht, run_underlying htn, sizeOf, typeInfo, zeroValue, hi, hz, asInt, asIntOf, IntKind.wrap_i64, Builtin.zeroCells, storeCells]
  · simp [Builtin.append_, run_underlying ht, run_underlying htn, sizeOf, typeInfo, zeroValue, hi, hz, asInt, asIntOf, IntKind.wrap_i64, Builtin.zeroCells, storeCells, hnc]
theorem wpList_zerosB {ops : Array Oper} {rest : List Oper} {o : Oper} {a : Act} {Q : Exit → Act → World → Prop} (hgd : o.guard = none) (s x : Operand) (t tn : TypeId)
    (ho : o.op = .call { callee := .builtin .append, args := #[s, x], argTypes := #[t, tn] })
    (base : Nat) (e : TypeId) (i : TypeInfo) (z : Value) (kn : IntKind) (ht : P.underlying t = some (.slice e)) (htn : P.underlying tn = some (.int kn)) (hi : P.info? e = some i) (hz : i.zero = some z)
    (hsize : i.size = 1) (bytes : Nat) (hby : i.bytes = bytes) (hzc : z.cells = #[z]) (hz1 : z.oneCell' = true)
    (v : Value) (n : Nat) (xs : List Value) (hs : a.eval s = v) (hown : w.ownsRow base e 1 v n xs) (kq : IntKind) (m : Nat) (hx : a.eval x = .int kq m) (hsmall : n + m ≤ 140737488355328) (hbb : (n + m) * bytes ≤ 140737488355328) (hbase : base ≤ w.heap.size)
    (h : ∀ v' w', w'.ownsRow base e 1 v' (n + m) (xs ++ List.replicate m z) → w.grownBy w' v.ownBlock → wpList P ops Q rest (a.put o.dst v') w') : wpList P ops Q (o :: rest) a w := by
  refine wpList_plain hgd fun K hK => ?_
  rcases Nat.eq_zero_or_pos m with h0 | h0
  · subst h0
    have hrun := run_app_zero0B (P := P) w base t tn o.type e i z kn kq ht htn hi hz v n xs hown
    unfold Oper.wp execOp
    simp only [ho, resolve, invoke, builtin, Sem.run_bind, Sem.run_pure, Result.andThen_ok, List.map_toArray, List.map_cons, List.map_nil, hs, hx, Int.natCast_zero, hrun]
    exact hK _ _ (h v w (by simpa using hown) (World.grownBy.refl w _))
  · obtain ⟨v', w', hrun, h2, h3, h4⟩ := run_app_zerosB (P := P) w base t tn o.type e i z kn ht htn hi hz hsize bytes hby hzc hz1 v n xs hown kq m h0 hsmall hbb hbase
    unfold Oper.wp execOp
    simp only [ho, resolve, invoke, builtin, Sem.run_bind, Sem.run_pure, Result.andThen_ok, List.map_toArray, List.map_cons, List.map_nil, hs, hx, hrun]
    exact hK _ _ (h v' w' h2 h3)
end
end Go.Proofs.Yteleglkoagnmcaa
