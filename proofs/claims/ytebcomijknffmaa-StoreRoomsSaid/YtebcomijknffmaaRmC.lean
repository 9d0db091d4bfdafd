/- What is proved: the walk of the law StoreRooms. Conditions: the memory holds the steps. -/
import Derived.Test.YtebcomijknffmaaRmA
import Derived.Test.YtebcomijknffmaaStoreY
import Derived.Test.YtebcomijknffmaaTail2
import Derived.WalkSpells
import Derived.Outline
import Derived.Deep.CutRange
import Derived.Deep.CutBlock
import Derived.Deep.QuietTactic
import Derived.BigQuiet
import Derived.Laws.Cover1
namespace Go.Proofs.Ytebcomijknffmaa
open Go.RowKit Go.Shelf
attribute [local go_sem] Oper.semAt_some
def markD (D : Nat) : Deferred := { target := .collected D, args := #[] }
/-- the blocks that the store's calls do not reach: the answer, the store's variable, marks -/
def XS (w : World) (sb s : Nat) (Ds : List Nat) : List (Nat × Obj) := Ds.map (fun D => (D, Obj.deferred (some []))) ++ [(sb, .cells #[ptr s] SpT), (w.heap.size, .cells #[.bool false] BoT)]
section
variable {w W : World} {sb s : Nat} {Ds : List Nat} {v : V}
theorem RI.sbox (h : RI w (XS w sb s Ds) s v W) : Blk W sb SpT #[ptr s] := (h.xo (sb, .cells #[ptr s] SpT) (by simp [XS])).1
theorem RI.rbox (h : RI w (XS w sb s Ds) s v W) : Blk W w.heap.size BoT #[.bool false] := (h.xo (w.heap.size, .cells #[.bool false] BoT) (by simp [XS])).1
theorem RI.dsm (h : RI w (XS w sb s Ds) s v W) : ∀ D ∈ Ds, W.heap[D]? = some (.deferred (some [])) ∧ w.heap.size ≤ D := fun D hD => h.xo (D, .deferred (some [])) (by simp [XS, hD])
theorem RI.told (h : RI w (XS w sb s Ds) s v W) : (∀ D ∈ Ds, (W.setCell ⟨w.heap.size, 0, none⟩ (.bool true)).heap[D]? = some (.deferred (some [])) ∧ w.heap.size ≤ D) ∧ (W.setCell ⟨w.heap.size, 0, none⟩ (.bool true)).cell? ⟨w.heap.size, 0, none⟩ = some (.bool true) ∧ Chg NoB w (W.setCell ⟨w.heap.size, 0, none⟩ (.bool true)) := by
  have hb := h.rbox
  refine ⟨fun D hD => ⟨?_, (h.dsm D hD).2⟩, (hb.set_ 0 (.bool true)).cell 0, h.ch.setCell (fun hlt => absurd hlt (by simp)) _⟩
  refine (Below.heap_setCell W _ _ D ?_).trans (h.dsm D hD).1
  rintro rfl
  have h1 := (h.dsm _ hD).1
  rw [show W.heap[w.heap.size]? = _ from hb] at h1
  cases h1
end
theorem leave_marks {w0 : World} {rb : Nat} {tmps : Array Value} (hp : tmps.getD 4 undef = .pointer (some ⟨rb, 0, none⟩)) : ∀ (Ds : List Nat) (W : World), Ds.Nodup → (∀ D ∈ Ds, W.heap[D]? = some (.deferred (some [])) ∧ w0.heap.size ≤ D) → W.cell? ⟨rb, 0, none⟩ = some (.bool true) → Chg NoB w0 W →
    LeavesInM Fence.wide 9 Try.prog Try.f8 tmps (fun e w' => e = .returned (.bool true) ∧ Chg NoB w0 w') (Ds.map markD) .returning W
  | [], W, _, _, hc, hw => ⟨_, results_bool rfl tmps hp hc, rfl, hw⟩
  | D :: Ds, W, hn, hK, hc, hw => by
    obtain ⟨h1, h2⟩ := List.nodup_cons.1 hn
    obtain ⟨hD, hlo⟩ := hK D (by simp)
    refine ⟨by simp, .inl ⟨D, _, rfl, run_takeDeferred hD, leave_marks hp Ds _ h2 (fun D' hD' => ⟨?_, (hK D' (by simp [hD'])).2⟩) (cell_kept hc (grownBy_putObj' _ D _) (fun r e => by cases e; exact ⟨_, hD, rfl⟩)) (hw.grown (grownBy_putObj' _ D _) (fun k e hk => by cases e; omega))⟩⟩
    rw [putObj_ne _ _ _ _ (by rintro rfl; exact h1 hD')]
    exact (hK D' (by simp [hD'])).1
theorem Blk.at_ (w : World) (g : Nat) (t : TypeId) (cs : Array Value) (hg : w.heap.size = g) : Blk (w.alloc (.cells cs t)) g t cs := by subst hg; exact Blk.new _ _ _
theorem keepsFrom_chg {X : Nat → Prop} {W W' : World} {B : Nat} (h : Chg X W W') (hX : ∀ b, X b → b < B) : KeepsFrom B W W' := ⟨h.size, fun k o hk ho _ => (h.block k (Array.getElem?_eq_some_iff.1 ho).1 (fun hx => by have := hX k hx; omega)).trans ho⟩
theorem round_call {P : Program} {f : FuncId} {args : Array Value} {w : World} {R R' : Ending → World → Prop} {m l : Nat} (h : Calls P f args w R) (hR : ∀ e w', R e w' → R' e w') :
    Fence.wide.fn f ∧ CallsIn (Fence.wide.inRound l) m P f args w R' := ⟨trivial, (CallsIn.inRound l (callsIn_wide.2 h)).mono hR⟩
theorem snoc_fin {N : Nat} {pre : List (Fin N)} {x : Fin N} (h : pre ++ [x] <+: List.finRange N) (hl : pre.length < N) : x = ⟨pre.length, hl⟩ := by
  obtain ⟨r, hr⟩ := h
  have h1 : (List.finRange N)[pre.length]? = some x := by rw [← hr]; simp
  rw [List.getElem?_eq_getElem (by simpa using hl)] at h1
  injection h1 with h1
  apply Fin.ext
  have := congrArg Fin.val h1
  simp at this
  exact this.symm
theorem setPos_cap (v : V) (f : Int) (p : Nat) : (v.setPos f p).cap = v.cap := by unfold V.setPos; split <;> rfl
theorem read_cap (v : V) (f : Int) : (v.read f).2.cap = v.cap := by
  unfold V.read
  split
  · rfl
  · split
    · rfl
    · exact setPos_cap _ _ _
theorem doS_cap (v : V) (x : St) : (v.doS x).2.cap = v.cap := by
  unfold V.doS
  (repeat' split)
  · unfold V.old; split
    · split <;> rfl
    · rfl
  · unfold V.fresh; split <;> rfl
  · exact read_cap _ _
  · show ((((v.read x.f).2.read x.f).2.read x.f).2.read x.f).2.cap = _
    rw [read_cap, read_cap, read_cap, read_cap]
  · unfold V.write; split
    · rfl
    · split
      · exact setPos_cap _ _ _
      · rfl
  · unfold V.write; split
    · rfl
    · split
      · exact setPos_cap _ _ _
      · rfl
  · show (v.seek x.f x.w).cap = _
    unfold V.seek; split
    · rfl
    · exact setPos_cap _ _ _
  · unfold V.register; split
    · rfl
    · split <;> rfl
  · rfl
  · unfold V.put; split
    · split
      · split
        · rfl
        · cases lookD x.nm v.dir <;> rfl
      · rfl
    · rfl
  · unfold V.drop; split
    · split <;> rfl
    · rfl
  · rfl
/-- the sum so far, the name ahead -/
def sumK (L : List (ByteArray × Nat)) (k : Nat) : Nat := ((L.take k).map (·.2)).sum
def lastK (L : List (ByteArray × Nat)) : Nat → ByteArray
  | 0 => ⟨#[]⟩
  | k + 1 => (L.getD k (⟨#[]⟩, 0)).1
theorem sumK_succ {L : List (ByteArray × Nat)} {k : Nat} (h : k < L.length) : sumK L (k + 1) = sumK L k + L[k].2 := by
  unfold sumK
  rw [List.take_add_one, List.getElem?_eq_getElem h, List.map_append, List.sum_append]
  rfl
theorem less_nil (x : List UInt8) : Op.bytesLess x [] = false := by cases x <;> rfl
theorem sumK_le {v : V} {L : List (ByteArray × Nat)} (h : Tells v L) (k : Nat) : sumK L k ≤ v.used := by
  refine Nat.le_trans ?_ h.sum
  unfold sumK
  have h1 := congrArg (fun l : List (ByteArray × Nat) => (l.map (·.2)).sum) (List.take_append_drop k L)
  simp only [List.map_append, List.sum_append] at h1
  omega
theorem lastK_succ {L : List (ByteArray × Nat)} {k : Nat} (h : k < L.length) : lastK L (k + 1) = L[k].1 := by
  simp [lastK, h]
theorem le_no {v : V} {L : List (ByteArray × Nat)} (h : Tells v L) {k : Nat} (hk : k < L.length) : Op.bytesLess L[k].1.toList (lastK L k).toList = false ∧ (L[k].1.toList == (lastK L k).toList) = false := by
  have ht : ∀ a b : ByteArray, a ≠ b → (a.toList == b.toList) = false := fun a b hne => by
    apply beq_eq_false_iff_ne.2
    rw [toList_data, toList_data]
    intro e
    apply hne
    have : a.data = b.data := Array.toList_inj.1 e
    exact ByteArray.ext this
  cases k with
  | zero =>
    have hm := (h.each L[0] (List.getElem_mem hk)).1
    have h0 : L[0].1 ≠ (⟨#[]⟩ : ByteArray) := by
      intro e
      rw [e] at hm
      simp [mayName] at hm
    refine ⟨?_, ht _ _ h0⟩
    show Op.bytesLess _ (⟨#[]⟩ : ByteArray).toList = false
    rw [toList_data ⟨#[]⟩]
    exact less_nil _
  | succ k =>
    rw [lastK_succ (by omega)]
    have := List.pairwise_iff_getElem.1 h.rise k (k + 1) (by omega) hk (by omega)
    exact ⟨this.1, ht _ _ (Ne.symm this.2)⟩
/-- within the range over the directory -/
structure RJ (B : World) (n : Int) (ls : ByteArray) (W : World) : Prop where
  chg : Chg NoB B W
  sm : Blk W B.heap.size 3 #[.int .i64 n]
  la : Blk W (B.heap.size + 1) 9 #[.string ls]
theorem RJ.grown {B A W : World} {n : Int} {ls : ByteArray} {row : Option Nat} {b : Nat} (h : RJ B n ls A) (hb : B.heap.size + 1 < b) (hg : A.grownBy W row) (hr : ∀ r, row = some r → b ≤ r) : RJ B n ls W :=
  ⟨h.chg.grown hg fun k e hk => by have := hr k e; omega, h.sm.grown hg fun e => by have := hr _ e.symm; omega, h.la.grown hg fun e => by have := hr _ e.symm; omega⟩
theorem RJ.quiet {B A W : World} {n : Int} {ls : ByteArray} (h : RJ B n ls A) (hc : Chg NoB A W) : RJ B n ls W := ⟨h.chg.trans hc, h.sm.chg hc id, h.la.chg hc id⟩
theorem RJ.put {B A : World} {n : Int} {ls : ByteArray} (h : RJ B n ls A) (n' : Int) (l' : ByteArray) : RJ B n' l' ((A.setCell ⟨B.heap.size, 0, none⟩ (.int .i64 n')).setCell ⟨B.heap.size + 1, 0, none⟩ (.string l')) ∧ Chg (fun k => k = B.heap.size ∨ k = B.heap.size + 1) A ((A.setCell ⟨B.heap.size, 0, none⟩ (.int .i64 n')).setCell ⟨B.heap.size + 1, 0, none⟩ (.string l')) :=
  ⟨⟨(h.chg.setCell (p := ⟨B.heap.size, 0, none⟩) (fun hlt => absurd hlt (by simp)) _).setCell (p := ⟨B.heap.size + 1, 0, none⟩) (fun hlt => absurd hlt (by simp)) _, (h.sm.set_ 0 _).far (by simp) _, (h.la.far (by simp) _).set_ 0 _⟩,
   ((Chg.refl _ A).setCell (p := ⟨B.heap.size, 0, none⟩) (fun _ => .inl rfl) _).setCell (p := ⟨B.heap.size + 1, 0, none⟩) (fun _ => .inr rfl) _⟩
theorem leavesM_eq {F : Fence} {n : Nat} {P : Program} {fn : Func} {R : Ending → World → Prop} {tmps tmps' : Array Value} (h : results fn tmps = results fn tmps') : ∀ (ds : List Deferred) (u : FrameMode) (w : World), LeavesInM F n P fn tmps R ds u w = LeavesInM F n P fn tmps' R ds u w
  | [], u, w => by cases u <;> simp only [LeavesInM, LeavesIn, h]
  | d :: ds, u, w => by simp only [LeavesInM, leavesM_eq h ds]
theorem panic_put {R : Ending → World → Prop} {t : Nat} (ht : t ≠ 4) (v : Value) (c : List PanicEntry) (a : Act) (w : World) (h : bodyPostM Fence.wide 9 Try.prog Try.f8 R (.panic c) (a.put (some t) v) w) : bodyPostM Fence.wide 9 Try.prog Try.f8 R (.panic c) a w := by
  show LeavesInM Fence.wide 9 Try.prog Try.f8 a.tmps R a.defers (.panicking c) w
  have h : LeavesInM Fence.wide 9 Try.prog Try.f8 (a.put (some t) v).tmps R a.defers (.panicking c) w := h
  rw [leavesM_eq (tmps' := (a.put (some t) v).tmps)]
  · exact h
  · have hg : (a.put (some t) v).tmps[4]? = a.tmps[4]? := by
      show (a.tmps.setIfInBounds t v)[4]? = _
      rw [Array.getElem?_setIfInBounds_ne ht]
    simp only [results, show Try.f8.results = #[.cell 4 4] from rfl]
    simp [hg]
set_option maxRecDepth 100000 in
set_option maxHeartbeats 4000000 in
theorem storeRooms_walk (w : World) (cap : Nat) (A : Option Addr) (L : List St) (c : Nat) (hS : StepsAt w A L) (hL : L.length ≤ maxLen) : Calls Try.prog 8 #[.int .i64 cap, .slice A L.length c] w fun e w' => e = .returned (.bool true) ∧ Chg NoB w w' := by
  have HM := Go.Lib.hid (fun (W : World) (hW : Chg NoB w W) => much_c (c := c) (hS.chg hW) 120 (by decide) hL)
  have HS := Go.Lib.hid hS
  have KN := Go.Lib.hid known_c
  have hLL := hL
  unfold maxLen at hLL
  clear hS hL
  have d1 : decide ((cap : Int) < 0) = false := by simp
  refine (callsIn_wide (n := 9)).1 (callsIn_of_wp_marks Try.func8 rfl trivial (wpIn_wide.2 ?_) rfl)
  simp only [Try.ntmps8, List.size_toArray, List.length_cons, List.length_nil, Nat.reduceAdd, Nat.reduceSub, Array.replicate_succ, Array.replicate_zero, List.push_toArray, List.append_toArray, List.nil_append, List.cons_append]
  by_cases h1 : cap ≤ 30000
  case neg =>
    have d2 : decide (30000 < (cap : Int)) = true := by simp; omega
    go_wp2_with fail
    refine (KN.out _).mono ?_
    rintro e wk ⟨rfl, hck⟩
    have hR := (Blk.new w BoT #[.bool false]).chg hck id
    have HW := Go.Lib.hid (((Chg.refl NoB w).alloc (.cells #[.bool false] BoT)).trans hck)
    have c4 := hR.cell 0
    have f4 := hR.frozen 0
    have HR := Go.Lib.hid hR
    simp only [List.getElem?_toArray, List.getElem?_cons_zero] at c4
    clear hR hck
    go_wp2_with fail
    exact leave_marks rfl [] _ List.nodup_nil (fun D hD => by cases hD) ((HR.out.set_ 0 (.bool true)).cell 0) (HW.out.setCell (fun hlt => absurd hlt (by simp)) _)
  case pos =>
  have d2 : decide (30000 < (cap : Int)) = false := by simp; omega
  go_wp2_with fail
  refine (HM.out _ ((Chg.refl NoB w).alloc _)).mono ?_
  rintro e w1 ⟨b, rfl, hc1, hb⟩
  have hW1 : Chg NoB w w1 := ((Chg.refl NoB w).alloc _).trans hc1
  have hR1 : Blk w1 w.heap.size BoT #[.bool false] := (Blk.new w BoT #[.bool false]).chg hc1 id
  cases b with
  | true =>
    have HW1 := Go.Lib.hid hW1
    have HR1 := Go.Lib.hid hR1
    go_wp2_with fail
    refine (KN.out _).mono ?_
    rintro e wk ⟨rfl, hck⟩
    have hR := HR1.out.chg hck id
    have HW := Go.Lib.hid (HW1.out.trans hck)
    have c4 := hR.cell 0
    have f4 := hR.frozen 0
    have HR := Go.Lib.hid hR
    simp only [List.getElem?_toArray, List.getElem?_cons_zero] at c4
    clear hR hck
    go_wp2_with fail
    exact leave_marks rfl [] _ List.nodup_nil (fun D hD => by cases hD) ((HR.out.set_ 0 (.bool true)).cell 0) (HW.out.setCell (fun hlt => absurd hlt (by simp)) _)
  | false =>
    obtain ⟨hLm, hall⟩ := hb rfl
    have Hall := Go.Lib.hid hall
    clear hb hall HM
    have H0 := Go.Lib.hid (new_v cap (by omega) w1)
    have HW1 := Go.Lib.hid hW1
    have HR1 := Go.Lib.hid hR1
    have hlt1 := hR1.lt
    clear hW1 hR1
    go_wp2_with fail
    refine H0.out.mono ?_
    rintro e w2 ⟨s, F, rfl, hs, hc2⟩
    clear H0
    have hI0 : RI w [(w.heap.size, .cells #[.bool false] BoT)] s ⟨cap, [], [], []⟩ w2 := ⟨⟨_, F, hs, fun k hk => ⟨by have := hs.low hk; have := HW1.out.size; omega, fun e he => by simp at he; subst he; have := hs.low hk; simp only; omega⟩⟩, HW1.out.trans hc2, fun e he => by simp at he; subst he; exact ⟨HR1.out.chg hc2 id, Nat.le_refl _⟩, VI.empty cap⟩
    have hI1 := hI0.alloc (.cells #[ptr s] SpT)
    have HI1 := Go.Lib.hid hI1
    clear hI0 hI1 hs hc2
    unfold ptr at HI1 ⊢
    have NU := Go.Lib.hid num_c
    go_wp2_with fail
    refine (NU.out _ _).mono ?_
    rintro e wn ⟨rfl, he⟩
    obtain rfl := he.symm
    clear he
    go_wp2_with fail
    generalize w2.heap.size = sb at *
    skip
    refine wp_loop (fun a' w' => ∃ (Ds : List Nat) (i : Nat) (v : V) (z2 z3 z6 z8 z9 z10 z11 z12 z13 z14 z15 z16 z17 z18 z19 z20 z21 z22 z23 z24 z25 z26 z27 z28 z29 z30 z31 z32 z33 z34 z35 z36 z37 z38 z39 z40 z41 z42 z43 z44 z45 z46 z47 z48 z49 z50 z51 z52 z53 z54 z55 z56 z57 z58 z59 z60 z61 z62 z63 z64 z65 z66 z67 z68 z69 z70 z71 z72 z73 z74 z75 z76 z77 z78 z79 z80 z81 z82 z83 z84 z85 z86 z87 z88 z89 z90 z91 z92 z93 z94 z95 z96 z97 z98 z99 z100 z101 z102 z103 z104 z105 z106 z107 z108 z109 z110 z111 z112 z113 z114 z115 z116 z117 z118 z119 z120 z121 z122 z123 z124 z125 z126 z127 z128 z129 z130 z131 z132 z133 z134 z135 z136 z137 z138 z139 z140 z141 z142 z143 z144 z145 z146 z147 z148 z149 z150 z151 z152 z153 z154 z155 z156 z157 z158 z159 z160 z161 z162 z163 z164 z165 z166 z167 z168 z169 z170 z171 z172 z173 z174 z175 z176 z177 z178 z179 z180 z181 z182 z183 z184 z185 z186 z187 z188 z189 z190 z191 z192 z193 z194 z195 z196 : Value), (i ≤ L.length ∧ RI w (XS w sb s Ds) s v w' ∧ Ds.Nodup ∧ v.cap = cap) ∧ a' = { tmps := #[.int .i64 cap, .slice A L.length c, z2, z3, .pointer (some ⟨w.heap.size, 0, none⟩), .pointer (some ⟨sb, 0, none⟩), z6, .int .i64 (i : Nat), z8, z9, z10, z11, z12, z13, z14, z15, z16, z17, z18, z19, z20, z21, z22, z23, z24, z25, z26, z27, z28, z29, z30, z31, z32, z33, z34, z35, z36, z37, z38, z39, z40, z41, z42, z43, z44, z45, z46, z47, z48, z49, z50, z51, z52, z53, z54, z55, z56, z57, z58, z59, z60, z61, z62, z63, z64, z65, z66, z67, z68, z69, z70, z71, z72, z73, z74, z75, z76, z77, z78, z79, z80, z81, z82, z83, z84, z85, z86, z87, z88, z89, z90, z91, z92, z93, z94, z95, z96, z97, z98, z99, z100, z101, z102, z103, z104, z105, z106, z107, z108, z109, z110, z111, z112, z113, z114, z115, z116, z117, z118, z119, z120, z121, z122, z123, z124, z125, z126, z127, z128, z129, z130, z131, z132, z133, z134, z135, z136, z137, z138, z139, z140, z141, z142, z143, z144, z145, z146, z147, z148, z149, z150, z151, z152, z153, z154, z155, z156, z157, z158, z159, z160, z161, z162, z163, z164, z165, z166, z167, z168, z169, z170, z171, z172, z173, z174, z175, z176, z177, z178, z179, z180, z181, z182, z183, z184, z185, z186, z187, z188, z189, z190, z191, z192, z193, z194, z195, z196], defers := Ds.map markD }) (fun a' _ => L.length - (intOf (a'.tmps.getD 7 undef)).toNat) ?_ ?_
    · refine ⟨[], 0, ⟨cap, [], [], []⟩, ?_⟩
      (repeat apply Exists.intro)
      refine ⟨⟨Nat.zero_le _, HI1.out, List.nodup_nil, rfl⟩, rfl⟩
    · intro _ wr hinv
      obtain ⟨Ds, i, v, hinv⟩ := hinv
      obtain ⟨z2, hinv⟩ := hinv
      obtain ⟨z3, hinv⟩ := hinv
      obtain ⟨z6, hinv⟩ := hinv
      obtain ⟨z8, hinv⟩ := hinv
      obtain ⟨z9, hinv⟩ := hinv
      obtain ⟨z10, hinv⟩ := hinv
      obtain ⟨z11, hinv⟩ := hinv
      obtain ⟨z12, hinv⟩ := hinv
      obtain ⟨z13, hinv⟩ := hinv
      obtain ⟨z14, hinv⟩ := hinv
      obtain ⟨z15, hinv⟩ := hinv
      obtain ⟨z16, hinv⟩ := hinv
      obtain ⟨z17, hinv⟩ := hinv
      obtain ⟨z18, hinv⟩ := hinv
      obtain ⟨z19, hinv⟩ := hinv
      obtain ⟨z20, hinv⟩ := hinv
      obtain ⟨z21, hinv⟩ := hinv
      obtain ⟨z22, hinv⟩ := hinv
      obtain ⟨z23, hinv⟩ := hinv
      obtain ⟨z24, hinv⟩ := hinv
      obtain ⟨z25, hinv⟩ := hinv
      obtain ⟨z26, hinv⟩ := hinv
      obtain ⟨z27, hinv⟩ := hinv
      obtain ⟨z28, hinv⟩ := hinv
      obtain ⟨z29, hinv⟩ := hinv
      obtain ⟨z30, hinv⟩ := hinv
      obtain ⟨z31, hinv⟩ := hinv
      obtain ⟨z32, hinv⟩ := hinv
      obtain ⟨z33, hinv⟩ := hinv
      obtain ⟨z34, hinv⟩ := hinv
      obtain ⟨z35, hinv⟩ := hinv
      obtain ⟨z36, hinv⟩ := hinv
      obtain ⟨z37, hinv⟩ := hinv
      obtain ⟨z38, hinv⟩ := hinv
      obtain ⟨z39, hinv⟩ := hinv
      obtain ⟨z40, hinv⟩ := hinv
      obtain ⟨z41, hinv⟩ := hinv
      obtain ⟨z42, hinv⟩ := hinv
      obtain ⟨z43, hinv⟩ := hinv
      obtain ⟨z44, hinv⟩ := hinv
      obtain ⟨z45, hinv⟩ := hinv
      obtain ⟨z46, hinv⟩ := hinv
      obtain ⟨z47, hinv⟩ := hinv
      obtain ⟨z48, hinv⟩ := hinv
      obtain ⟨z49, hinv⟩ := hinv
      obtain ⟨z50, hinv⟩ := hinv
      obtain ⟨z51, hinv⟩ := hinv
      obtain ⟨z52, hinv⟩ := hinv
      obtain ⟨z53, hinv⟩ := hinv
      obtain ⟨z54, hinv⟩ := hinv
      obtain ⟨z55, hinv⟩ := hinv
      obtain ⟨z56, hinv⟩ := hinv
      obtain ⟨z57, hinv⟩ := hinv
      obtain ⟨z58, hinv⟩ := hinv
      obtain ⟨z59, hinv⟩ := hinv
      obtain ⟨z60, hinv⟩ := hinv
      obtain ⟨z61, hinv⟩ := hinv
      obtain ⟨z62, hinv⟩ := hinv
      obtain ⟨z63, hinv⟩ := hinv
      obtain ⟨z64, hinv⟩ := hinv
      obtain ⟨z65, hinv⟩ := hinv
      obtain ⟨z66, hinv⟩ := hinv
      obtain ⟨z67, hinv⟩ := hinv
      obtain ⟨z68, hinv⟩ := hinv
      obtain ⟨z69, hinv⟩ := hinv
      obtain ⟨z70, hinv⟩ := hinv
      obtain ⟨z71, hinv⟩ := hinv
      obtain ⟨z72, hinv⟩ := hinv
      obtain ⟨z73, hinv⟩ := hinv
      obtain ⟨z74, hinv⟩ := hinv
      obtain ⟨z75, hinv⟩ := hinv
      obtain ⟨z76, hinv⟩ := hinv
      obtain ⟨z77, hinv⟩ := hinv
      obtain ⟨z78, hinv⟩ := hinv
      obtain ⟨z79, hinv⟩ := hinv
      obtain ⟨z80, hinv⟩ := hinv
      obtain ⟨z81, hinv⟩ := hinv
      obtain ⟨z82, hinv⟩ := hinv
      obtain ⟨z83, hinv⟩ := hinv
      obtain ⟨z84, hinv⟩ := hinv
      obtain ⟨z85, hinv⟩ := hinv
      obtain ⟨z86, hinv⟩ := hinv
      obtain ⟨z87, hinv⟩ := hinv
      obtain ⟨z88, hinv⟩ := hinv
      obtain ⟨z89, hinv⟩ := hinv
      obtain ⟨z90, hinv⟩ := hinv
      obtain ⟨z91, hinv⟩ := hinv
      obtain ⟨z92, hinv⟩ := hinv
      obtain ⟨z93, hinv⟩ := hinv
      obtain ⟨z94, hinv⟩ := hinv
      obtain ⟨z95, hinv⟩ := hinv
      obtain ⟨z96, hinv⟩ := hinv
      obtain ⟨z97, hinv⟩ := hinv
      obtain ⟨z98, hinv⟩ := hinv
      obtain ⟨z99, hinv⟩ := hinv
      obtain ⟨z100, hinv⟩ := hinv
      obtain ⟨z101, hinv⟩ := hinv
      obtain ⟨z102, hinv⟩ := hinv
      obtain ⟨z103, hinv⟩ := hinv
      obtain ⟨z104, hinv⟩ := hinv
      obtain ⟨z105, hinv⟩ := hinv
      obtain ⟨z106, hinv⟩ := hinv
      obtain ⟨z107, hinv⟩ := hinv
      obtain ⟨z108, hinv⟩ := hinv
      obtain ⟨z109, hinv⟩ := hinv
      obtain ⟨z110, hinv⟩ := hinv
      obtain ⟨z111, hinv⟩ := hinv
      obtain ⟨z112, hinv⟩ := hinv
      obtain ⟨z113, hinv⟩ := hinv
      obtain ⟨z114, hinv⟩ := hinv
      obtain ⟨z115, hinv⟩ := hinv
      obtain ⟨z116, hinv⟩ := hinv
      obtain ⟨z117, hinv⟩ := hinv
      obtain ⟨z118, hinv⟩ := hinv
      obtain ⟨z119, hinv⟩ := hinv
      obtain ⟨z120, hinv⟩ := hinv
      obtain ⟨z121, hinv⟩ := hinv
      obtain ⟨z122, hinv⟩ := hinv
      obtain ⟨z123, hinv⟩ := hinv
      obtain ⟨z124, hinv⟩ := hinv
      obtain ⟨z125, hinv⟩ := hinv
      obtain ⟨z126, hinv⟩ := hinv
      obtain ⟨z127, hinv⟩ := hinv
      obtain ⟨z128, hinv⟩ := hinv
      obtain ⟨z129, hinv⟩ := hinv
      obtain ⟨z130, hinv⟩ := hinv
      obtain ⟨z131, hinv⟩ := hinv
      obtain ⟨z132, hinv⟩ := hinv
      obtain ⟨z133, hinv⟩ := hinv
      obtain ⟨z134, hinv⟩ := hinv
      obtain ⟨z135, hinv⟩ := hinv
      obtain ⟨z136, hinv⟩ := hinv
      obtain ⟨z137, hinv⟩ := hinv
      obtain ⟨z138, hinv⟩ := hinv
      obtain ⟨z139, hinv⟩ := hinv
      obtain ⟨z140, hinv⟩ := hinv
      obtain ⟨z141, hinv⟩ := hinv
      obtain ⟨z142, hinv⟩ := hinv
      obtain ⟨z143, hinv⟩ := hinv
      obtain ⟨z144, hinv⟩ := hinv
      obtain ⟨z145, hinv⟩ := hinv
      obtain ⟨z146, hinv⟩ := hinv
      obtain ⟨z147, hinv⟩ := hinv
      obtain ⟨z148, hinv⟩ := hinv
      obtain ⟨z149, hinv⟩ := hinv
      obtain ⟨z150, hinv⟩ := hinv
      obtain ⟨z151, hinv⟩ := hinv
      obtain ⟨z152, hinv⟩ := hinv
      obtain ⟨z153, hinv⟩ := hinv
      obtain ⟨z154, hinv⟩ := hinv
      obtain ⟨z155, hinv⟩ := hinv
      obtain ⟨z156, hinv⟩ := hinv
      obtain ⟨z157, hinv⟩ := hinv
      obtain ⟨z158, hinv⟩ := hinv
      obtain ⟨z159, hinv⟩ := hinv
      obtain ⟨z160, hinv⟩ := hinv
      obtain ⟨z161, hinv⟩ := hinv
      obtain ⟨z162, hinv⟩ := hinv
      obtain ⟨z163, hinv⟩ := hinv
      obtain ⟨z164, hinv⟩ := hinv
      obtain ⟨z165, hinv⟩ := hinv
      obtain ⟨z166, hinv⟩ := hinv
      obtain ⟨z167, hinv⟩ := hinv
      obtain ⟨z168, hinv⟩ := hinv
      obtain ⟨z169, hinv⟩ := hinv
      obtain ⟨z170, hinv⟩ := hinv
      obtain ⟨z171, hinv⟩ := hinv
      obtain ⟨z172, hinv⟩ := hinv
      obtain ⟨z173, hinv⟩ := hinv
      obtain ⟨z174, hinv⟩ := hinv
      obtain ⟨z175, hinv⟩ := hinv
      obtain ⟨z176, hinv⟩ := hinv
      obtain ⟨z177, hinv⟩ := hinv
      obtain ⟨z178, hinv⟩ := hinv
      obtain ⟨z179, hinv⟩ := hinv
      obtain ⟨z180, hinv⟩ := hinv
      obtain ⟨z181, hinv⟩ := hinv
      obtain ⟨z182, hinv⟩ := hinv
      obtain ⟨z183, hinv⟩ := hinv
      obtain ⟨z184, hinv⟩ := hinv
      obtain ⟨z185, hinv⟩ := hinv
      obtain ⟨z186, hinv⟩ := hinv
      obtain ⟨z187, hinv⟩ := hinv
      obtain ⟨z188, hinv⟩ := hinv
      obtain ⟨z189, hinv⟩ := hinv
      obtain ⟨z190, hinv⟩ := hinv
      obtain ⟨z191, hinv⟩ := hinv
      obtain ⟨z192, hinv⟩ := hinv
      obtain ⟨z193, hinv⟩ := hinv
      obtain ⟨z194, hinv⟩ := hinv
      obtain ⟨z195, hinv⟩ := hinv
      obtain ⟨z196, hinv⟩ := hinv
      obtain ⟨⟨hi, hI, hnd, hcap⟩, ha⟩ := hinv
      subst ha
      try dsimp only
      have HI := Go.Lib.hid hI
      have c5 := hI.sbox.cell 0
      simp only [ptr, List.getElem?_toArray, List.getElem?_cons_zero] at c5
      have HKE : Hid ((v.dir.map (·.1)).Nodup) := Go.Lib.hid (by obtain ⟨_, _, h, _⟩ := hI.st; exact h.keys)
      clear hI
      by_cases hlt : i < L.length
      · obtain ⟨x, hx⟩ : ∃ x, L[i]? = some x := ⟨_, List.getElem?_eq_getElem hlt⟩
        obtain ⟨lb, lo, rfl, hcs⟩ := HS.out (by omega)
        have Hx := Go.Lib.hid hx
        have Hcs := Go.Lib.hid (hcs i x hx)
        have hxm : x ∈ L := List.mem_of_getElem? hx
        have Hsm := Go.Lib.hid (Hall.out x hxm)
        clear hcs hx hxm
        have HCp := Go.Lib.hid HI.out.copy
        unfold ptr at HCp
        go_wp2_with fail
        refine HCp.out.mono ?_
        rintro e wc ⟨q, rfl, hRC, hcc⟩
        clear HCp c5
        have HC10 := Go.Lib.hid (hRC.quiet ((Chg.refl NoB wc).drew))
        clear hRC hcc
        have HSt : Hid (StepOk wc.drew x) := Go.Lib.hid ⟨Hcs.out.1.n, Hcs.out.1.nm, Hsm.out.1, (Hcs.out.1.chg HC10.out.ch).cells⟩
        have HDo := Go.Lib.hid (RC.do_ HC10.out x HSt.out)
        unfold ptr St.v at HDo
        go_wp2_with fail
        refine regionT 6 (fun W' => W'.cell? ⟨sb, 0, none⟩ = some (.pointer (some ⟨s, 0, none⟩)) ∧ W'.cell? ⟨lb, lo + i * 5, none⟩ = some (.int .i64 x.kind) ∧ W'.cell? ⟨lb, lo + i * 5 + 1, none⟩ = some (.int .i64 x.f) ∧ W'.cell? ⟨lb, lo + i * 5 + 2, none⟩ = some (.int .u32 x.w) ∧ W'.cell? ⟨lb, lo + i * 5 + 3, none⟩ = some (.string x.nm) ∧ W'.cell? ⟨lb, lo + i * 5 + 4, none⟩ = some (.slice x.A x.b.length x.c)) (by kernel_rfl) (by decide) (⟨HC10.out.ri.sbox.cell 0, cell_chg Hcs.out.2.1 HC10.out.ch, cell_chg Hcs.out.2.2.1 HC10.out.ch, cell_chg Hcs.out.2.2.2.1 HC10.out.ch, cell_chg Hcs.out.2.2.2.2.1 HC10.out.ch, cell_chg Hcs.out.2.2.2.2.2 HC10.out.ch⟩) (fun inv0 hHeld => ?_)
        refine takeT (i := 0) (t := 48) (v := ?v0) rfl (by kernel_rfl) (by kernel_rfl) (by kernel_rfl) (fun c a w h => panic_put (t := 48) (by decide) _ c a w h) (by kernel_rfl) (by kernel_rfl) (by decide) (by decide) rfl (Or.inl ⟨by rfl, ?h0⟩) inv0 hHeld ?r0
        case h0 => (intro w hSw; (try dsimp only at hSw); go_simp; try with_reducible rfl)
        intro inv01
        clear inv0
        try simp only [List.setIfInBounds_toArray, List.set_cons_zero, List.set_cons_succ]
        refine takeT (i := 1) (t := 49) (v := ?v1) rfl (by kernel_rfl) (by kernel_rfl) (by kernel_rfl) (fun c a w h => panic_put (t := 49) (by decide) _ c a w h) (by kernel_rfl) (by kernel_rfl) (by decide) (by decide) rfl (Or.inl ⟨by rfl, ?h1⟩) inv01 hHeld ?r1
        case h1 => (intro w hSw; (try dsimp only at hSw); go_simp; try with_reducible rfl)
        intro inv11
        clear inv01
        try simp only [List.setIfInBounds_toArray, List.set_cons_zero, List.set_cons_succ]
        refine takeT (i := 2) (t := 50) (v := ?v2) rfl (by kernel_rfl) (by kernel_rfl) (by kernel_rfl) (fun c a w h => panic_put (t := 50) (by decide) _ c a w h) (by kernel_rfl) (by kernel_rfl) (by decide) (by decide) rfl (Or.inl ⟨by rfl, ?h2⟩) inv11 hHeld ?r2
        case h2 => (intro w hSw; (try dsimp only at hSw); go_simp; try with_reducible rfl)
        intro inv21
        clear inv11
        try simp only [List.setIfInBounds_toArray, List.set_cons_zero, List.set_cons_succ]
        refine takeT (i := 3) (t := 51) (v := ?v3) rfl (by kernel_rfl) (by kernel_rfl) (by kernel_rfl) (fun c a w h => panic_put (t := 51) (by decide) _ c a w h) (by kernel_rfl) (by kernel_rfl) (by decide) (by decide) rfl (Or.inl ⟨by rfl, ?h3⟩) inv21 hHeld ?r3
        case h3 => (intro w hSw; (try dsimp only at hSw); go_simp; try with_reducible rfl)
        intro inv31
        clear inv21
        try simp only [List.setIfInBounds_toArray, List.set_cons_zero, List.set_cons_succ]
        refine takeT (i := 4) (t := 52) (v := ?v4) rfl (by kernel_rfl) (by kernel_rfl) (by kernel_rfl) (fun c a w h => panic_put (t := 52) (by decide) _ c a w h) (by kernel_rfl) (by kernel_rfl) (by decide) (by decide) rfl (Or.inl ⟨by rfl, ?h4⟩) inv31 hHeld ?r4
        case h4 => (intro w hSw; (try dsimp only at hSw); go_simp; try with_reducible rfl)
        intro inv41
        clear inv31
        try simp only [List.setIfInBounds_toArray, List.set_cons_zero, List.set_cons_succ]
        refine takeT (i := 5) (t := 53) (v := ?v5) rfl (by kernel_rfl) (by kernel_rfl) (by kernel_rfl) (fun c a w h => panic_put (t := 53) (by decide) _ c a w h) (by kernel_rfl) (by kernel_rfl) (by decide) (by decide) rfl (Or.inl ⟨by rfl, ?h5⟩) inv41 hHeld ?r5
        case h5 => (intro w hSw; (try dsimp only at hSw); go_simp; try with_reducible rfl)
        intro inv51
        clear inv41
        try simp only [List.setIfInBounds_toArray, List.set_cons_zero, List.set_cons_succ]
        refine callE (i := 6) (t := 54) (f := 31) (args := #[.agg #[], .pointer (some ⟨s, 0, none⟩), .agg #[.int .i64 x.kind, .int .i64 x.f, .int .u32 x.w, .string x.nm, .slice x.A x.b.length x.c]]) rfl (by kernel_rfl) rfl (by rfl) ?hx6 (by decide) ?hc6
        case hx6 => (go_simp; try rfl)
        case hc6 =>
          refine HDo.out.mono ?_
          rintro e w3 ⟨rfl, hRC3⟩
          refine ⟨_, rfl, ?_⟩
          try simp only [List.setIfInBounds_toArray, List.set_cons_zero, List.set_cons_succ]
          refine lastV (i := 7) (t := 9) (v := ?v7) (w' := w3) rfl (by kernel_rfl) rfl (by rfl) ?hx7 (by decide) (by kernel_rfl) ?_
          case hx7 => (go_simp; try with_reducible rfl)
          try simp only [List.setIfInBounds_toArray, List.set_cons_zero, List.set_cons_succ]
          have HC3 := Go.Lib.hid hRC3
          clear hRC3 HDo HC10 HSt hHeld inv51
          have k0 : w3.cell? ⟨lb, lo + i * 5, none⟩ = some (.int .i64 x.kind) := cell_chg Hcs.out.2.1 HC3.out.ch
          obtain ⟨nr, hnr⟩ : ∃ nr, nr = (v.doS x).1 := ⟨_, rfl⟩
          rw [← hnr]
          go_upto_region 11 with fail
          go_cut [10] from 48 to 195 (fun v10 wx => v10 = .bool (kindR x.kind && ((nr : Int) != 0)) ∧ wx = w3)
          case first =>
            as_aux_lemma =>
              clear hnr
              by_cases h5 : x.kind = 5
              · rw [h5] at k0
                go_wp2_with fail
                go_meet
                exact ⟨by simp [kindR, h5], rfl⟩
              by_cases h6 : x.kind = 6
              · rw [h6] at k0
                go_wp2_with fail
                go_meet
                exact ⟨by simp [kindR, h6], rfl⟩
              by_cases h8 : x.kind = 8
              · rw [h8] at k0
                go_wp2_with fail
                go_meet
                exact ⟨by simp [kindR, h8], rfl⟩
              by_cases h10 : x.kind = 10
              · rw [h10] at k0
                go_wp2_with fail
                go_meet
                exact ⟨by simp [kindR, h10], rfl⟩
              by_cases h11 : x.kind = 11
              · rw [h11] at k0
                go_wp2_with fail
                go_meet
                exact ⟨by simp [kindR, h11], rfl⟩
              have e5 : (x.kind == 5) = false := by simpa using h5
              have e6 : (x.kind == 6) = false := by simpa using h6
              have e8 : (x.kind == 8) = false := by simpa using h8
              have e10 : (x.kind == 10) = false := by simpa using h10
              have e11 : (x.kind == 11) = false := by simpa using h11
              go_wp2_with fail
              go_meet
              exact ⟨by simp only [kindR, e5, e6, e8, e10, e11]; rfl, rfl⟩
          case rest =>
            obtain ⟨rfl, hwx⟩ := hcut
            obtain rfl := hwx.symm
            clear hwx
            have HSo : Hid (∀ W', Chg NoB w3 W' → W'.cell? ⟨sb, 0, none⟩ = some (.pointer (some ⟨s, 0, none⟩)) ∧ W'.cell? ⟨lb, lo + i * 5 + 1, none⟩ = some (.int .i64 x.f) ∧ Chg NoB w3 W') := Go.Lib.hid (fun W' hW => ⟨(HC3.out.quiet hW).ri.sbox.cell 0, cell_chg Hcs.out.2.2.1 (HC3.out.quiet hW).ch, hW⟩)
            clear k0
            obtain ⟨R, hRe⟩ : ∃ R, R = (kindR x.kind && ((nr : Int) != 0)) := ⟨_, rfl⟩
            rw [← hRe]
            have HRe := Go.Lib.hid hRe
            have HNR := Go.Lib.hid hnr
            clear hRe hnr
            go_upto_region 12 with fail
            go_cut [138] from 97 to 195 (fun v138 wx => v138 = .bool false ∧ Chg NoB w3 wx)
            case first =>
              as_aux_lemma =>
                cases R with
                | false =>
                  go_quiet (fail)
                  go_wp2_with fail
                  go_meet
                  exact ⟨rfl, (Chg.refl NoB _).drewN _⟩
                | true =>
                  have HE : Hid (Eqv v (v.doS x).2) := Go.Lib.hid (by
                    have hR := HRe.out.symm
                    simp only [Bool.and_eq_true, bne_iff_ne] at hR
                    rw [HNR.out] at hR
                    exact Eqv.doS HKE.out x hR.1 (fun h0 => hR.2 (by rw [h0]; rfl)))
                  refine regionT 41 (fun W' => W'.cell? ⟨sb, 0, none⟩ = some (.pointer (some ⟨s, 0, none⟩)) ∧ W'.cell? ⟨lb, lo + i * 5 + 1, none⟩ = some (.int .i64 x.f) ∧ Chg NoB w3 W') (by kernel_rfl) (by decide) (HSo.out _ (Chg.refl NoB w3).drew) (fun inv0 hHeld => ?_)
                  refine takeT (i := 0) (t := 97) (v := ?v0b) rfl (by kernel_rfl) (by kernel_rfl) (by kernel_rfl) (fun c a w h => panic_put (t := 97) (by decide) _ c a w h) (by kernel_rfl) (by kernel_rfl) (by decide) (by decide) rfl (Or.inl ⟨by rfl, ?h0b⟩) inv0 hHeld ?r0b
                  case h0b => (intro w hSw; (try dsimp only at hSw); go_simp; try with_reducible rfl)
                  intro inv01
                  clear inv0
                  try simp only [List.setIfInBounds_toArray, List.set_cons_zero, List.set_cons_succ]
                  refine takeT (i := 1) (t := 98) (v := ?v1b) rfl (by kernel_rfl) (by kernel_rfl) (by kernel_rfl) (fun c a w h => panic_put (t := 98) (by decide) _ c a w h) (by kernel_rfl) (by kernel_rfl) (by decide) (by decide) rfl (Or.inl ⟨by rfl, ?h1b⟩) inv01 hHeld ?r1b
                  case h1b => (intro w hSw; (try dsimp only at hSw); go_simp; try with_reducible rfl)
                  intro inv11
                  clear inv01
                  try simp only [List.setIfInBounds_toArray, List.set_cons_zero, List.set_cons_succ]
                  refine takeT (i := 2) (t := 99) (v := ?v2b) rfl (by kernel_rfl) (by kernel_rfl) (by kernel_rfl) (fun c a w h => panic_put (t := 99) (by decide) _ c a w h) (by kernel_rfl) (by kernel_rfl) (by decide) (by decide) rfl (Or.inl ⟨by rfl, ?h2b⟩) inv11 hHeld ?r2b
                  case h2b => (intro w hSw; (try dsimp only at hSw); go_simp; try with_reducible rfl)
                  intro inv21
                  clear inv11
                  try simp only [List.setIfInBounds_toArray, List.set_cons_zero, List.set_cons_succ]
                  refine takeT (i := 3) (t := 100) (v := ?v3b) rfl (by kernel_rfl) (by kernel_rfl) (by kernel_rfl) (fun c a w h => panic_put (t := 100) (by decide) _ c a w h) (by kernel_rfl) (by kernel_rfl) (by decide) (by decide) rfl (Or.inl ⟨by rfl, ?h3b⟩) inv21 hHeld ?r3b
                  case h3b => (intro w hSw; (try dsimp only at hSw); go_simp; try with_reducible rfl)
                  intro inv31
                  clear inv21
                  try simp only [List.setIfInBounds_toArray, List.set_cons_zero, List.set_cons_succ]
                  refine takeT (i := 4) (t := 101) (v := ?v4b) rfl (by kernel_rfl) (by kernel_rfl) (by kernel_rfl) (fun c a w h => panic_put (t := 101) (by decide) _ c a w h) (by kernel_rfl) (by kernel_rfl) (by decide) (by decide) rfl (Or.inl ⟨by rfl, ?h4b⟩) inv31 hHeld ?r4b
                  case h4b => (intro w hSw; (try dsimp only at hSw); go_simp; try with_reducible rfl)
                  intro inv41
                  clear inv31
                  try simp only [List.setIfInBounds_toArray, List.set_cons_zero, List.set_cons_succ]
                  refine takeT (i := 5) (t := 102) (v := ?v5b) rfl (by kernel_rfl) (by kernel_rfl) (by kernel_rfl) (fun c a w h => panic_put (t := 102) (by decide) _ c a w h) (by kernel_rfl) (by kernel_rfl) (by decide) (by decide) rfl (Or.inl ⟨by rfl, ?h5b⟩) inv41 hHeld ?r5b
                  case h5b => (intro w hSw; (try dsimp only at hSw); go_simp; try with_reducible rfl)
                  intro inv51
                  clear inv41
                  try simp only [List.setIfInBounds_toArray, List.set_cons_zero, List.set_cons_succ]
                  refine takeT (i := 6) (t := 103) (v := ?v6b) rfl (by kernel_rfl) (by kernel_rfl) (by kernel_rfl) (fun c a w h => panic_put (t := 103) (by decide) _ c a w h) (by kernel_rfl) (by kernel_rfl) (by decide) (by decide) rfl (Or.inl ⟨by rfl, ?h6b⟩) inv51 hHeld ?r6b
                  case h6b => (intro w hSw; (try dsimp only at hSw); go_simp; try with_reducible rfl)
                  intro inv61
                  clear inv51
                  try simp only [List.setIfInBounds_toArray, List.set_cons_zero, List.set_cons_succ]
                  refine callT (i := 7) (t := 104) (f := 33) (args := #[.pointer (some ⟨s, 0, none⟩), .pointer (some ⟨q, 0, none⟩)]) rfl (by kernel_rfl) rfl (by rfl) ?hx7b inv61 (by decide) ?hc7b
                  case hx7b => (go_simp; try rfl)
                  case hc7b =>
                    refine ((HC3.out.quiet hHeld.2.2).same HE.out).mono ?_
                    rintro e wk7 ⟨rfl, hck7⟩
                    refine ⟨_, rfl, HSo.out _ (hHeld.2.2.trans hck7), fun inv71 hHeld7 => ?_⟩
                    try simp only [List.setIfInBounds_toArray, List.set_cons_zero, List.set_cons_succ]
                    refine takeT (i := 8) (t := 105) (v := ?v8b) rfl (by kernel_rfl) (by kernel_rfl) (by kernel_rfl) (fun c a w h => panic_put (t := 105) (by decide) _ c a w h) (by kernel_rfl) (by kernel_rfl) (by decide) (by decide) rfl (Or.inl ⟨by rfl, ?h8b⟩) inv71 hHeld7 ?r8b
                    case h8b => (intro w hSw; (try dsimp only at hSw); go_simp; try with_reducible rfl)
                    intro inv81
                    clear inv71
                    try simp only [List.setIfInBounds_toArray, List.set_cons_zero, List.set_cons_succ]
                    refine takeT (i := 9) (t := 106) (v := ?v9b) rfl (by kernel_rfl) (by kernel_rfl) (by kernel_rfl) (fun c a w h => panic_put (t := 106) (by decide) _ c a w h) (by kernel_rfl) (by kernel_rfl) (by decide) (by decide) rfl (Or.inl ⟨by rfl, ?h9b⟩) inv81 hHeld7 ?r9b
                    case h9b => (intro w hSw; (try dsimp only at hSw); go_simp; try with_reducible rfl)
                    intro inv91
                    clear inv81
                    try simp only [List.setIfInBounds_toArray, List.set_cons_zero, List.set_cons_succ]
                    refine takeT (i := 10) (t := 107) (v := ?v10b) rfl (by kernel_rfl) (by kernel_rfl) (by kernel_rfl) (fun c a w h => panic_put (t := 107) (by decide) _ c a w h) (by kernel_rfl) (by kernel_rfl) (by decide) (by decide) rfl (Or.inl ⟨by rfl, ?h10b⟩) inv91 hHeld7 ?r10b
                    case h10b => (intro w hSw; (try dsimp only at hSw); go_simp; try with_reducible rfl)
                    intro inv101
                    clear inv91
                    try simp only [List.setIfInBounds_toArray, List.set_cons_zero, List.set_cons_succ]
                    refine takeT (i := 12) (t := 109) (v := ?v12b) rfl (by kernel_rfl) (by kernel_rfl) (by kernel_rfl) (fun c a w h => panic_put (t := 109) (by decide) _ c a w h) (by kernel_rfl) (by kernel_rfl) (by decide) (by decide) rfl (Or.inl ⟨by rfl, ?h12b⟩) inv101 hHeld7 ?r12b
                    case h12b => (intro w hSw; (try dsimp only at hSw); go_simp; try with_reducible rfl)
                    intro inv121
                    clear inv101
                    try simp only [List.setIfInBounds_toArray, List.set_cons_zero, List.set_cons_succ]
                    refine callT (i := 11) (t := 108) (f := 37) (args := #[.pointer (some ⟨s, 0, none⟩)]) rfl (by kernel_rfl) rfl (by rfl) ?hx11b inv121 (by decide) ?hc11b
                    case hx11b => (go_simp; try rfl)
                    case hc11b =>
                      refine ((HC3.out.quiet hHeld7.2.2).ri.riders).mono ?_
                      rintro e wk11 ⟨rfl, hck11⟩
                      refine ⟨_, rfl, HSo.out _ (hHeld7.2.2.trans hck11), fun inv111 hHeld11 => ?_⟩
                      try simp only [List.setIfInBounds_toArray, List.set_cons_zero, List.set_cons_succ]
                      refine callT (i := 13) (t := 110) (f := 37) (args := #[.pointer (some ⟨q, 0, none⟩)]) rfl (by kernel_rfl) rfl (by rfl) ?hx13b inv111 (by decide) ?hc13b
                      case hx13b => (go_simp; try rfl)
                      case hc13b =>
                        refine ((HC3.out.quiet hHeld11.2.2).riders HE.out).mono ?_
                        rintro e wk13 ⟨rfl, hck13⟩
                        refine ⟨_, rfl, HSo.out _ (hHeld11.2.2.trans hck13), fun inv131 hHeld13 => ?_⟩
                        try simp only [List.setIfInBounds_toArray, List.set_cons_zero, List.set_cons_succ]
                        refine takeT (i := 14) (t := 111) (v := ?v14b) rfl (by kernel_rfl) (by kernel_rfl) (by kernel_rfl) (fun c a w h => panic_put (t := 111) (by decide) _ c a w h) (by kernel_rfl) (by kernel_rfl) (by decide) (by decide) rfl (Or.inl ⟨by rfl, ?h14b⟩) inv131 hHeld13 ?r14b
                        case h14b => (intro w hSw; (try dsimp only at hSw); go_simp; try with_reducible rfl)
                        intro inv141
                        clear inv131
                        try simp only [List.setIfInBounds_toArray, List.set_cons_zero, List.set_cons_succ]
                        refine takeT (i := 15) (t := 112) (v := ?v15b) rfl (by kernel_rfl) (by kernel_rfl) (by kernel_rfl) (fun c a w h => panic_put (t := 112) (by decide) _ c a w h) (by kernel_rfl) (by kernel_rfl) (by decide) (by decide) rfl (Or.inl ⟨by rfl, ?h15b⟩) inv141 hHeld13 ?r15b
                        case h15b => (intro w hSw; (try dsimp only at hSw); go_simp; try with_reducible rfl)
                        intro inv151
                        clear inv141
                        try simp only [List.setIfInBounds_toArray, List.set_cons_zero, List.set_cons_succ]
                        refine takeT (i := 16) (t := 113) (v := ?v16b) rfl (by kernel_rfl) (by kernel_rfl) (by kernel_rfl) (fun c a w h => panic_put (t := 113) (by decide) _ c a w h) (by kernel_rfl) (by kernel_rfl) (by decide) (by decide) rfl (Or.inl ⟨by rfl, ?h16b⟩) inv151 hHeld13 ?r16b
                        case h16b => (intro w hSw; (try dsimp only at hSw); go_simp; try with_reducible rfl)
                        intro inv161
                        clear inv151
                        try simp only [List.setIfInBounds_toArray, List.set_cons_zero, List.set_cons_succ]
                        refine takeT (i := 17) (t := 114) (v := ?v17b) rfl (by kernel_rfl) (by kernel_rfl) (by kernel_rfl) (fun c a w h => panic_put (t := 114) (by decide) _ c a w h) (by kernel_rfl) (by kernel_rfl) (by decide) (by decide) rfl (Or.inl ⟨by rfl, ?h17b⟩) inv161 hHeld13 ?r17b
                        case h17b => (intro w hSw; (try dsimp only at hSw); go_simp; try with_reducible rfl)
                        intro inv171
                        clear inv161
                        try simp only [List.setIfInBounds_toArray, List.set_cons_zero, List.set_cons_succ]
                        refine takeT (i := 19) (t := 116) (v := ?v19b) rfl (by kernel_rfl) (by kernel_rfl) (by kernel_rfl) (fun c a w h => panic_put (t := 116) (by decide) _ c a w h) (by kernel_rfl) (by kernel_rfl) (by decide) (by decide) rfl (Or.inl ⟨by rfl, ?h19b⟩) inv171 hHeld13 ?r19b
                        case h19b => (intro w hSw; (try dsimp only at hSw); go_simp; try with_reducible rfl)
                        intro inv191
                        clear inv171
                        try simp only [List.setIfInBounds_toArray, List.set_cons_zero, List.set_cons_succ]
                        refine callT (i := 18) (t := 115) (f := 35) (args := #[.pointer (some ⟨s, 0, none⟩)]) rfl (by kernel_rfl) rfl (by rfl) ?hx18b inv191 (by decide) ?hc18b
                        case hx18b => (go_simp; try rfl)
                        case hc18b =>
                          refine ((HC3.out.quiet hHeld13.2.2).ri.room).mono ?_
                          rintro e wk18 ⟨rfl, hck18⟩
                          refine ⟨_, rfl, HSo.out _ (hHeld13.2.2.trans hck18), fun inv181 hHeld18 => ?_⟩
                          try simp only [List.setIfInBounds_toArray, List.set_cons_zero, List.set_cons_succ]
                          refine callT (i := 20) (t := 117) (f := 35) (args := #[.pointer (some ⟨q, 0, none⟩)]) rfl (by kernel_rfl) rfl (by rfl) ?hx20b inv181 (by decide) ?hc20b
                          case hx20b => (go_simp; try rfl)
                          case hc20b =>
                            refine ((HC3.out.quiet hHeld18.2.2).room HE.out).mono ?_
                            rintro e wk20 ⟨rfl, hck20⟩
                            refine ⟨_, rfl, HSo.out _ (hHeld18.2.2.trans hck20), fun inv201 hHeld20 => ?_⟩
                            try simp only [List.setIfInBounds_toArray, List.set_cons_zero, List.set_cons_succ]
                            refine takeT (i := 21) (t := 118) (v := ?v21b) rfl (by kernel_rfl) (by kernel_rfl) (by kernel_rfl) (fun c a w h => panic_put (t := 118) (by decide) _ c a w h) (by kernel_rfl) (by kernel_rfl) (by decide) (by decide) rfl (Or.inl ⟨by rfl, ?h21b⟩) inv201 hHeld20 ?r21b
                            case h21b => (intro w hSw; (try dsimp only at hSw); go_simp; try with_reducible rfl)
                            intro inv211
                            clear inv201
                            try simp only [List.setIfInBounds_toArray, List.set_cons_zero, List.set_cons_succ]
                            refine takeT (i := 22) (t := 119) (v := ?v22b) rfl (by kernel_rfl) (by kernel_rfl) (by kernel_rfl) (fun c a w h => panic_put (t := 119) (by decide) _ c a w h) (by kernel_rfl) (by kernel_rfl) (by decide) (by decide) rfl (Or.inl ⟨by rfl, ?h22b⟩) inv211 hHeld20 ?r22b
                            case h22b => (intro w hSw; (try dsimp only at hSw); go_simp; try with_reducible rfl)
                            intro inv221
                            clear inv211
                            try simp only [List.setIfInBounds_toArray, List.set_cons_zero, List.set_cons_succ]
                            refine takeT (i := 23) (t := 120) (v := ?v23b) rfl (by kernel_rfl) (by kernel_rfl) (by kernel_rfl) (fun c a w h => panic_put (t := 120) (by decide) _ c a w h) (by kernel_rfl) (by kernel_rfl) (by decide) (by decide) rfl (Or.inl ⟨by rfl, ?h23b⟩) inv221 hHeld20 ?r23b
                            case h23b => (intro w hSw; (try dsimp only at hSw); go_simp; try with_reducible rfl)
                            intro inv231
                            clear inv221
                            try simp only [List.setIfInBounds_toArray, List.set_cons_zero, List.set_cons_succ]
                            refine takeT (i := 24) (t := 121) (v := ?v24b) rfl (by kernel_rfl) (by kernel_rfl) (by kernel_rfl) (fun c a w h => panic_put (t := 121) (by decide) _ c a w h) (by kernel_rfl) (by kernel_rfl) (by decide) (by decide) rfl (Or.inl ⟨by rfl, ?h24b⟩) inv231 hHeld20 ?r24b
                            case h24b => (intro w hSw; (try dsimp only at hSw); go_simp; try with_reducible rfl)
                            intro inv241
                            clear inv231
                            try simp only [List.setIfInBounds_toArray, List.set_cons_zero, List.set_cons_succ]
                            refine takeT (i := 25) (t := 122) (v := ?v25b) rfl (by kernel_rfl) (by kernel_rfl) (by kernel_rfl) (fun c a w h => panic_put (t := 122) (by decide) _ c a w h) (by kernel_rfl) (by kernel_rfl) (by decide) (by decide) rfl (Or.inl ⟨by rfl, ?h25b⟩) inv241 hHeld20 ?r25b
                            case h25b => (intro w hSw; (try dsimp only at hSw); go_simp; try with_reducible rfl)
                            intro inv251
                            clear inv241
                            try simp only [List.setIfInBounds_toArray, List.set_cons_zero, List.set_cons_succ]
                            refine takeT (i := 26) (t := 123) (v := ?v26b) rfl (by kernel_rfl) (by kernel_rfl) (by kernel_rfl) (fun c a w h => panic_put (t := 123) (by decide) _ c a w h) (by kernel_rfl) (by kernel_rfl) (by decide) (by decide) rfl (Or.inl ⟨by rfl, ?h26b⟩) inv251 hHeld20 ?r26b
                            case h26b => (intro w hSw; (try dsimp only at hSw); go_simp; try with_reducible rfl)
                            intro inv261
                            clear inv251
                            try simp only [List.setIfInBounds_toArray, List.set_cons_zero, List.set_cons_succ]
                            refine takeT (i := 27) (t := 124) (v := ?v27b) rfl (by kernel_rfl) (by kernel_rfl) (by kernel_rfl) (fun c a w h => panic_put (t := 124) (by decide) _ c a w h) (by kernel_rfl) (by kernel_rfl) (by decide) (by decide) rfl (Or.inl ⟨by rfl, ?h27b⟩) inv261 hHeld20 ?r27b
                            case h27b => (intro w hSw; (try dsimp only at hSw); go_simp; try with_reducible rfl)
                            intro inv271
                            clear inv261
                            try simp only [List.setIfInBounds_toArray, List.set_cons_zero, List.set_cons_succ]
                            refine takeT (i := 28) (t := 125) (v := ?v28b) rfl (by kernel_rfl) (by kernel_rfl) (by kernel_rfl) (fun c a w h => panic_put (t := 125) (by decide) _ c a w h) (by kernel_rfl) (by kernel_rfl) (by decide) (by decide) rfl (Or.inl ⟨by rfl, ?h28b⟩) inv271 hHeld20 ?r28b
                            case h28b => (intro w hSw; (try dsimp only at hSw); go_simp; try with_reducible rfl)
                            intro inv281
                            clear inv271
                            try simp only [List.setIfInBounds_toArray, List.set_cons_zero, List.set_cons_succ]
                            refine takeT (i := 29) (t := 126) (v := ?v29b) rfl (by kernel_rfl) (by kernel_rfl) (by kernel_rfl) (fun c a w h => panic_put (t := 126) (by decide) _ c a w h) (by kernel_rfl) (by kernel_rfl) (by decide) (by decide) rfl (Or.inl ⟨by rfl, ?h29b⟩) inv281 hHeld20 ?r29b
                            case h29b => (intro w hSw; (try dsimp only at hSw); go_simp; try with_reducible rfl)
                            intro inv291
                            clear inv281
                            try simp only [List.setIfInBounds_toArray, List.set_cons_zero, List.set_cons_succ]
                            refine takeT (i := 31) (t := 128) (v := ?v31b) rfl (by kernel_rfl) (by kernel_rfl) (by kernel_rfl) (fun c a w h => panic_put (t := 128) (by decide) _ c a w h) (by kernel_rfl) (by kernel_rfl) (by decide) (by decide) rfl (Or.inl ⟨by rfl, ?h31b⟩) inv291 hHeld20 ?r31b
                            case h31b => (intro w hSw; (try dsimp only at hSw); go_simp; try with_reducible rfl)
                            intro inv311
                            clear inv291
                            try simp only [List.setIfInBounds_toArray, List.set_cons_zero, List.set_cons_succ]
                            refine takeT (i := 32) (t := 129) (v := ?v32b) rfl (by kernel_rfl) (by kernel_rfl) (by kernel_rfl) (fun c a w h => panic_put (t := 129) (by decide) _ c a w h) (by kernel_rfl) (by kernel_rfl) (by decide) (by decide) rfl (Or.inl ⟨by rfl, ?h32b⟩) inv311 hHeld20 ?r32b
                            case h32b => (intro w hSw; (try dsimp only at hSw); go_simp; try with_reducible rfl)
                            intro inv321
                            clear inv311
                            try simp only [List.setIfInBounds_toArray, List.set_cons_zero, List.set_cons_succ]
                            refine takeT (i := 33) (t := 130) (v := ?v33b) rfl (by kernel_rfl) (by kernel_rfl) (by kernel_rfl) (fun c a w h => panic_put (t := 130) (by decide) _ c a w h) (by kernel_rfl) (by kernel_rfl) (by decide) (by decide) rfl (Or.inl ⟨by rfl, ?h33b⟩) inv321 hHeld20 ?r33b
                            case h33b => (intro w hSw; (try dsimp only at hSw); go_simp; try with_reducible rfl)
                            intro inv331
                            clear inv321
                            try simp only [List.setIfInBounds_toArray, List.set_cons_zero, List.set_cons_succ]
                            refine takeT (i := 34) (t := 131) (v := ?v34b) rfl (by kernel_rfl) (by kernel_rfl) (by kernel_rfl) (fun c a w h => panic_put (t := 131) (by decide) _ c a w h) (by kernel_rfl) (by kernel_rfl) (by decide) (by decide) rfl (Or.inl ⟨by rfl, ?h34b⟩) inv331 hHeld20 ?r34b
                            case h34b => (intro w hSw; (try dsimp only at hSw); go_simp; try with_reducible rfl)
                            intro inv341
                            clear inv331
                            try simp only [List.setIfInBounds_toArray, List.set_cons_zero, List.set_cons_succ]
                            refine takeT (i := 35) (t := 132) (v := ?v35b) rfl (by kernel_rfl) (by kernel_rfl) (by kernel_rfl) (fun c a w h => panic_put (t := 132) (by decide) _ c a w h) (by kernel_rfl) (by kernel_rfl) (by decide) (by decide) rfl (Or.inl ⟨by rfl, ?h35b⟩) inv341 hHeld20 ?r35b
                            case h35b => (intro w hSw; (try dsimp only at hSw); go_simp; try with_reducible rfl)
                            intro inv351
                            clear inv341
                            try simp only [List.setIfInBounds_toArray, List.set_cons_zero, List.set_cons_succ]
                            refine takeT (i := 36) (t := 133) (v := ?v36b) rfl (by kernel_rfl) (by kernel_rfl) (by kernel_rfl) (fun c a w h => panic_put (t := 133) (by decide) _ c a w h) (by kernel_rfl) (by kernel_rfl) (by decide) (by decide) rfl (Or.inl ⟨by rfl, ?h36b⟩) inv351 hHeld20 ?r36b
                            case h36b => (intro w hSw; (try dsimp only at hSw); go_simp; try with_reducible rfl)
                            intro inv361
                            clear inv351
                            try simp only [List.setIfInBounds_toArray, List.set_cons_zero, List.set_cons_succ]
                            refine callT (i := 30) (t := 127) (f := 15) (args := #[.pointer (some ⟨s, 0, none⟩), .int .i64 x.f]) rfl (by kernel_rfl) rfl (by rfl) ?hx30b inv361 (by decide) ?hc30b
                            case hx30b => (go_simp; try rfl)
                            case hc30b =>
                              refine ((HC3.out.quiet hHeld20.2.2).ri.at_ x.f).mono ?_
                              rintro e wk30 ⟨rfl, hck30⟩
                              refine ⟨_, rfl, HSo.out _ (hHeld20.2.2.trans hck30), fun inv301 hHeld30 => ?_⟩
                              try simp only [List.setIfInBounds_toArray, List.set_cons_zero, List.set_cons_succ]
                              refine callT (i := 37) (t := 134) (f := 15) (args := #[.pointer (some ⟨q, 0, none⟩), .int .i64 x.f]) rfl (by kernel_rfl) rfl (by rfl) ?hx37b inv301 (by decide) ?hc37b
                              case hx37b => (go_simp; try rfl)
                              case hc37b =>
                                refine ((HC3.out.quiet hHeld30.2.2).at_ HE.out x.f).mono ?_
                                rintro e wk37 ⟨rfl, hck37⟩
                                refine ⟨_, rfl, HSo.out _ (hHeld30.2.2.trans hck37), fun inv371 hHeld37 => ?_⟩
                                try simp only [List.setIfInBounds_toArray, List.set_cons_zero, List.set_cons_succ]
                                refine takeT (i := 38) (t := 135) (v := ?v38b) rfl (by kernel_rfl) (by kernel_rfl) (by kernel_rfl) (fun c a w h => panic_put (t := 135) (by decide) _ c a w h) (by kernel_rfl) (by kernel_rfl) (by decide) (by decide) rfl (Or.inl ⟨by rfl, ?h38b⟩) inv371 hHeld37 ?r38b
                                case h38b => (intro w hSw; (try dsimp only at hSw); go_simp; try with_reducible rfl)
                                intro inv381
                                clear inv371
                                try simp only [List.setIfInBounds_toArray, List.set_cons_zero, List.set_cons_succ]
                                refine takeT (i := 39) (t := 136) (v := ?v39b) rfl (by kernel_rfl) (by kernel_rfl) (by kernel_rfl) (fun c a w h => panic_put (t := 136) (by decide) _ c a w h) (by kernel_rfl) (by kernel_rfl) (by decide) (by decide) rfl (Or.inl ⟨by rfl, ?h39b⟩) inv381 hHeld37 ?r39b
                                case h39b => (intro w hSw; (try dsimp only at hSw); go_simp; try with_reducible rfl)
                                intro inv391
                                clear inv381
                                try simp only [List.setIfInBounds_toArray, List.set_cons_zero, List.set_cons_succ]
                                refine takeT (i := 40) (t := 137) (v := ?v40b) rfl (by kernel_rfl) (by kernel_rfl) (by kernel_rfl) (fun c a w h => panic_put (t := 137) (by decide) _ c a w h) (by kernel_rfl) (by kernel_rfl) (by decide) (by decide) rfl (Or.inl ⟨by rfl, ?h40b⟩) inv391 hHeld37 ?r40b
                                case h40b => (intro w hSw; (try dsimp only at hSw); go_simp; try with_reducible rfl)
                                intro inv401
                                clear inv391
                                try simp only [List.setIfInBounds_toArray, List.set_cons_zero, List.set_cons_succ]
                                refine lastV (i := 41) (t := 138) (v := ?v41b) (w' := wk37) rfl (by kernel_rfl) rfl (by rfl) ?hx41b (by decide) (by kernel_rfl) ?_
                                case hx41b => (go_simp; try with_reducible rfl)
                                try simp only [List.setIfInBounds_toArray, List.set_cons_zero, List.set_cons_succ]
                                have hfin := hHeld37.2.2
                                go_wp2_with fail
                                go_meet
                                exact ⟨rfl, hfin⟩
            case rest =>
              obtain ⟨rfl, hc12⟩ := hcut
              have HI2 := Go.Lib.hid ((HC3.out.quiet hc12).ri)
              clear HC3 HSo hc12 HI HRe HNR
              have c5 : ((wc.alloc (.cells #[.int .i64 0] 3)).alloc (.cells #[.string ⟨#[]⟩] 9)).cell? ⟨sb, 0, none⟩ = some (.pointer (some ⟨s, 0, none⟩)) := ((HI2.out.quiet (((Chg.refl NoB wc).alloc _).alloc _)).sbox).cell 0
              go_wp2_with fail
              have HF1 := Go.Lib.hid ((HI2.out.quiet (((Chg.refl NoB wc).alloc (.cells #[.int .i64 0] 3)).alloc (.cells #[.string ⟨#[]⟩] 9))).files)
              unfold ptr at HF1
              refine HF1.out.mono ?_
              rintro e wf ⟨Lf, htell, fa, fb, rfl, hfa, hcf⟩
              clear HF1
              have c5f : wf.cell? ⟨sb, 0, none⟩ = some (.pointer (some ⟨s, 0, none⟩)) := ((HI2.out.quiet ((((Chg.refl NoB wc).alloc _).alloc _).trans hcf)).sbox).cell 0
              have hfn := fun (x c : Array Value) (W : World) => run_eql_seq_nil (.func 73) x c W
              go_wp2_with fail
              have hCf : Chg NoB wc wf := (((Chg.refl NoB wc).alloc _).alloc _).trans hcf
              have HF2 := Go.Lib.hid ((HI2.out.quiet hCf).files)
              unfold ptr at HF2
              refine HF2.out.mono ?_
              rintro e wg ⟨Lg, htg, ga, gb, rfl, hga, hcg⟩
              clear HF2
              have Hsz : Hid (wc.heap.size + 1 < wf.heap.size) := Go.Lib.hid (by have := hcf.size; simp at this; omega)
              have hCg : Chg NoB wc wg := hCf.trans hcg
              have bS : Blk wg wc.heap.size 3 #[.int .i64 0] := ((((Blk.new wc 3 #[.int .i64 0]).alloc _).chg hcf id).chg hcg id)
              have bL : Blk wg (wc.heap.size + 1) 9 #[.string ⟨#[]⟩] := (((Blk.at_ (wc.alloc (.cells #[.int .i64 0] 3)) (wc.heap.size + 1) 9 #[.string ⟨#[]⟩] (by simp)).chg hcf id).chg hcg id)
              obtain ⟨gA, gc, gB, gd, hgx⟩ := hga.x
              have HX := Go.Lib.hid (And.intro hCg (And.intro bS (And.intro bL hgx)))
              have HT := Go.Lib.hid htg
              clear htell hfa hga hcg hcf hCf bS bL hgx htg c5 c5f
              go_wp2_with fail
              obtain ⟨xs, hxs⟩ : ∃ y, y = x := ⟨_, rfl⟩
              rw [← hxs] at HI2 HT
              clear hxs
              clear hfn
              have hgsz := Hsz.out
              have hwg : wf.heap.size ≤ wg.heap.size := by have := HX.out.2.2.2.ba.lt; have := HX.out.2.2.2.lo; omega
              refine (wpIn_wide (n := 9)).1 (wpIn_rangeFunc_ownH (n := 9) rfl (by omega) (gf := 73) (lb := #[.pointer (some ⟨ga, 0, none⟩), .pointer (some ⟨gb, 0, none⟩)]) (encs := fun x : Fin Lg.length => encF Lg[x]) rfl trivial (enters_of Try.func73 (by kernel_rfl) rfl)
                (files_stops (9 - 1) HX.out.2.2.2 HT.out.few)
                (fun h k hx => k (h hx)) (fun W l o o' _ ho hc _ hx => hx.put o' ho hc) (Below.refl _ _) (fun _ => rfl)
                (fun pre W => ∃ (n : Int) (ls : ByteArray), RJ wc n ls W ∧ (pre <+: List.finRange Lg.length → n = (sumK Lg pre.length : Nat) ∧ ls = lastK Lg pre.length))
                (fun cde pre W => ¬ pre <+: List.finRange Lg.length)
                (fun pre A B row hs hg hr => by obtain ⟨n, ls, h1, h2⟩ := hs; exact ⟨n, ls, h1.grown (b := wg.heap.size) (by omega) hg (fun r e => (hr r e).1), h2⟩)
                (fun cde pre A B row hs hg hr => hs)
                ⟨0, ⟨#[]⟩, ⟨HX.out.1, HX.out.2.1, HX.out.2.2.1⟩, fun _ => ⟨rfl, rfl⟩⟩
                (fun x a' W => a' = { tmps := List.toArray ((.int .i64 cap) :: (.slice (some ⟨lb, lo, none⟩) L.length c) :: (z2) :: (z3) :: (.pointer (some ⟨w.heap.size, 0, none⟩)) :: (.pointer (some ⟨sb, 0, none⟩)) :: (z6) :: (.int .i64 (i : Nat)) :: (.pointer (some ⟨q, 0, none⟩)) :: (.int .u32 nr) :: (.bool R) :: (.pointer (some ⟨wc.heap.size, 0, none⟩)) :: (.pointer (some ⟨wc.heap.size + 1, 0, none⟩)) :: (.string Lg[x].1) :: (.int .i64 Lg[x].2) :: (z15) :: (z16) :: (z17) :: (z18) :: (z19) :: (z20) :: (z21) :: (z22) :: (z23) :: (z24) :: (z25) :: (z26) :: (z27) :: (z28) :: (z29) :: (z30) :: (z31) :: (z32) :: (z33) :: (z34) :: (z35) :: (z36) :: (z37) :: (z38) :: (z39) :: (.int .i64 (i : Nat)) :: (.slice (some ⟨lb, lo, none⟩) L.length c) :: (.int .i64 (L.length : Nat)) :: (.bool true) :: (z44) :: (z45) :: (.pointer (some ⟨s, 0, none⟩)) :: (.pointer (some ⟨q, 0, none⟩)) :: (u48) :: (u49) :: (u50) :: (u51) :: (u52) :: (u53) :: (u54) :: (u55) :: (u56) :: (u57) :: (u58) :: (u59) :: (u60) :: (u61) :: (u62) :: (u63) :: (u64) :: (u65) :: (u66) :: (u67) :: (u68) :: (u69) :: (u70) :: (u71) :: (u72) :: (u73) :: (u74) :: (u75) :: (u76) :: (u77) :: (u78) :: (u79) :: (u80) :: (u81) :: (u82) :: (u83) :: (u84) :: (u85) :: (u86) :: (u87) :: (u88) :: (u89) :: (u90) :: (u91) :: (u92) :: (u93) :: (u94) :: (u95) :: (u96) :: (u97) :: (u98) :: (u99) :: (u100) :: (u101) :: (u102) :: (u103) :: (u104) :: (u105) :: (u106) :: (u107) :: (u108) :: (u109) :: (u110) :: (u111) :: (u112) :: (u113) :: (u114) :: (u115) :: (u116) :: (u117) :: (u118) :: (u119) :: (u120) :: (u121) :: (u122) :: (u123) :: (u124) :: (u125) :: (u126) :: (u127) :: (u128) :: (u129) :: (u130) :: (u131) :: (u132) :: (u133) :: (u134) :: (u135) :: (u136) :: (u137) :: (.bool false) :: (.pointer (some ⟨s, 0, none⟩)) :: (.func (.func 73) #[] #[.pointer (some ⟨fa, 0, none⟩), .pointer (some ⟨fb, 0, none⟩)]) :: (.bool false) :: (.pointer (some ⟨s, 0, none⟩)) :: (.func (.func 73) #[] #[.pointer (some ⟨ga, 0, none⟩), .pointer (some ⟨gb, 0, none⟩)]) :: (.string Lg[x].1) :: (.int .i64 Lg[x].2) :: (u146) :: (u147) :: (u148) :: (u149) :: (u150) :: (u151) :: (u152) :: (u153) :: (u154) :: (u155) :: (u156) :: (u157) :: (u158) :: (u159) :: (u160) :: (u161) :: (u162) :: (u163) :: (u164) :: (u165) :: (u166) :: (u167) :: (u168) :: (u169) :: (u170) :: (u171) :: (u172) :: (u173) :: (u174) :: (u175) :: (u176) :: (u177) :: (u178) :: (u179) :: (u180) :: (u181) :: (u182) :: (u183) :: (u184) :: (u185) :: (u186) :: (u187) :: (u188) :: (u189) :: (u190) :: (u191) :: (u192) :: (u193) :: (u194) :: (u195) :: (z196) :: []), defers := [] })
                (fun x a' _ A B row hs hg hr => hs)
                ?assign ?body ?done ?stop)
              case assign =>
                rintro l pre x W K hI hK
                unfold encF
                gi_wp2
                exact hK _ _ ⟨Nat.le_refl _, fun k o _ ho _ => ho⟩ id hI rfl
              case body =>
                rintro l pre x a' W _ _ ⟨n, ls, hJ, hp⟩ rfl hlt2
                obtain ⟨hmn, nf, hlk, hsz⟩ := HT.out.each Lg[x] (List.getElem_mem _)
                have HP : Hid (pre ++ [x] <+: List.finRange Lg.length → Lg[x] = Lg[pre.length] ∧ pre <+: List.finRange Lg.length) := Go.Lib.hid (fun h => by
                  have h1 := snoc_fin h hlt2
                  subst h1
                  exact ⟨rfl, (List.prefix_append pre _).trans h⟩)
                have Hp := Go.Lib.hid hp
                have HJ := Go.Lib.hid hJ
                
                generalize Lg[x] = ex at *
                obtain ⟨nm, sz⟩ := ex
                simp only at hmn hlk hsz
                subst hsz
                have hns : nm.size ≤ maxLen := by
                  unfold mayName at hmn
                  simp at hmn
                  unfold maxLen
                  omega
                have HGt := Go.Lib.hid ((HI2.out.quiet hJ.chg).get hmn hlk)
                have HMn := Go.Lib.hid (fun W' => mayName_c nm hns W')
                rw [hmn] at HMn
                
                unfold ptr at HGt
                have c5 : W.cell? ⟨sb, 0, none⟩ = some (.pointer (some ⟨s, 0, none⟩)) := ((HI2.out.quiet hJ.chg).sbox).cell 0
                clear hJ hp
                gi_wp2
                refine round_call HGt.out ?_
                rintro e W2 ⟨bA, bc, rfl, _, hc2⟩
                have HJ2 := Go.Lib.hid (HJ.out.quiet hc2)
                have hc2' := Go.Lib.hid hc2
                have HR2 := Go.Lib.hid ((HI2.out.quiet HJ2.out.chg).rbox)
                clear hc2 c5
                gi_wp2
                refine round_call (NU.out _ _) ?_
                rintro e wn ⟨rfl, he⟩
                obtain rfl := he.symm
                clear he
                have s0 := HJ2.out.sm.cell 0
                have l0 := HJ2.out.la.cell 0
                simp only [List.getElem?_toArray, List.getElem?_cons_zero] at s0 l0
                obtain ⟨b1, hb1⟩ : ∃ b, Op.bytesLess nm.toList ls.toList = b := ⟨_, rfl⟩
                obtain ⟨b2, hb2⟩ : ∃ b, (nm.toList == ls.toList) = b := ⟨_, rfl⟩
                cases hA : (b1 || b2) with
                | false =>
                  obtain ⟨rfl, rfl⟩ : b1 = false ∧ b2 = false := by simpa using hA
                  clear hA
                  gi_wp2
                  clear s0 l0
                  refine round_call (HMn.out _) ?_
                  rintro e W4 ⟨rfl, hc4⟩
                  have HJ4 := Go.Lib.hid (HJ2.out.quiet hc4)
                  have s0 := HJ4.out.sm.cell 0
                  have s1 := HJ4.out.sm.frozen 0
                  have l0 := HJ4.out.la.cell 0
                  have l1 := HJ4.out.la.frozen 0
                  simp only [List.getElem?_toArray, List.getElem?_cons_zero] at s0 l0
                  have HC4 := Go.Lib.hid (hc2'.out.trans hc4)
                  clear hc4
                  gi_wp2
                  have HZ := fun z : Int => (HC4.out.mono (G := fun k => k = wc.heap.size ∨ k = wc.heap.size + 1) fun _ _ h => h.elim).trans (HJ4.out.put z nm).2
                  refine ⟨keepsFrom_chg (HZ _) (fun b hb => by rcases hb with rfl | rfl <;> omega), fun hX => hX.chg (HZ _) (fun k hk _ hF => by rcases hF with rfl | rfl <;> omega), _, _, (HJ4.out.put _ nm).1, fun hpf => ?_⟩
                  have h1 := HP.out hpf
                  have h2 := Hp.out h1.2
                  have h3 := sumK_le HT.out (pre.length + 1)
                  have h4 := sumK_succ hlt2
                  have h5 := HI2.out.st.choose_spec.choose_spec.1.fits
                  have h6 : Lg[pre.length].2 = ((v.doS xs).2.bytes nf).length := by rw [← h1.1]
                  rw [List.length_append, List.length_singleton, lastK_succ hlt2, ← h1.1]
                  refine ⟨?_, rfl⟩
                  have h7 : n + (((v.doS xs).2.bytes nf).length : Int) = ((sumK Lg (pre.length + 1) : Nat) : Int) := by rw [h2.1]; omega
                  rw [h7]
                  exact IntWalk.wrap64_in _ (by omega)
                | true =>
                  have hno : ¬ pre ++ [x] <+: List.finRange Lg.length := fun hpf => by
                    have h1 := HP.out hpf
                    have h2 := Hp.out h1.2
                    have h3 := le_no HT.out hlt2
                    rw [← h1.1, ← h2.2, hb1, hb2] at h3
                    rw [h3.1, h3.2] at hA
                    cases hA
                  have Hno := Go.Lib.hid hno
                  clear hno
                  have c4 := HR2.out.cell 0
                  have f4 := HR2.out.frozen 0
                  simp only [List.getElem?_toArray, List.getElem?_cons_zero] at c4
                  cases b1 with
                  | true =>
                    clear hA
                    gi_wp2
                    · clear s0 l0 c4 f4
                      refine round_call (HMn.out _) ?_
                      rintro e W4 ⟨rfl, hc4⟩
                      have HJ4 := Go.Lib.hid (HJ2.out.quiet hc4)
                      have s0 := HJ4.out.sm.cell 0
                      have s1 := HJ4.out.sm.frozen 0
                      have l0 := HJ4.out.la.cell 0
                      have l1 := HJ4.out.la.frozen 0
                      simp only [List.getElem?_toArray, List.getElem?_cons_zero] at s0 l0
                      have HC4 := Go.Lib.hid (hc2'.out.trans hc4)
                      clear hc4
                      gi_wp2
                      have HZ := fun z : Int => (HC4.out.mono (G := fun k => k = wc.heap.size ∨ k = wc.heap.size + 1) fun _ _ h => h.elim).trans (HJ4.out.put z nm).2
                      refine ⟨keepsFrom_chg (HZ _) (fun b hb => by rcases hb with rfl | rfl <;> omega), fun hX => hX.chg (HZ _) (fun k hk _ hF => by rcases hF with rfl | rfl <;> omega), _, _, (HJ4.out.put _ nm).1, fun hpf => ?_⟩
                      exact absurd hpf Hno.out
                    · refine ⟨trivial, ?_⟩
                      gi_wp2
                      have hch := (hc2'.out.mono (G := fun k => k = w.heap.size) fun _ _ h => h.elim).setCell (p := ⟨w.heap.size, 0, none⟩) (fun _ => rfl) (.bool false)
                      exact ⟨keepsFrom_chg hch (fun b hb => by subst hb; have := HI2.out.rbox.lt; omega), Hno.out⟩
                  | false =>
                    obtain rfl : b2 = true := by simpa using hA
                    clear hA
                    gi_wp2
                    · clear s0 l0 c4 f4
                      refine round_call (HMn.out _) ?_
                      rintro e W4 ⟨rfl, hc4⟩
                      have HJ4 := Go.Lib.hid (HJ2.out.quiet hc4)
                      have s0 := HJ4.out.sm.cell 0
                      have s1 := HJ4.out.sm.frozen 0
                      have l0 := HJ4.out.la.cell 0
                      have l1 := HJ4.out.la.frozen 0
                      simp only [List.getElem?_toArray, List.getElem?_cons_zero] at s0 l0
                      have HC4 := Go.Lib.hid (hc2'.out.trans hc4)
                      clear hc4
                      gi_wp2
                      have HZ := fun z : Int => (HC4.out.mono (G := fun k => k = wc.heap.size ∨ k = wc.heap.size + 1) fun _ _ h => h.elim).trans (HJ4.out.put z nm).2
                      refine ⟨keepsFrom_chg (HZ _) (fun b hb => by rcases hb with rfl | rfl <;> omega), fun hX => hX.chg (HZ _) (fun k hk _ hF => by rcases hF with rfl | rfl <;> omega), _, _, (HJ4.out.put _ nm).1, fun hpf => ?_⟩
                      exact absurd hpf Hno.out
                    · refine ⟨trivial, ?_⟩
                      gi_wp2
                      have hch := (hc2'.out.mono (G := fun k => k = w.heap.size) fun _ _ h => h.elim).setCell (p := ⟨w.heap.size, 0, none⟩) (fun _ => rfl) (.bool false)
                      exact ⟨keepsFrom_chg hch (fun b hb => by subst hb; have := HI2.out.rbox.lt; omega), Hno.out⟩
              case done =>
                rintro D ys W hD rfl ⟨n, ls, hJ, hp⟩ hK
                rw [List.length_finRange] at hp
                obtain ⟨rfl, -⟩ := hp (List.prefix_rfl)
                have HI3 := Go.Lib.hid ((HI2.out.quiet hJ.chg).mark hK (by have := HI2.out.ch.size; omega))
                have hnd2 : (D :: Ds).Nodup := List.nodup_cons.2 ⟨fun hm => by have := obj_lt (HI2.out.dsm D hm).1; omega, hnd⟩
                have hcap2 : (v.doS xs).2.cap = cap := by rw [doS_cap]; exact hcap
                have hfit := HI2.out.st.choose_spec.choose_spec.1.fits
                have hsum := sumK_le HT.out Lg.length
                have hroom : (v.doS xs).2.room = cap - (v.doS xs).2.used := by unfold V.room; rw [hcap2]
                rw [hcap2] at hfit
                have HSo : Hid (∀ W', Chg NoB W W' → W'.cell? ⟨sb, 0, none⟩ = some (.pointer (some ⟨s, 0, none⟩)) ∧ W'.cell? ⟨wc.heap.size, 0, none⟩ = some (.int .i64 (sumK Lg Lg.length : Nat)) ∧ Chg NoB W W') := Go.Lib.hid (fun W' hW => ⟨(HI2.out.quiet (hJ.chg.trans hW)).sbox.cell 0, (hJ.sm.chg hW id).cell 0, hW⟩)
                have HCap := Go.Lib.hid (And.intro hnd2 hcap2)
                clear hJ hp hK hnd2 hcap2
                obtain ⟨r, hr⟩ : ∃ r, r = (v.doS xs).2.room := ⟨_, rfl⟩
                obtain ⟨m, hm⟩ : ∃ m, m = sumK Lg Lg.length := ⟨_, rfl⟩
                have HRm : Hid (∀ W', Chg NoB W W' → Calls Try.prog 35 #[.pointer (some ⟨s, 0, none⟩)] W' (Quiet (.int .i64 (r : Nat)) W')) := Go.Lib.hid (fun W' hW => by rw [hr]; exact (HI3.out.quiet hW).room)
                rw [← hm] at HSo
                have hrc : r ≤ cap ∧ m ≤ cap - r := by omega
                clear hr hm hsum hroom hfit
                have dA : decide ((r : Int) < 0) = false := by simp
                have dB : decide ((cap : Int) < (r : Int)) = false := by simp; omega
                have dB2 : decide (cap < r) = false := by simp; omega
                have dB3 : (cap < r) = False := by simp; omega
                have hw1 : IntKind.i64.wrap ((cap : Int) - (r : Int)) = (cap : Int) - (r : Int) := IntWalk.i64_in _ (by omega)
                have hw2 : wrap64 ((cap : Int) - (r : Int)) = (cap : Int) - (r : Int) := IntWalk.wrap64_in _ (by omega)
                have dC : decide ((cap : Int) - (r : Int) < (m : Int)) = false := by simp; omega
                clear hrc
                go_upto_region 24 with fail
                go_cut [195] from 179 to 195 (fun v195 wx => v195 = .bool false ∧ Chg NoB W wx)
                case first =>
                  as_aux_lemma =>
                    refine regionT 16 (fun W' => W'.cell? ⟨sb, 0, none⟩ = some (.pointer (some ⟨s, 0, none⟩)) ∧ W'.cell? ⟨wc.heap.size, 0, none⟩ = some (.int .i64 (m : Nat)) ∧ Chg NoB W W') (by kernel_rfl) (by decide) (HSo.out _ (Chg.refl NoB W).drew) (fun inv0 hHeld => ?_)
                    refine takeT (i := 0) (t := 179) (v := ?v0c) rfl (by kernel_rfl) (by kernel_rfl) (by kernel_rfl) (fun c a w h => panic_put (t := 179) (by decide) _ c a w h) (by kernel_rfl) (by kernel_rfl) (by decide) (by decide) rfl (Or.inl ⟨by rfl, ?h0c⟩) inv0 hHeld ?r0c
                    case h0c => (intro w hSw; (try dsimp only at hSw); go_simp; try with_reducible rfl)
                    intro inv01
                    clear inv0
                    try simp only [List.setIfInBounds_toArray, List.set_cons_zero, List.set_cons_succ]
                    refine callT (i := 1) (t := 180) (f := 35) (args := #[.pointer (some ⟨s, 0, none⟩)]) rfl (by kernel_rfl) rfl (by rfl) ?hx1c inv01 (by decide) ?hc1c
                    case hx1c => (go_simp; try rfl)
                    case hc1c =>
                      refine (HRm.out _ hHeld.2.2).mono ?_
                      rintro e wk1 ⟨rfl, hck1⟩
                      refine ⟨_, rfl, HSo.out _ (hHeld.2.2.trans hck1), fun inv11 hHeld1 => ?_⟩
                      try simp only [List.setIfInBounds_toArray, List.set_cons_zero, List.set_cons_succ]
                      refine takeT (i := 2) (t := 181) (v := ?v2c) rfl (by kernel_rfl) (by kernel_rfl) (by kernel_rfl) (fun c a w h => panic_put (t := 181) (by decide) _ c a w h) (by kernel_rfl) (by kernel_rfl) (by decide) (by decide) rfl (Or.inl ⟨by rfl, ?h2c⟩) inv11 hHeld1 ?r2c
                      case h2c => (intro w hSw; (try dsimp only at hSw); go_simp; try with_reducible rfl)
                      intro inv21
                      clear inv11
                      try simp only [List.setIfInBounds_toArray, List.set_cons_zero, List.set_cons_succ]
                      refine takeT (i := 3) (t := 182) (v := ?v3c) rfl (by kernel_rfl) (by kernel_rfl) (by kernel_rfl) (fun c a w h => panic_put (t := 182) (by decide) _ c a w h) (by kernel_rfl) (by kernel_rfl) (by decide) (by decide) rfl (Or.inl ⟨by rfl, ?h3c⟩) inv21 hHeld1 ?r3c
                      case h3c => (intro w hSw; (try dsimp only at hSw); go_simp; try with_reducible rfl)
                      intro inv31
                      clear inv21
                      try simp only [List.setIfInBounds_toArray, List.set_cons_zero, List.set_cons_succ]
                      refine takeT (i := 4) (t := 183) (v := ?v4c) rfl (by kernel_rfl) (by kernel_rfl) (by kernel_rfl) (fun c a w h => panic_put (t := 183) (by decide) _ c a w h) (by kernel_rfl) (by kernel_rfl) (by decide) (by decide) rfl (Or.inl ⟨by rfl, ?h4c⟩) inv31 hHeld1 ?r4c
                      case h4c => (intro w hSw; (try dsimp only at hSw); go_simp; try with_reducible rfl)
                      intro inv41
                      clear inv31
                      try simp only [List.setIfInBounds_toArray, List.set_cons_zero, List.set_cons_succ]
                      refine takeT (i := 6) (t := 185) (v := ?v6c) rfl (by kernel_rfl) (by kernel_rfl) (by kernel_rfl) (fun c a w h => panic_put (t := 185) (by decide) _ c a w h) (by kernel_rfl) (by kernel_rfl) (by decide) (by decide) rfl (Or.inl ⟨by rfl, ?h6c⟩) inv41 hHeld1 ?r6c
                      case h6c => (intro w hSw; (try dsimp only at hSw); go_simp; try with_reducible rfl)
                      intro inv61
                      clear inv41
                      try simp only [List.setIfInBounds_toArray, List.set_cons_zero, List.set_cons_succ]
                      refine callT (i := 5) (t := 184) (f := 35) (args := #[.pointer (some ⟨s, 0, none⟩)]) rfl (by kernel_rfl) rfl (by rfl) ?hx5c inv61 (by decide) ?hc5c
                      case hx5c => (go_simp; try rfl)
                      case hc5c =>
                        refine (HRm.out _ hHeld1.2.2).mono ?_
                        rintro e wk5 ⟨rfl, hck5⟩
                        refine ⟨_, rfl, HSo.out _ (hHeld1.2.2.trans hck5), fun inv51 hHeld5 => ?_⟩
                        try simp only [List.setIfInBounds_toArray, List.set_cons_zero, List.set_cons_succ]
                        refine takeT (i := 7) (t := 186) (v := ?v7c) rfl (by kernel_rfl) (by kernel_rfl) (by kernel_rfl) (fun c a w h => panic_put (t := 186) (by decide) _ c a w h) (by kernel_rfl) (by kernel_rfl) (by decide) (by decide) rfl (Or.inl ⟨by rfl, ?h7c⟩) inv51 hHeld5 ?r7c
                        case h7c => (intro w hSw; (try dsimp only at hSw); go_simp; try with_reducible rfl)
                        intro inv71
                        clear inv51
                        try simp only [List.setIfInBounds_toArray, List.set_cons_zero, List.set_cons_succ]
                        refine takeT (i := 8) (t := 187) (v := ?v8c) rfl (by kernel_rfl) (by kernel_rfl) (by kernel_rfl) (fun c a w h => panic_put (t := 187) (by decide) _ c a w h) (by kernel_rfl) (by kernel_rfl) (by decide) (by decide) rfl (Or.inl ⟨by rfl, ?h8c⟩) inv71 hHeld5 ?r8c
                        case h8c => (intro w hSw; (try dsimp only at hSw); go_simp; try with_reducible rfl)
                        intro inv81
                        clear inv71
                        try simp only [List.setIfInBounds_toArray, List.set_cons_zero, List.set_cons_succ]
                        refine takeT (i := 9) (t := 188) (v := ?v9c) rfl (by kernel_rfl) (by kernel_rfl) (by kernel_rfl) (fun c a w h => panic_put (t := 188) (by decide) _ c a w h) (by kernel_rfl) (by kernel_rfl) (by decide) (by decide) rfl (Or.inl ⟨by rfl, ?h9c⟩) inv81 hHeld5 ?r9c
                        case h9c => (intro w hSw; (try dsimp only at hSw); go_simp; try with_reducible rfl)
                        intro inv91
                        clear inv81
                        try simp only [List.setIfInBounds_toArray, List.set_cons_zero, List.set_cons_succ]
                        refine takeT (i := 10) (t := 189) (v := ?v10c) rfl (by kernel_rfl) (by kernel_rfl) (by kernel_rfl) (fun c a w h => panic_put (t := 189) (by decide) _ c a w h) (by kernel_rfl) (by kernel_rfl) (by decide) (by decide) rfl (Or.inl ⟨by rfl, ?h10c⟩) inv91 hHeld5 ?r10c
                        case h10c => (intro w hSw; (try dsimp only at hSw); go_simp; try with_reducible rfl)
                        intro inv101
                        clear inv91
                        try simp only [List.setIfInBounds_toArray, List.set_cons_zero, List.set_cons_succ]
                        refine takeT (i := 11) (t := 190) (v := ?v11c) rfl (by kernel_rfl) (by kernel_rfl) (by kernel_rfl) (fun c a w h => panic_put (t := 190) (by decide) _ c a w h) (by kernel_rfl) (by kernel_rfl) (by decide) (by decide) rfl (Or.inl ⟨by rfl, ?h11c⟩) inv101 hHeld5 ?r11c
                        case h11c => (intro w hSw; (try dsimp only at hSw); go_simp; try with_reducible rfl)
                        intro inv111
                        clear inv101
                        try simp only [List.setIfInBounds_toArray, List.set_cons_zero, List.set_cons_succ]
                        refine takeT (i := 12) (t := 191) (v := ?v12c) rfl (by kernel_rfl) (by kernel_rfl) (by kernel_rfl) (fun c a w h => panic_put (t := 191) (by decide) _ c a w h) (by kernel_rfl) (by kernel_rfl) (by decide) (by decide) rfl (Or.inl ⟨by rfl, ?h12c⟩) inv111 hHeld5 ?r12c
                        case h12c => (intro w hSw; (try dsimp only at hSw); go_simp; try with_reducible rfl)
                        intro inv121
                        clear inv111
                        try simp only [List.setIfInBounds_toArray, List.set_cons_zero, List.set_cons_succ]
                        refine callT (i := 13) (t := 192) (f := 35) (args := #[.pointer (some ⟨s, 0, none⟩)]) rfl (by kernel_rfl) rfl (by rfl) ?hx13c inv121 (by decide) ?hc13c
                        case hx13c => (go_simp; try rfl)
                        case hc13c =>
                          refine (HRm.out _ hHeld5.2.2).mono ?_
                          rintro e wk13 ⟨rfl, hck13⟩
                          refine ⟨_, rfl, HSo.out _ (hHeld5.2.2.trans hck13), fun inv131 hHeld13 => ?_⟩
                          try simp only [List.setIfInBounds_toArray, List.set_cons_zero, List.set_cons_succ]
                          refine takeT (i := 14) (t := 193) (v := ?v14c) rfl (by kernel_rfl) (by kernel_rfl) (by kernel_rfl) (fun c a w h => panic_put (t := 193) (by decide) _ c a w h) (by kernel_rfl) (by kernel_rfl) (by decide) (by decide) rfl (Or.inl ⟨by rfl, ?h14c⟩) inv131 hHeld13 ?r14c
                          case h14c => (intro w hSw; (try dsimp only at hSw); go_simp; try with_reducible rfl)
                          intro inv141
                          clear inv131
                          try simp only [List.setIfInBounds_toArray, List.set_cons_zero, List.set_cons_succ]
                          refine takeT (i := 15) (t := 194) (v := ?v15c) rfl (by kernel_rfl) (by kernel_rfl) (by kernel_rfl) (fun c a w h => panic_put (t := 194) (by decide) _ c a w h) (by kernel_rfl) (by kernel_rfl) (by decide) (by decide) rfl (Or.inl ⟨by rfl, ?h15c⟩) inv141 hHeld13 ?r15c
                          case h15c => (intro w hSw; (try dsimp only at hSw); go_simp; try with_reducible rfl)
                          intro inv151
                          clear inv141
                          try simp only [List.setIfInBounds_toArray, List.set_cons_zero, List.set_cons_succ]
                          refine lastV (i := 16) (t := 195) (v := ?v16c) (w' := wk13) rfl (by kernel_rfl) rfl (by rfl) ?hx16c (by decide) (by kernel_rfl) ?_
                          case hx16c => (go_simp; try with_reducible rfl)
                          try simp only [List.setIfInBounds_toArray, List.set_cons_zero, List.set_cons_succ]
                          have hfin := hHeld13.2.2
                          go_wp2_with fail
                          go_meet
                          exact ⟨rfl, hfin⟩
                case rest =>
                  obtain ⟨rfl, hcx⟩ := hcut
                  have HI4 := Go.Lib.hid (HI3.out.quiet hcx)
                  clear hcx
                  have hii : IntKind.i64.wrap ((i : Int) + 1) = (i : Int) + 1 := IntWalk.i64_in _ (by omega)
                  have hii2 : wrap64 ((i : Int) + 1) = (i : Int) + 1 := IntWalk.wrap64_in _ (by omega)
                  clear dA dB dB2 dB3 hw1 hw2 dC
                  go_wp2_with fail
                  refine ⟨⟨D :: Ds, i + 1, (v.doS xs).2, ?_⟩, ?_⟩
                  · (repeat apply Exists.intro)
                    refine ⟨⟨hlt, HI4.out, HCap.out.1, HCap.out.2⟩, ?_⟩
                    rfl
                  · show L.length - (intOf (.int .i64 ((i : Int) + 1))).toNat < L.length - (intOf (.int .i64 (i : Int))).toNat
                    exact Nat.sub_lt_sub_left hlt (Nat.lt_succ_self i)
              case stop =>
                rintro D cde pre W hD hSp h0 hK
                exact (h0 hSp).elim
      · obtain rfl : i = L.length := by omega
        clear c5
        go_wp2_with fail
        refine (KN.out _).mono ?_
        rintro e wk ⟨rfl, hck⟩
        have HIk := Go.Lib.hid (HI.out.quiet hck)
        have c4 := HIk.out.rbox.cell 0
        have f4 := HIk.out.rbox.frozen 0
        simp only [List.getElem?_toArray, List.getElem?_cons_zero] at c4
        go_wp2_with fail
        exact leave_marks rfl Ds _ hnd HIk.out.told.1 HIk.out.told.2.1 HIk.out.told.2.2
end Go.Proofs.Ytebcomijknffmaa
