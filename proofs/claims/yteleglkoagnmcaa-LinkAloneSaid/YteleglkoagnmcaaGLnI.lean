/- What is proved: link.Same answers true of two images that are the same. Conditions: the memory holds them. · What is proved: steps that came in lie in memory as a list of files; the contract of Much of steps. Conditions: the memory holds the steps. -/
import Derived.Test.YteleglkoagnmcaaGLnA
import Derived.BigQuiet
import Derived.Test.YteleglkoagnmcaaGLlC
import Derived.IntWalk
import Derived.Lib.MinMax
set_option linter.unusedSimpArgs false
set_option linter.unusedVariables false
namespace Go.Proofs.Yteleglkoagnmcaa
open Go Go.RowKit
set_option maxHeartbeats 2000000 in
theorem eqU_c {W : World} {l : List Nat} {A B : Option Addr} {c d : Nat} (hA : CellsAt W A (codeCells l)) (hB : CellsAt W B (codeCells l)) (hn : l.length ≤ maxLen) : Calls Try.prog 43 #[.slice A l.length c, .slice B l.length d] W (Quiet (.bool true) W) := by
  have HA := Go.Lib.hid hA
  have HB := Go.Lib.hid hB
  obtain ⟨n, hln⟩ : ∃ n, l.length = n := ⟨_, rfl⟩
  have HN := Go.Lib.hid hln
  rw [hln] at hn ⊢
  unfold maxLen at hn
  clear hA hB hln
  go_enter Try.func43, Try.ntmps43
  go_wp2_with fail
  go_loopw [13] (fun v13 wr => ∃ k : Nat, k ≤ n ∧ v13 = .int .i64 k ∧ Chg NoB W wr) (fun v13 _ => n - (intOf v13).toNat)
  case atStart => exact ⟨0, Nat.zero_le _, rfl, Chg.refl _ _⟩
  case round =>
    obtain ⟨k, hk, rfl, hc⟩ := hrel
    have HC := Go.Lib.hid hc
    by_cases hlt : k < n
    · obtain ⟨x, hx⟩ : ∃ x, l[k]? = some x := ⟨_, List.getElem?_eq_getElem (by rw [HN.out]; exact hlt)⟩
      have h0 : 0 < (codeCells l).length := by
        unfold codeCells
        rw [List.length_map, HN.out]
        omega
      have hg : (codeCells l)[k]? = some (.int .u32 (x : Int)) := by
        unfold codeCells
        rw [List.getElem?_map, hx]
        rfl
      obtain ⟨ab, ao, rfl, ha⟩ := HA.out.flat h0
      obtain ⟨bb, bo, rfl, hb⟩ := HB.out.flat h0
      have x0 := keepQ hc (ha k _ hg)
      have y0 := keepQ hc (hb k _ hg)
      clear hx h0 hg ha hb hc
      go_wp2_with fail
      go_quiet (fail)
      go_wp2_with fail
      go_roundw
      case rel => exact ⟨k + 1, by omega, by go_num, HC.out.drewN _⟩
      case measure => simp [intOf]; omega
    · obtain rfl : k = n := by omega
      go_wp2_with fail
      go_ret
      exact ⟨rfl, HC.out⟩
set_option maxHeartbeats 2000000 in
theorem eqI_c {W : World} {l : List Int} {A B : Option Addr} {c d : Nat} (hA : CellsAt W A (entCells l)) (hB : CellsAt W B (entCells l)) (hn : l.length ≤ maxLen) : Calls Try.prog 46 #[.slice A l.length c, .slice B l.length d] W (Quiet (.bool true) W) := by
  have HA := Go.Lib.hid hA
  have HB := Go.Lib.hid hB
  obtain ⟨n, hln⟩ : ∃ n, l.length = n := ⟨_, rfl⟩
  have HN := Go.Lib.hid hln
  rw [hln] at hn ⊢
  unfold maxLen at hn
  clear hA hB hln
  go_enter Try.func46, Try.ntmps46
  go_wp2_with fail
  go_loopw [13] (fun v13 wr => ∃ k : Nat, k ≤ n ∧ v13 = .int .i64 k ∧ Chg NoB W wr) (fun v13 _ => n - (intOf v13).toNat)
  case atStart => exact ⟨0, Nat.zero_le _, rfl, Chg.refl _ _⟩
  case round =>
    obtain ⟨k, hk, rfl, hc⟩ := hrel
    have HC := Go.Lib.hid hc
    by_cases hlt : k < n
    · obtain ⟨x, hx⟩ : ∃ x, l[k]? = some x := ⟨_, List.getElem?_eq_getElem (by rw [HN.out]; exact hlt)⟩
      have h0 : 0 < (entCells l).length := by
        unfold entCells
        rw [List.length_map, HN.out]
        omega
      have hg : (entCells l)[k]? = some (.int .i64 x) := by
        unfold entCells
        rw [List.getElem?_map, hx]
        rfl
      obtain ⟨ab, ao, rfl, ha⟩ := HA.out.flat h0
      obtain ⟨bb, bo, rfl, hb⟩ := HB.out.flat h0
      have x0 := keepQ hc (ha k _ hg)
      have y0 := keepQ hc (hb k _ hg)
      clear hx h0 hg ha hb hc
      go_wp2_with fail
      go_quiet (fail)
      go_wp2_with fail
      go_roundw
      case rel => exact ⟨k + 1, by omega, by go_num, HC.out.drewN _⟩
      case measure => simp [intOf]; omega
    · obtain rfl : k = n := by omega
      go_wp2_with fail
      go_ret
      exact ⟨rfl, HC.out⟩
set_option maxHeartbeats 4000000 in
theorem same1_c {W : World} {p : Pl} {a b : PA} (hA : EntAt W p a) (hB : EntAt W p b) : Calls Try.prog 45 #[.agg (plArr p a), .agg (plArr p b)] W (Quiet (.bool true) W) := by
  obtain ⟨w1, hw1⟩ : ∃ w1, (W.alloc (Obj.cells (plArr p a) PLT)).alloc (Obj.cells (plArr p b) PLT) = w1 := ⟨_, rfl⟩
  have hc1 : Chg NoB W w1 := by rw [← hw1]; exact ((Chg.refl NoB W).alloc _).alloc _
  have hb1 : Blk w1 W.heap.size PLT (plArr p a) := by rw [← hw1]; exact (Blk.new W PLT _).alloc _
  have hb2 : Blk w1 (W.heap.size + 1) PLT (plArr p b) := by
    rw [← hw1]
    have := Blk.new (W.alloc (Obj.cells (plArr p a) PLT)) PLT (plArr p b)
    rw [size_al] at this
    exact this
  have HE := Go.Lib.hid (eqI_c ((hA.row).chg hc1 fun _ _ => id) ((hB.row).chg hc1 fun _ _ => id) (by have := hA.cap; omega) (c := a.2) (d := b.2))
  have HC1 := Go.Lib.hid hc1
  have HB := Go.Lib.hid (And.intro hb1 hb2)
  unfold plArr at hw1 ⊢
  have HW1 := Go.Lib.hid hw1
  clear hA hB hw1 hc1 hb1 hb2
  go_enter Try.func45, Try.ntmps45
  go_upto_region 1 with fail
  rw [HW1.out]
  clear HW1
  obtain ⟨b1, hb1⟩ : ∃ k, W.heap.size = k := ⟨_, rfl⟩
  obtain ⟨b2, hb2⟩ : ∃ k, W.heap.size + 1 = k := ⟨_, rfl⟩
  rw [hb2, hb1] at HB
  first | rw [hb2, hb1] | rw [hb2] | rw [hb1, hb2] | skip
  have x0 : w1.cell? ⟨b1, 0, none⟩ = some (.string p.name) := HB.out.1.cell 0
  have x1 : w1.cell? ⟨b1, 1, none⟩ = some (.int .u32 p.key) := HB.out.1.cell 1
  have x2 : w1.cell? ⟨b1, 2, none⟩ = some (.int .i64 p.code) := HB.out.1.cell 2
  have x3 : w1.cell? ⟨b1, 3, none⟩ = some (.int .i64 p.data) := HB.out.1.cell 3
  have x4 : w1.cell? ⟨b1, 4, none⟩ = some (.slice a.1 p.ents.length a.2) := HB.out.1.cell 4
  have y0 : w1.cell? ⟨b2, 0, none⟩ = some (.string p.name) := HB.out.2.cell 0
  have y1 : w1.cell? ⟨b2, 1, none⟩ = some (.int .u32 p.key) := HB.out.2.cell 1
  have y2 : w1.cell? ⟨b2, 2, none⟩ = some (.int .i64 p.code) := HB.out.2.cell 2
  have y3 : w1.cell? ⟨b2, 3, none⟩ = some (.int .i64 p.data) := HB.out.2.cell 3
  have y4 : w1.cell? ⟨b2, 4, none⟩ = some (.slice b.1 p.ents.length b.2) := HB.out.2.cell 4
  clear hb1 hb2
  go_wp2_with fail
  refine HE.out.mono ?_
  rintro e w2 ⟨rfl, hc2⟩
  have HC2 := Go.Lib.hid (HC1.out.trans hc2)
  clear hc2 HE
  go_wp2_with fail
  go_ret
  exact ⟨rfl, HC2.out⟩
set_option maxRecDepth 100000 in
set_option maxHeartbeats 8000000 in
theorem eqPl_c {W : World} {l m : List (Pl × PA)} {A B : Option Addr} {c d : Nat} (he : m.map (·.1) = l.map (·.1)) (hA : CellsAt W A (plsCells l)) (hB : CellsAt W B (plsCells m)) (hea : ∀ x ∈ l, EntAt W x.1 x.2) (heb : ∀ x ∈ m, EntAt W x.1 x.2) (hn : l.length ≤ maxLen) : Calls Try.prog 44 #[.slice A l.length c, .slice B l.length d, .func (.func 45) #[] #[]] W (Quiet (.bool true) W) := by
  have HA := Go.Lib.hid hA
  have HB := Go.Lib.hid hB
  have HE := Go.Lib.hid (And.intro he (And.intro hea heb))
  obtain ⟨n, hln⟩ : ∃ n, l.length = n := ⟨_, rfl⟩
  have hlm : m.length = n := by
    have h1 := congrArg List.length he
    rw [List.length_map, List.length_map] at h1
    omega
  have HN := Go.Lib.hid (And.intro hln hlm)
  rw [hln] at hn ⊢
  unfold maxLen at hn
  clear hA hB hln hlm he hea heb
  go_enter Try.func44, Try.ntmps44
  go_wp2_with fail
  go_loopw [17] (fun v17 wr => ∃ k : Nat, k ≤ n ∧ v17 = .int .i64 k ∧ Chg NoB W wr) (fun v17 _ => n - (intOf v17).toNat)
  case atStart => exact ⟨0, Nat.zero_le _, rfl, Chg.refl _ _⟩
  case round =>
    obtain ⟨k, hk, rfl, hc⟩ := hrel
    have HC := Go.Lib.hid hc
    by_cases hlt : k < n
    · obtain ⟨⟨p, a⟩, hx⟩ : ∃ x, l[k]? = some x := ⟨_, List.getElem?_eq_getElem (by rw [HN.out.1]; exact hlt)⟩
      obtain ⟨⟨q, b⟩, hy⟩ : ∃ x, m[k]? = some x := ⟨_, List.getElem?_eq_getElem (by rw [HN.out.2]; exact hlt)⟩
      have hpq : q = p := by
        have h1 : (m.map (·.1))[k]? = some q := by rw [List.getElem?_map, hy]; rfl
        rw [HE.out.1, List.getElem?_map, hx] at h1
        injection h1 with h1
        exact h1.symm
      subst hpq
      have hl0 : 0 < (plsCells l).length := by rw [plsCells_len, HN.out.1]; omega
      have hm0 : 0 < (plsCells m).length := by rw [plsCells_len, HN.out.2]; omega
      obtain ⟨ab, ao, rfl, ha⟩ := HA.out.flat hl0
      obtain ⟨bb, bo, rfl, hb⟩ := HB.out.flat hm0
      have key1 : ∀ j u, j < 5 → (plArr q a)[j]? = some u → ∀ w', Chg NoB W w' → w'.cell? ⟨ab, ao + k * 5 + j, none⟩ = some u := fun j u hj hu w' hw => by
        have := keepQ hw (ha (k * 5 + j) u ((plsCells_get l k _ hx j hj).trans hu))
        rw [← Nat.add_assoc] at this
        exact this
      have key2 : ∀ j u, j < 5 → (plArr q b)[j]? = some u → ∀ w', Chg NoB W w' → w'.cell? ⟨bb, bo + k * 5 + j, none⟩ = some u := fun j u hj hu w' hw => by
        have := keepQ hw (hb (k * 5 + j) u ((plsCells_get m k _ hy j hj).trans hu))
        rw [← Nat.add_assoc] at this
        exact this
      have HK := Go.Lib.hid key2
      have HS := Go.Lib.hid (fun w' (hw : Chg NoB W w') => same1_c ((HE.out.2.1 _ (List.mem_of_getElem? hx)).quiet hw) ((HE.out.2.2 _ (List.mem_of_getElem? hy)).quiet hw))
      have x0 := key1 0 (.string q.name) (by omega) rfl wr hc
      have x1 := key1 1 (.int .u32 q.key) (by omega) rfl wr hc
      have x2 := key1 2 (.int .i64 q.code) (by omega) rfl wr hc
      have x3 := key1 3 (.int .i64 q.data) (by omega) rfl wr hc
      have x4 := key1 4 (.slice a.1 q.ents.length a.2) (by omega) rfl wr hc
      rw [Nat.add_zero] at x0
      clear hx hy hl0 hm0 ha hb hc key1 key2
      go_upto_region 6 with fail
      obtain ⟨w1, hw⟩ : ∃ w, wr.alloc (.cells (plArr q a) PLT) = w := ⟨_, rfl⟩
      have hc1 : Chg NoB wr w1 := by rw [← hw]; exact (Chg.refl NoB _).alloc _
      have HB1 : Hid (Blk w1 wr.heap.size PLT (plArr q a)) := Go.Lib.hid (by rw [← hw]; exact Blk.new _ _ _)
      have HC1 := Go.Lib.hid (HC.out.trans hc1)
      unfold plArr at hw
      rw [hw]
      clear hw hc1 x0 x1 x2 x3 x4
      generalize wr.heap.size = b1 at *
      have x0 := HK.out 0 (.string q.name) (by omega) rfl w1 HC1.out
      have x1 := HK.out 1 (.int .u32 q.key) (by omega) rfl w1 HC1.out
      have x2 := HK.out 2 (.int .i64 q.code) (by omega) rfl w1 HC1.out
      have x3 := HK.out 3 (.int .i64 q.data) (by omega) rfl w1 HC1.out
      have x4 := HK.out 4 (.slice b.1 q.ents.length b.2) (by omega) rfl w1 HC1.out
      rw [Nat.add_zero] at x0
      clear HK
      go_upto_region 7 with fail
      obtain ⟨w2, hw⟩ : ∃ w, w1.alloc (.cells (plArr q b) PLT) = w := ⟨_, rfl⟩
      have hc2 : Chg NoB w1 w2 := by rw [← hw]; exact (Chg.refl NoB _).alloc _
      have HB2 : Hid (Blk w2 w1.heap.size PLT (plArr q b)) := Go.Lib.hid (by rw [← hw]; exact Blk.new _ _ _)
      have HB1 := Go.Lib.hid (HB1.out.chg hc2 id)
      have HC2 := Go.Lib.hid (HC1.out.trans hc2)
      unfold plArr at hw
      rw [hw]
      clear hw hc2 x0 x1 x2 x3 x4
      generalize w1.heap.size = b2 at *
      have x0 : w2.cell? ⟨b1, 0, none⟩ = some (.string q.name) := HB1.out.cell 0
      have x1 : w2.cell? ⟨b1, 1, none⟩ = some (.int .u32 q.key) := HB1.out.cell 1
      have x2 : w2.cell? ⟨b1, 2, none⟩ = some (.int .i64 q.code) := HB1.out.cell 2
      have x3 : w2.cell? ⟨b1, 3, none⟩ = some (.int .i64 q.data) := HB1.out.cell 3
      have x4 : w2.cell? ⟨b1, 4, none⟩ = some (.slice a.1 q.ents.length a.2) := HB1.out.cell 4
      have y0 : w2.cell? ⟨b2, 0, none⟩ = some (.string q.name) := HB2.out.cell 0
      have y1 : w2.cell? ⟨b2, 1, none⟩ = some (.int .u32 q.key) := HB2.out.cell 1
      have y2 : w2.cell? ⟨b2, 2, none⟩ = some (.int .i64 q.code) := HB2.out.cell 2
      have y3 : w2.cell? ⟨b2, 3, none⟩ = some (.int .i64 q.data) := HB2.out.cell 3
      have y4 : w2.cell? ⟨b2, 4, none⟩ = some (.slice b.1 q.ents.length b.2) := HB2.out.cell 4
      go_wp2_with fail
      refine (HS.out w2 HC2.out).mono ?_
      rintro e w3 ⟨rfl, hc3⟩
      have HC3 := Go.Lib.hid (HC2.out.trans hc3)
      clear hc3 x0 x1 x2 x3 x4 y0 y1 y2 y3 y4 HS
      go_wp2_with fail
      go_roundw
      case rel => exact ⟨k + 1, by omega, by go_num, HC3.out⟩
      case measure => simp [intOf]; omega
    · obtain rfl : k = n := by omega
      go_wp2_with fail
      go_ret
      exact ⟨rfl, HC.out⟩
set_option maxHeartbeats 4000000 in
/-- two images that are the same -/
theorem sameIm_c {W : World} {i : Img} {l m : List (Pl × PA)} {wA vA mA nA : Option Addr} {wc vc mc nc : Nat} (hl : l.map (·.1) = i.mods) (hm : m.map (·.1) = i.mods) (hw : CellsAt W wA (codeCells i.words)) (hv : CellsAt W vA (codeCells i.words)) (hA : CellsAt W mA (plsCells l)) (hB : CellsAt W nA (plsCells m)) (hea : ∀ x ∈ l, EntAt W x.1 x.2) (heb : ∀ x ∈ m, EntAt W x.1 x.2) (hn : i.words.length ≤ maxLen ∧ i.mods.length ≤ maxLen) :
    Calls Try.prog 23 #[.agg #[.slice wA i.words.length wc, .slice mA i.mods.length mc], .agg #[.slice vA i.words.length vc, .slice nA i.mods.length nc]] W (Quiet (.bool true) W) := by
  obtain ⟨wn, hwn⟩ : ∃ n, i.words.length = n := ⟨_, rfl⟩
  obtain ⟨mn, hmn⟩ : ∃ n, i.mods.length = n := ⟨_, rfl⟩
  have hll : l.length = mn := by rw [← hmn, ← hl, List.length_map]
  rw [hwn, hmn]
  obtain ⟨w1, hw1⟩ : ∃ w1, (W.alloc (Obj.cells #[.slice wA wn wc, .slice mA mn mc] IMT)).alloc (Obj.cells #[.slice vA wn vc, .slice nA mn nc] IMT) = w1 := ⟨_, rfl⟩
  have hc1 : Chg NoB W w1 := by rw [← hw1]; exact ((Chg.refl NoB W).alloc _).alloc _
  have hb1 : Blk w1 W.heap.size IMT #[.slice wA wn wc, .slice mA mn mc] := by rw [← hw1]; exact (Blk.new W IMT _).alloc _
  have hb2 : Blk w1 (W.heap.size + 1) IMT #[.slice vA wn vc, .slice nA mn nc] := by
    rw [← hw1]
    have := Blk.new (W.alloc (Obj.cells #[.slice wA wn wc, .slice mA mn mc] IMT)) IMT #[.slice vA wn vc, .slice nA mn nc]
    rw [size_al] at this
    exact this
  have heu := eqU_c (hw.chg hc1 fun _ _ => id) (hv.chg hc1 fun _ _ => id) hn.1 (c := wc) (d := vc)
  rw [hwn] at heu
  have HEU := Go.Lib.hid heu
  have HEP := Go.Lib.hid (fun w' (hw : Chg NoB w1 w') => by
    have := eqPl_c (W := w') (l := l) (m := m) (c := mc) (d := nc) (by rw [hl, hm]) (hA.chg (hc1.trans hw) fun _ _ => id) (hB.chg (hc1.trans hw) fun _ _ => id) (fun x hx => (hea x hx).quiet (hc1.trans hw)) (fun x hx => (heb x hx).quiet (hc1.trans hw)) (by rw [hll, ← hmn]; exact hn.2)
    rw [hll] at this
    exact this)
  have HC1 := Go.Lib.hid hc1
  have HB := Go.Lib.hid (And.intro hb1 hb2)
  have HW1 := Go.Lib.hid hw1
  clear hl hm hw hv hA hB hea heb hn hwn hmn hll hw1 hc1 hb1 hb2 heu
  go_enter Try.func23, Try.ntmps23
  go_upto_region 1 with fail
  rw [HW1.out]
  clear HW1
  obtain ⟨b1, hb1⟩ : ∃ k, W.heap.size = k := ⟨_, rfl⟩
  obtain ⟨b2, hb2⟩ : ∃ k, W.heap.size + 1 = k := ⟨_, rfl⟩
  rw [hb2, hb1] at HB
  first | rw [hb2, hb1] | rw [hb2] | rw [hb1, hb2] | skip
  have x0 : w1.cell? ⟨b1, 0, none⟩ = some (.slice wA wn wc) := HB.out.1.cell 0
  have x1 : w1.cell? ⟨b1, 1, none⟩ = some (.slice mA mn mc) := HB.out.1.cell 1
  have y0 : w1.cell? ⟨b2, 0, none⟩ = some (.slice vA wn vc) := HB.out.2.cell 0
  have y1 : w1.cell? ⟨b2, 1, none⟩ = some (.slice nA mn nc) := HB.out.2.cell 1
  clear hb1 hb2
  have HB1 := Go.Lib.hid (And.intro x1 y1)
  go_wp2_with fail
  refine HEU.out.mono ?_
  rintro e w2 ⟨rfl, hc2⟩
  have x1 := keepQ hc2 HB1.out.1
  have y1 := keepQ hc2 HB1.out.2
  have HC2 := Go.Lib.hid (HC1.out.trans hc2)
  have HE2 := Go.Lib.hid (HEP.out w2 hc2)
  clear hc2 HEU HEP
  go_wp2_with fail
  refine HE2.out.mono ?_
  rintro e w3 ⟨rfl, hc3⟩
  have HC3 := Go.Lib.hid (HC2.out.trans hc3)
  clear hc3 HE2
  go_wp2_with fail
  go_ret
  exact ⟨rfl, HC3.out⟩
end Go.Proofs.Yteleglkoagnmcaa
set_option linter.unusedSimpArgs false
set_option linter.unusedVariables false
namespace Go.Proofs.Yteleglkoagnmcaa
open Go Go.RowKit Go.ChangeShapes Go.WideShapes Go.Deep
def fiCells (x : Fi) : List Value := [.int .i64 x.kind, .int .i64 x.f, .int .u32 x.w, .string x.nm, .slice x.A x.b.length x.c]
/-- a step that came in -/
structure FiRaw (w : World) (x : Fi) : Prop where
  nm : x.nm.size ≤ maxLen
  le : x.b.length ≤ x.c
  most : x.c ≤ maxLen
  cells : CellsAt w x.A (bv x.b)
  nil : x.A = none → x.b = [] ∧ x.c = 0
theorem FiRaw.quiet {w w' : World} {x : Fi} (h : FiRaw w x) (hc : Chg NoB w w') : FiRaw w' x := ⟨h.nm, h.le, h.most, h.cells.chg hc fun _ _ => id, h.nil⟩
def FisRaw (w : World) (A : Option Addr) (L : List Fi) : Prop := 0 < L.length → ∃ b o, A = some ⟨b, o, none⟩ ∧ ∀ i x, L[i]? = some x → FiRaw w x ∧
    w.cell? ⟨b, o + i * 5 + 3, none⟩ = some (.string x.nm) ∧ w.cell? ⟨b, o + i * 5 + 4, none⟩ = some (.slice x.A x.b.length x.c)
theorem FisRaw.quiet {w w' : World} {A : Option Addr} {L : List Fi} (h : FisRaw w A L) (hc : Chg NoB w w') : FisRaw w' A L := fun hl => by
  obtain ⟨b, o, h1, h2⟩ := h hl
  refine ⟨b, o, h1, fun i x hx => ?_⟩
  obtain ⟨h3, h4, h5⟩ := h2 i x hx
  exact ⟨h3.quiet hc, keepQ hc h4, keepQ hc h5⟩
theorem FisRaw.at_ {w : World} {A : Option Addr} {L : List Fi} (h : FisRaw w A L) (hb : ∀ x ∈ L, x.b.length < 1000000) : FisAt w A L := fun hl => by
  obtain ⟨b, o, h1, h2⟩ := h hl
  refine ⟨b, o, h1, fun i x hx => ?_⟩
  obtain ⟨h3, h4, h5⟩ := h2 i x hx
  exact ⟨⟨h3.nm, hb x (List.mem_of_getElem? hx), h3.cells, h3.nil⟩, h4, h5⟩
theorem flatm_at {α β : Type} {f : α → List β} {k : Nat} (hf : ∀ x, (f x).length = k) : ∀ (l : List α) (i j : Nat) (x : α), l[i]? = some x → j < k → (l.flatMap f)[i * k + j]? = (f x)[j]?
  | [], i, j, x, h, _ => by simp at h
  | y :: l, 0, j, x, h, hj => by
    simp only [List.getElem?_cons_zero, Option.some.injEq] at h
    subst h
    rw [List.flatMap_cons, Nat.zero_mul, Nat.zero_add, List.getElem?_append_left (by rw [hf]; exact hj)]
  | y :: l, i + 1, j, x, h, hj => by
    rw [List.flatMap_cons, List.getElem?_append_right (by rw [hf, Nat.add_mul]; omega), hf]
    have e : (i + 1) * k + j - k = i * k + j := by rw [Nat.add_mul]; omega
    rw [e]
    exact flatm_at hf l i j x (by simpa using h) hj
section
variable {H : Type} {enc : TypeId × Value → H} {w : World} {base : Nat} {held : Bool}
theorem stp_cells : Try.prog.cellsOf 31 = 5 := by kernel_rfl
theorem five_ {α : Type} {l : List α} (h : l.length = 5) : ∃ a b c d e, l = [a, b, c, d, e] := by
  match l, h with
  | [a, b, c, d, e], _ => exact ⟨a, b, c, d, e, rfl⟩
theorem open_stp {fuel : Nat} {cs : List Value} {x : DataW H × List MemPlace} (h : DataW.trod enc Try.prog w base (fun _ => true) held fuel 31 cs = some x) :
    ∃ y : Fi, cs = fiCells y ∧ FiRaw w y := by
  cases fuel with
  | zero => simp [DataW.trod] at h
  | succ fuel =>
    obtain ⟨xs, n, hn, _, hlen, hxs, hg⟩ := DataW.trod_struct Try.underlying31 h
    rw [stp_cells] at hlen
    obtain ⟨v0, v1, v2, v3, v4, rfl⟩ := five_ hlen
    have hx : ∀ i, i < 5 → ∃ y, xs[i]? = some y := fun i hi => ⟨_, List.getElem?_eq_getElem (by rw [hxs]; exact hi)⟩
    obtain ⟨y0, e0⟩ := hx 0 (by omega)
    obtain ⟨y1, e1⟩ := hx 1 (by omega)
    obtain ⟨y2, e2⟩ := hx 2 (by omega)
    obtain ⟨y3, e3⟩ := hx 3 (by omega)
    obtain ⟨y4, e4⟩ := hx 4 (by omega)
    have g0 : DataW.trod enc Try.prog w base (fun _ => true) held n 3 (([v0, v1, v2, v3, v4].drop 0).take (Try.prog.cellsOf 3)) = xs[0]? := hg 0 _ rfl
    have g1 : DataW.trod enc Try.prog w base (fun _ => true) held n 3 (([v0, v1, v2, v3, v4].drop 1).take (Try.prog.cellsOf 3)) = xs[1]? := hg 1 _ rfl
    have g2 : DataW.trod enc Try.prog w base (fun _ => true) held n 29 (([v0, v1, v2, v3, v4].drop 2).take (Try.prog.cellsOf 29)) = xs[2]? := hg 2 _ rfl
    have g3 : DataW.trod enc Try.prog w base (fun _ => true) held n 9 (([v0, v1, v2, v3, v4].drop 3).take (Try.prog.cellsOf 9)) = xs[3]? := hg 3 _ rfl
    have g4 : DataW.trod enc Try.prog w base (fun _ => true) held n 22 (([v0, v1, v2, v3, v4].drop 4).take (Try.prog.cellsOf 22)) = xs[4]? := hg 4 _ rfl
    rw [e0] at g0
    rw [e1] at g1
    rw [e2] at g2
    rw [e3] at g3
    rw [e4] at g4
    simp only [c_int, c_str, c_u32, c_text, List.drop_zero, List.drop_succ_cons, List.take_succ_cons, List.take_zero] at g0 g1 g2 g3 g4
    obtain ⟨k, hk, _, wk⟩ := DataW.trod_int Try.underlying3 g0
    obtain ⟨f, hf, _, wf⟩ := DataW.trod_int Try.underlying3 g1
    obtain ⟨u, hu, _, wu⟩ := DataW.trod_int Try.underlying29 g2
    obtain ⟨s, hs, _, ws⟩ := DataW.trod_string Try.underlying9 g3
    simp only [List.cons.injEq, and_true] at hk hf hu hs
    subst hk hf hu hs
    have hu2 := u32_of wu
    obtain ⟨tA, tl, tc, rfl, t1, t2, t3, t4⟩ := ints_row Try.underlying22 Try.underlying5 c_u8 g4
    refine ⟨⟨k, f, u.toNat, s, tA, tc, tl.map fun n => UInt8.ofNat n.toNat⟩, ?_, ⟨ws, by rw [List.length_map]; exact t3.1, t3.2, bytes_row t1 fun n hn => u8_of (t2 n hn), fun ha => by
      obtain ⟨h1, h2⟩ := t4 ha
      rw [h1]
      exact ⟨rfl, h2⟩⟩⟩
    simp only [fiCells, List.length_map, nat_of hu2.1]
/-- steps that came in -/
theorem open_fis {v : Value} {d : DataW H} {p : List MemPlace} (h : DataW.Trod enc Try.prog w base (fun _ => true) held 32 v d p) (hs : ∃ A n c, v = .slice A n c) :
    ∃ (A : Option Addr) (L : List Fi) (c : Nat), v = .slice A L.length c ∧ FisRaw w A L ∧ True ∧ L.length ≤ c ∧ c ≤ maxLen := by
  obtain ⟨fuel, hf⟩ := h
  obtain ⟨A, n, c, rfl⟩ := hs
  obtain ⟨A, L, c, h1, h2, h3, h4, h5⟩ := open_rows (k := 5) (cells := fiCells) (ok := FiRaw w) Try.underlying32 stp_cells (by omega) (fun _ => rfl) open_stp hf
  refine ⟨A, L, c, h1, fun hl => ?_, trivial, h4, h5⟩
  have hfl : (L.flatMap fiCells).length = L.length * 5 := by
    clear h1 h2 h3 h4 h5 hl
    induction L with
    | nil => rfl
    | cons x l ih => rw [List.flatMap_cons, List.length_append, ih, List.length_cons, Nat.add_mul]; show 5 + _ = _; omega
  obtain ⟨b, o, hA, hc⟩ := h2.flat (by omega)
  refine ⟨b, o, hA, fun i x hx => ⟨h3 x (List.mem_of_getElem? hx), ?_, ?_⟩⟩
  · have := hc (i * 5 + 3) (.string x.nm) ((flatm_at (k := 5) (f := fiCells) (fun _ => rfl) L i 3 x hx (by omega)).trans rfl)
    rw [← Nat.add_assoc] at this
    exact this
  · have := hc (i * 5 + 4) (.slice x.A x.b.length x.c) ((flatm_at (k := 5) (f := fiCells) (fun _ => rfl) L i 4 x hx (by omega)).trans rfl)
    rw [← Nat.add_assoc] at this
    exact this
end
def MuchPost (L : List Fi) (most : Nat) (w : World) (e : Ending) (w' : World) : Prop :=
  ∃ b, e = .returned (.bool b) ∧ Chg NoB w w' ∧ (b = false → L.length ≤ most ∧ ∀ x ∈ L, x.b.length ≤ 20000 ∧ x.nm.size ≤ 20000)
set_option maxHeartbeats 2000000 in
theorem muchF_c {w : World} {A : Option Addr} {c : Nat} {L : List Fi} (h : FisRaw w A L) (most : Nat) (hm : most ≤ 1000) (hL : L.length ≤ maxLen) :
    Calls Try.prog 21 #[.slice A L.length c, .int .i64 most] w (MuchPost L most w) := by
  have H := Go.Lib.hid h
  clear h
  unfold maxLen at hL
  go_enter Try.func21, Try.ntmps21
  go_wp2_with fail
  go_loopw [5, 6] (fun v5 v6 wr => ∃ (k : Nat) (z : Int), k ≤ L.length ∧ k ≤ most + 1 ∧ v6 = .int .i64 k ∧ v5 = .int .i64 z ∧ 0 ≤ z ∧ z ≤ 20000 ∧ (∀ j x, j < k → L[j]? = some x → x.b.length ≤ 20000 ∧ x.nm.size ≤ 20000) ∧ Chg NoB w wr) (fun _ v6 _ => L.length + 1 - (intOf v6).toNat)
  case atStart => exact ⟨0, 0, Nat.zero_le _, by omega, rfl, rfl, by omega, by omega, fun _ _ h => absurd h (by omega), Chg.refl _ _⟩
  case round =>
    obtain ⟨k, z, hk, hkm, rfl, rfl, hz0, hz1, hall, hch⟩ := hrel
    have Hall := Go.Lib.hid hall
    have Hch := Go.Lib.hid hch
    clear hall hch
    by_cases hlt : k < L.length
    · by_cases hlm : k ≤ most
      · obtain ⟨x, hx⟩ : ∃ x, L[k]? = some x := ⟨_, List.getElem?_eq_getElem hlt⟩
        obtain ⟨b, o, hA, hcs⟩ := H.out (by omega)
        obtain ⟨h0, h4, h5⟩ := hcs k x hx
        have g3 : wr.cell? ⟨b, o + k * 5 + 3, none⟩ = some (.string x.nm) := keepQ Hch.out h4
        have g4 : wr.cell? ⟨b, o + k * 5 + 4, none⟩ = some (.slice x.A x.b.length x.c) := keepQ Hch.out h5
        subst hA
        have Hx := Go.Lib.hid hx
        have hnm := h0.nm
        have hbl : x.b.length ≤ maxLen := Nat.le_trans h0.le h0.most
        unfold maxLen at hnm hbl
        clear hx hcs h0 h4 h5
        by_cases hb : x.b.length ≤ 20001
        · by_cases hn : x.nm.size ≤ 20001
          · skip
            have hs1 : IntKind.i64.wrap (z + (x.b.length : Int)) = z + (x.b.length : Int) := IntWalk.i64_in _ (by omega)
            have hs2 : IntKind.i64.wrap (z + (x.b.length : Int) + (x.nm.size : Int)) = z + (x.b.length : Int) + (x.nm.size : Int) := IntWalk.i64_in _ (by omega)
            by_cases hgt : 20000 < z + (x.b.length : Int) + (x.nm.size : Int)
            · go_wp2_with fail
              go_quiet (fail)
              go_wp2_with fail
              go_ret
              exact ⟨true, rfl, Hch.out.drewN _, fun h => by cases h⟩
            · have Hn2 : Hid (∀ j y, j < k + 1 → L[j]? = some y → y.b.length ≤ 20000 ∧ y.nm.size ≤ 20000) := Go.Lib.hid (fun j y hj hy => by
                rcases Nat.lt_or_ge j k with h | h
                · exact Hall.out j y h hy
                · obtain rfl : j = k := by omega
                  rw [Hx.out] at hy
                  injection hy with hy
                  subst hy
                  omega)
              go_wp2_with fail
              go_quiet (fail)
              go_wp2_with fail
              go_roundw
              case rel => exact ⟨k + 1, _, by omega, by omega, by go_num, rfl, by omega, by omega, Hn2.out, Hch.out.drewN _⟩
              case measure => simp [intOf]; omega
          · skip
            have hs1 : IntKind.i64.wrap (z + (x.b.length : Int)) = z + (x.b.length : Int) := IntWalk.i64_in _ (by omega)
            have hs2 : IntKind.i64.wrap (z + (x.b.length : Int) + 20001) = z + (x.b.length : Int) + 20001 := IntWalk.i64_in _ (by omega)
            by_cases hgt : 20000 < z + (x.b.length : Int) + 20001
            · go_wp2_with fail
              go_quiet (fail)
              go_wp2_with fail
              go_ret
              exact ⟨true, rfl, Hch.out.drewN _, fun h => by cases h⟩
            · exfalso; omega
        · by_cases hn : x.nm.size ≤ 20001
          · skip
            have hs1 : IntKind.i64.wrap (z + 20001) = z + 20001 := IntWalk.i64_in _ (by omega)
            have hs2 : IntKind.i64.wrap (z + 20001 + (x.nm.size : Int)) = z + 20001 + (x.nm.size : Int) := IntWalk.i64_in _ (by omega)
            by_cases hgt : 20000 < z + 20001 + (x.nm.size : Int)
            · go_wp2_with fail
              go_quiet (fail)
              go_wp2_with fail
              go_ret
              exact ⟨true, rfl, Hch.out.drewN _, fun h => by cases h⟩
            · exfalso; omega
          · skip
            have hs1 : IntKind.i64.wrap (z + 20001) = z + 20001 := IntWalk.i64_in _ (by omega)
            have hs2 : IntKind.i64.wrap (z + 20001 + 20001) = z + 20001 + 20001 := IntWalk.i64_in _ (by omega)
            by_cases hgt : 20000 < z + 20001 + 20001
            · go_wp2_with fail
              go_quiet (fail)
              go_wp2_with fail
              go_ret
              exact ⟨true, rfl, Hch.out.drewN _, fun h => by cases h⟩
            · exfalso; omega
      · have d1 : decide ((k : Int) ≤ (most : Int)) = false := by simp; omega
        have d2 : decide ((most : Int) < (L.length : Int)) = true := by simp; omega
        go_wp2_with fail
        go_ret
        refine ⟨_, rfl, Hch.out, fun h => ?_⟩
        first
          | cases h
          | (rw [d2] at h; cases h)
          | (have := of_decide_eq_false h; omega)
    · obtain rfl : k = L.length := by omega
      have Hfin : Hid (L.length ≤ most → L.length ≤ most ∧ ∀ x ∈ L, x.b.length ≤ 20000 ∧ x.nm.size ≤ 20000) := Go.Lib.hid (fun hle => ⟨hle, fun x hx => by
        obtain ⟨j, hj⟩ := List.mem_iff_getElem?.1 hx
        exact Hall.out j x (List.getElem?_eq_some_iff.1 hj).1 hj⟩)
      go_wp2_with fail
      go_ret
      refine ⟨_, rfl, Hch.out, fun hb => Hfin.out ?_⟩
      have := of_decide_eq_false hb
      omega
end Go.Proofs.Yteleglkoagnmcaa
