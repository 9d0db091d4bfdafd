/- What is proved: the iterator that Fields hands back gives a record's names and types in their order, or as many as are asked for. Conditions: a round that goes on keeps the type. -/
import Derived.Test.YtholeloedihkoaaVbL
import Derived.RangeFuncNested
import Derived.RangeFuncBound
import Derived.RangeFuncCalls
import Derived.RangeFuncLeaves
import Derived.RangeFuncKeeps
import Derived.Shelf.Abstract
import Derived.Shelf.RegionOpen
import Derived.WalkKit
import Derived.OwnWalkIn
import Derived.TacticsInMore
import Derived.LoopNIn
import Derived.LoopIn
import Derived.Laws.EntriesVeiled
set_option linter.unusedSimpArgs false
set_option linter.unusedVariables false
namespace Go.Proofs.Ytholeloedihkoaa
open Go Go.RowKit Go.Shelf
attribute [local go_sem] Oper.semAt_some
theorem take_fin {N k : Nat} (hk : k < N) : (List.finRange N).take k ++ [⟨k, hk⟩] = (List.finRange N).take (k + 1) := by
  rw [List.take_add_one]
  congr 1
  simp [hk]
theorem flatN (fs : List Fd) : ∀ (j : Nat) (f : Fd), fs[j]? = some f → (fs.flatMap Fd.cells)[j * 3]? = some (.string f.name) ∧ (fs.flatMap Fd.cells)[j * 3 + 1]? = some (ptr f.base) := by
  induction fs with
  | nil => intro j f h; simp at h
  | cons x r ih =>
    intro j f h
    cases j with
    | zero =>
      simp only [List.getElem?_cons_zero, Option.some.injEq] at h
      subst h
      simp [Fd.cells]
    | succ j =>
      have := ih j f (by simpa using h)
      rw [show (j + 1) * 3 = (j * 3) + 3 from by omega]
      rw [show j * 3 + 3 + 1 = (j * 3 + 1) + 3 from by omega]
      refine ⟨?_, ?_⟩
      · rw [← this.1]; simp [Fd.cells]
      · rw [← this.2]; simp [Fd.cells]
def FieldsX (lo p b : Nat) (T : Ti) (W : World) : Prop := TiAt lo W b T ∧ Blk W p PT #[ptr b]
@[reducible] def encD (f : Fd) : Array Value := #[.string f.name, .pointer (some ⟨f.base, 0, none⟩)]
set_option maxRecDepth 100000 in
set_option maxHeartbeats 2000000 in
theorem fields_runs {lo p b : Nat} {T : Ti} {w : World} (m : Nat) (h : FieldsX lo p b T w) (hk : T.kind ≠ 0) :
    SeqStopsK Fence.wide m Try.prog 55 #[ptr p] (fun x : Fin T.fs.length => encD T.fs[x]) (fun W W' => FieldsX lo p b T W → FieldsX lo p b T W')
      (fun ys => ys = List.finRange T.fs.length) (fun pre => pre <+: List.finRange T.fs.length) T.fs.length w := by
  intro l J Jx W hW hJ hJx hY h0
  have hcq : Chg NoB w W := Chg.of_below hW (Nat.le_refl _)
  have hX : FieldsX lo p b T W := ⟨h.1.quiet hcq, h.2.chg hcq id⟩
  have Hask : Hid (∀ (k : Nat) (hk : k < T.fs.length) (W1 : World), J ((List.finRange T.fs.length).take k) W1 → YieldAt Fence.wide (m - 1) Try.prog l (encD T.fs[k]) W1 fun r W' =>
      (r = .returned (.bool true) ∧ J ((List.finRange T.fs.length).take (k + 1)) W' ∧ (FieldsX lo p b T W1 → FieldsX lo p b T W')) ∨ (r = .returned (.bool false) ∧ Jx ((List.finRange T.fs.length).take (k + 1)) W')) := Go.Lib.hid fun k hk W1 hJ1 => by
    have := hY ((List.finRange T.fs.length).take k) ⟨k, hk⟩ W1 hJ1 (by simp; omega)
    rw [take_fin hk] at this
    exact this
  have HA : Hid (∀ s W' o, J s W' → J s (W'.alloc o)) := Go.Lib.hid fun s W' o hs => hJ s W' _ none hs (World.grownBy_alloc W' _ none) (fun r e => by cases e)
  have HX := Go.Lib.hid hX
  have H0 := Go.Lib.hid h0
  have HTh := Go.Lib.hid (there_c hX.1 hk)
  have HK := Go.Lib.hid hk
  have c1 := hX.2.cell 0
  obtain ⟨d0, d1, d2, d3, d4, d5⟩ := hX.1.cells
  have hnf := hX.1.nf
  have HNF := Go.Lib.hid hnf
  clear hY hJ hJx h0 hW hX h d0 d1 d2 d4 d5 hk
  unfold ptr at *
  refine callsIn_of_wp Try.func55 rfl trivial ?_ rfl
  simp only [Try.ntmps55, List.size_toArray, List.length_cons, List.length_nil, Nat.reduceAdd, Nat.reduceSub, Array.replicate_succ, Array.replicate_zero, List.push_toArray, List.append_toArray, List.nil_append, List.cons_append]
  gi_wp2
  refine ⟨trivial, fun h => by simp [Fence.wide] at h, callsIn_wide.2 (HTh.out.mono ?_)⟩
  rintro e w1 ⟨rfl, rfl⟩
  gi_wp2
  gi_loopw [4, 13] (fun _ v13 wr => ∃ i : Nat, i ≤ T.fs.length ∧ v13 = .int .i64 i ∧ J ((List.finRange T.fs.length).take i) wr ∧ FieldsX lo p b T wr) (fun _ v13 _ => T.fs.length - (intOf v13).toNat)
  case atStart => exact ⟨0, Nat.zero_le _, rfl, H0.out, HX.out⟩
  case round =>
    clear c1 d3
    obtain ⟨i, hi, rfl, hJ, hX⟩ := hrel
    by_cases hlt : i < T.fs.length
    · obtain ⟨g, hg, hcell⟩ := row_cells hX.1.row (by omega)
      have hfi := List.getElem?_eq_getElem hlt
      obtain ⟨f0, f1⟩ := flatN T.fs i _ hfi
      have f2 := flat3 T.fs i _ hfi
      have g0 := hcell _ _ f0
      have g1 := hcell _ _ f1
      have g2 := hcell _ _ f2
      have hlen := HNF.out
      rw [hg]
      have hJ1 := HA.out _ _ (Obj.cells #[.string T.fs[i].name, .pointer (some ⟨T.fs[i].base, 0, none⟩), .int .i64 T.fs[i].off] FT) hJ
      have hX1 : FieldsX lo p b T (wr.alloc (Obj.cells #[.string T.fs[i].name, .pointer (some ⟨T.fs[i].base, 0, none⟩), .int .i64 T.fs[i].off] FT)) := ⟨hX.1.quiet ((Chg.refl NoB wr).alloc _), hX.2.chg ((Chg.refl NoB wr).alloc _) id⟩
      obtain ⟨fn, tmps, assign, body, hy, hR⟩ := Hask.out i hlt _ hJ1
      have HXr := Go.Lib.hid hX1
      unfold ptr at g1
      clear hX hJ hcell hfi f0 f1 f2 hJ1 hX1 hg
      unfold encD at hy
      try dsimp only at hy
      generalize T.fs[i].name = nm at *
      generalize T.fs[i].base = fb at *
      generalize T.fs[i].off = fo at *
      gi_wp2
      refine ⟨fun h => by simp [Fence.wide] at h, hR.mono ?_⟩
      clear hR hy g0 g1 g2
      rintro r W2 (⟨rfl, hJ2, hK2⟩ | ⟨rfl, hx⟩)
      · have HJ2 := Go.Lib.hid hJ2
        have HX2 := Go.Lib.hid (hK2 HXr.out)
        clear hJ2 hK2
        gi_wp2
        go_roundw
        case rel => exact ⟨i + 1, by omega, by go_num, HJ2.out, HX2.out⟩
        case measure => simp [intOf]; omega
      · have HXx := Go.Lib.hid hx
        clear hx
        gi_wp2
        refine bodyPost_ret (results_none rfl _ _ _) rfl ?_
        exact ⟨⟨_, rfl⟩, .inr ⟨_, List.take_prefix _ _, HXx.out⟩⟩
    · obtain rfl : i = T.fs.length := by omega
      have HJ := Go.Lib.hid hJ
      clear hJ hX
      gi_wp2
      go_end0
      exact ⟨⟨_, rfl⟩, .inl ⟨_, rfl, by have := HJ.out; rwa [List.take_of_length_le (by simp)] at this⟩⟩
end Go.Proofs.Ytholeloedihkoaa
