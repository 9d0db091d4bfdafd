/- What is proved: Offset at a name that is no field's; the reference's Offset. Conditions: the memory holds the type, the shape. -/
import Derived.Test.YtholeloedihkoaaVbJ
import Derived.Test.YtholeloedihkoaaVbA
set_option linter.unusedSimpArgs false
set_option linter.unusedVariables false
namespace Go.Proofs.Ytholeloedihkoaa
open Go Go.RowKit
section
variable {w : World} {b lo : Nat} {T : Ti}
theorem offset_state (h : TiAt lo w b T) (hk : T.kind ≠ 0) (hk8 : T.kind ≠ 8) (s : ByteArray) :
    Calls Try.prog 29 #[ptr b, .string s] w fun e w' => e = .returned (.tuple #[.int .i64 0, .int .i64 7]) ∧ w = w' :=
  offset_err (x := 7) (by decide) (find_state h hk hk8 s)
theorem offset_miss (h : TiAt lo w b T) (hk : T.kind = 8) (s : ByteArray) (hs : s ∉ T.fs.map (·.name)) :
    Calls Try.prog 29 #[ptr b, .string s] w fun e w' => e = .returned (.tuple #[.int .i64 0, .int .i64 6]) ∧ w = w' :=
  offset_err (x := 6) (by decide) (find_miss h hk s hs)
end
/-- where a part begins -/
def offS (l : List Nat) (m : Nat) : Nat := if l[m]?.getD 0 ≠ 1 then (refAt (l.take m) + 3) / 4 * 4 else refAt (l.take m)
set_option maxHeartbeats 2000000 in
set_option maxRecDepth 20000 in
theorem refOffset_c (s : Sv) (ns : List ByteArray) (ks : SF) (ih : SizesF ks) (w : World) (h : IsS w s ns ks) (hok : okF ks) (hl : ks.len ≤ 1100000) {m : Nat} (hm : m < ks.len) :
    Calls Try.prog 41 #[s.val, .int .i64 m] w (Quiet (.int .i64 (offS (sizesF ks) m : Nat)) w) := by
  have HS := Go.Lib.hid h
  have HI := Go.Lib.hid ih
  have HO := Go.Lib.hid hok
  have hpl := h.len
  have hpc := h.ok.pc
  unfold maxLen at hpc
  clear ih h hok
  obtain ⟨k, n, nA, nl, nc, pA, pl, pc⟩ := s
  unfold Sv.val
  simp only at hpl hpc ⊢
  rw [← hpl] at hl hm
  have HPL := Go.Lib.hid hpl
  clear hpl
  have hbx := Blk.new w ShT #[.int .i64 k, .int .i64 n, .slice nA nl nc, .slice pA pl pc]
  have hal : Chg NoB w (w.alloc (Obj.cells #[.int .i64 k, .int .i64 n, .slice nA nl nc, .slice pA pl pc] ShT)) := (Chg.refl NoB w).alloc _
  have HB := Go.Lib.hid (And.intro hbx hal)
  clear hbx hal
  have hbnd : ∀ i, refAt ((sizesF ks).take i) ≤ 1000000000000 := fun i => by
    have := refAt_le ((sizesF ks).take i) fun z hz => (sizes_in ks HO.out z (List.mem_of_mem_take hz)).2
    have h2 : ((sizesF ks).take i).length ≤ 1100000 := by have := HPL.out; rw [List.length_take, sizesF_len]; omega
    omega
  have HBD := Go.Lib.hid hbnd
  clear hbnd
  go_enter Try.func41, Try.ntmps41
  go_wp2_with fail
  go_loopw [5, 6, 7] (fun v5 v6 _ wr => ∃ i : Nat, i ≤ m ∧ v6 = .int .i64 i ∧ v5 = .int .i64 (refAt ((sizesF ks).take i) : Nat) ∧ Chg NoB (w.alloc (Obj.cells #[.int .i64 k, .int .i64 n, .slice nA nl nc, .slice pA pl pc] ShT)) wr) (fun _ v6 _ _ => m - (intOf v6).toNat)
  case atStart => exact ⟨0, Nat.zero_le _, rfl, rfl, Chg.refl _ _⟩
  case round =>
    obtain ⟨i, hi, rfl, rfl, hc⟩ := hrel
    have hb1 := HB.out.1.chg hc id
    have c3 : wr.cell? ⟨w.heap.size, 3, none⟩ = some (.slice pA pl pc) := hb1.cell 3
    have HC1 := Go.Lib.hid (HB.out.2.trans hc)
    have HC2 := Go.Lib.hid hc
    clear hc hb1
    by_cases hlt : i < m
    · obtain ⟨pb, po, sv, ns', kk, rfl, ha, q0, q1, q2, q3, hIs⟩ := HS.out.part (i := i) (by show i < pl; omega)
      have q0' := keepC HC1.out q0
      have q1' := keepC HC1.out q1
      have q2' := keepC HC1.out q2
      have q3' := keepC HC1.out q3
      have he := HO.out.at_ ks ha
      have hzs := SF.at_sizes ks ha
      have hzin := sizes_in ks HO.out _ (List.mem_of_getElem? hzs)
      have hC := HI.out i sv ns' kk ha wr (hIs.quiet HC1.out) he
      obtain ⟨z, hze⟩ : ∃ z, sizeS sv.k sv.n (sizesF kk) = z := ⟨_, rfl⟩
      rw [hze] at hzs hzin hC
      have hsn : refAt ((sizesF ks).take (i + 1)) = (if z ≠ 1 then (refAt ((sizesF ks).take i) + 3) / 4 * 4 else refAt ((sizesF ks).take i)) + z := by
        obtain ⟨hk, he⟩ := List.getElem?_eq_some_iff.1 hzs
        rw [List.take_succ_eq_append_getElem hk, he, refAt_snoc]
      have HSN := Go.Lib.hid hsn
      have hb1 := HBD.out i
      have hb2 := HBD.out (i + 1)
      rw [hsn] at hb2
      obtain ⟨a, hae⟩ : ∃ a, refAt ((sizesF ks).take i) = a := ⟨_, rfl⟩
      rw [hae] at HSN hb1 hb2 ⊢
      have HC := Go.Lib.hid hC
      unfold Sv.val at HC
      clear q0 q1 q2 q3 ha hIs he hzs hsn hC hze
      by_cases hz1 : z = 1
      · subst hz1
        rw [if_neg (by simp)] at hb2
        go_wp2_with fail
        refine HC.out.mono ?_
        rintro e w1 ⟨rfl, hc⟩
        have HC3 := Go.Lib.hid (HC2.out.trans hc)
        clear hc
        go_wp2_with fail
        go_roundw
        case rel => exact ⟨i + 1, by omega, by go_num, by rw [HSN.out, if_neg (by simp)]; go_num, HC3.out⟩
        case measure => simp [intOf]; omega
      · have hz1' : ((z : Int) != 1) = true := by simp; omega
        rw [if_pos hz1] at hb2
        go_wp2_with fail
        refine HC.out.mono ?_
        rintro e w1 ⟨rfl, hc⟩
        have HC3 := Go.Lib.hid (HC2.out.trans hc)
        clear hc
        go_wp2_with fail
        refine (refUp_c (w := w1) a (by omega)).mono ?_
        rintro e w2 ⟨rfl, rfl⟩
        obtain ⟨u, hu⟩ : ∃ u, (a + 3) / 4 * 4 = u := ⟨_, rfl⟩
        rw [hu] at hb2 ⊢
        go_wp2_with fail
        go_roundw
        case rel => exact ⟨i + 1, by omega, by go_num, by rw [HSN.out, if_pos hz1, hu]; go_num, HC3.out⟩
        case measure => simp [intOf]; omega
    · obtain rfl : i = m := by omega
      obtain ⟨pb, po, sv, ns', kk, rfl, ha, q0, q1, q2, q3, hIs⟩ := HS.out.part (i := i) (by show i < pl; omega)
      have q0' := keepC HC1.out q0
      have q1' := keepC HC1.out q1
      have q2' := keepC HC1.out q2
      have q3' := keepC HC1.out q3
      have he := HO.out.at_ ks ha
      have hzs := SF.at_sizes ks ha
      have hzin := sizes_in ks HO.out _ (List.mem_of_getElem? hzs)
      have hC := HI.out i sv ns' kk ha wr (hIs.quiet HC1.out) he
      obtain ⟨z, hze⟩ : ∃ z, sizeS sv.k sv.n (sizesF kk) = z := ⟨_, rfl⟩
      rw [hze] at hzs hzin hC
      have hb1 := HBD.out i
      have hof : offS (sizesF ks) i = if z ≠ 1 then (refAt ((sizesF ks).take i) + 3) / 4 * 4 else refAt ((sizesF ks).take i) := by
        unfold offS
        rw [hzs]
        rfl
      obtain ⟨a, hae⟩ : ∃ a, refAt ((sizesF ks).take i) = a := ⟨_, rfl⟩
      rw [hae] at hof
      try rw [hae] at hb1 ⊢
      try rw [hae] at hb1
      have HOF := Go.Lib.hid hof
      have HC := Go.Lib.hid hC
      unfold Sv.val at HC
      clear q0 q1 q2 q3 ha hIs he hzs hC hze hof
      by_cases hz1 : z = 1
      · subst hz1
        go_wp2_with fail
        refine HC.out.mono ?_
        rintro e w1 ⟨rfl, hc⟩
        have HC3 := Go.Lib.hid (HC1.out.trans hc)
        clear hc
        go_wp2_with fail
        go_ret
        refine ⟨?_, HC3.out⟩
        rw [HOF.out, if_neg (by simp)]
        rfl
      · have hz1' : ((z : Int) != 1) = true := by simp; omega
        go_wp2_with fail
        refine HC.out.mono ?_
        rintro e w1 ⟨rfl, hc⟩
        have HC3 := Go.Lib.hid (HC1.out.trans hc)
        clear hc
        go_wp2_with fail
        refine (refUp_c (w := w1) a (by omega)).mono ?_
        rintro e w2 ⟨rfl, rfl⟩
        go_wp2_with fail
        go_ret
        refine ⟨?_, HC3.out⟩
        rw [HOF.out, if_pos hz1]
        rfl
end Go.Proofs.Ytholeloedihkoaa
