/- What is proved: how a variable's parts' bytes lie in its own; bytes as a text. Conditions: as each theorem says. -/
import Derived.Test.YtholeloedihkoaaVbG
import Derived.Test.YtholeloedihkoaaVbD
import Derived.Laws.BytesString
set_option linter.unusedSimpArgs false
set_option linter.unusedVariables false
namespace Go.Proofs.Ytholeloedihkoaa
open Go Go.RowKit
/-- parts' bytes lie one behind the other, noughts between -/
structure Lays (N : Nat) (bv : List Int) (off e : Nat → Nat) (L : List (List Int)) : Prop where
  len : bv.length = N
  zero : e 0 = 0
  part : ∀ (i : Nat) l, L[i]? = some l → ∃ P r, bv = P ++ List.replicate (off i - e i) 0 ++ l ++ r ∧ P.length = e i ∧ e i ≤ off i ∧ e (i + 1) = off i + l.length
  last : ∃ P, bv = P ++ List.replicate (N - e L.length) 0 ∧ P.length = e L.length ∧ e L.length ≤ N
section
variable {N : Nat} {bv : List Int} {off e : Nat → Nat} {L : List (List Int)}
theorem Lays.get (h : Lays N bv off e L) {i : Nat} {l : List Int} (hi : L[i]? = some l) : (bv.drop (off i)).take l.length = l ∧ off i + l.length ≤ N ∧ e i ≤ off i ∧ e (i + 1) = off i + l.length ∧ ∀ j, e i ≤ j → j < off i → bv[j]? = some 0 := by
  obtain ⟨P, r, h1, h2, h3, h4⟩ := h.part i l hi
  have hpl : (P ++ List.replicate (off i - e i) 0).length = off i := by rw [List.length_append, List.length_replicate]; omega
  refine ⟨?_, ?_, h3, h4, fun j hj1 hj2 => ?_⟩
  · obtain ⟨Q, hQ⟩ : ∃ Q, P ++ List.replicate (off i - e i) 0 = Q := ⟨_, rfl⟩
    rw [hQ] at h1 hpl
    rw [h1, List.append_assoc, ← hpl, List.drop_left, List.take_left]
  · have := congrArg List.length h1
    rw [List.length_append, List.length_append, hpl, h.len] at this
    omega
  · rw [h1, List.append_assoc, List.append_assoc, List.getElem?_append_right (by omega), List.getElem?_append_left (by rw [List.length_replicate]; omega), List.getElem?_replicate, if_pos (by omega)]
/-- the rest, behind so many parts -/
def RestAt (N : Nat) (bv : List Int) (ei : Nat) (l' : List Int) : Prop := l'.length = N ∧ ∀ j, j < N → l'[j]? = if j < ei then some 0 else bv[j]?
theorem RestAt.start (h : bv.length = N) : RestAt N bv 0 bv := ⟨h, fun j _ => by rw [if_neg (by omega)]⟩
theorem RestAt.step (h : Lays N bv off e L) {i : Nat} {l : List Int} (hi : L[i]? = some l) {l' l'' : List Int} (hr : RestAt N bv (e i) l') (hw : Wiped l' (off i) l.length l'') : RestAt N bv (e (i + 1)) l'' := by
  obtain ⟨_, h2, h3, h4, h5⟩ := h.get hi
  refine ⟨by rw [hw.1, hr.1], fun j hj => ?_⟩
  rw [hw.2 j]
  by_cases h1 : off i ≤ j ∧ j < off i + l.length ∧ j < l'.length
  · rw [if_pos h1, if_pos (by omega)]
  · rw [if_neg h1, hr.2 j hj]
    have hl := hr.1
    by_cases h6 : j < e i
    · rw [if_pos h6, if_pos (by omega)]
    · rw [if_neg h6]
      by_cases h7 : j < off i
      · rw [if_pos (by omega), h5 j (by omega) h7]
      · rw [if_neg (by omega)]
theorem RestAt.done (h : Lays N bv off e L) {l' : List Int} (hr : RestAt N bv (e L.length) l') : ∀ j, j < N → l'[j]? = some 0 := by
  intro j hj
  rw [hr.2 j hj]
  split
  · rfl
  · rename_i hn
    obtain ⟨P, h1, h2, h3⟩ := h.last
    rw [h1, List.getElem?_append_right (by omega), List.getElem?_replicate, if_pos (by omega)]
/-- an array's -/
theorem arr_lays {n : Nat} (hL : ∀ l ∈ L, l.length = n) (hN : L.length * n ≤ N) : Lays N (padTo N L.flatten) (fun i => i * n) (fun i => i * n) L := by
  have hf := flatten_len hL
  refine ⟨padTo_len (by omega), by simp, fun i l hi => ?_, ⟨L.flatten, ?_, hf, hN⟩⟩
  · have hil := (List.getElem?_eq_some_iff.1 hi).1
    have h1 : L.flatten = (L.take i).flatten ++ l ++ (L.drop (i + 1)).flatten := by
      have : L = L.take i ++ [l] ++ L.drop (i + 1) := by
        rw [← take_snoc hi, List.take_append_drop]
      conv => lhs; rw [this]
      simp
    refine ⟨(L.take i).flatten, (L.drop (i + 1)).flatten ++ List.replicate (N - L.flatten.length) 0, ?_, ?_, Nat.le_refl _, ?_⟩
    · unfold padTo
      rw [Nat.sub_self, List.replicate_zero, List.append_nil]
      conv => lhs; rw [h1]
      rw [List.append_assoc ((L.take i).flatten ++ l)]
      congr 3
      rw [← h1]
    · rw [flatten_len (m := n) fun l hl => hL l (List.mem_of_mem_take hl), List.length_take]
      congr 1
      omega
    · rw [hL l (List.mem_of_getElem? hi), Nat.succ_mul]
  · unfold padTo
    rw [hf]
theorem recB_prefix (l : List (Fd × List Int)) : ∀ k, ∃ r, recB l = recB (l.take k) ++ r := by
  induction l using List.snocRec with
  | nil => exact fun k => ⟨[], by simp⟩
  | snoc l q ih =>
    intro k
    rcases Nat.lt_or_ge l.length k with hk | hk
    · exact ⟨[], by rw [List.take_of_length_le (by simp; omega), List.append_nil]⟩
    · obtain ⟨r, hr⟩ := ih k
      rw [List.take_append_of_le_length hk, recB_snoc]
      unfold padTo
      rw [hr]
      exact ⟨r ++ List.replicate (q.1.off - (recB (l.take k) ++ r).length) 0 ++ q.2, by simp⟩
/-- a record's -/
theorem rec_lays {l : List (ByteArray × (Nat × Ti))} (hL : L.length = l.length) (hs : ∀ (i : Nat) a x, L[i]? = some a → l[i]? = some x → a.length = x.2.2.size) (hc : recSize l ≤ 262144) :
    Lays (recSize l) (padTo (recSize l) (recB ((recL l).1.zip L))) (fun i => ((recL l).1[i]?.map (·.off)).getD 0) (fun i => (recL (l.take i)).2) L := by
  have hat : (recL l).2 ≤ 262144 ∧ (recL l).2 ≤ recSize l := by unfold recSize at hc ⊢; omega
  have key : ∀ k, (recB (((recL l).1.zip L).take k)).length = (recL (l.take k)).2 := fun k => by
    rw [take_zip k, ← recL_take]
    refine recB_len (l.take k) (L.take k) (by simp [hL]) (fun i a x ha hx => ?_) (by have := recL_mono l hat.1 k; omega)
    rw [List.getElem?_take] at ha hx
    split at ha
    · rename_i h
      rw [if_pos h] at hx
      exact hs i a x ha hx
    · cases ha
  have hfull : (recB ((recL l).1.zip L)).length = (recL l).2 := recB_len l L hL hs hat.1
  refine ⟨padTo_len (by omega), by simp [recL], fun i a hi => ?_, ⟨recB ((recL l).1.zip L), ?_, ?_, ?_⟩⟩
  · have hil := (List.getElem?_eq_some_iff.1 hi).1
    obtain ⟨x, hx⟩ : ∃ x, l[i]? = some x := ⟨_, List.getElem?_eq_getElem (by omega)⟩
    obtain ⟨f, hf⟩ : ∃ f, (recL l).1[i]? = some f := ⟨_, List.getElem?_eq_getElem (by rw [recL_len]; omega)⟩
    obtain ⟨h1, h2, h3⟩ := recL_off l hat.1 hf hx
    have hz : ((recL l).1.zip L)[i]? = some (f, a) := List.getElem?_zip_eq_some.2 ⟨hf, hi⟩
    obtain ⟨r, hr⟩ := recB_prefix ((recL l).1.zip L) (i + 1)
    rw [take_snoc hz, recB_snoc] at hr
    have ha := hs i a x hi hx
    rw [hf]
    simp only [Option.map_some, Option.getD_some]
    refine ⟨recB (((recL l).1.zip L).take i), r ++ List.replicate (recSize l - (recB ((recL l).1.zip L)).length) 0, ?_, key i, h1, by rw [ha]; exact h2.symm⟩
    obtain ⟨m, hm⟩ : ∃ m, recSize l - (recB ((recL l).1.zip L)).length = m := ⟨_, rfl⟩
    have hp : padTo (recSize l) (recB ((recL l).1.zip L)) = recB ((recL l).1.zip L) ++ List.replicate m 0 := by unfold padTo; rw [hm]
    have hq : padTo f.off (recB (((recL l).1.zip L).take i)) = recB (((recL l).1.zip L).take i) ++ List.replicate (f.off - (recL (l.take i)).2) 0 := by unfold padTo; rw [key i]
    rw [hp, hm, hr]
    simp only
    rw [hq]
    simp only [List.append_assoc]
  · unfold padTo
    rw [hfull, hL, List.take_length]
  · rw [hfull, hL, List.take_length]
  · rw [hL, List.take_length]
    exact hat.2
end
/-- bytes as a text -/
def strOf (l : List Int) : ByteArray := l.foldl (fun r n => r.push (UInt8.ofNat n.toNat)) ByteArray.empty
theorem run_text {w : World} {A : Option Addr} {l : List Int} {c n : Nat} (hn : l.length = n) (h : CellsAt w A (u8s l)) : (convert 51 9 (.slice A n c)).run Try.prog w = .ok (.string (strOf l)) w := by
  cases l with
  | nil =>
    subst hn
    rw [List.length_nil, run_convert_bytes_string w _ _ _ A 0 c Try.underlying51 Try.underlying5 Try.underlying9]
    cases A with
    | none => simp [Conv.bytesToString]; rfl
    | some ad =>
      have := run_bytesToString (P := Try.prog) w ad 0 c [] (by simpa using run_loadCells_list (P := Try.prog) w ad [] (by simp))
      exact this
  | cons b l' =>
    obtain ⟨ad, rfl, hc⟩ := h (by simp [u8s])
    have hl := run_loadCells_list (P := Try.prog) w ad (u8s (b :: l')) (fun j v hj => hc j v hj)
    rw [run_convert_bytes_string w _ _ _ (some ad) n c Try.underlying51 Try.underlying5 Try.underlying9]
    exact run_bytesToString w ad n c (b :: l') (by rw [← hn, ← u8s_len]; exact hl)
/-- a part of a row of bytes -/
theorem cells_part {w : World} {base g N cap a n : Nat} {l : List Int} (h : w.ownsRow base U8 1 (.slice (some ⟨g, 0, none⟩) N cap) N (u8s l)) (ha : a + n ≤ N) : CellsAt w (some ⟨g, a, none⟩) (u8s ((l.drop a).take n)) := by
  intro _
  refine ⟨_, rfl, fun j u hu => ?_⟩
  rw [add_none]
  have hN : N = l.length := by have := h.1; rw [u8s_len] at this; omega
  have hj : j < n := by
    have := (List.getElem?_eq_some_iff.1 hu).1
    rw [u8s_len, List.length_take] at this
    omega
  rw [h.cellAt (a + j) (by omega), ← hu]
  unfold u8s
  rw [List.getElem?_map, List.getElem?_map, List.getElem?_take, if_pos hj, List.getElem?_drop]
/-- a new variable's bytes are noughts -/
theorem zero_bytes {w : World} : ∀ (v : VF) {lo : Nat}, VsAt Zr w lo v → ∀ l ∈ bytesF w v, ∀ x ∈ l, x = 0
  | .nil, _, _, l, h => by simp [bytesF] at h
  | .cons b t A c ks r, lo, ⟨h1, ⟨x, p, h2, h3, h4⟩, h5, h6, h7, h8⟩, l, h => by
    simp only [bytesF, List.mem_cons] at h
    rcases h with rfl | h
    · have ih := zero_bytes ks h7
      have e1 : wordAt w b = 0 := by unfold wordAt; rw [h2.cell]; exact h4.1
      have e2 : toAt w b = false := by unfold toAt; rw [h2.cell]; show p.isSome = false; rw [h4.2]; rfl
      rw [e1, e2]
      have hp : ∀ (n : Nat) (l : List Int), (∀ x ∈ l, x = 0) → ∀ x ∈ padTo n l, x = 0 := fun n l hl x hx => by
        unfold padTo at hx
        rcases List.mem_append.1 hx with hx | hx
        · exact hl x hx
        · exact (List.mem_replicate.1 hx).2
      intro x hx
      unfold bytesOf at hx
      split at hx
      · exact hp _ _ (fun x hx => by
          obtain ⟨l, hl, hx⟩ := List.mem_flatten.1 hx
          exact ih l hl x hx) x hx
      · split at hx
        · refine hp _ _ (fun x hx => ?_) x hx
          have hr : ∀ (z : List (Fd × List Int)), (∀ q ∈ z, ∀ x ∈ q.2, x = 0) → ∀ x ∈ recB z, x = 0 := by
            intro z
            induction z using List.snocRec with
            | nil => intro _ x hx; simp [recB] at hx
            | snoc z q ihz =>
              intro hz x hx
              rw [recB_snoc] at hx
              rcases List.mem_append.1 hx with hx | hx
              · exact hp _ _ (ihz fun q hq => hz q (by simp [hq])) x hx
              · exact hz q (by simp) x hx
          exact hr _ (fun q hq x hx => ih q.2 (List.of_mem_zip hq).2 x hx) x hx
        · split at hx
          · rw [if_neg (by decide)] at hx
            simp [wordB] at hx
            exact hx
          · have := List.mem_of_mem_take hx
            simp [wordB] at this
            exact this
    · exact zero_bytes r h8 l h
end Go.Proofs.Ytholeloedihkoaa
