/- What is proved: the reader's name; a slice of bytes that it hands back. Conditions: the memory holds the reader. -/
import Derived.Test.YteleglkoagnmcaaLkF
import Derived.Laws.BytesArg
set_option linter.unusedSimpArgs false
set_option linter.unusedVariables false
namespace Go.Proofs.Yteleglkoagnmcaa
open Go Go.RowKit
theorem run_text {w : World} {A : Option Addr} {l : List UInt8} {c n : Nat} (hn : l.length = n) (h : CellsAt w A (bv l)) : (convert 22 9 (.slice A n c)).run Try.prog w = .ok (.string ⟨l.toArray⟩) w := by
  cases l with
  | nil =>
    subst hn
    rw [List.length_nil, run_convert_bytes_string w _ _ _ A 0 c Try.underlying22 Try.underlying5 Try.underlying9]
    cases A with
    | none => simp [Conv.bytesToString]; rfl
    | some ad =>
      have := run_bytesToString (P := Try.prog) w ad 0 c [] (by simpa using run_loadCells_list (P := Try.prog) w ad [] (by simp))
      exact this
  | cons b l' =>
    obtain ⟨ad, rfl, hc⟩ := h (by simp [bv])
    have hl := run_loadCells_list (P := Try.prog) w ad (bv (b :: l')) (fun j v hj => hc j v hj)
    have e : bv (b :: l') = ((b :: l').map fun c => (c.toNat : Int)).map (Value.int .u8) := by simp [bv]
    rw [run_convert_bytes_string w _ _ _ (some ad) n c Try.underlying22 Try.underlying5 Try.underlying9, run_bytesToString w ad n c ((b :: l').map fun c => (c.toNat : Int)) (by rw [← e, ← hn, show (b :: l').length = (bv (b :: l')).length from (bv_length _).symm]; exact hl), foldl_push_bytes]
    simp [ByteArray.empty, ByteArray.emptyWithCapacity, Function.comp_def]
    rfl
section
variable {W W' : World} {r : Nat} {q : Rdr} {A : Option Addr} {c : Nat}
theorem cells_take {xs : List Value} (h : CellsAt W A xs) (n : Nat) : CellsAt W A (xs.take n) := by
  intro hl
  obtain ⟨ad, hA, hc⟩ := h (by simp at hl; omega)
  refine ⟨ad, hA, fun j u hu => hc j u ?_⟩
  rw [List.getElem?_take] at hu
  split at hu
  · exact hu
  · cases hu
/-- a row of bytes that a reader of block r hands back -/
structure BRow (W : World) (r : Nat) (l : List UInt8) (B : Option Addr) (d : Nat) : Prop where
  row : CellsAt W B (bv l)
  cap : l.length ≤ d ∧ d ≤ maxLen
  flat : ∀ ad, B = some ad → ad.spot = none ∧ ad.block ≠ r ∧ ad.block < W.heap.size
  tag : ∀ ad, B = some ad → ∃ cs fr, W.heap[ad.block]? = some (.cells cs 5 fr)
def BytesPost (W : World) (r : Nat) (n : List UInt8 × Rdr) (e : Ending) (w' : World) : Prop :=
  ∃ A' c' B d, e = .returned (.slice B n.1.length d) ∧ BRow w' r n.1 B d ∧ RAt w' r n.2 A' c' ∧ Chg (fun i => i = r) W w'
theorem some_bytes (h : RAt W r q A c) (n : Nat) (hn : n ≤ 1000000) : Calls Try.prog 68 #[.pointer (some ⟨r, 0, none⟩), .int .i64 n] W (BytesPost W r (bytesR (n, q))) :=
  (some_c h n hn).mono fun e w' hp => by
    obtain ⟨A', c', v, rfl, h1, h2, h3⟩ := hp
    unfold bytesR
    simp only
    cases hs : (someR n q).1 with
    | none =>
      rw [hs] at h3
      obtain rfl : v = .slice none 0 0 := h3
      exact ⟨A', c', none, 0, rfl, ⟨fun h => by simp [bv] at h, by simp [maxLen], (fun ad h => by cases h), fun ad h => by cases h⟩, h1, h2⟩
    | some l =>
      rw [hs] at h3
      obtain rfl : v = .slice A l.length c := h3
      have hl : l = q.1.take n := by
        unfold someR at hs
        split at hs
        · cases hs
        · split at hs
          · cases hs
          · injection hs with hs; exact hs.symm
      have hrow : CellsAt w' A (bv l) := by
        have := cells_take h.row n
        have e : (bv q.1).take n = bv l := by rw [hl]; simp [bv, List.map_take]
        rw [e] at this
        exact this.chg h2 fun ad ha => (h.flat ad ha).2.1
      exact ⟨A', c', A, c, rfl, ⟨hrow, ⟨by have := h.cap.1; show l.length ≤ c; rw [hl, List.length_take]; omega, h.cap.2⟩, fun ad ha => ⟨(h.flat ad ha).1, (h.flat ad ha).2.1, Nat.lt_of_lt_of_le (h.flat ad ha).2.2 h2.size⟩, h.tag_ h2⟩, h1, h2⟩
theorem countR_le (rd : Rdr → Nat × Rdr) (most : Nat) (q : Rdr) : (countR rd most q).1 ≤ most := by
  unfold countR
  split
  · exact Nat.zero_le _
  · rename_i h; exact Nat.le_of_not_lt h
set_option maxRecDepth 20000 in
set_option maxHeartbeats 4000000 in
theorem name_c (h : RAt W r q A c) : Calls Try.prog 69 #[.pointer (some ⟨r, 0, none⟩)] W (fun e w' => ∃ A' c', e = .returned (.string (nameR q).1) ∧ RAt w' r (nameR q).2 A' c' ∧ Chg (fun i => i = r) W w') := by
  have HC := Go.Lib.hid (count_small h 15 (by decide))
  have hle := countR_le byteR 15 q
  have HN : Hid (nameR q = (⟨(bytesR (countR byteR 15 q)).1.toArray⟩, (bytesR (countR byteR 15 q)).2)) := Go.Lib.hid rfl
  obtain ⟨n, q'⟩ : ∃ n, countR byteR 15 q = n := ⟨_, rfl⟩
  rw [q'] at HC hle HN
  clear h q'
  obtain ⟨n, q'⟩ := n
  simp only at hle
  go_enter Try.func69, Try.ntmps69
  go_wp2_with fail
  refine HC.out.mono ?_
  rintro e w1 ⟨A', c', rfl, hr, hc⟩
  have HR := Go.Lib.hid hc
  have HS := Go.Lib.hid (some_bytes hr n (by omega))
  clear hr hc
  simp only
  go_wp2_with fail
  refine HS.out.mono ?_
  rintro e w2 ⟨A2, c2, B, d, rfl, hb, hr, hc⟩
  have HR2 := Go.Lib.hid (And.intro hr (HR.out.trans hc))
  have ht := run_text (w := w2) (l := (bytesR (n, q')).1) (c := d) rfl hb.row
  clear hr hc hb
  generalize (bytesR (n, q')).1 = l at *
  go_wp2_with fail
  go_ret
  refine ⟨A2, c2, ?_, ?_, HR2.out.2⟩
  · rw [HN.out]
    rfl
  · rw [HN.out]
    exact HR2.out.1
end
end Go.Proofs.Yteleglkoagnmcaa
