/- What is proved: bytes as a string. Conditions: the memory holds the bytes. -/
import Derived.Test.YtebcomijknffmaaLawWords1
import Derived.Laws.BytesArg
namespace Go.Proofs.Ytebcomijknffmaa
open Go.RowKit
theorem run_text {w : World} {A : Option Addr} {l : List UInt8} {c n : Nat} (hn : l.length = n) (h : CellsAt w A (bv l)) : (convert 22 9 (.slice A n c)).run Try.prog w = .ok (.string ⟨l.toArray⟩) w := by
  cases l with
  | nil =>
    subst hn
    rw [List.length_nil, run_convert_bytes_string w _ _ _ A 0 c Try.underlying22 Try.underlying5 Try.underlying9]
    cases A with
    | none => simp [Conv.bytesToString]; rfl
    | some ad =>
      have := run_bytesToString (P := Try.prog) w ad 0 c [] (by simpa using run_loadCells_list (P := Try.prog) w ad [] (by simp))
      exact this
  | cons b l' =>
    obtain ⟨ad, rfl, hc⟩ := h (by simp [bv])
    have hl := run_loadCells_list (P := Try.prog) w ad (bv (b :: l')) (fun j v hj => hc j v hj)
    have e : bv (b :: l') = ((b :: l').map fun c => (c.toNat : Int)).map (Value.int .u8) := by simp [bv]
    rw [run_convert_bytes_string w _ _ _ (some ad) n c Try.underlying22 Try.underlying5 Try.underlying9, run_bytesToString w ad n c ((b :: l').map fun c => (c.toNat : Int)) (by rw [← e, ← hn, show (b :: l').length = (bv (b :: l')).length from (bv_length _).symm]; exact hl), foldl_push_bytes]
    simp [ByteArray.empty, ByteArray.emptyWithCapacity, Function.comp_def]
    rfl
end Go.Proofs.Ytebcomijknffmaa
