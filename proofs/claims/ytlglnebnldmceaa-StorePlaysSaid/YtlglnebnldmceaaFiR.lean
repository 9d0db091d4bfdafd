/- What is proved: laws for ranges over what Files hands back. Conditions: as each theorem says. -/
import Derived.Test.YtlglnebnldmceaaNoB
import Derived.Deep.RegionHeld3
set_option linter.unusedSimpArgs false
set_option linter.unusedVariables false
namespace Go.Proofs.Ytlglnebnldmceaa
open Go.RowKit Go.Shelf
theorem results_bool {fn : Func} {p : Tmp} (h : fn.results = #[.cell p 4]) (tmps : Array Value) {w : World} {g : Nat} {b : Bool} (hp : tmps.getD p undef = .pointer (some ⟨g, 0, none⟩)) (hc : w.cell? ⟨g, 0, none⟩ = some (.bool b)) : (results fn tmps).run Try.prog w = .ok (.bool b) w := by
  have hp' : tmps[p]?.getD undef = .pointer (some ⟨g, 0, none⟩) := by simpa using hp
  simp [results, h, hp', asAddr, go_sem, hc, Try.underlying4]
theorem run_equalIn_seq_nil (d : Nat) (f : Fn) (x c : Array Value) (w : World) : (Op.equalIn (d + 1) 106 (.func f x c) .nilFunc).run Try.prog w = .ok false w := by simp [Op.equalIn, run_underlying Try.underlying106]
theorem run_eql_seq_nil (f : Fn) (x c : Array Value) (w : World) : (binOp .eql 106 (.func f x c) .nilFunc).run Try.prog w = .ok (.bool false) w := by
  simp only [binOp]
  simp [show Op.equal 106 (.func f x c) .nilFunc = Op.equalIn (9999 + 1) 106 (.func f x c) .nilFunc from rfl, run_equalIn_seq_nil 9999 f x c w]
section
variable {base : Nat} {w W : World} {a b c d : Nat} {A B : Option Addr} {L : List (ByteArray × Nat)}
theorem putObj_ne (W : World) (l k : Nat) (o : Obj) (h : k ≠ l) : (W.putObj l o).heap[k]? = W.heap[k]? := by
  unfold World.putObj
  simp [Array.getElem?_setIfInBounds, Ne.symm h]
theorem own_putObj {e : TypeId} {n : Nat} {v : Value} {xs : List Value} (h : W.ownsRow base e 1 v n xs) {l : Nat} {o o' : Obj} (ho : W.heap[l]? = some o) (hc : o.isCells = false) : (W.putObj l o').ownsRow base e 1 v n xs := by
  refine ⟨h.1, ?_⟩
  rcases h.2 with hn | ⟨g, cap, cur, hv, hbb, hgg, rest⟩
  · exact .inl hn
  · refine .inr ⟨g, cap, cur, hv, hbb, ?_, rest⟩
    rw [putObj_ne]
    · exact hgg
    · rintro rfl
      rw [hgg] at ho
      cases ho
      cases hc
theorem blk_putObj {g : Nat} {t : TypeId} {cs : Array Value} (h : Blk W g t cs) {l : Nat} {o o' : Obj} (ho : W.heap[l]? = some o) (hc : o.isCells = false) : Blk (W.putObj l o') g t cs := by
  unfold Blk at h ⊢
  rw [putObj_ne]
  · exact h
  · rintro rfl
    rw [h] at ho
    cases ho
    cases hc
theorem FilesX.put (h : FilesX base A c B d a b L W) {l : Nat} {o : Obj} (o' : Obj) (ho : W.heap[l]? = some o) (hc : o.isCells = false) : FilesX base A c B d a b L (W.putObj l o') :=
  ⟨blk_putObj h.ba ho hc, own_putObj h.na ho hc, blk_putObj h.bb ho hc, own_putObj h.nb ho hc, h.lo⟩
end
end Go.Proofs.Ytlglnebnldmceaa
