import Derived.Test.YtggknljlibhkjaaGreatNoB
import Derived.Deep.RegionHeld3
set_option linter.unusedSimpArgs false
set_option linter.unusedVariables false
namespace Go.Proofs.YtggknljlibhkjaaGreat
open Go.RowKit Go.Shelf
section
variable {base : Nat} {w W : World} {a b c d : Nat} {A B : Option Addr} {L : List (ByteArray × Nat)}
theorem putObj_ne (W : World) (l k : Nat) (o : Obj) (h : k ≠ l) : (W.putObj l o).heap[k]? = W.heap[k]? := by
 unfold World.putObj
 simp [Array.getElem?_setIfInBounds, Ne.symm h]
theorem own_putObj {e : TypeId} {n : Nat} {v : Value} {xs : List Value} (h : W.ownsRow base e 1 v n xs) {l : Nat} {o o' : Obj} (ho : W.heap[l]? = some o) (hc : o.isCells = false) : (W.putObj l o').ownsRow base e 1 v n xs := by
 refine ⟨h.1, ?_⟩
 rcases h.2 with hn | ⟨g, cap, cur, hv, hbb, hgg, rest⟩
 ·exact .inl hn
 ·refine .inr ⟨g, cap, cur, hv, hbb, ?_, rest⟩
  rw [putObj_ne]
  ·exact hgg
  ·rintro rfl
   rw [hgg] at ho
   cases ho
   cases hc
theorem blk_putObj {g : Nat} {t : TypeId} {cs : Array Value} (h : Blk W g t cs) {l : Nat} {o o' : Obj} (ho : W.heap[l]? = some o) (hc : o.isCells = false) : Blk (W.putObj l o') g t cs := by
 unfold Blk at h ⊢
 rw [putObj_ne]
 ·exact h
 ·rintro rfl
  rw [h] at ho
  cases ho
  cases hc
theorem FilesX.put (h : FilesX base A c B d a b L W) {l : Nat} {o : Obj} (o' : Obj) (ho : W.heap[l]? = some o) (hc : o.isCells = false) : FilesX base A c B d a b L (W.putObj l o') :=
 ⟨blk_putObj h.ba ho hc, own_putObj h.na ho hc, blk_putObj h.bb ho hc, own_putObj h.nb ho hc, h.lo⟩
end
end Go.Proofs.YtggknljlibhkjaaGreat
