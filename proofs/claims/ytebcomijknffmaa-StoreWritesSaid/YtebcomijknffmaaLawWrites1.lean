/- What is proved: the play of the law StoreWrites, said of stores as plain data. Conditions: none. -/
import Derived.Test.YtebcomijknffmaaLawWords1
namespace Go.Proofs.Ytebcomijknffmaa
open Go.RowKit

def xv0 : V := ⟨10000, [], [], []⟩
def xv1 (l : List UInt8) : V := ⟨10000, [l], [(nmA, 0)], []⟩
def xv (x y : List UInt8) (r : List VR) : V := ⟨10000, [x, y], [(nmA, 0), (nmB, 1)], r⟩

section
variable (x y l : List UInt8) (p q : Nat)
theorem writes_1 (hl : l.length ≤ 3000) : xv0.put nmA l = (0, xv1 l) := by
  have h : l.length ≤ 10000 := by omega
  simp [xv0, V.put, may_A, V.del, delD, V.room, V.used, V.held, dedup, sumOf, h, V.addFile, V.enter, putD, xv1]
theorem writes_2 (hx : x.length ≤ 3000) (hl : l.length ≤ 3000) : (xv1 x).put nmB l = (0, xv x l []) := by
  have h : l.length ≤ 10000 - x.length := by omega
  simp [xv1, V.put, may_B, V.del, delD, V.room, V.used, V.held, dedup, sumOf, h, V.addFile, V.enter, putD, ne_BA, V.bytes, xv]
theorem writes_3 : (xv x y []).old nmA = (1, xv x y [rA 0]) := by
  simp [V.old, xv, may_A, lookD, V.ride, rA, eq_AA]
theorem writes_4 : (xv x y [rA 0]).old nmA = (2, xv x y [rA 0, rA 0]) := by
  simp [V.old, xv, may_A, lookD, V.ride, rA, eq_AA]
theorem xrd_1 (r : List VR) : (xv x y (rA p :: r)).rdAt 1 = some (rA p) := by simp [V.rdAt, xv]
theorem xrd_2 (r : List VR) : (xv x y (rA p :: rA q :: r)).rdAt 2 = some (rA q) := by
  simp only [V.rdAt, xv]
  rfl
theorem writes_5 (n : Nat) : (xv x y [rA p, rA q]).seek 1 n = xv x y [rA (seekTo n x.length), rA q] := by
  simp [V.seek, xrd_1]
  simp [xv, rA, V.setPos, V.bytes]
theorem writes_6 : (xv x y [rA p, rA q]).posOf 1 = p := by
  unfold V.posOf
  rw [xrd_1]
  rfl
theorem writes_7 : (xv x y [rA p, rA q]).posOf 2 = q := by
  unfold V.posOf
  rw [xrd_2]
  rfl
theorem writes_8 : (xv x y [rA p, rA q]).length 2 = x.length := by
  unfold V.length
  rw [xrd_2]
  rfl
theorem xv_room (r : List VR) (hr : ∀ e ∈ r, e.n = 0 ∨ e.n = 1) : (xv x y r).room = 10000 - (x.length + y.length) := by
  have h : ∀ z, z ∈ dedup (xv x y r).held ↔ z ∈ [0, 1] := by
    intro z
    rw [mem_dedup]
    simp only [V.held, xv, List.map_cons, List.map_nil, List.mem_append, List.mem_map]
    constructor
    · rintro (h | ⟨e, h, rfl⟩)
      · exact h
      · rcases hr e h with h | h <;> simp [h]
    · exact .inl
  have : (xv x y r).used = x.length + y.length := by
    unfold V.used
    rw [sumOf_same _ (nodup_dedup _) (by simp) h]
    simp [sumOf, V.bytes, xv]
  unfold V.room
  rw [this]
  rfl
theorem writes_9 (hx : x.length ≤ 3000) (hy : y.length ≤ 3000) (hl : l.length ≤ 4) (hpx : p ≤ x.length) : (xv x y [rA p, rA q]).write 1 l = (0, xv (wr x p l) y [rA (p + l.length), rA q]) := by
  have hr : (xv x y [rA p, rA q]).room = 10000 - (x.length + y.length) := xv_room _ _ _ (by simp [rA])
  simp only [V.write, xrd_1, hr]
  rw [if_pos (by simp [V.bytes, xv, rA]; omega)]
  simp [xv, V.setFile, V.setPos, rA, V.bytes]
theorem writes_10 (b : UInt8) (hb : x[q]? = some b) : (xv x y [rA p, rA q]).read 2 = (b, xv x y [rA p, rA (q + 1)]) := by
  obtain ⟨hq, e⟩ := List.getElem?_eq_some_iff.1 hb
  have : (xv x y [rA p, rA q]).bytes (rA q).n = x := by simp [V.bytes, xv, rA]
  simp only [V.read, xrd_2, this, show (rA q).pos = q from rfl, hb]
  simp only [xv, V.setPos, rA]
  rfl
/-- outside of what was written all stands -/
theorem wr_out (hp : p ≤ x.length) (i : Nat) (hi : i < p ∨ p + l.length ≤ i) : (wr x p l)[i]? = x[i]? := by
  rw [wr_eq x l p hp]
  rcases hi with hi | hi
  · rw [List.getElem?_append_left (by simp; omega), List.getElem?_take_of_lt hi]
  · rw [List.getElem?_append_right (by simp; omega), List.getElem?_append_right (by simp; omega), List.getElem?_drop]
    congr 1
    simp
    omega
theorem writes_case (Z : List UInt8) (n k : Nat) (hZ : wr l p (bytesOfWord n) = Z) (hp : p ≤ l.length) (hk : k < Z.length) :
    (∃ h : k < l.length, ((k : Int) < p ∨ (p : Int) + 4 ≤ k) ∧ Z[k]? = some l[k]) ∨ ((k : Int) ≤ p ∧ (p : Int) ≤ k ∧ Z[k]? = some (UInt8.ofNat (n % 256))) ∨
    ((k : Int) ≤ p + 1 ∧ (p : Int) + 1 ≤ k ∧ Z[k]? = some (UInt8.ofNat (n / 256 % 256))) ∨ ((k : Int) ≤ p + 2 ∧ (p : Int) + 2 ≤ k ∧ Z[k]? = some (UInt8.ofNat (n / 65536 % 256))) ∨
    ((k : Int) ≤ p + 3 ∧ (p : Int) + 3 ≤ k ∧ Z[k]? = some (UInt8.ofNat (n / 16777216 % 256))) := by
  subst hZ
  have h4 : (bytesOfWord n).length = 4 := rfl
  rw [wr_length, h4] at hk
  rcases (show (k < p ∨ p + 4 ≤ k) ∨ k = p + 0 ∨ k = p + 1 ∨ k = p + 2 ∨ k = p + 3 by omega) with h | h | h | h | h
  · have hkl : k < l.length := by omega
    exact .inl ⟨hkl, by omega, by rw [wr_out l _ p hp k (by rw [h4]; exact h), List.getElem?_eq_getElem hkl]⟩
  · subst h
    exact .inr (.inl ⟨by omega, by omega, wr_get l _ _ hp 0 (by decide : 0 < 4)⟩)
  · subst h
    exact .inr (.inr (.inl ⟨by omega, by omega, wr_get l _ p hp 1 (by decide : 1 < 4)⟩))
  · subst h
    exact .inr (.inr (.inr (.inl ⟨by omega, by omega, wr_get l _ p hp 2 (by decide : 2 < 4)⟩)))
  · subst h
    exact .inr (.inr (.inr (.inr ⟨by omega, by omega, wr_get l _ p hp 3 (by decide : 3 < 4)⟩)))
end
end Go.Proofs.Ytebcomijknffmaa
