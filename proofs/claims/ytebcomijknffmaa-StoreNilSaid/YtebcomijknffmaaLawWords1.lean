/- What is proved: the play of the law StoreWords, said of stores as plain data. Conditions: none. -/
import Derived.Test.YtebcomijknffmaaStoreY
namespace Go.Proofs.Ytebcomijknffmaa
open Go.RowKit

theorem may_A : mayName nmA = true := by decide +kernel
theorem may_B : mayName nmB = true := by decide +kernel
theorem ne_BA : (nmB == nmA) = false := by decide +kernel
theorem ne_AB : (nmA == nmB) = false := by decide +kernel
theorem eq_AA : (nmA == nmA) = true := by decide +kernel
theorem eq_BB : (nmB == nmB) = true := by decide +kernel

def wv0 : V := ⟨8000, [], [], []⟩
def wv1 (l : List UInt8) : V := ⟨8000, [l], [(nmA, 0)], []⟩
/-- two files, two riders -/
def wv (x y : List UInt8) (r : List VR) : V := ⟨8000, [x, y], [(nmA, 0), (nmB, 1)], r⟩
def rA (p : Nat) : VR := ⟨0, nmA, p⟩
def rB (p : Nat) : VR := ⟨1, nmB, p⟩

section
variable (x y l : List UInt8) (p q : Nat)
theorem words_1 (hl : l.length ≤ 3000) : wv0.put nmA l = (0, wv1 l) := by
  have h : l.length ≤ 8000 := by omega
  simp [wv0, V.put, may_A, V.del, delD, V.room, V.used, V.held, dedup, sumOf, h, V.addFile, V.enter, putD, wv1]
theorem words_2 (hl : l.length ≤ 3000) : (wv1 l).put nmB l = (0, wv l l []) := by
  have h : l.length ≤ 8000 - l.length := by omega
  simp [wv1, V.put, may_B, V.del, delD, V.room, V.used, V.held, dedup, sumOf, h, V.addFile, V.enter, putD, ne_BA, V.bytes, wv]
theorem words_3 : (wv x y []).old nmA = (1, wv x y [rA 0]) := by
  simp [V.old, wv, may_A, lookD, V.ride, rA, eq_AA]
theorem words_4 : (wv x y [rA 0]).old nmB = (2, wv x y [rA 0, rB 0]) := by
  simp [V.old, wv, may_B, lookD, ne_BA, V.ride, rB, eq_BB]
theorem rd_1 (r : List VR) : (wv x y (rA p :: r)).rdAt 1 = some (rA p) := by simp [V.rdAt, wv]
theorem rd_2 (r : List VR) : (wv x y (rA p :: rB q :: r)).rdAt 2 = some (rB q) := by
  simp only [V.rdAt, wv]
  rfl
theorem words_5 (n : Nat) : (wv x y [rA p, rB q]).seek 1 n = wv x y [rA (seekTo n x.length), rB q] := by
  simp [V.seek, rd_1]
  simp [wv, rA, V.setPos, V.bytes]
theorem words_6 (n : Nat) : (wv x y [rA p, rB q]).seek 2 n = wv x y [rA p, rB (seekTo n y.length)] := by
  simp [V.seek, rd_2]
  simp only [wv, rB, V.setPos, V.bytes]
  rfl
theorem words_7 : (wv x y [rA p, rB q]).posOf 1 = p := by
  unfold V.posOf
  rw [rd_1]
  rfl
theorem words_8 : (wv x y [rA p, rB q]).posOf 2 = q := by
  unfold V.posOf
  rw [rd_2]
  rfl
theorem wv_room (r : List VR) (hr : ∀ e ∈ r, e.n = 0 ∨ e.n = 1) : (wv x y r).room = 8000 - (x.length + y.length) := by
  have h : ∀ z, z ∈ dedup (wv x y r).held ↔ z ∈ [0, 1] := by
    intro z
    rw [mem_dedup]
    simp only [V.held, wv, List.map_cons, List.map_nil, List.mem_append, List.mem_map]
    constructor
    · rintro (h | ⟨e, h, rfl⟩)
      · exact h
      · rcases hr e h with h | h <;> simp [h]
    · exact .inl
  have : (wv x y r).used = x.length + y.length := by
    unfold V.used
    rw [sumOf_same _ (nodup_dedup _) (by simp) h]
    simp [sumOf, V.bytes, wv]
  unfold V.room
  rw [this]
  rfl
theorem words_9 (hx : x.length ≤ 3004) (hy : y.length ≤ 3004) (hl : l.length ≤ 4) (hpx : p ≤ x.length) : (wv x y [rA p, rB q]).write 1 l = (0, wv (wr x p l) y [rA (p + l.length), rB q]) := by
  have hr : (wv x y [rA p, rB q]).room = 8000 - (x.length + y.length) := wv_room _ _ _ (by simp [rA, rB])
  simp only [V.write, rd_1, hr]
  rw [if_pos (by simp [V.bytes, wv, rA]; omega)]
  simp [wv, V.setFile, V.setPos, rA, V.bytes]
theorem words_10 (hx : x.length ≤ 3004) (hy : y.length ≤ 3004) (hl : l.length ≤ 4) (hpx : q ≤ y.length) : (wv x y [rA p, rB q]).write 2 l = (0, wv x (wr y q l) [rA p, rB (q + l.length)]) := by
  have hr : (wv x y [rA p, rB q]).room = 8000 - (x.length + y.length) := wv_room _ _ _ (by simp [rA, rB])
  simp only [V.write, rd_2, hr]
  rw [if_pos (by simp [V.bytes, wv, rB]; omega)]
  simp only [wv, V.setFile, V.setPos, rB, V.bytes]
  rfl
theorem words_11 (h : p < x.length) : (wv x y [rA p, rB q]).read 1 = (x[p], wv x y [rA (p + 1), rB q]) := by
  have : (wv x y [rA p, rB q]).bytes (rA p).n = x := by simp [V.bytes, wv, rA]
  simp only [V.read, rd_1, this, show (rA p).pos = p from rfl, List.getElem?_eq_getElem h]
  simp [wv, V.setPos, rA]
theorem words_12 (h : q < y.length) : (wv x y [rA p, rB q]).read 2 = (y[q], wv x y [rA p, rB (q + 1)]) := by
  have : (wv x y [rA p, rB q]).bytes (rB q).n = y := by simp [V.bytes, wv, rB]
  simp only [V.read, rd_2, this, show (rB q).pos = q from rfl, List.getElem?_eq_getElem h]
  simp only [wv, V.setPos, rB]
  rfl
theorem wr_eq (hp : p ≤ x.length) : wr x p l = x.take p ++ (l ++ x.drop (p + l.length)) := by
  unfold wr over
  rw [List.take_append_of_le_length hp, List.append_assoc]
  congr 2
  by_cases h : p + l.length ≤ x.length
  · rw [show p + l.length - x.length = 0 by omega]
    simp
  · rw [List.drop_eq_nil_of_le (by simp; omega), List.drop_eq_nil_of_le (by omega)]
theorem wr_wr (a b : List UInt8) (hp : p ≤ x.length) : wr (wr x p a) (p + a.length) b = wr x p (a ++ b) := by
  rw [wr_eq _ _ _ (by rw [wr_length]; omega), wr_eq x (a ++ b) p hp, wr_eq x a p hp]
  have h1 : (x.take p ++ (a ++ x.drop (p + a.length))).take (p + a.length) = x.take p ++ a := by
    rw [← List.append_assoc, List.take_append_of_le_length (by simp; omega)]
    exact List.take_of_length_le (by simp; omega)
  have h2 : (x.take p ++ (a ++ x.drop (p + a.length))).drop (p + a.length + b.length) = x.drop (p + (a ++ b).length) := by
    rw [← List.append_assoc, List.drop_append, List.drop_eq_nil_of_le (by simp; omega), List.drop_drop, List.nil_append]
    congr 1
    simp
    omega
  rw [h1, h2]
  simp
theorem wr_get (hp : p ≤ x.length) (i : Nat) (hi : i < l.length) : (wr x p l)[p + i]? = l[i]? := by
  rw [wr_eq x l p hp, List.getElem?_append_right (by simp; omega), List.getElem?_append_left (by simp; omega)]
  congr 1
  simp
  omega
theorem wr_nil (hp : p ≤ x.length) : wr x p [] = x := by
  rw [wr_eq x [] p hp]
  simp
theorem words_13 (a : List UInt8) (b : UInt8) (P : Nat) (hx : x.length ≤ 3004) (hl : l.length ≤ 3000) (hp : p ≤ l.length) (ha : a.length ≤ 3) : (wv x (wr l p a) [rA P, rB (p + a.length)]).write 2 [b] = (0, wv x (wr l p (a ++ [b])) [rA P, rB (p + (a.length + 1))]) := by
  have hy : (wr l p a).length ≤ 3004 := by rw [wr_length]; omega
  rw [words_10 x (wr l p a) [b] P (p + a.length) hx hy (by simp) (by rw [wr_length]; omega), wr_wr l p a [b] hp]
  simp [Nat.add_assoc]
theorem seekTo_of (h : p ≤ x.length) (hs : p < 2147483648) : seekTo p x.length = p := by
  unfold seekTo sgn
  rw [if_pos (by omega)]
  simp only [Int.toNat_natCast]
  exact Nat.min_eq_left h
theorem word4_bytes (n : Nat) (hn : n < 4294967296) : word4 (UInt8.ofNat (n % 256)) (UInt8.ofNat (n / 256 % 256)) (UInt8.ofNat (n / 65536 % 256)) (UInt8.ofNat (n / 16777216 % 256)) = n := by
  have e : ∀ k : Nat, k < 256 → (UInt8.ofNat k).toNat = k := fun k hk => by simp; omega
  unfold word4
  rw [e _ (by omega), e _ (by omega), e _ (by omega), e _ (by omega)]
  omega
theorem words_14 (n : Nat) (hn : n < 4294967296) (hz : ∀ i, i < 4 → x[p + i]? = (bytesOfWord n)[i]?) : (wv x y [rA p, rB q]).readWord 1 = (n, wv x y [rA (p + 4), rB q]) := by
  have g : ∀ i (h : i < 4), ∃ hp : p + i < x.length, x[p + i] = (bytesOfWord n)[i]'h := by
    intro i h
    have := hz i h
    rw [List.getElem?_eq_getElem (show i < (bytesOfWord n).length from h)] at this
    obtain ⟨hp, e⟩ := List.getElem?_eq_some_iff.1 this
    exact ⟨hp, e⟩
  obtain ⟨h0, e0⟩ := g 0 (by decide)
  obtain ⟨h1, e1⟩ := g 1 (by decide)
  obtain ⟨h2, e2⟩ := g 2 (by decide)
  obtain ⟨h3, e3⟩ := g 3 (by decide)
  unfold V.readWord
  simp only [words_11 x y p q h0, words_11 x y (p + 1) q h1, words_11 x y (p + 1 + 1) q h2, words_11 x y (p + 1 + 1 + 1) q h3]
  refine Prod.ext ?_ rfl
  have e0' : x[p] = UInt8.ofNat (n % 256) := e0
  have e1' : x[p + 1] = UInt8.ofNat (n / 256 % 256) := e1
  have e2' : x[p + 1 + 1]'h2 = UInt8.ofNat (n / 65536 % 256) := e2
  have e3' : x[p + 1 + 1 + 1]'h3 = UInt8.ofNat (n / 16777216 % 256) := e3
  simp only [e0', e1', e2', e3']
  exact word4_bytes n hn
theorem words_15 (b : UInt8) (hb : y[q]? = some b) : (wv x y [rA p, rB q]).read 2 = (b, wv x y [rA p, rB (q + 1)]) := by
  obtain ⟨hq, e⟩ := List.getElem?_eq_some_iff.1 hb
  rw [words_12 x y p q hq, e]
end
end Go.Proofs.Ytebcomijknffmaa
