/- What is proved: the play of the law StoreBack, said of stores as plain data. Conditions: none. -/
import Derived.Test.YtebcomijknffmaaLawWords1
namespace Go.Proofs.Ytebcomijknffmaa
open Go.RowKit

def elder : List UInt8 := [101, 108, 100, 101, 114]
def bk0 : V := ⟨20000, [], [], []⟩
def bk1 (nm : ByteArray) : V := ⟨20000, [elder], [(nm, 0)], []⟩
def bk2 (nm : ByteArray) : V := ⟨20000, [elder], [(nm, 0)], [⟨0, nm, 0⟩]⟩
def bk3 (nm : ByteArray) (y : List UInt8) : V := ⟨20000, [elder, y], [(nm, 0)], [⟨0, nm, 0⟩, ⟨1, nm, y.length⟩]⟩
def bk4 (nm : ByteArray) (y : List UInt8) : V := ⟨20000, [elder, y], [(nm, 1)], [⟨0, nm, 0⟩, ⟨1, nm, y.length⟩]⟩
def bk5 (nm : ByteArray) (y : List UInt8) : V := ⟨20000, [elder, y], [(nm, 1)], [⟨0, nm, 0⟩, ⟨1, nm, y.length⟩, ⟨1, nm, 0⟩]⟩
def bk6 (nm : ByteArray) (y : List UInt8) (c a b : Nat) : V := ⟨20000, [elder, y], [], [⟨0, nm, c⟩, ⟨1, nm, a⟩, ⟨1, nm, b⟩]⟩

section
variable (nm : ByteArray) (y : List UInt8) (a b c : Nat)
theorem nm_self : (nm == nm) = true := (MapKept.bytes_beq nm nm).2 rfl
theorem back_1 (hn : mayName nm = true) : bk0.put nm elder = (0, bk1 nm) := by
  simp [bk0, V.put, hn, V.del, delD, V.room, V.used, V.held, dedup, sumOf, V.addFile, V.enter, putD, bk1, elder]
theorem back_2 (hn : mayName nm = true) : (bk1 nm).old nm = (1, bk2 nm) := by
  simp [V.old, bk1, hn, lookD, V.ride, bk2, nm_self]
theorem back_3 (hn : mayName nm = true) : (bk2 nm).fresh nm = (2, bk3 nm []) := by
  simp [V.fresh, bk2, hn, V.ride, V.addFile, bk3]
theorem bk3_room : (bk3 nm y).room = 20000 - (5 + y.length) := by
  have : (bk3 nm y).used = 5 + y.length := by
    unfold V.used
    rw [sumOf_same (m := [0, 1]) _ (nodup_dedup _) (by simp) (fun z => by rw [mem_dedup]; simp [V.held, bk3])]
    simp [sumOf, V.bytes, bk3, elder]
  unfold V.room
  rw [this]
  rfl
theorem bk3_rd : (bk3 nm y).rdAt 2 = some ⟨1, nm, y.length⟩ := rfl
theorem wr_end (x l : List UInt8) : wr x x.length l = x ++ l := by
  rw [wr_eq x l x.length (Nat.le_refl _), List.take_length, List.drop_eq_nil_of_le (by omega), List.append_nil]
theorem back_4 (l : List UInt8) (hy : y.length ≤ 3300) (hl : l.length ≤ 4) : (bk3 nm y).write 2 l = (0, bk3 nm (y ++ l)) := by
  have hb : (bk3 nm y).bytes 1 = y := rfl
  simp only [V.write, bk3_rd, bk3_room, hb]
  rw [if_pos (by omega), wr_end]
  simp only [bk3, V.setFile, V.setPos, List.length_append]
  rfl
theorem back_6 : (bk3 nm y).register 2 = (0, bk4 nm y) := by
  simp only [V.register, bk3_rd]
  simp [bk3, V.enter, putD, bk4, lookD, nm_self]
theorem back_7 : (bk4 nm y).length 2 = y.length := rfl
theorem back_8 : (bk4 nm y).eof 2 = true := by
  have h : (bk4 nm y).rdAt 2 = some ⟨1, nm, y.length⟩ := rfl
  have hb : (bk4 nm y).bytes 1 = y := rfl
  simp [V.eof, h, hb]
theorem back_9 (hn : mayName nm = true) : (bk4 nm y).old nm = (3, bk5 nm y) := by
  simp [V.old, bk4, hn, lookD, V.ride, bk5, nm_self]
theorem back_10 : (bk5 nm y).del nm = bk6 nm y 0 y.length 0 := by
  simp [V.del, bk5, delD, bk6, nm_self]
theorem back_12 (hn : mayName nm = true) : (bk6 nm y c a b).old nm = (0, bk6 nm y c a b) := by
  simp [V.old, bk6, hn, lookD]
theorem back_13 : (bk6 nm y c a b).length 1 = 5 := rfl
theorem back_14 : (bk6 nm y 0 a b).read 1 = (101, bk6 nm y 1 a b) := rfl
theorem back_15 : (bk6 nm y c a b).seek 2 0 = bk6 nm y c 0 b := by
  have h : (bk6 nm y c a b).rdAt 2 = some ⟨1, nm, a⟩ := rfl
  simp only [V.seek, h]
  simp only [seekTo, sgn]
  simp [V.setPos, bk6]
theorem bk6_3 : (bk6 nm y c a b).rdAt 3 = some ⟨1, nm, b⟩ := rfl
theorem bk6_2 : (bk6 nm y c a b).rdAt 2 = some ⟨1, nm, a⟩ := rfl
theorem bk6_b : (bk6 nm y c a b).bytes 1 = y := rfl
theorem back_16 (h : b < y.length) : (bk6 nm y c a b).eof 3 = false := by
  unfold V.eof
  rw [bk6_3]
  exact decide_eq_false (by show b ≠ y.length; omega)
theorem back_16' (h : b = y.length) : (bk6 nm y c a b).eof 3 = true := by
  unfold V.eof
  rw [bk6_3]
  exact decide_eq_true h
theorem back_17 (x : UInt8) (h : y[b]? = some x) : (bk6 nm y c a b).read 3 = (x, bk6 nm y c a (b + 1)) := by
  simp only [V.read, bk6_3, bk6_b, h]
  rfl
theorem back_17' (h : b = y.length) : (bk6 nm y c a b).read 3 = (0, bk6 nm y c a b) := by
  subst h
  have e : y[y.length]? = none := by simp
  simp only [V.read, bk6_3, bk6_b, e]
theorem back_18 (x : UInt8) (h : y[a]? = some x) : (bk6 nm y c a b).read 2 = (x, bk6 nm y c (a + 1) b) := by
  simp only [V.read, bk6_2, bk6_b, h]
  rfl
theorem back_19 (n : Nat) (hn : n < 4294967296) (hz : ∀ i, i < 4 → y[b + i]? = (bytesOfWord n)[i]?) : (bk6 nm y c a b).readWord 3 = (n, bk6 nm y c a (b + 4)) := by
  unfold V.readWord
  rw [back_17 nm y a b c _ (hz 0 (by decide)), back_17 nm y a (b + 1) c _ (hz 1 (by decide)), back_17 nm y a (b + 1 + 1) c _ (hz 2 (by decide)), back_17 nm y a (b + 1 + 1 + 1) c _ (hz 3 (by decide))]
  exact Prod.ext (word4_bytes n hn) rfl
theorem back_21 : (bk6 nm y c a b).posOf 3 = b := rfl

/-- the bytes of words, one behind the other -/
def flatW (ws : List Nat) : List UInt8 := ws.flatMap bytesOfWord
theorem flatW_length : ∀ ws : List Nat, (flatW ws).length = 4 * ws.length
  | [] => rfl
  | n :: ws => by
    have := flatW_length ws
    unfold flatW at this ⊢
    simp only [List.flatMap_cons, List.length_append, this, bytesOfWord_length, List.length_cons]
    omega
theorem flatW_step (ws : List Nat) (i : Nat) (h : i < ws.length) : flatW (ws.take (i + 1)) = flatW (ws.take i) ++ bytesOfWord ws[i] := by
  unfold flatW
  rw [List.take_succ_eq_append_getElem h, List.flatMap_append]
  simp
theorem flatW_get : ∀ (ws : List Nat) (i j : Nat) (h : i < ws.length), j < 4 → (flatW ws)[4 * i + j]? = (bytesOfWord ws[i])[j]?
  | n :: ws, 0, j, _, hj => by
    unfold flatW
    rw [List.flatMap_cons, List.getElem?_append_left (by rw [bytesOfWord_length]; omega)]
    simp
  | n :: ws, i + 1, j, h, hj => by
    have := flatW_get ws i j (by simpa using h) hj
    unfold flatW at this ⊢
    rw [List.flatMap_cons, List.getElem?_append_right (by rw [bytesOfWord_length]; omega), bytesOfWord_length, show 4 * (i + 1) + j - 4 = 4 * i + j by omega, this]
    simp
end
end Go.Proofs.Ytebcomijknffmaa
