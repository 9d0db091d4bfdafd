/- What is proved: the small functions of the reference's scanner on a row of bytes. Conditions: as each contract says. -/
import Derived.Test.YtcmeciekadepjaaProg
import Derived.Test.YtcmeciekadepjaaHeap
import Derived.WalkKit
import Derived.Deep.RegionHeld3
namespace Go.Proofs.Ytcmeciekadepjaa
open Go.RowKit
/-- a text's byte; 0 behind its end -/
def bt (t : ByteArray) (i : Int) : Int := if 0 ≤ i then ((t.data.toList[i.toNat]?.map fun c => (c.toNat : Int)).getD 0) else 0
theorem bt_range (t : ByteArray) (i : Int) : 0 ≤ bt t i ∧ bt t i ≤ 255 := by
  unfold bt
  split
  · cases h : t.data.toList[i.toNat]? with
    | none => simp
    | some c => simp; have := c.toNat_lt; omega
  · simp
theorem bt_out (t : ByteArray) (i : Int) (h : i < 0 ∨ (t.size : Int) ≤ i) : bt t i = 0 := by
  unfold bt
  split
  · have : t.data.toList[i.toNat]? = none := List.getElem?_eq_none (by have : t.data.toList.length = t.size := rfl; omega)
    rw [this]; rfl
  · rfl
/-- the text lies in memory as bytes -/
def TextAt (w : World) (g : Nat) (t : ByteArray) : Prop := ∀ i : Nat, i < t.size → w.cell? ⟨g, i, none⟩ = some (.int .u8 (bt t i))
theorem Chg.cell_ {F : Nat → Prop} {w w' : World} (h : Chg F w w') {p : Addr} {v : Value} (hc : w.cell? p = some v) (hp : ¬ F p.block) : w'.cell? p = some v := by
  have hb := h.block p.block (block_lt_of_cell hc) hp
  rw [← hc]
  exact World.cell?_of_block hb
theorem TextAt.chg {w w' : World} {g : Nat} {t : ByteArray} (h : TextAt w g t) (hc : Chg NoB w w') : TextAt w' g t := fun i hi => hc.cell_ (h i hi) id
def letterB (b : Int) : Bool := (decide (65 ≤ b) && decide (b ≤ 90)) || (decide (97 ≤ b) && decide (b ≤ 122))
def digitB (b : Int) : Bool := decide (48 ≤ b) && decide (b ≤ 57)
theorem letter_c (b : Int) (hb : 0 ≤ b ∧ b ≤ 255) (w : World) : Calls Try.prog 11 #[.int .u8 b] w fun e w' => e = .returned (.bool (letterB b)) ∧ w = w' := by
  cases hl : letterB b with
  | true =>
    have hcs : (65 ≤ b ∧ b ≤ 90) ∨ (97 ≤ b ∧ b ≤ 122) := by
      unfold letterB at hl
      simp only [Bool.or_eq_true, Bool.and_eq_true, decide_eq_true_eq] at hl
      exact hl
    clear hl
    rcases hcs with ⟨h1, h2⟩ | ⟨h1, h2⟩
    · have h3 : 65 ≤ b := h1
      go_enter Try.func11, Try.ntmps11
      go_wp2_with fail
      go_ret
      exact ⟨rfl, rfl⟩
    · have h3 : ¬ b ≤ 90 := by omega
      have h4 : 65 ≤ b := by omega
      go_enter Try.func11, Try.ntmps11
      go_wp2_with fail
      go_ret
      exact ⟨rfl, rfl⟩
  | false =>
    have hcs : (¬ 65 ≤ b ∧ ¬ 97 ≤ b) ∨ (65 ≤ b ∧ ¬ b ≤ 90 ∧ ¬ 97 ≤ b) ∨ (65 ≤ b ∧ ¬ b ≤ 90 ∧ 97 ≤ b ∧ ¬ b ≤ 122) := by
      rcases (show (65 ≤ b ∧ b ≤ 90) ∨ (97 ≤ b ∧ b ≤ 122) ∨ ((¬ 65 ≤ b ∧ ¬ 97 ≤ b) ∨ (65 ≤ b ∧ ¬ b ≤ 90 ∧ ¬ 97 ≤ b) ∨ (65 ≤ b ∧ ¬ b ≤ 90 ∧ 97 ≤ b ∧ ¬ b ≤ 122)) by omega) with h | h | h
      · exfalso; unfold letterB at hl; simp [h.1, h.2] at hl
      · exfalso; unfold letterB at hl; simp [h.1, h.2] at hl
      · exact h
    clear hl
    rcases hcs with ⟨h1, h2⟩ | ⟨h1, h2, h3⟩ | ⟨h1, h2, h3, h4⟩
    all_goals
      go_enter Try.func11, Try.ntmps11
      go_wp2_with fail
      go_ret
      exact ⟨rfl, rfl⟩
theorem digit_c (b : Int) (hb : 0 ≤ b ∧ b ≤ 255) (w : World) : Calls Try.prog 13 #[.int .u8 b] w fun e w' => e = .returned (.bool (digitB b)) ∧ w = w' := by
  cases hl : digitB b with
  | true =>
    obtain ⟨h1, h2⟩ : 48 ≤ b ∧ b ≤ 57 := by
      unfold digitB at hl
      simp only [Bool.and_eq_true, decide_eq_true_eq] at hl
      exact hl
    clear hl
    go_enter Try.func13, Try.ntmps13
    go_wp2_with fail
    go_ret
    exact ⟨rfl, rfl⟩
  | false =>
    have hcs : ¬ 48 ≤ b ∨ (48 ≤ b ∧ ¬ b ≤ 57) := by
      rcases (show (48 ≤ b ∧ b ≤ 57) ∨ (¬ 48 ≤ b ∨ (48 ≤ b ∧ ¬ b ≤ 57)) by omega) with h | h
      · exfalso; unfold digitB at hl; simp [h.1, h.2] at hl
      · exact h
    clear hl
    rcases hcs with h | ⟨h, h1⟩
    all_goals
      go_enter Try.func13, Try.ntmps13
      go_wp2_with fail
      go_ret
      exact ⟨rfl, rfl⟩
theorem at_c (t : ByteArray) (g c : Nat) (hsz : t.size ≤ 65535) (hc : t.size ≤ c) (i : Int) (hi : 0 ≤ i ∧ i ≤ 100000) (w : World) (ht : TextAt w g t) : Calls Try.prog 12 #[.slice (some ⟨g, 0, none⟩) t.size c, .int .i64 i] w fun e w' => e = .returned (.int .u8 (bt t i)) ∧ w = w' := by
  by_cases hlt : i < t.size
  · obtain ⟨k, rfl⟩ := Int.eq_ofNat_of_zero_le hi.1
    have hk := ht k (by omega)
    have hn : ¬ (k : Int) < 0 := by omega
    go_enter Try.func12, Try.ntmps12
    go_wp2_with fail
    go_ret
    exact ⟨rfl, rfl⟩
  · have H0 := Go.Lib.hid (bt_out t i (.inr (by omega)))
    have hn : ¬ i < 0 := by omega
    go_enter Try.func12, Try.ntmps12
    go_wp2_with fail
    go_ret
    exact ⟨congrArg (fun b => Ending.returned (.int .u8 b)) H0.out.symm, rfl⟩
end Go.Proofs.Ytcmeciekadepjaa
