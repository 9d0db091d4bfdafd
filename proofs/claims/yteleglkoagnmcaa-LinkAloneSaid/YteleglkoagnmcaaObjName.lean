/- What is proved: which names may be a module's, as object's MayName answers; the name of an object's file. Conditions: a text of at most maxLen bytes. -/
import Derived.Test.YteleglkoagnmcaaStoreDefs
import Derived.WalkKit
import Derived.WalkSpells
import Derived.Outline
namespace Go.Proofs.Yteleglkoagnmcaa
open Go.RowKit
def isDigit (c : UInt8) : Bool := 48 ≤ c && c ≤ 57
def objFrom : Nat → List UInt8 → Bool
  | _, [] => true
  | i, c :: l => (isLetter c || (decide (i ≠ 0) && isDigit c)) && objFrom (i + 1) l
def objName (s : ByteArray) : Bool := objFrom 0 s.data.toList && decide (1 ≤ s.size) && decide (s.size ≤ 15)
theorem objFrom_app (l m : List UInt8) (i : Nat) : objFrom i (l ++ m) = (objFrom i l && objFrom (i + l.length) m) := by
  induction l generalizing i with
  | nil => simp [objFrom]
  | cons c l ih =>
    simp only [List.cons_append, objFrom, ih, List.length_cons, Bool.and_assoc]
    rw [show i + 1 + l.length = i + (l.length + 1) from by omega]
theorem obj_step (s : ByteArray) (k : Nat) (h : k < s.size) : objFrom 0 (s.data.toList.take (k + 1)) = (objFrom 0 (s.data.toList.take k) && (isLetter s[k] || (decide (k ≠ 0) && isDigit s[k]))) := by
  have hl : k < s.data.toList.length := by simpa using h
  rw [List.take_succ_eq_append_getElem hl, objFrom_app]
  have h1 : (s.data.toList.take k).length = k := by rw [List.length_take]; omega
  simp only [objFrom, Bool.and_true, h1, Nat.zero_add]
  rfl
theorem obj_no (s : ByteArray) (k : Nat) (h : objFrom 0 (s.data.toList.take k) = false) : objName s = false := by
  have h1 := objFrom_app (s.data.toList.take k) (s.data.toList.drop k) 0
  rw [List.take_append_drop] at h1
  unfold objName
  rw [h1, h]
  simp
theorem ob_cases (c : UInt8) :
    (65 ≤ (c.toNat : Int) ∧ (c.toNat : Int) ≤ 90 ∧ isLetter c = true) ∨ (97 ≤ (c.toNat : Int) ∧ (c.toNat : Int) ≤ 122 ∧ 90 < (c.toNat : Int) ∧ isLetter c = true) ∨ (48 ≤ (c.toNat : Int) ∧ (c.toNat : Int) ≤ 57 ∧ isLetter c = false ∧ isDigit c = true) ∨
    ((c.toNat : Int) < 48 ∧ isLetter c = false ∧ isDigit c = false) ∨ (57 < (c.toNat : Int) ∧ (c.toNat : Int) < 65 ∧ isLetter c = false ∧ isDigit c = false) ∨ (90 < (c.toNat : Int) ∧ (c.toNat : Int) < 97 ∧ isLetter c = false ∧ isDigit c = false) ∨
    (122 < (c.toNat : Int) ∧ isLetter c = false ∧ isDigit c = false) := by
  have hl : isLetter c = (decide (97 ≤ c.toNat) && decide (c.toNat ≤ 122) || decide (65 ≤ c.toNat) && decide (c.toNat ≤ 90)) := by
    unfold isLetter; simp [UInt8.le_iff_toNat_le]
  have hd : isDigit c = (decide (48 ≤ c.toNat) && decide (c.toNat ≤ 57)) := by
    unfold isDigit; simp [UInt8.le_iff_toNat_le]
  rw [hl, hd]
  simp
  omega
set_option maxHeartbeats 2000000 in
theorem objName_c (s : ByteArray) (hn : s.size ≤ maxLen) (w : World) : Calls Try.prog 34 #[.string s] w fun e w' => e = .returned (.bool (objName s)) ∧ w = w' := by
  unfold maxLen at hn
  go_enter Try.func34, Try.ntmps34
  go_wp2_with fail
  go_loop [8] (fun i => ∃ k : Nat, k ≤ s.size ∧ i = .int .i64 k ∧ objFrom 0 (s.data.toList.take k) = true) (fun i => s.size - (intOf i).toNat)
  case atStart => exact ⟨0, Nat.zero_le _, rfl, rfl⟩
  case round =>
    obtain ⟨k, hk, rfl, hall⟩ := hrel
    have Hall := Go.Lib.hid hall
    clear hall
    by_cases hlt : k < s.size
    · have hstep := obj_step s k hlt
      have hno := obj_no s (k + 1)
      have hcs := ob_cases s[k]
      rw [Hall.out, Bool.true_and] at hstep
      have Hstep := Go.Lib.hid hstep
      have Hno := Go.Lib.hid hno
      clear hstep hno
      have hkk := hlt
      have ok : ∀ b, (isLetter s[k] || (decide (k ≠ 0) && isDigit s[k])) = b → objFrom 0 (s.data.toList.take (k + 1)) = b := fun b h => Hstep.out.trans h
      have Ok := Go.Lib.hid ok
      clear ok
      rcases hcs with ⟨h1, h2, hl⟩ | ⟨h1, h2, h3, hl⟩ | ⟨h1, h2, hl, hd⟩ | ⟨h1, hl, hd⟩ | ⟨h1, h2, hl, hd⟩ | ⟨h1, h2, hl, hd⟩ | ⟨h1, hl, hd⟩
      · have Hg := Go.Lib.hid (Ok.out true (by rw [hl]; rfl))
        clear hl
        go_wp2_with fail
        go_round
        case rel => exact ⟨k + 1, by omega, by go_num, Hg.out⟩
        case measure => simp [intOf]; omega
      · have Hg := Go.Lib.hid (Ok.out true (by rw [hl]; rfl))
        clear hl
        go_wp2_with fail
        go_round
        case rel => exact ⟨k + 1, by omega, by go_num, Hg.out⟩
        case measure => simp [intOf]; omega
      · by_cases hk0 : k = 0
        · have Hg := Go.Lib.hid (Hno.out (Ok.out false (by rw [hl, decide_eq_false (show ¬ k ≠ 0 from fun h => h hk0)]; rfl)))
          subst hk0
          clear hl hd
          go_wp2_with fail
          go_ret
          exact ⟨by rw [Hg.out]; rfl, rfl⟩
        · have Hg := Go.Lib.hid (Ok.out true (by rw [hl, hd]; simp [hk0]))
          have hz : ((k : Int) == 0) = false := by simp; omega
          clear hl hd
          go_wp2_with fail
          go_round
          case rel => exact ⟨k + 1, by omega, by go_num, Hg.out⟩
          case measure => simp [intOf]; omega
      · have Hg := Go.Lib.hid (Hno.out (Ok.out false (by rw [hl, hd]; simp)))
        clear hl hd
        have f0 : decide (65 ≤ (s[k].toNat : Int)) = false := by simp; omega
        have f1 : decide (97 ≤ (s[k].toNat : Int)) = false := by simp; omega
        by_cases hk0 : k = 0
        · subst hk0
          go_wp2_with fail
          go_ret
          exact ⟨by rw [Hg.out]; rfl, rfl⟩
        · have hz : ((k : Int) == 0) = false := by simp; omega
          go_wp2_with fail
          go_ret
          exact ⟨by rw [Hg.out]; rfl, rfl⟩
      · have Hg := Go.Lib.hid (Hno.out (Ok.out false (by rw [hl, hd]; simp)))
        clear hl hd
        have f0 : decide (65 ≤ (s[k].toNat : Int)) = false := by simp; omega
        have f1 : decide (97 ≤ (s[k].toNat : Int)) = false := by simp; omega
        have f2 : decide ((s[k].toNat : Int) < 48) = false := by simp; omega
        have t1 : 57 < (s[k].toNat : Int) := h1
        clear h1 h2
        by_cases hk0 : k = 0
        · subst hk0
          go_wp2_with fail
          go_ret
          exact ⟨by rw [Hg.out]; rfl, rfl⟩
        · have hz : ((k : Int) == 0) = false := by simp; omega
          go_wp2_with fail
          go_ret
          exact ⟨by rw [Hg.out]; rfl, rfl⟩
      · have Hg := Go.Lib.hid (Hno.out (Ok.out false (by rw [hl, hd]; simp)))
        clear hl hd
        have f0 : decide ((s[k].toNat : Int) ≤ 90) = false := by simp; omega
        have f1 : decide (97 ≤ (s[k].toNat : Int)) = false := by simp; omega
        have f2 : decide ((s[k].toNat : Int) < 48) = false := by simp; omega
        have t1 : 65 ≤ (s[k].toNat : Int) := by omega
        have t2 : 57 < (s[k].toNat : Int) := by omega
        clear h1 h2
        by_cases hk0 : k = 0
        · subst hk0
          go_wp2_with fail
          go_ret
          exact ⟨by rw [Hg.out]; rfl, rfl⟩
        · have hz : ((k : Int) == 0) = false := by simp; omega
          go_wp2_with fail
          go_ret
          exact ⟨by rw [Hg.out]; rfl, rfl⟩
      · have Hg := Go.Lib.hid (Hno.out (Ok.out false (by rw [hl, hd]; simp)))
        clear hl hd
        have f0 : decide ((s[k].toNat : Int) ≤ 90) = false := by simp; omega
        have f1 : decide ((s[k].toNat : Int) ≤ 122) = false := by simp; omega
        have f2 : decide ((s[k].toNat : Int) < 48) = false := by simp; omega
        have t1 : 65 ≤ (s[k].toNat : Int) := by omega
        have t2 : 97 ≤ (s[k].toNat : Int) := by omega
        have t3 : 57 < (s[k].toNat : Int) := by omega
        clear h1
        by_cases hk0 : k = 0
        · subst hk0
          go_wp2_with fail
          go_ret
          exact ⟨by rw [Hg.out]; rfl, rfl⟩
        · have hz : ((k : Int) == 0) = false := by simp; omega
          go_wp2_with fail
          go_ret
          exact ⟨by rw [Hg.out]; rfl, rfl⟩
    · obtain rfl : k = s.size := by omega
      have Hr : Hid (objName s = (decide (1 ≤ s.size) && decide (s.size ≤ 15))) := Go.Lib.hid (by
        unfold objName
        have := Hall.out
        rw [List.take_of_length_le (by simp)] at this
        rw [this, Bool.true_and])
      by_cases h1 : 1 ≤ s.size
      · by_cases h2 : s.size ≤ 15
        · go_wp2_with fail
          go_ret
          exact ⟨by rw [Hr.out, decide_eq_true h1, decide_eq_true h2]; simp; omega, rfl⟩
        · have d2 : decide ((s.size : Int) ≤ 15) = false := by simp; omega
          go_wp2_with fail
          go_ret
          exact ⟨by rw [Hr.out, decide_eq_true h1, decide_eq_false h2]; rfl, rfl⟩
      · have d1 : decide (1 ≤ (s.size : Int)) = false := by simp; omega
        go_wp2_with fail
        go_ret
        exact ⟨by rw [Hr.out, decide_eq_false h1]; rfl, rfl⟩
theorem objFile_c (s : ByteArray) (hn : s.size + 2 ≤ maxLen) (w : World) : Calls Try.prog 36 #[.string s] w fun e w' => e = .returned (.string (s ++ ⟨#[46, 111]⟩)) ∧ w = w' := by
  unfold maxLen at hn
  go_enter Try.func36, Try.ntmps36
  go_wp2_with fail
  go_ret
  exact ⟨rfl, rfl⟩
end Go.Proofs.Yteleglkoagnmcaa
