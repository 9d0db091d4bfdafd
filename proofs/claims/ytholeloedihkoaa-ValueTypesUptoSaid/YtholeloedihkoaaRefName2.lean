/- What is proved: the contract of the reference's MayName. Conditions: none. -/
import Derived.Test.YtholeloedihkoaaName
set_option linter.unusedSimpArgs false
set_option linter.unusedVariables false
namespace Go.Proofs.Ytholeloedihkoaa
open Go.RowKit
theorem letter_cases (c : UInt8) : (isLetter c = true ∧ ((65 ≤ (c.toNat : Int) ∧ (c.toNat : Int) ≤ 90) ∨ (97 ≤ (c.toNat : Int) ∧ (c.toNat : Int) ≤ 122))) ∨
    (isLetter c = false ∧ ((c.toNat : Int) < 65 ∨ (90 < (c.toNat : Int) ∧ (c.toNat : Int) < 97) ∨ 122 < (c.toNat : Int))) := by
  have hl : isLetter c = (decide (97 ≤ c.toNat) && decide (c.toNat ≤ 122) || decide (65 ≤ c.toNat) && decide (c.toNat ≤ 90)) := by
    unfold isLetter; simp [UInt8.le_iff_toNat_le]
  rw [hl]
  simp
  omega
theorem nameT_long (n : ByteArray) (h : n.size < 1 ∨ 15 < n.size) : nameT n = false := by
  unfold nameT plainName
  rcases h with h | h
  · have : decide (1 ≤ n.size) = false := decide_eq_false (by omega)
    rw [this]; rfl
  · have : decide (n.size ≤ 15) = false := decide_eq_false (by omega)
    rw [this]; simp
theorem nameT_key (n : ByteArray) (h : isKey n = true) : nameT n = false := by unfold nameT; rw [h]; simp
theorem nameT_head (n : ByteArray) (hp : 0 < n.size) (h : isLetter n[0] = false) : nameT n = false := by
  have : n.data.toList.head? = some n[0] := by rw [List.head?_eq_getElem?, List.getElem?_eq_getElem (by simpa using hp)]; rfl
  unfold nameT plainName; simp [this, h]
def NRel (n : ByteArray) (k : Nat) : Prop := (n.data.toList.take k).all nameByte = true ∧ ∀ h : 0 < n.size, 0 < k → isLetter n[0] = true

set_option maxHeartbeats 1000000 in
theorem refNameT_c (n : ByteArray) (hn : n.size ≤ maxLen) (w : World) : Calls Try.prog 54 #[.string n] w fun e w' => e = .returned (.bool (nameT n)) ∧ Chg NoB w w' := by
  unfold maxLen at hn
  by_cases h0 : n.size < 1
  · have H := Go.Lib.hid (nameT_long n (.inl h0))
    go_enter Try.func54, Try.ntmps54
    go_wp2_with fail
    go_ret
    exact ⟨by rw [H.out]; rfl, Chg.refl _ _⟩
  · by_cases h1 : 15 < n.size
    · have H := Go.Lib.hid (nameT_long n (.inr h1))
      go_enter Try.func54, Try.ntmps54
      go_wp2_with fail
      go_ret
      exact ⟨by rw [H.out]; rfl, Chg.refl _ _⟩
    · have d0 : decide ((n.size : Int) < 1) = false := by simp; omega
      have d1 : decide (15 < (n.size : Int)) = false := by simp; omega
      have hp : 0 < n.size := by omega
      have hk0 := refKeyword_c n w
      cases hkey : isKey n with
      | true =>
        rw [hkey] at hk0
        have Hk := Go.Lib.hid hk0
        have H := Go.Lib.hid (nameT_key n hkey)
        clear hk0 hkey
        go_enter Try.func54, Try.ntmps54
        go_wp2_with fail
        refine Hk.out.mono ?_
        rintro e w1 ⟨rfl, hc⟩
        have Hc := Go.Lib.hid hc
        clear hc
        go_wp2_with fail
        go_ret
        exact ⟨by rw [H.out]; rfl, Hc.out⟩
      | false =>
        rw [hkey] at hk0
        have Hk := Go.Lib.hid hk0
        have Hkey := Go.Lib.hid hkey
        clear hk0 hkey
        go_enter Try.func54, Try.ntmps54
        go_wp2_with fail
        refine Hk.out.mono ?_
        rintro e w1 ⟨rfl, hc⟩
        have Hc := Go.Lib.hid hc
        clear hc Hk
        go_wp2_with fail
        go_loop [3] (fun i => ∃ k : Nat, k ≤ n.size ∧ i = .int .i64 k ∧ Hid (NRel n k)) (fun i => n.size - (intOf i).toNat)
        case atStart => exact ⟨0, Nat.zero_le _, rfl, Go.Lib.hid ⟨rfl, fun _ h => absurd h (by omega)⟩⟩
        case round =>
          obtain ⟨k, hk, rfl, hall⟩ := hrel
          by_cases hlt : k < n.size
          · have Hstep := Go.Lib.hid (mayName_step n k hlt)
            rcases letter_cases n[k] with ⟨hl, hr⟩ | ⟨hl, hr⟩
            · have Hnext : Hid (NRel n (k + 1)) := Go.Lib.hid ⟨by rw [Hstep.out, hall.out.1]; simp [nameByte, hl], fun h _ => by
                rcases Nat.eq_zero_or_pos k with h2 | h2
                · subst h2; exact hl
                · exact hall.out.2 h h2⟩
              clear hl
              rcases hr with ⟨a, b⟩ | ⟨a, b⟩
              all_goals
                go_wp2_with fail
                go_round
                case rel => exact ⟨k + 1, by omega, by go_num, Hnext⟩
                case measure => simp [intOf]; omega
            · rcases Nat.eq_zero_or_pos k with hz | hz
              · subst hz
                have H := Go.Lib.hid (nameT_head n hp hl)
                clear hl hall
                rcases hr with a | ⟨a, b⟩ | a
                · go_wp2_with fail
                  go_ret
                  exact ⟨by rw [H.out]; rfl, Hc.out⟩
                · have d90 : decide ((n[0].toNat : Int) ≤ 90) = false := decide_eq_false (by omega)
                  go_wp2_with fail
                  go_ret
                  exact ⟨by rw [H.out]; rfl, Hc.out⟩
                · have d90 : decide ((n[0].toNat : Int) ≤ 90) = false := decide_eq_false (by omega)
                  have d122 : decide ((n[0].toNat : Int) ≤ 122) = false := decide_eq_false (by omega)
                  go_wp2_with fail
                  go_ret
                  exact ⟨by rw [H.out]; rfl, Hc.out⟩
              · have hzi : (0 : Int) < k := by omega
                have hzb : ((k : Int) == 0) = false := by rw [beq_eq_false_iff_ne]; omega
                have hzd : decide ((k : Int) = 0) = false := decide_eq_false (by omega)
                have hno : nameByte n[k] = false → Hid (nameT n = false) := fun hb => Go.Lib.hid (plain_no n (k + 1) (by rw [Hstep.out, hb]; simp))
                rcases nb_cases n[k] hl with ⟨h48, h57, hb⟩ | ⟨h48, hb⟩ | ⟨h57, hb⟩
                · have Hnext : Hid (NRel n (k + 1)) := Go.Lib.hid ⟨by rw [Hstep.out, hall.out.1, hb]; rfl, fun h _ => hall.out.2 h hz⟩
                  clear hl hb hr hno
                  go_wp2_with fail
                  go_round
                  case rel => exact ⟨k + 1, by omega, by go_num, Hnext⟩
                  case measure => simp [intOf]; omega
                · have H := hno hb
                  clear hl hb hr hno
                  go_wp2_with fail
                  go_ret
                  exact ⟨by rw [H.out]; rfl, Hc.out⟩
                · have H := hno hb
                  clear hl hb hno
                  rcases hr with a | ⟨a, b⟩ | a
                  · go_wp2_with fail
                    go_ret
                    exact ⟨by rw [H.out]; rfl, Hc.out⟩
                  · have d90 : decide ((n[k].toNat : Int) ≤ 90) = false := decide_eq_false (by omega)
                    go_wp2_with fail
                    go_ret
                    exact ⟨by rw [H.out]; rfl, Hc.out⟩
                  · have d90 : decide ((n[k].toNat : Int) ≤ 90) = false := decide_eq_false (by omega)
                    have d122 : decide ((n[k].toNat : Int) ≤ 122) = false := decide_eq_false (by omega)
                    go_wp2_with fail
                    go_ret
                    exact ⟨by rw [H.out]; rfl, Hc.out⟩
          · obtain rfl : k = n.size := by omega
            have H : Hid (nameT n = true) := Go.Lib.hid (by
              have h1 : n.data.toList.head? = some n[0] := by rw [List.head?_eq_getElem?, List.getElem?_eq_getElem (by simpa using hp)]; rfl
              have h2 : n.data.toList.all nameByte = true := by
                have := hall.out.1
                rwa [List.take_of_length_le (by simp)] at this
              have h3 : plainName n = true := by unfold plainName; rw [h1, h2]; simp [hall.out.2 hp hp]; omega
              unfold nameT; rw [h3, Hkey.out]; rfl)
            go_wp2_with fail
            go_ret
            exact ⟨by rw [H.out]; rfl, Hc.out⟩
end Go.Proofs.Ytholeloedihkoaa
