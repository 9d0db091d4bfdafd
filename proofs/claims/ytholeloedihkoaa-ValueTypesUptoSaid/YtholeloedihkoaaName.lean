/- What is proved: the contracts of tree's MayName. Conditions: the library's variable holds a number. -/
import Derived.Test.YtholeloedihkoaaRefKey2
import Derived.WalkSpells
import Derived.BigQuiet
import Derived.Deep.QuietTactic
import Derived.Lib.ConvBytes
set_option linter.unusedSimpArgs false
set_option linter.unusedVariables false
namespace Go.Proofs.Ytholeloedihkoaa
open Go.RowKit
def isLetter (c : UInt8) : Bool := (97 ≤ c && c ≤ 122) || (65 ≤ c && c ≤ 90)
def nameByte (c : UInt8) : Bool := isLetter c || (48 ≤ c && c ≤ 57)
/-- may a text be a name, but for keywords? -/
def plainName (s : ByteArray) : Bool := decide (1 ≤ s.size) && decide (s.size ≤ 15) && ((s.data.toList.head?).map isLetter).getD false && s.data.toList.all nameByte
def nameT (s : ByteArray) : Bool := plainName s && !isKey s
theorem letter_c (c : UInt8) (w : World) : Calls Try.prog 57 #[.int .u8 c.toNat] w fun e w' => e = .returned (.bool (isLetter c)) ∧ w = w' := by
  go_enter Try.func57, Try.ntmps57
  go_wp2
  all_goals go_ret
  all_goals refine ⟨congrArg (fun b => Ending.returned (.bool b)) ?_, rfl⟩
  all_goals unfold isLetter
  all_goals rw [Bool.eq_iff_iff]
  all_goals simp [UInt8.le_iff_toNat_le]
  all_goals omega
theorem bytesWorld_chg (w : World) (e : TypeId) (s : ByteArray) : Chg NoB w (Lib.bytesWorld w e s) :=
  ⟨rfl, rfl, rfl, by rw [Lib.bytesWorld_size]; omega, fun k hk _ => Lib.bytesWorld_at_old w e s k hk⟩
theorem Chg.var {w w' : World} {m : Value} (h : Chg NoB w w') (hm : w.cell? ⟨0, 0, none⟩ = some m) : w'.cell? ⟨0, 0, none⟩ = some m := by
  have hb := h.block 0 (block_lt_of_cell hm) id
  rw [← hm]
  unfold World.cell?
  rw [hb]

theorem mayName_step (s : ByteArray) (k : Nat) (h : k < s.size) : (s.data.toList.take (k + 1)).all nameByte = ((s.data.toList.take k).all nameByte && nameByte s[k]) := by
  rw [List.take_succ_eq_append_getElem (by simpa using h)]
  simp [List.all_append]
  rfl

theorem plain_no (n : ByteArray) (k : Nat) (h : (n.data.toList.take k).all nameByte = false) : nameT n = false := by
  have : n.data.toList.all nameByte = false := by
    rw [List.all_eq_false] at h ⊢
    obtain ⟨x, hx, hb⟩ := h
    exact ⟨x, List.mem_of_mem_take hx, hb⟩
  unfold nameT plainName; rw [this]; simp

theorem nb_cases (c : UInt8) (hl : isLetter c = false) :
    (48 ≤ (c.toNat : Int) ∧ (c.toNat : Int) ≤ 57 ∧ nameByte c = true) ∨ ((c.toNat : Int) < 48 ∧ nameByte c = false) ∨ (57 < (c.toNat : Int) ∧ nameByte c = false) := by
  have hn : nameByte c = (decide (48 ≤ c.toNat) && decide (c.toNat ≤ 57)) := by
    unfold nameByte; rw [hl]; simp [UInt8.le_iff_toNat_le]
  rw [hn]
  simp
  omega

set_option maxHeartbeats 400000 in
theorem nameT_c (n : ByteArray) (hn : n.size ≤ maxLen) (m : Int) (w : World) (hm : w.cell? ⟨0, 0, none⟩ = some (.int .i64 m)) : Calls Try.prog 45 #[.string n] w fun e w' => e = .returned (.bool (nameT n)) ∧ Chg NoB w w' := by
  unfold maxLen at hn
  have Hm := Go.Lib.hid hm
  clear hm
  by_cases h0 : n.size < 1
  · have H : Hid (nameT n = false) := Go.Lib.hid (by unfold nameT plainName; simp; omega)
    go_enter Try.func45, Try.ntmps45
    go_wp2
    go_ret
    exact ⟨by rw [H.out]; rfl, Chg.refl _ _⟩
  · by_cases h1 : 15 < n.size
    · have H : Hid (nameT n = false) := Go.Lib.hid (by unfold nameT plainName; simp; omega)
      go_enter Try.func45, Try.ntmps45
      go_wp2
      go_ret
      exact ⟨by rw [H.out]; rfl, Chg.refl _ _⟩
    · have d0 : decide ((n.size : Int) < 1) = false := by simp; omega
      have d1 : decide (15 < (n.size : Int)) = false := by simp; omega
      have hp : 0 < n.size := by omega
      by_cases hl : isLetter n[0] = true
      · have hcv := fun (W : World) (s : ByteArray) => Lib.run_convert_string_bytes (P := Try.prog) W 9 51 5 s Try.underlying9 Try.underlying51 Try.underlying5
        have hc : ∀ j, j < n.size → (Lib.bytesWorld w 5 n).cell? ⟨w.heap.size, j, none⟩ = some (.int .u8 (n.data.toList.getD j 0).toNat) := fun j hj => Lib.bytesWorld_cell w _ n j hj
        have hch : Chg NoB w (Lib.bytesWorld w 5 n) := bytesWorld_chg w _ n
        have Hc := Go.Lib.hid hc
        clear hc
        have Hch := Go.Lib.hid hch
        clear hch
        have Hl := Go.Lib.hid hl
        clear hl
        go_enter Try.func45, Try.ntmps45
        go_wp2_with fail
        refine (letter_c _ _).mono ?_
        rw [Hl.out]
        rintro e w' ⟨rfl, rfl⟩
        go_wp2_with fail
        generalize hW : Lib.bytesWorld w 5 n = W at Hc Hch
        clear hW hcv
        go_loop [4, 22] (fun _ i => ∃ k : Nat, k ≤ n.size ∧ i = .int .i64 k ∧ (n.data.toList.take k).all nameByte = true) (fun _ i => n.size - (intOf i).toNat)
        case atStart => exact ⟨0, Nat.zero_le _, rfl, rfl⟩
        case round =>
          obtain ⟨k, hk, rfl, hall⟩ := hrel
          have Hall := Go.Lib.hid hall
          clear hall
          by_cases hlt : k < n.size
          · have hc := Hc.out k hlt
            have hstep := mayName_step n k hlt
            have hck : n.data.toList.getD k 0 = n[k] := by rw [List.getD_eq_getElem?_getD, List.getElem?_eq_getElem (by simpa using hlt)]; rfl
            rw [hck] at hc
            have Hstep := Go.Lib.hid hstep
            clear hstep hck
            generalize n[k] = c at hc Hstep
            by_cases hlc : isLetter c = true
            · have Hlc := Go.Lib.hid hlc
              clear hlc
              go_wp2_with fail
              refine (letter_c _ _).mono ?_
              rw [Hlc.out]
              rintro e w' ⟨rfl, rfl⟩
              go_wp2_with fail
              go_round
              case rel => exact ⟨k + 1, by omega, by go_num, by rw [Hstep.out, Hall.out]; simp [nameByte, Hlc.out]⟩
              case measure => simp [intOf]; omega
            · have Hlc : Hid (isLetter c = false) := Go.Lib.hid (by simpa using hlc)
              clear hlc
              rcases nb_cases c Hlc.out with ⟨h48, h57, hb⟩ | ⟨h48, hb⟩ | ⟨h57, hb⟩
              all_goals
                have Hb := Go.Lib.hid hb
                clear hb
                go_wp2_with fail
                refine (letter_c _ _).mono ?_
                rw [Hlc.out]
                rintro e w' ⟨rfl, rfl⟩
                go_wp2_with fail
              · go_round
                case rel => exact ⟨k + 1, by omega, by go_num, by rw [Hstep.out, Hall.out, Hb.out]; rfl⟩
                case measure => simp [intOf]; omega
              · go_ret
                exact ⟨congrArg (fun b => Ending.returned (.bool b)) (plain_no n (k + 1) (by rw [Hstep.out, Hb.out]; simp)).symm, Hch.out⟩
              · go_ret
                exact ⟨congrArg (fun b => Ending.returned (.bool b)) (plain_no n (k + 1) (by rw [Hstep.out, Hb.out]; simp)).symm, Hch.out⟩
          · obtain rfl : k = n.size := by omega
            have H : Hid (nameT n = !isKey n) := Go.Lib.hid (by
              have h1 : n.data.toList.head? = some n[0] := by rw [List.head?_eq_getElem?, List.getElem?_eq_getElem (by simpa using hp)]; rfl
              have h2 : n.data.toList.all nameByte = true := by
                have := Hall.out
                rwa [List.take_of_length_le (by simp)] at this
              have h3 : plainName n = true := by unfold plainName; rw [h1, h2]; simp [Hl.out]; omega
              unfold nameT; rw [h3]; rfl)
            have Hk := Go.Lib.hid (keyword_c n (by omega) m W (Hch.out.var Hm.out))
            go_wp2_with fail
            refine Hk.out.mono ?_
            rintro e w2 ⟨rfl, rfl⟩
            go_wp2_with fail
            go_ret
            exact ⟨by rw [H.out]; rfl, Hch.out⟩
      · have hl' : isLetter n[0] = false := by simpa using hl
        have H : Hid (nameT n = false) := Go.Lib.hid (by
          have : n.data.toList.head? = some n[0] := by rw [List.head?_eq_getElem?, List.getElem?_eq_getElem (by simpa using hp)]; rfl
          unfold nameT plainName; simp [this, hl'])
        go_enter Try.func45, Try.ntmps45
        go_wp2_with fail
        refine (letter_c _ _).mono ?_
        rintro e w' ⟨rfl, rfl⟩
        go_wp2_with fail
        go_ret
        exact ⟨by rw [H.out]; rfl, Chg.refl _ _⟩
end Go.Proofs.Ytholeloedihkoaa
