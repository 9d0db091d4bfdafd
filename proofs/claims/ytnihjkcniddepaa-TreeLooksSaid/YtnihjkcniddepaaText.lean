/- What is proved: the contract of tree's mayText. Conditions: none. -/
import Derived.Test.YtnihjkcniddepaaDes
namespace Go.Proofs.Ytnihjkcniddepaa
open Go.RowKit
def textB (c : UInt8) : Bool := !(decide (c < 32) || decide (126 < c) || c == 34)
theorem textT_eq (s : ByteArray) : textT s = (s.data.toList.all textB && decide (s.size ≤ 63)) := rfl
theorem text_step (s : ByteArray) (k : Nat) (h : k < s.size) : (s.data.toList.take (k + 1)).all textB = ((s.data.toList.take k).all textB && textB s[k]) := by
  rw [List.take_succ_eq_append_getElem (by simpa using h)]
  simp [List.all_append]
  rfl
theorem text_no (s : ByteArray) (k : Nat) (h : (s.data.toList.take k).all textB = false) : textT s = false := by
  have : s.data.toList.all textB = false := by
    rw [List.all_eq_false] at h ⊢
    obtain ⟨x, hx, hb⟩ := h
    exact ⟨x, List.mem_of_mem_take hx, hb⟩
  rw [textT_eq, this]; rfl
theorem textB_cases (c : UInt8) : ((c.toNat : Int) < 32 ∧ textB c = false) ∨ (126 < (c.toNat : Int) ∧ textB c = false) ∨ ((c.toNat : Int) = 34 ∧ textB c = false) ∨
    (32 ≤ (c.toNat : Int) ∧ (c.toNat : Int) ≤ 126 ∧ ((c.toNat : Int) == 34) = false ∧ textB c = true) := by
  have hn : textB c = !(decide (c.toNat < 32) || decide (126 < c.toNat) || c.toNat == 34) := by
    unfold textB
    have h1 : (c < 32) ↔ c.toNat < 32 := UInt8.lt_iff_toNat_lt
    have h2 : (126 < c) ↔ 126 < c.toNat := UInt8.lt_iff_toNat_lt
    have h3 : (c == 34) = (c.toNat == 34) := by
      rw [Bool.eq_iff_iff]; simp only [beq_iff_eq]
      exact ⟨fun h => by subst h; rfl, fun h => UInt8.toNat_inj.1 h⟩
    rw [h3]; simp only [h1, h2]
  rw [hn]
  simp
  omega
set_option maxHeartbeats 400000 in
theorem mayText_c (s : ByteArray) (hs : s.size ≤ maxLen) (w : World) : Calls Try.prog 55 #[.string s] w fun e w' => e = .returned (.bool (textT s)) ∧ Chg NoB w w' := by
  unfold maxLen at hs
  have hcv := fun (W : World) (s : ByteArray) => Lib.run_convert_string_bytes (P := Try.prog) W 9 53 5 s Try.underlying9 Try.underlying53 Try.underlying5
  have Hc := Go.Lib.hid (fun j (hj : j < s.size) => Lib.bytesWorld_cell w 5 s j hj)
  have Hch := Go.Lib.hid (bytesWorld_chg w 5 s)
  go_enter Try.func55, Try.ntmps55
  go_wp2_with fail
  generalize hW : Lib.bytesWorld w 5 s = W at Hc Hch
  clear hW hcv
  go_loop [8] (fun i => ∃ k : Nat, k ≤ s.size ∧ i = .int .i64 k ∧ (s.data.toList.take k).all textB = true) (fun i => s.size - (intOf i).toNat)
  case atStart => exact ⟨0, Nat.zero_le _, rfl, rfl⟩
  case round =>
    obtain ⟨k, hk, rfl, hall⟩ := hrel
    have Hall := Go.Lib.hid hall
    clear hall
    by_cases hlt : k < s.size
    · have hc := Hc.out k hlt
      have hstep := text_step s k hlt
      have hck : s.data.toList.getD k 0 = s[k] := by rw [List.getD_eq_getElem?_getD, List.getElem?_eq_getElem (by simpa using hlt)]; rfl
      rw [hck] at hc
      have Hstep := Go.Lib.hid hstep
      clear hstep hck
      generalize s[k] = c at hc Hstep
      have hb := c.toNat_lt
      rcases textB_cases c with ⟨h1, h⟩ | ⟨h1, h⟩ | ⟨h1, h⟩ | ⟨h1, h2, h3, h⟩
      · have H := Go.Lib.hid h
        clear h
        go_wp2_with fail
        go_ret
        exact ⟨congrArg (fun b => Ending.returned (.bool b)) (text_no s (k + 1) (by rw [Hstep.out, H.out]; simp)).symm, Hch.out⟩
      · have H := Go.Lib.hid h
        clear h
        go_wp2_with fail
        go_ret
        exact ⟨congrArg (fun b => Ending.returned (.bool b)) (text_no s (k + 1) (by rw [Hstep.out, H.out]; simp)).symm, Hch.out⟩
      · have H := Go.Lib.hid h
        clear h
        rw [h1] at hc
        clear h1 hb
        go_wp2_with fail
        go_ret
        exact ⟨congrArg (fun b => Ending.returned (.bool b)) (text_no s (k + 1) (by rw [Hstep.out, H.out]; simp)).symm, Hch.out⟩
      · have H := Go.Lib.hid h
        clear h
        go_wp2_with fail
        go_round
        case rel => exact ⟨k + 1, by omega, by go_num, by rw [Hstep.out, Hall.out, H.out]; rfl⟩
        case measure => simp [intOf]; omega
    · obtain rfl : k = s.size := by omega
      have H : Hid (textT s = decide ((s.size : Int) ≤ 63)) := Go.Lib.hid (by
        have h2 : s.data.toList.all textB = true := by
          have := Hall.out
          rwa [List.take_of_length_le (by simp)] at this
        rw [textT_eq, h2]; simp; omega)
      go_wp2_with fail
      go_ret
      exact ⟨by rw [H.out]; rfl, Hch.out⟩
end Go.Proofs.Ytnihjkcniddepaa
