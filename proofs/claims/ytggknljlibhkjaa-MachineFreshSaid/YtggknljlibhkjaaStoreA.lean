/- What is proved: the contracts of the store's functions that only read. Conditions: the memory holds a store. -/
import Derived.Test.YtggknljlibhkjaaStoreDefs
import Derived.WalkKit
import Derived.WalkSpells
import Derived.BigQuiet
import Derived.Deep.QuietTactic
import Derived.Outline
import Derived.Lib.ConvBytes
namespace Go.Proofs.Ytggknljlibhkjaa
open Go.RowKit
theorem neq_files (W : World) (r : Option Nat) : (binOp .neq 56 (.map r) (.map none)).run Try.prog W = .ok (.bool (!r.isNone)) W := run_neq_map_nil W _ _ _ r Try.underlying56
section
variable {base : Nat} {w : World} {s : Nat} {S : Sto}

theorem there_c (h : StoreAt base w s S) : Calls Try.prog 73 #[ptr s] w fun e w' => e = .returned (.bool true) ∧ w = w' := by
  have h0 := h.cell0
  clear h
  unfold ptr
  generalize S.mb = mb at h0
  have hm := neq_files
  go_enter Try.func73, Try.ntmps73
  go_wp2
  go_ret
  exact ⟨rfl, rfl⟩

theorem letter_c (c : UInt8) (w : World) : Calls Try.prog 89 #[.int .u8 c.toNat] w fun e w' => e = .returned (.bool (isLetter c)) ∧ w = w' := by
  go_enter Try.func89, Try.ntmps89
  go_wp2
  all_goals go_ret
  all_goals refine ⟨congrArg (fun b => Ending.returned (.bool b)) ?_, rfl⟩
  all_goals unfold isLetter
  all_goals rw [Bool.eq_iff_iff]
  all_goals simp [UInt8.le_iff_toNat_le]
  all_goals omega
theorem bytesWorld_chg (w : World) (e : TypeId) (s : ByteArray) : Chg NoB w (Lib.bytesWorld w e s) :=
  ⟨rfl, rfl, rfl, by rw [Lib.bytesWorld_size]; omega, fun k hk _ => Lib.bytesWorld_at_old w e s k hk⟩

theorem mayName_step (s : ByteArray) (k : Nat) (h : k < s.size) : (s.data.toList.take (k + 1)).all nameByte = ((s.data.toList.take k).all nameByte && nameByte s[k]) := by
  rw [List.take_succ_eq_append_getElem (by simpa using h)]
  simp [List.all_append]
  rfl

theorem mayName_no (n : ByteArray) (k : Nat) (h : (n.data.toList.take k).all nameByte = false) : mayName n = false := by
  have : n.data.toList.all nameByte = false := by
    rw [List.all_eq_false] at h ⊢
    obtain ⟨x, hx, hb⟩ := h
    exact ⟨x, List.mem_of_mem_take hx, hb⟩
  unfold mayName; rw [this]; simp

theorem nb_cases (c : UInt8) (hl : isLetter c = false) :
    (48 ≤ (c.toNat : Int) ∧ (c.toNat : Int) ≤ 57 ∧ nameByte c = true) ∨ ((c.toNat : Int) < 48 ∧ ((c.toNat : Int) != 46) = false ∧ nameByte c = true) ∨
    ((c.toNat : Int) < 48 ∧ ((c.toNat : Int) != 46) = true ∧ nameByte c = false) ∨ (57 < (c.toNat : Int) ∧ ((c.toNat : Int) != 46) = true ∧ nameByte c = false) := by
  have he : (c == 46) = decide (c.toNat = 46) := by
    rw [Bool.eq_iff_iff]; simp [← UInt8.toNat_inj]
  have hn : nameByte c = (decide (48 ≤ c.toNat) && decide (c.toNat ≤ 57) || decide (c.toNat = 46)) := by
    unfold nameByte; rw [hl, he]; simp [UInt8.le_iff_toNat_le]
  rw [hn]
  simp
  omega

set_option maxHeartbeats 400000 in
theorem mayName_c (n : ByteArray) (hn : n.size ≤ maxLen) (w : World) : Calls Try.prog 75 #[.string n] w fun e w' => e = .returned (.bool (mayName n)) ∧ Chg NoB w w' := by
  unfold maxLen at hn
  by_cases h0 : n.size < 1
  · have H : Hid (mayName n = false) := Go.Lib.hid (by unfold mayName; simp; omega)
    go_enter Try.func75, Try.ntmps75
    go_wp2
    go_ret
    exact ⟨by rw [H.out]; rfl, Chg.refl _ _⟩
  · by_cases h1 : 31 < n.size
    · have H : Hid (mayName n = false) := Go.Lib.hid (by unfold mayName; simp; omega)
      go_enter Try.func75, Try.ntmps75
      go_wp2
      go_ret
      exact ⟨by rw [H.out]; rfl, Chg.refl _ _⟩
    · have d0 : decide ((n.size : Int) < 1) = false := by simp; omega
      have d1 : decide (31 < (n.size : Int)) = false := by simp; omega
      have hp : 0 < n.size := by omega
      by_cases hl : isLetter n[0] = true
      · have hcv := fun (W : World) (s : ByteArray) => Lib.run_convert_string_bytes (P := Try.prog) W 9 62 5 s Try.underlying9 Try.underlying62 Try.underlying5
        have hc : ∀ j, j < n.size → (Lib.bytesWorld w 5 n).cell? ⟨w.heap.size, j, none⟩ = some (.int .u8 (n.data.toList.getD j 0).toNat) := fun j hj => Lib.bytesWorld_cell w _ n j hj
        have hch : Chg NoB w (Lib.bytesWorld w 5 n) := bytesWorld_chg w _ n
        have Hc := Go.Lib.hid hc
        clear hc
        have Hch := Go.Lib.hid hch
        clear hch
        have Hl := Go.Lib.hid hl
        clear hl
        go_enter Try.func75, Try.ntmps75
        go_wp2_with fail
        refine (letter_c _ _).mono ?_
        rw [Hl.out]
        rintro e w' ⟨rfl, rfl⟩
        go_wp2_with fail
        generalize hW : Lib.bytesWorld w 5 n = W at Hc Hch
        clear hW hcv
        go_loop [4, 22] (fun _ i => ∃ k : Nat, k ≤ n.size ∧ i = .int .i64 k ∧ (n.data.toList.take k).all nameByte = true) (fun _ i => n.size - (intOf i).toNat)
        case atStart => exact ⟨0, Nat.zero_le _, rfl, rfl⟩
        case round =>
          obtain ⟨k, hk, rfl, hall⟩ := hrel
          have Hall := Go.Lib.hid hall
          clear hall
          by_cases hlt : k < n.size
          · have hc := Hc.out k hlt
            have hstep := mayName_step n k hlt
            have hck : n.data.toList.getD k 0 = n[k] := by rw [List.getD_eq_getElem?_getD, List.getElem?_eq_getElem (by simpa using hlt)]; rfl
            rw [hck] at hc
            have Hstep := Go.Lib.hid hstep
            clear hstep hck
            generalize n[k] = c at hc Hstep
            by_cases hlc : isLetter c = true
            · have Hlc := Go.Lib.hid hlc
              clear hlc
              go_wp2_with fail
              refine (letter_c _ _).mono ?_
              rw [Hlc.out]
              rintro e w' ⟨rfl, rfl⟩
              go_wp2_with fail
              go_round
              case rel => exact ⟨k + 1, by omega, by go_num, by rw [Hstep.out, Hall.out]; simp [nameByte, Hlc.out]⟩
              case measure => simp [intOf]; omega
            · have Hlc : Hid (isLetter c = false) := Go.Lib.hid (by simpa using hlc)
              clear hlc
              rcases nb_cases c Hlc.out with ⟨h48, h57, hb⟩ | ⟨h48, h46, hb⟩ | ⟨h48, h46, hb⟩ | ⟨h57, h46, hb⟩
              all_goals
                have Hb := Go.Lib.hid hb
                clear hb
                go_wp2_with fail
                refine (letter_c _ _).mono ?_
                rw [Hlc.out]
                rintro e w' ⟨rfl, rfl⟩
                go_wp2_with fail
              · go_round
                case rel => exact ⟨k + 1, by omega, by go_num, by rw [Hstep.out, Hall.out, Hb.out]; rfl⟩
                case measure => simp [intOf]; omega
              · go_round
                case rel => exact ⟨k + 1, by omega, by go_num, by rw [Hstep.out, Hall.out, Hb.out]; rfl⟩
                case measure => simp [intOf]; omega
              · go_ret
                exact ⟨congrArg (fun b => Ending.returned (.bool b)) (mayName_no n (k + 1) (by rw [Hstep.out, Hb.out]; simp)).symm, Hch.out⟩
              · go_ret
                exact ⟨congrArg (fun b => Ending.returned (.bool b)) (mayName_no n (k + 1) (by rw [Hstep.out, Hb.out]; simp)).symm, Hch.out⟩
          · obtain rfl : k = n.size := by omega
            have H : Hid (mayName n = true) := Go.Lib.hid (by
              have h1 : n.data.toList.head? = some n[0] := by rw [List.head?_eq_getElem?, List.getElem?_eq_getElem (by simpa using hp)]; rfl
              have h2 : n.data.toList.all nameByte = true := by
                have := Hall.out
                rwa [List.take_of_length_le (by simp)] at this
              unfold mayName; rw [h1, h2]; simp [Hl.out]; omega)
            go_wp2_with fail
            go_ret
            exact ⟨by rw [H.out]; rfl, Hch.out⟩
      · have hl' : isLetter n[0] = false := by simpa using hl
        have H : Hid (mayName n = false) := Go.Lib.hid (by
          have : n.data.toList.head? = some n[0] := by rw [List.head?_eq_getElem?, List.getElem?_eq_getElem (by simpa using hp)]; rfl
          unfold mayName; simp [this, hl'])
        go_enter Try.func75, Try.ntmps75
        go_wp2_with fail
        refine (letter_c _ _).mono ?_
        rintro e w' ⟨rfl, rfl⟩
        go_wp2_with fail
        go_ret
        exact ⟨by rw [H.out]; rfl, Chg.refl _ _⟩
theorem rider_some (h : StoreAt base w s S) {f : Int} {r : Rd} (hr : S.rdAt f = some r) :
    Calls Try.prog 77 #[ptr s, .int .i64 f] w fun e w' => e = .returned (ptr r.blk) ∧ w = w' := by
  obtain ⟨h1, h2, _, _⟩ := rdAt_some hr
  obtain ⟨g, hA, hc⟩ := h.rcell hr
  have hn := h.nrd
  have c1 := h.cell1
  rw [hA] at c1
  have Hth := Go.Lib.hid (there_c h)
  have d1 : decide (f < 1) = false := by simp; omega
  have d2 : decide ((S.rd.length : Int) < f) = false := by simp; omega
  clear h hr hA
  generalize S.rd.length = n at *
  generalize S.rc = rc at *
  unfold ptr at hc Hth ⊢
  go_enter Try.func77, Try.ntmps77
  go_wp2_with fail
  refine Hth.out.mono ?_
  rintro e w' ⟨rfl, rfl⟩
  go_wp2_with fail
  go_ret
  exact ⟨rfl, rfl⟩

theorem rider_none (h : StoreAt base w s S) {f : Int} (hr : S.rdAt f = none) :
    Calls Try.prog 77 #[ptr s, .int .i64 f] w fun e w' => e = .returned (.pointer none) ∧ w = w' := by
  have hn := h.nrd
  have c1 := h.cell1
  have Hth := Go.Lib.hid (there_c h)
  rcases rdAt_none hr with h1 | h1
  · have d1 : decide (f < 1) = true := by simp; omega
    clear h hr
    generalize S.rd.length = n at *
    generalize S.rc = rc at *
    unfold ptr at Hth ⊢
    go_enter Try.func77, Try.ntmps77
    go_wp2_with fail
    refine Hth.out.mono ?_
    rintro e w' ⟨rfl, rfl⟩
    go_wp2_with fail
    go_ret
    exact ⟨rfl, rfl⟩
  · have d1 : decide (f < 1) = false := by simp; omega
    have d2 : decide ((S.rd.length : Int) < f) = true := by simp; omega
    clear h hr
    generalize S.rd.length = n at *
    generalize S.rc = rc at *
    generalize S.rA = rA at *
    unfold ptr at Hth ⊢
    go_enter Try.func77, Try.ntmps77
    go_wp2_with fail
    refine Hth.out.mono ?_
    rintro e w' ⟨rfl, rfl⟩
    go_wp2_with fail
    go_ret
    exact ⟨rfl, rfl⟩
end
end Go.Proofs.Ytggknljlibhkjaa
