/- What is proved: the contracts of the store's functions that only read. Conditions: the memory holds a store. · What is proved: the contracts of At, Length, EOF, Read. Conditions: the memory holds a store. · What is proved: the contracts of Read and ReadWord. Conditions: the memory holds a store. · What is proved: the contract of ReadWord. Conditions: the memory holds a store. -/
import Derived.Test.YteleglkoagnmcaaStoreDefs
import Derived.WalkKit
import Derived.WalkSpells
import Derived.BigQuiet
import Derived.Deep.QuietTactic
import Derived.Outline
import Derived.Lib.ConvBytes
set_option linter.unusedSimpArgs false
set_option linter.unusedVariables false
namespace Go.Proofs.Yteleglkoagnmcaa
open Go.RowKit
theorem neq_files (W : World) (r : Option Nat) : (binOp .neq 64 (.map r) (.map none)).run Try.prog W = .ok (.bool (!r.isNone)) W := run_neq_map_nil W _ _ _ r Try.underlying64
section
variable {base : Nat} {w : World} {s : Nat} {S : Sto}

theorem there_c (h : StoreAt base w s S) : Calls Try.prog 39 #[ptr s] w fun e w' => e = .returned (.bool true) ∧ w = w' := by
  have h0 := h.cell0
  clear h
  unfold ptr
  generalize S.mb = mb at h0
  have hm := neq_files
  go_enter Try.func39, Try.ntmps39
  go_wp2
  go_ret
  exact ⟨rfl, rfl⟩

theorem letter_c (c : UInt8) (w : World) : Calls Try.prog 78 #[.int .u8 c.toNat] w fun e w' => e = .returned (.bool (isLetter c)) ∧ w = w' := by
  go_enter Try.func78, Try.ntmps78
  go_wp2
  all_goals go_ret
  all_goals refine ⟨congrArg (fun b => Ending.returned (.bool b)) ?_, rfl⟩
  all_goals unfold isLetter
  all_goals rw [Bool.eq_iff_iff]
  all_goals simp [UInt8.le_iff_toNat_le]
  all_goals omega
theorem bytesWorld_chg (w : World) (e : TypeId) (s : ByteArray) : Chg NoB w (Lib.bytesWorld w e s) :=
  ⟨rfl, rfl, rfl, by rw [Lib.bytesWorld_size]; omega, fun k hk _ => Lib.bytesWorld_at_old w e s k hk⟩

theorem mayName_step (s : ByteArray) (k : Nat) (h : k < s.size) : (s.data.toList.take (k + 1)).all nameByte = ((s.data.toList.take k).all nameByte && nameByte s[k]) := by
  rw [List.take_succ_eq_append_getElem (by simpa using h)]
  simp [List.all_append]
  rfl

theorem mayName_no (n : ByteArray) (k : Nat) (h : (n.data.toList.take k).all nameByte = false) : mayName n = false := by
  have : n.data.toList.all nameByte = false := by
    rw [List.all_eq_false] at h ⊢
    obtain ⟨x, hx, hb⟩ := h
    exact ⟨x, List.mem_of_mem_take hx, hb⟩
  unfold mayName; rw [this]; simp

theorem nb_cases (c : UInt8) (hl : isLetter c = false) :
    (48 ≤ (c.toNat : Int) ∧ (c.toNat : Int) ≤ 57 ∧ nameByte c = true) ∨ ((c.toNat : Int) < 48 ∧ ((c.toNat : Int) != 46) = false ∧ nameByte c = true) ∨
    ((c.toNat : Int) < 48 ∧ ((c.toNat : Int) != 46) = true ∧ nameByte c = false) ∨ (57 < (c.toNat : Int) ∧ ((c.toNat : Int) != 46) = true ∧ nameByte c = false) := by
  have he : (c == 46) = decide (c.toNat = 46) := by
    rw [Bool.eq_iff_iff]; simp [← UInt8.toNat_inj]
  have hn : nameByte c = (decide (48 ≤ c.toNat) && decide (c.toNat ≤ 57) || decide (c.toNat = 46)) := by
    unfold nameByte; rw [hl, he]; simp [UInt8.le_iff_toNat_le]
  rw [hn]
  simp
  omega

set_option maxHeartbeats 400000 in
theorem mayName_c (n : ByteArray) (hn : n.size ≤ maxLen) (w : World) : Calls Try.prog 40 #[.string n] w fun e w' => e = .returned (.bool (mayName n)) ∧ Chg NoB w w' := by
  unfold maxLen at hn
  by_cases h0 : n.size < 1
  · have H : Hid (mayName n = false) := Go.Lib.hid (by unfold mayName; simp; omega)
    go_enter Try.func40, Try.ntmps40
    go_wp2
    go_ret
    exact ⟨by rw [H.out]; rfl, Chg.refl _ _⟩
  · by_cases h1 : 31 < n.size
    · have H : Hid (mayName n = false) := Go.Lib.hid (by unfold mayName; simp; omega)
      go_enter Try.func40, Try.ntmps40
      go_wp2
      go_ret
      exact ⟨by rw [H.out]; rfl, Chg.refl _ _⟩
    · have d0 : decide ((n.size : Int) < 1) = false := by simp; omega
      have d1 : decide (31 < (n.size : Int)) = false := by simp; omega
      have hp : 0 < n.size := by omega
      by_cases hl : isLetter n[0] = true
      · have hcv := fun (W : World) (s : ByteArray) => Lib.run_convert_string_bytes (P := Try.prog) W 9 22 5 s Try.underlying9 Try.underlying22 Try.underlying5
        have hc : ∀ j, j < n.size → (Lib.bytesWorld w 5 n).cell? ⟨w.heap.size, j, none⟩ = some (.int .u8 (n.data.toList.getD j 0).toNat) := fun j hj => Lib.bytesWorld_cell w _ n j hj
        have hch : Chg NoB w (Lib.bytesWorld w 5 n) := bytesWorld_chg w _ n
        have Hc := Go.Lib.hid hc
        clear hc
        have Hch := Go.Lib.hid hch
        clear hch
        have Hl := Go.Lib.hid hl
        clear hl
        go_enter Try.func40, Try.ntmps40
        go_wp2_with fail
        refine (letter_c _ _).mono ?_
        rw [Hl.out]
        rintro e w' ⟨rfl, rfl⟩
        go_wp2_with fail
        generalize hW : Lib.bytesWorld w 5 n = W at Hc Hch
        clear hW hcv
        go_loop [4, 22] (fun _ i => ∃ k : Nat, k ≤ n.size ∧ i = .int .i64 k ∧ (n.data.toList.take k).all nameByte = true) (fun _ i => n.size - (intOf i).toNat)
        case atStart => exact ⟨0, Nat.zero_le _, rfl, rfl⟩
        case round =>
          obtain ⟨k, hk, rfl, hall⟩ := hrel
          have Hall := Go.Lib.hid hall
          clear hall
          by_cases hlt : k < n.size
          · have hc := Hc.out k hlt
            have hstep := mayName_step n k hlt
            have hck : n.data.toList.getD k 0 = n[k] := by rw [List.getD_eq_getElem?_getD, List.getElem?_eq_getElem (by simpa using hlt)]; rfl
            rw [hck] at hc
            have Hstep := Go.Lib.hid hstep
            clear hstep hck
            generalize n[k] = c at hc Hstep
            by_cases hlc : isLetter c = true
            · have Hlc := Go.Lib.hid hlc
              clear hlc
              go_wp2_with fail
              refine (letter_c _ _).mono ?_
              rw [Hlc.out]
              rintro e w' ⟨rfl, rfl⟩
              go_wp2_with fail
              go_round
              case rel => exact ⟨k + 1, by omega, by go_num, by rw [Hstep.out, Hall.out]; simp [nameByte, Hlc.out]⟩
              case measure => simp [intOf]; omega
            · have Hlc : Hid (isLetter c = false) := Go.Lib.hid (by simpa using hlc)
              clear hlc
              rcases nb_cases c Hlc.out with ⟨h48, h57, hb⟩ | ⟨h48, h46, hb⟩ | ⟨h48, h46, hb⟩ | ⟨h57, h46, hb⟩
              all_goals
                have Hb := Go.Lib.hid hb
                clear hb
                go_wp2_with fail
                refine (letter_c _ _).mono ?_
                rw [Hlc.out]
                rintro e w' ⟨rfl, rfl⟩
                go_wp2_with fail
              · go_round
                case rel => exact ⟨k + 1, by omega, by go_num, by rw [Hstep.out, Hall.out, Hb.out]; rfl⟩
                case measure => simp [intOf]; omega
              · go_round
                case rel => exact ⟨k + 1, by omega, by go_num, by rw [Hstep.out, Hall.out, Hb.out]; rfl⟩
                case measure => simp [intOf]; omega
              · go_ret
                exact ⟨congrArg (fun b => Ending.returned (.bool b)) (mayName_no n (k + 1) (by rw [Hstep.out, Hb.out]; simp)).symm, Hch.out⟩
              · go_ret
                exact ⟨congrArg (fun b => Ending.returned (.bool b)) (mayName_no n (k + 1) (by rw [Hstep.out, Hb.out]; simp)).symm, Hch.out⟩
          · obtain rfl : k = n.size := by omega
            have H : Hid (mayName n = true) := Go.Lib.hid (by
              have h1 : n.data.toList.head? = some n[0] := by rw [List.head?_eq_getElem?, List.getElem?_eq_getElem (by simpa using hp)]; rfl
              have h2 : n.data.toList.all nameByte = true := by
                have := Hall.out
                rwa [List.take_of_length_le (by simp)] at this
              unfold mayName; rw [h1, h2]; simp [Hl.out]; omega)
            go_wp2_with fail
            go_ret
            exact ⟨by rw [H.out]; rfl, Hch.out⟩
      · have hl' : isLetter n[0] = false := by simpa using hl
        have H : Hid (mayName n = false) := Go.Lib.hid (by
          have : n.data.toList.head? = some n[0] := by rw [List.head?_eq_getElem?, List.getElem?_eq_getElem (by simpa using hp)]; rfl
          unfold mayName; simp [this, hl'])
        go_enter Try.func40, Try.ntmps40
        go_wp2_with fail
        refine (letter_c _ _).mono ?_
        rintro e w' ⟨rfl, rfl⟩
        go_wp2_with fail
        go_ret
        exact ⟨by rw [H.out]; rfl, Chg.refl _ _⟩
end
end Go.Proofs.Yteleglkoagnmcaa
set_option linter.unusedSimpArgs false
set_option linter.unusedVariables false
namespace Go.Proofs.Yteleglkoagnmcaa
open Go.RowKit
section
variable {base : Nat} {w : World} {s : Nat} {S : Sto}

end
end Go.Proofs.Yteleglkoagnmcaa
set_option linter.unusedSimpArgs false
set_option linter.unusedVariables false
namespace Go.Proofs.Yteleglkoagnmcaa
open Go.RowKit
section
variable {base : Nat} {w : World} {s : Nat} {S : Sto}

def ReadPost (base s : Nat) (S : Sto) (blk : Nat) (c : UInt8) (w : World) (e : Ending) (w' : World) : Prop :=
  e = .returned (.int .u8 c.toNat) ∧ StoreAt base w' s S ∧ Chg (· = blk) w w'

/-- What a Read tells, and the store behind it. -/
def Sto.read (S : Sto) (f : Int) : UInt8 × Sto :=
  match S.rdAt f with
  | none => (0, S)
  | some r => match S.fl r.f with
    | none => (0, S)
    | some x => match x.b[r.pos]? with
      | none => (0, S)
      | some c => (c, S.setPos f (r.pos + 1))

def StorePost (base s : Nat) (S S' : Sto) (v : Value) (w : World) (e : Ending) (w' : World) : Prop :=
  e = .returned v ∧ StoreAt base w' s S' ∧ Chg (foot s S) w w' ∧ ∀ k, foot s S' k → k < w.heap.size → foot s S k

end
end Go.Proofs.Yteleglkoagnmcaa
set_option linter.unusedSimpArgs false
set_option linter.unusedVariables false
namespace Go.Proofs.Yteleglkoagnmcaa
open Go.RowKit
theorem u32_or (x y : Nat) (hx : x < 4294967296) (hy : y < 4294967296) : bits .or .u32 (x : Int) (y : Int) = ((x ||| y : Nat) : Int) := by
  have hxy : x ||| y < 2 ^ 32 := Nat.or_lt_two_pow (by omega) (by omega)
  show IntKind.u32.wrap ((BitVec.ofInt 32 (x : Int) ||| BitVec.ofInt 32 (y : Int)).toNat : Int) = _
  rw [BitVec.toNat_or, BitVec.ofInt_natCast, BitVec.ofInt_natCast, BitVec.toNat_ofNat, BitVec.toNat_ofNat, Nat.mod_eq_of_lt (by omega), Nat.mod_eq_of_lt (by omega)]
  unfold IntKind.wrap
  simp [IntKind.bits, IntKind.signed]
  omega
def word4 (a b c d : UInt8) : Nat := a.toNat + 256 * b.toNat + 65536 * c.toNat + 16777216 * d.toNat
theorem word4_lt (a b c d : UInt8) : word4 a b c d < 4294967296 := by
  have := a.toNat_lt; have := b.toNat_lt; have := c.toNat_lt; have := d.toNat_lt
  unfold word4; omega
theorem or4 (a b c d : UInt8) : bits .or .u32 (bits .or .u32 (bits .or .u32 (bits .or .u32 0 ((a.toNat : Int) % 4294967296)) ((b.toNat : Int) % 4294967296 * 256 % 4294967296)) ((c.toNat : Int) % 4294967296 * 65536 % 4294967296))
    ((d.toNat : Int) % 4294967296 * 16777216 % 4294967296) = word4 a b c d := by
  have ha := a.toNat_lt; have hb := b.toNat_lt; have hc := c.toNat_lt; have hd := d.toNat_lt
  have e1 : (a.toNat : Int) % 4294967296 = (a.toNat : Nat) := by omega
  have e2 : (b.toNat : Int) % 4294967296 * 256 % 4294967296 = ((2 ^ 8 * b.toNat : Nat) : Int) := by omega
  have e3 : (c.toNat : Int) % 4294967296 * 65536 % 4294967296 = ((2 ^ 16 * c.toNat : Nat) : Int) := by omega
  have e4 : (d.toNat : Int) % 4294967296 * 16777216 % 4294967296 = ((2 ^ 24 * d.toNat : Nat) : Int) := by omega
  have o1 : (0 ||| a.toNat : Nat) = a.toNat := by simp
  have o2 : (a.toNat ||| 2 ^ 8 * b.toNat : Nat) = 2 ^ 8 * b.toNat + a.toNat := by
    rw [Nat.or_comm, ← Nat.two_pow_add_eq_or_of_lt (by omega)]
  have o3 : (2 ^ 8 * b.toNat + a.toNat ||| 2 ^ 16 * c.toNat : Nat) = 2 ^ 16 * c.toNat + (2 ^ 8 * b.toNat + a.toNat) := by
    rw [Nat.or_comm, ← Nat.two_pow_add_eq_or_of_lt (by omega)]
  have o4 : (2 ^ 16 * c.toNat + (2 ^ 8 * b.toNat + a.toNat) ||| 2 ^ 24 * d.toNat : Nat) = 2 ^ 24 * d.toNat + (2 ^ 16 * c.toNat + (2 ^ 8 * b.toNat + a.toNat)) := by
    rw [Nat.or_comm, ← Nat.two_pow_add_eq_or_of_lt (by omega)]
  rw [e1, e2, e3, e4, show (0 : Int) = ((0 : Nat) : Int) from rfl, u32_or _ _ (by omega) (by omega), o1, u32_or _ _ (by omega) (by omega), o2, u32_or _ _ (by omega) (by omega), o3, u32_or _ _ (by omega) (by omega), o4]
  unfold word4
  omega

def Sto.readWord (S : Sto) (f : Int) : Nat × Sto :=
  let q1 := S.read f
  let q2 := q1.2.read f
  let q3 := q2.2.read f
  let q4 := q3.2.read f
  (word4 q1.1 q2.1 q3.1 q4.1, q4.2)
section
variable {base : Nat} {w : World} {s : Nat} {S : Sto}

end
end Go.Proofs.Yteleglkoagnmcaa
