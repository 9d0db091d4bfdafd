/- What is proved: the law's much and wipe. Conditions: the memory holds the acts; the bytes lie in a row of the call's own. -/
import Derived.Test.YtholeloedihkoaaVbF
import Derived.Test.YtholeloedihkoaaVaW0
import Derived.Laws.OwnMore
set_option linter.unusedSimpArgs false
set_option linter.unusedVariables false
namespace Go.Proofs.Ytholeloedihkoaa
open Go Go.RowKit
section
variable {w w' W : World}
theorem IsAct.quiet {a : ActD} (h : IsAct w a) (hc : Chg NoB w w') : IsAct w' a := ⟨h.row.chg hc (fun _ _ => id), h.pc, h.ints, h.word⟩
theorem IsActs.quiet {A : Option Addr} {l : List ActD} (h : IsActs w A l) (hc : Chg NoB w w') : IsActs w' A l := fun i a hi => by
  obtain ⟨b, o, h1, h2, h3, h4, h5⟩ := h i a hi
  exact ⟨b, o, h1, keepC hc h2, keepC hc h3, keepC hc h4, h5.quiet hc⟩
set_option maxRecDepth 20000 in
theorem much_c {A : Option Addr} {c : Nat} {l : List ActD} (h : IsActs w A l) (hl : l.length ≤ c) (hc : c ≤ maxLen) : Calls Try.prog 25 #[.slice A l.length c] w fun e w' => ∃ b : Bool, e = .returned (.bool b) ∧ (b = false → l.length ≤ 60) ∧ w = w' := by
  have HA := Go.Lib.hid h
  unfold maxLen at hc
  obtain ⟨n, hn⟩ : ∃ n, l.length = n := ⟨_, rfl⟩
  have HN := Go.Lib.hid hn
  rw [hn] at hl ⊢
  clear h hn
  go_enter Try.func25, Try.ntmps25
  go_wp2_with fail
  go_loopw [3, 4] (fun v3 v4 wr => wr = w ∧ ∃ (i s : Nat), i ≤ n ∧ i ≤ 61 ∧ s ≤ i * 301 ∧ v4 = .int .i64 i ∧ v3 = .int .i64 s) (fun _ v4 _ => n - (intOf v4).toNat)
  case atStart => exact ⟨rfl, 0, 0, Nat.zero_le _, Nat.zero_le _, Nat.zero_le _, rfl, rfl⟩
  case round =>
    obtain ⟨rfl, i, s, hi, hi61, hs, rfl, rfl⟩ := hrel
    by_cases hlt : i < n
    · by_cases h60 : i ≤ 60
      · obtain ⟨a, ha⟩ : ∃ a, l[i]? = some a := ⟨_, List.getElem?_eq_getElem (by have := HN.out; omega)⟩
        obtain ⟨b, o, rfl, q0, _, _, hact⟩ := HA.out i a ha
        have hpc := hact.pc
        unfold maxLen at hpc
        obtain ⟨pl, hpl⟩ : ∃ pl, a.path.length = pl := ⟨_, rfl⟩
        rw [hpl] at q0 hpc
        have hmn : min (pl : Int) 301 = ((min pl 301 : Nat) : Int) := by omega
        have hmb : min pl 301 ≤ 301 := Nat.min_le_right _ _
        obtain ⟨m, hm⟩ : ∃ m, min pl 301 = m := ⟨_, rfl⟩
        rw [hm] at hmn hmb
        clear ha hact hpl
        go_wp2_with fail
        go_roundw
        case rel => exact ⟨by first | rfl | trivial, i + 1, s + m, by omega, by omega, by omega, by go_num, by first | go_num | (rw [hmn]; go_num)⟩
        case measure => simp [intOf]; omega
      · have hd : decide ((i : Int) ≤ 60) = false := by simp; omega
        have hd2 : decide ((60 : Int) < (n : Int)) = true := by simp; omega
        go_wp2_with fail
        go_ret
        exact ⟨true, rfl, fun h => (by cases h), rfl⟩
    · obtain rfl : i = n := by omega
      by_cases h60 : i ≤ 60
      · have hd2 : decide ((60 : Int) < (i : Int)) = false := by simp; omega
        go_wp2_with fail
        go_ret
        exact ⟨_, rfl, fun _ => h60, rfl⟩
      · have hd2 : decide ((60 : Int) < (i : Int)) = true := by simp; omega
        go_wp2_with fail
        go_ret
        exact ⟨true, rfl, fun h => (by cases h), rfl⟩
/-- bytes of which some are noughts now -/
def Wiped (l : List Int) (a n : Nat) (l' : List Int) : Prop := l'.length = l.length ∧ ∀ j : Nat, l'[j]? = if a ≤ j ∧ j < a + n ∧ j < l.length then some 0 else l[j]?
theorem Wiped.zero (l : List Int) (a : Nat) : Wiped l a 0 l := ⟨rfl, fun j => by rw [if_neg (by omega)]⟩
theorem Wiped.set {l l' : List Int} {a i : Nat} (h : Wiped l a i l') (hl : a + i < l.length) : Wiped l a (i + 1) (l'.set (a + i) 0) := by
  refine ⟨by rw [List.length_set, h.1], fun j => ?_⟩
  rw [List.getElem?_set]
  split
  · rename_i he
    subst he
    rw [if_pos (by rw [h.1]; exact hl), if_pos (by omega)]
  · rename_i he
    rw [h.2 j]
    by_cases h1 : a ≤ j ∧ j < a + i ∧ j < l.length
    · rw [if_pos h1, if_pos (by omega)]
    · rw [if_neg h1, if_neg (by omega)]
theorem u8s_set (l : List Int) (i : Nat) (x : Int) : (u8s l).set i (.int .u8 x) = u8s (l.set i x) := by simp [u8s, List.map_set]
set_option maxRecDepth 20000 in
theorem wipe_c {base g N cap a n c : Nat} {l : List Int} (h : w.ownsRow base U8 1 (.slice (some ⟨g, 0, none⟩) N cap) N (u8s l)) (ha : a + n ≤ N) (hn : n ≤ c ∧ c ≤ maxLen) :
    Calls Try.prog 28 #[.slice (some ⟨g, a, none⟩) n c] w fun e w' => e = .returned (.tuple #[]) ∧ ∃ l', Wiped l a n l' ∧ w'.ownsRow base U8 1 (.slice (some ⟨g, 0, none⟩) N cap) N (u8s l') ∧ Chg (fun k => k = g) w w' := by
  have HO := Go.Lib.hid h
  have hlN : l.length = N := by have := h.1; rw [u8s_len] at this; omega
  have HLN := Go.Lib.hid hlN
  unfold maxLen at hn
  clear h hlN
  go_enter Try.func28, Try.ntmps28
  go_wp2_with fail
  go_loopw [2] (fun v2 wr => ∃ (i : Nat) (l' : List Int), i ≤ n ∧ v2 = .int .i64 i ∧ Wiped l a i l' ∧ wr.ownsRow base U8 1 (.slice (some ⟨g, 0, none⟩) N cap) N (u8s l') ∧ Chg (fun k => k = g) w wr) (fun v2 _ => n - (intOf v2).toNat)
  case atStart => exact ⟨0, l, Nat.zero_le _, rfl, Wiped.zero _ _, HO.out, Chg.refl _ _⟩
  case round =>
    obtain ⟨i, l', hi, rfl, hw, hr, hc⟩ := hrel
    have HR := Go.Lib.hid (And.intro hw (And.intro hr hc))
    by_cases hlt : i < n
    · have hc0 : wr.cell? ⟨g, a + i, none⟩ = (u8s l')[a + i]? := hr.cellAt (a + i) (by omega)
      have hfr : wr.frozen? ⟨g, a + i, none⟩ = false := hr.frozenAt (a + i)
      obtain ⟨x, hx⟩ : ∃ x, (u8s l')[a + i]? = some x := ⟨_, List.getElem?_eq_getElem (by rw [u8s_len, hw.1]; have := HLN.out; omega)⟩
      rw [hx] at hc0
      clear hw hr hc hx
      go_wp2_with fail
      go_roundw
      case rel => exact ⟨i + 1, l'.set (a + i) 0, by omega, by go_num, HR.out.1.set (by have := HLN.out; omega), by
        have h1 := HR.out.2.1.stored (a + i) (.int .u8 0)
        rw [u8s_set] at h1
        exact h1.1, HR.out.2.2.setCell (fun _ => rfl) _⟩
      case measure => simp [intOf]; omega
    · obtain rfl : i = n := by omega
      clear hw hr hc
      go_wp2_with fail
      refine bodyPost_end (results_none rfl _ _ _) rfl ?_
      exact ⟨rfl, l', HR.out.1, HR.out.2.1, HR.out.2.2⟩
end
end Go.Proofs.Ytholeloedihkoaa
