/- What is proved: which imports and objects may be, as the reference of layer 7 answers. Conditions: the memory holds the object. -/
import Derived.Test.YteleglkoagnmcaaLkC
import Derived.Test.YteleglkoagnmcaaStoreW
import Derived.BigQuiet
set_option linter.unusedSimpArgs false
set_option linter.unusedVariables false
namespace Go.Proofs.Yteleglkoagnmcaa
open Go Go.RowKit
theorem spot_none {w : World} {a : Addr} {v : Value} (h : w.cell? a = some v) : a.spot = none := by
  unfold World.cell? at h
  split at h
  · split at h
    · cases h
    · rename_i hn; cases hs : a.spot with
      | none => rfl
      | some _ => rw [hs] at hn; simp at hn
  · cases h
theorem add_none (b o n : Nat) : (⟨b, o, none⟩ : Addr).add n = ⟨b, o + n, none⟩ := by unfold Addr.add; split <;> simp_all
theorem CellsAt.flat {W : World} {A : Option Addr} {xs : List Value} (h : CellsAt W A xs) (hl : 0 < xs.length) : ∃ b o, A = some ⟨b, o, none⟩ ∧ ∀ j u, xs[j]? = some u → W.cell? ⟨b, o + j, none⟩ = some u := by
  obtain ⟨⟨b, o, s⟩, hA, hc⟩ := h hl
  have h0 := spot_none (hc 0 xs[0] (List.getElem?_eq_getElem hl))
  have ha : (⟨b, o, s⟩ : Addr).add 0 = ⟨b, o, s⟩ := by unfold Addr.add; simp
  rw [ha] at h0
  have hs : s = none := h0
  subst hs
  exact ⟨b, o, hA, fun j u hu => by rw [← add_none]; exact hc j u hu⟩
theorem keepQ {w w' : World} {p : Addr} {u : Value} (hW : Chg NoB w w') (hc : w.cell? p = some u) : w'.cell? p = some u := (World.cell?_of_block (hW.block p.block (block_lt_of_cell hc) id)).trans hc
theorem impCells_len : ∀ l : List (ByteArray × Nat), (impCells l).length = l.length * 2
  | [] => rfl
  | x :: l => by have := impCells_len l; simp [impCells] at this ⊢; omega
theorem impCells_get : ∀ (l : List (ByteArray × Nat)) (i : Nat) (x : ByteArray × Nat), l[i]? = some x → (impCells l)[i * 2]? = some (.string x.1) ∧ (impCells l)[i * 2 + 1]? = some (.int .u32 x.2)
  | [], i, x, h => by simp at h
  | y :: l, 0, x, h => by
    simp only [List.getElem?_cons_zero, Option.some.injEq] at h
    subst h
    simp [impCells]
  | y :: l, i + 1, x, h => by
    have := impCells_get l i x (by simpa using h)
    have e : impCells (y :: l) = [.string y.1, .int .u32 (y.2 : Int)] ++ impCells l := by simp [impCells]
    rw [e]
    refine ⟨?_, ?_⟩
    · rw [List.getElem?_append_right (by simp; omega)]
      rw [← this.1]; congr 1; simp; omega
    · rw [List.getElem?_append_right (by simp; omega)]
      rw [← this.2]; congr 1; simp; omega
theorem bytes_ext {a b : ByteArray} (h : a.toList = b.toList) : a = b := by
  rw [ByteArray.toList_eq, ByteArray.toList_eq] at h
  exact ByteArray.ext (Array.toList_inj.1 h)
/-- imports, as far as they were looked at -/
def impsPre (name : ByteArray) (l : List (ByteArray × Nat)) : Prop := (∀ x ∈ l, objName x.1 = true ∧ x.1 ≠ name) ∧ (l.map (·.1)).Nodup
theorem impsPre.ok {name : ByteArray} {l : List (ByteArray × Nat)} (h : impsPre name l) : impsOk name l = (objName name && decide (l.length ≤ 12)) := by
  unfold impsOk
  rw [decide_eq_true h.2, List.all_eq_true.2 (fun x hx => by rw [(h.1 x hx).1, decide_eq_true (h.1 x hx).2]; rfl)]
  simp
theorem imps_bad {name : ByteArray} {l : List (ByteArray × Nat)} {x : ByteArray × Nat} (hx : x ∈ l) (h : objName x.1 = false ∨ x.1 = name) : impsOk name l = false := by
  unfold impsOk
  have : l.all (fun x => objName x.1 && decide (x.1 ≠ name)) = false := by
    rw [List.all_eq_false]
    refine ⟨x, hx, ?_⟩
    rcases h with h | h
    · simp [h]
    · simp [h]
  rw [this]
  rfl
theorem imps_twice {name : ByteArray} {l : List (ByteArray × Nat)} {i k : Nat} {x y : ByteArray × Nat} (hi : l[i]? = some x) (hk : l[k]? = some y) (hki : k < i) (h : y.1 = x.1) : impsOk name l = false := by
  unfold impsOk
  have : ¬ (l.map (·.1)).Nodup := fun hn => by
    have h1 : (l.map (·.1))[i]? = some x.1 := by rw [List.getElem?_map, hi]; rfl
    have h2 : (l.map (·.1))[k]? = some x.1 := by rw [List.getElem?_map, hk, ← h]; rfl
    have hl : i < (l.map (·.1)).length := (List.getElem?_eq_some_iff.1 h1).1
    have := (List.getElem?_inj hl hn).1 (h1.trans h2.symm)
    omega
  rw [decide_eq_false this]
  simp
theorem impsPre.snoc {name : ByteArray} {l : List (ByteArray × Nat)} {i : Nat} {x : ByteArray × Nat} (h : impsPre name (l.take i)) (hx : l[i]? = some x) (h1 : objName x.1 = true) (h2 : x.1 ≠ name) (h3 : ∀ (k : Nat) y, k < i → l[k]? = some y → y.1 ≠ x.1) : impsPre name (l.take (i + 1)) := by
  obtain ⟨hi, he⟩ := List.getElem?_eq_some_iff.1 hx
  rw [List.take_succ_eq_append_getElem hi, he]
  refine ⟨fun y hy => ?_, ?_⟩
  · rw [List.mem_append, List.mem_singleton] at hy
    rcases hy with hy | rfl
    · exact h.1 y hy
    · exact ⟨h1, h2⟩
  · rw [List.map_append, List.nodup_append]
    refine ⟨h.2, by simp, fun a ha b hb e => ?_⟩
    simp at hb
    subst hb
    subst e
    obtain ⟨y, hy, he⟩ := List.mem_map.1 ha
    obtain ⟨k, hk⟩ := List.mem_iff_getElem?.1 hy
    rw [List.getElem?_take] at hk
    split at hk
    · rename_i hki
      exact h3 k y hki hk he
    · cases hk
section
variable {W : World}
set_option maxRecDepth 20000 in
set_option maxHeartbeats 4000000 in
theorem mayImports7_c {nm : ByteArray} {l : List (ByteArray × Nat)} {A : Option Addr} {c : Nat} (hn : nm.size ≤ maxLen) (hl : CellsAt W A (impCells l)) (hc : l.length ≤ c ∧ c ≤ maxLen) (hs : ∀ x ∈ l, x.1.size ≤ maxLen) :
    Calls Try.prog 51 #[.string nm, .slice A l.length c] W (Quiet (.bool (impsOk nm l)) W) := by
  have HN := Go.Lib.hid hn
  have HS := Go.Lib.hid hs
  have hc' : l.length ≤ 9223372036854775807 := by have := hc.1; have := hc.2; unfold maxLen at this; omega
  have HL : Hid (0 < l.length → ∃ b o, A = some ⟨b, o, none⟩ ∧ ∀ (i : Nat) x, l[i]? = some x → ∀ W', Chg NoB W W' → W'.cell? ⟨b, o + i * 2, none⟩ = some (.string x.1) ∧ W'.cell? ⟨b, o + i * 2 + 1, none⟩ = some (.int .u32 x.2)) := Go.Lib.hid fun h0 => by
    obtain ⟨b, o, h1, h2⟩ := hl.flat (by rw [impCells_len]; omega)
    refine ⟨b, o, h1, fun i x hx W' hW => ?_⟩
    obtain ⟨g1, g2⟩ := impCells_get l i x hx
    exact ⟨keepQ hW (h2 _ _ g1), keepQ hW (by have := h2 _ _ g2; rwa [← Nat.add_assoc] at this)⟩
  clear hl hs hn hc
  obtain ⟨n, hnl⟩ : ∃ n, l.length = n := ⟨_, rfl⟩
  have HE := Go.Lib.hid hnl
  rw [hnl] at hc' HL ⊢
  clear hnl
  go_enter Try.func51, Try.ntmps51
  go_wp2_with fail
  go_loopw [5] (fun v5 wr => ∃ i : Nat, i ≤ n ∧ v5 = .int .i64 i ∧ impsPre nm (l.take i) ∧ Chg NoB W wr) (fun v5 _ => n - (intOf v5).toNat)
  case atStart => exact ⟨0, Nat.zero_le _, rfl, ⟨by simp, by simp⟩, Chg.refl _ _⟩
  case round =>
    obtain ⟨i, hi, rfl, hpre, hc⟩ := hrel
    have HC := Go.Lib.hid hc
    have HP := Go.Lib.hid hpre
    clear hc hpre
    by_cases hlt : i < n
    · obtain ⟨b, o, rfl, hcell⟩ := HL.out (by omega)
      obtain ⟨x, hx⟩ : ∃ x, l[i]? = some x := ⟨_, List.getElem?_eq_getElem (by rw [HE.out]; exact hlt)⟩
      have hxm := List.mem_of_getElem? hx
      have HX := Go.Lib.hid (And.intro hx hxm)
      have HCell := Go.Lib.hid hcell
      have hx0 := (hcell i x hx wr HC.out).1
      have HM := Go.Lib.hid (fun W' => refName7_c x.1 (HS.out x hxm) W')
      clear hcell hx hxm
      by_cases hnx : objName x.1 = true
      · rw [hnx] at HM
        by_cases hxn : x.1 = nm
        · have hbe : (x.1.toList == nm.toList) = true := by rw [hxn]; simp
          have HXN := Go.Lib.hid hxn
          clear hxn
          go_wp2_with fail
          refine (HM.out _).mono ?_
          rintro e w1 ⟨rfl, rfl⟩
          go_wp2_with fail
          go_ret
          exact ⟨by rw [imps_bad HX.out.2 (.inr HXN.out)]; rfl, HC.out⟩
        · have hbe : (x.1.toList == nm.toList) = false := by
            simp only [beq_eq_false_iff_ne, ne_eq]
            exact fun e => hxn (bytes_ext e)
          have HXN := Go.Lib.hid (And.intro hnx hxn)
          clear hxn hnx
          go_wp2_with fail
          refine (HM.out _).mono ?_
          rintro e w1 ⟨rfl, rfl⟩
          go_wp2_with fail
          go_loopw [6] (fun v6 wr2 => ∃ k : Nat, k ≤ i ∧ v6 = .int .i64 k ∧ (∀ (j : Nat) y, j < k → l[j]? = some y → y.1 ≠ x.1) ∧ Chg NoB W wr2) (fun v6 _ => i - (intOf v6).toNat)
          case atStart => exact ⟨0, Nat.zero_le _, rfl, fun j y h => by omega, HC.out⟩
          case round =>
            obtain ⟨k, hk, rfl, hun, hc2⟩ := hrel
            have HC2 := Go.Lib.hid hc2
            have HU := Go.Lib.hid hun
            clear hc2 hun hx0
            have hx0 := (HCell.out i x HX.out.1 wr HC2.out).1
            by_cases hki : k < i
            · obtain ⟨y, hy⟩ : ∃ y, l[k]? = some y := ⟨_, List.getElem?_eq_getElem (by rw [HE.out]; omega)⟩
              have hy0 := (HCell.out k y hy wr HC2.out).1
              have HY := Go.Lib.hid hy
              have hkn : k < n := by omega
              clear hy
              by_cases hyx : y.1 = x.1
              · have hbe2 : (y.1.toList == x.1.toList) = true := by rw [hyx]; simp
                have HYX := Go.Lib.hid hyx
                clear hyx
                go_wp2_with fail
                go_quiet (fail)
                go_wp2_with fail
                go_ret
                exact ⟨by rw [imps_twice HX.out.1 HY.out hki HYX.out]; rfl, HC2.out.drewN _⟩
              · have hbe2 : (y.1.toList == x.1.toList) = false := by
                  simp only [beq_eq_false_iff_ne, ne_eq]
                  exact fun e => hyx (bytes_ext e)
                have HYX := Go.Lib.hid hyx
                clear hyx
                go_wp2_with fail
                go_quiet (fail)
                go_wp2_with fail
                go_roundw
                case rel => exact ⟨k + 1, by omega, by go_num, fun j y' hj hy' => by
                  rcases Nat.lt_or_ge j k with h | h
                  · exact HU.out j y' h hy'
                  · obtain rfl : j = k := by omega
                    rw [HY.out] at hy'
                    injection hy' with hy'
                    rw [← hy']
                    exact HYX.out, HC2.out.drewN _⟩
                case measure => simp [intOf]; omega
            · obtain rfl : k = i := by omega
              go_wp2_with fail
              go_roundw
              case rel => exact ⟨k + 1, by omega, by go_num, HP.out.snoc HX.out.1 HXN.out.1 HXN.out.2 HU.out, HC2.out⟩
              case measure => simp [intOf]; omega
      · have hnx' : objName x.1 = false := by simpa using hnx
        rw [hnx'] at HM
        have HXN := Go.Lib.hid hnx'
        clear hnx hnx'
        go_wp2_with fail
        refine (HM.out _).mono ?_
        rintro e w1 ⟨rfl, rfl⟩
        go_wp2_with fail
        go_ret
        exact ⟨by rw [imps_bad HX.out.2 (.inl HXN.out)]; rfl, HC.out⟩
    · obtain rfl : i = n := by omega
      have hall := HP.out
      rw [List.take_of_length_le (by rw [HE.out]; exact Nat.le_refl _)] at hall
      have hok := hall.ok
      rw [HE.out] at hok
      have HOK := Go.Lib.hid hok
      have HM := Go.Lib.hid (fun W' => refName7_c nm HN.out W')
      clear hall hok
      cases hnn : objName nm with
      | false =>
        rw [hnn] at HM HOK
        go_wp2_with fail
        refine (HM.out _).mono ?_
        rintro e w1 ⟨rfl, rfl⟩
        go_wp2_with fail
        go_ret
        exact ⟨by rw [HOK.out]; rfl, HC.out⟩
      | true =>
        rw [hnn] at HM HOK
        go_wp2_with fail
        refine (HM.out _).mono ?_
        rintro e w1 ⟨rfl, rfl⟩
        go_wp2_with fail
        go_ret
        exact ⟨by rw [HOK.out]; simp; try omega, HC.out⟩
end
end Go.Proofs.Yteleglkoagnmcaa
