/- What is proved: slices.IndexFunc and ContainsFunc with the closures of package object; which imports may be, as object answers. Conditions: the memory holds the rows. -/
import Derived.Test.YteleglkoagnmcaaLkE
import Derived.Test.YteleglkoagnmcaaLkG
set_option linter.unusedSimpArgs false
set_option linter.unusedVariables false
namespace Go.Proofs.Yteleglkoagnmcaa
open Go Go.RowKit
abbrev IT : TypeId := 54
theorem impCells_take : ∀ (l : List (ByteArray × Nat)) (i : Nat), (impCells l).take (i * 2) = impCells (l.take i)
  | [], i => by simp [impCells]
  | x :: l, 0 => by simp [impCells]
  | x :: l, i + 1 => by
    have e : ∀ m : List (ByteArray × Nat), impCells (x :: m) = .string x.1 :: .int .u32 (x.2 : Int) :: impCells m := fun m => by simp [impCells]
    rw [List.take_succ_cons, e, e, show (i + 1) * 2 = i * 2 + 1 + 1 from by omega, List.take_succ_cons, List.take_succ_cons, impCells_take l i]
/-- the first of a row that is so, or none -/
def IdxPost {α : Type} (p : α → Bool) (l : List α) (W : World) (e : Ending) (w' : World) : Prop :=
  Chg NoB W w' ∧ ((∃ (i : Nat) (x : α), l[i]? = some x ∧ p x = true ∧ (∀ (j : Nat) y, j < i → l[j]? = some y → p y = false) ∧ e = .returned (.int .i64 i)) ∨ ((∀ y ∈ l, p y = false) ∧ e = .returned (.int .i64 (-1))))
def ConPost {α : Type} (p : α → Bool) (l : List α) (W : World) (e : Ending) (w' : World) : Prop :=
  ∃ b : Bool, e = .returned (.bool b) ∧ (b = true ↔ ∃ y ∈ l, p y = true) ∧ Chg NoB W w'
set_option maxRecDepth 20000 in
set_option maxHeartbeats 4000000 in
theorem idxImp_c {W : World} {l : List (ByteArray × Nat)} {A : Option Addr} {c : Nat} {p : ByteArray × Nat → Bool} {cap : Value} (hcell : 0 < l.length → ∃ b o, A = some ⟨b, o, none⟩ ∧ ∀ (i : Nat) (x : ByteArray × Nat), l[i]? = some x → ∀ W', Chg NoB W W' → W'.cell? ⟨b, o + i * 2, none⟩ = some (.string x.1) ∧ W'.cell? ⟨b, o + i * 2 + 1, none⟩ = some (.int .u32 x.2)) (hn : l.length ≤ 9223372036854775807)
    (hf : ∀ W', Chg NoB W W' → ∀ x : ByteArray × Nat, Calls Try.prog 87 #[.agg #[.string x.1, .int .u32 x.2], cap] W' (Quiet (.bool (p x)) W')) :
    Calls Try.prog 93 #[.slice A l.length c, .func (.func 87) #[] #[cap]] W (IdxPost p l W) := by
  have HL := Go.Lib.hid hcell
  have HF := Go.Lib.hid hf
  obtain ⟨n, hnl⟩ : ∃ n, l.length = n := ⟨_, rfl⟩
  have HE := Go.Lib.hid hnl
  rw [hnl] at hn HL ⊢
  clear hcell hf hnl
  go_enter Try.func93, Try.ntmps93
  go_wp2_with fail
  go_loopw [8] (fun v8 wr => ∃ i : Nat, i ≤ n ∧ v8 = .int .i64 i ∧ (∀ (j : Nat) y, j < i → l[j]? = some y → p y = false) ∧ Chg NoB W wr) (fun v8 _ => n - (intOf v8).toNat)
  case atStart => exact ⟨0, Nat.zero_le _, rfl, fun j y h => by omega, Chg.refl _ _⟩
  case round =>
    obtain ⟨i, hi, rfl, hun, hc⟩ := hrel
    have HC := Go.Lib.hid hc
    have HU := Go.Lib.hid hun
    clear hc hun
    by_cases hlt : i < n
    · obtain ⟨b, o, rfl, hcell⟩ := HL.out (by omega)
      obtain ⟨x, hx⟩ : ∃ x, l[i]? = some x := ⟨_, List.getElem?_eq_getElem (by rw [HE.out]; exact hlt)⟩
      have hxc := hcell i x hx wr HC.out
      obtain ⟨hx0, hx1⟩ := hxc
      have HX := Go.Lib.hid hx
      have HQ := Go.Lib.hid (HF.out wr HC.out x)
      clear hcell hx
      obtain ⟨bb, hbb⟩ : ∃ bb, p x = bb := ⟨_, rfl⟩
      have HBB := Go.Lib.hid hbb
      rw [hbb] at HQ
      clear hbb
      go_wp2_with fail
      refine HQ.out.mono ?_
      rintro e w1 ⟨rfl, hc⟩
      have HC2 := Go.Lib.hid (HC.out.trans hc)
      clear hc
      cases bb with
      | true =>
        go_wp2_with fail
        go_ret
        exact ⟨HC2.out, .inl ⟨i, x, HX.out, HBB.out, HU.out, rfl⟩⟩
      | false =>
        go_wp2_with fail
        go_roundw
        case rel => exact ⟨i + 1, by omega, by go_num, fun j y hj hy => by
          rcases Nat.lt_or_ge j i with h | h
          · exact HU.out j y h hy
          · obtain rfl : j = i := by omega
            rw [HX.out] at hy
            injection hy with hy
            rw [← hy]
            exact HBB.out, HC2.out⟩
        case measure => simp [intOf]; omega
    · obtain rfl : i = n := by omega
      go_wp2_with fail
      go_ret
      exact ⟨HC.out, .inr ⟨fun y hy => by
        obtain ⟨j, hj⟩ := List.mem_iff_getElem?.1 hy
        exact HU.out j y (by have := (List.getElem?_eq_some_iff.1 hj).1; rw [HE.out] at this; exact this) hj, rfl⟩⟩
set_option maxRecDepth 20000 in
set_option maxHeartbeats 4000000 in
theorem conImp_c {W : World} {l : List (ByteArray × Nat)} {A : Option Addr} {c : Nat} {p : ByteArray × Nat → Bool} {cap : Value} (hl : CellsAt W A (impCells l)) (hn : l.length ≤ 9223372036854775807)
    (hf : ∀ W', Chg NoB W W' → ∀ x : ByteArray × Nat, Calls Try.prog 87 #[.agg #[.string x.1, .int .u32 x.2], cap] W' (Quiet (.bool (p x)) W')) :
    Calls Try.prog 86 #[.slice A l.length c, .func (.func 87) #[] #[cap]] W (ConPost p l W) := by
  have HI := Go.Lib.hid (idxImp_c (c := c) (fun h0 => by
    obtain ⟨b, o, h1, h2⟩ := hl.flat (by rw [impCells_len]; omega)
    refine ⟨b, o, h1, fun i x hx W' hW => ?_⟩
    obtain ⟨g1, g2⟩ := impCells_get l i x hx
    exact ⟨keepQ hW (h2 _ _ g1), keepQ hW (by have := h2 _ _ g2; rwa [← Nat.add_assoc] at this)⟩) hn hf)
  clear hl hf
  go_enter Try.func86, Try.ntmps86
  go_wp2_with fail
  refine HI.out.mono ?_
  rintro e w1 ⟨hc, hp⟩
  have HC := Go.Lib.hid hc
  clear hc
  rcases hp with ⟨i, x, h1, h2, h3, rfl⟩ | ⟨h1, rfl⟩
  · have HX : Hid (∃ y ∈ l, p y = true) := Go.Lib.hid ⟨x, List.mem_of_getElem? h1, h2⟩
    have hil := (List.getElem?_eq_some_iff.1 h1).1
    clear h1 h2 h3
    go_wp2_with fail
    go_ret
    exact ⟨true, rfl, ⟨fun _ => HX.out, fun _ => rfl⟩, HC.out⟩
  · have HX := Go.Lib.hid h1
    clear h1
    go_wp2_with fail
    go_ret
    exact ⟨false, rfl, ⟨(fun h => by cases h), fun ⟨y, hy, h⟩ => by rw [HX.out y hy] at h; cases h⟩, HC.out⟩
set_option maxRecDepth 20000 in
set_option maxHeartbeats 4000000 in
theorem idxInt_c {W : World} {l : List (Int)} {A : Option Addr} {c : Nat} {p : Int → Bool} {cap : Value} (hcell : 0 < l.length → ∃ b o, A = some ⟨b, o, none⟩ ∧ ∀ (i : Nat) (x : Int), l[i]? = some x → ∀ W', Chg NoB W W' → W'.cell? ⟨b, o + i, none⟩ = some (.int .i64 x)) (hn : l.length ≤ 9223372036854775807)
    (hf : ∀ W', Chg NoB W W' → ∀ x : Int, Calls Try.prog 77 #[.int .i64 x, cap] W' (Quiet (.bool (p x)) W')) :
    Calls Try.prog 88 #[.slice A l.length c, .func (.func 77) #[] #[cap]] W (IdxPost p l W) := by
  have HL := Go.Lib.hid hcell
  have HF := Go.Lib.hid hf
  obtain ⟨n, hnl⟩ : ∃ n, l.length = n := ⟨_, rfl⟩
  have HE := Go.Lib.hid hnl
  rw [hnl] at hn HL ⊢
  clear hcell hf hnl
  go_enter Try.func88, Try.ntmps88
  go_wp2_with fail
  go_loopw [8] (fun v8 wr => ∃ i : Nat, i ≤ n ∧ v8 = .int .i64 i ∧ (∀ (j : Nat) y, j < i → l[j]? = some y → p y = false) ∧ Chg NoB W wr) (fun v8 _ => n - (intOf v8).toNat)
  case atStart => exact ⟨0, Nat.zero_le _, rfl, fun j y h => by omega, Chg.refl _ _⟩
  case round =>
    obtain ⟨i, hi, rfl, hun, hc⟩ := hrel
    have HC := Go.Lib.hid hc
    have HU := Go.Lib.hid hun
    clear hc hun
    by_cases hlt : i < n
    · obtain ⟨b, o, rfl, hcell⟩ := HL.out (by omega)
      obtain ⟨x, hx⟩ : ∃ x, l[i]? = some x := ⟨_, List.getElem?_eq_getElem (by rw [HE.out]; exact hlt)⟩
      have hxc := hcell i x hx wr HC.out
      have hx0 := hxc
      have HX := Go.Lib.hid hx
      have HQ := Go.Lib.hid (HF.out wr HC.out x)
      clear hcell hx
      obtain ⟨bb, hbb⟩ : ∃ bb, p x = bb := ⟨_, rfl⟩
      have HBB := Go.Lib.hid hbb
      rw [hbb] at HQ
      clear hbb
      go_wp2_with fail
      refine HQ.out.mono ?_
      rintro e w1 ⟨rfl, hc⟩
      have HC2 := Go.Lib.hid (HC.out.trans hc)
      clear hc
      cases bb with
      | true =>
        go_wp2_with fail
        go_ret
        exact ⟨HC2.out, .inl ⟨i, x, HX.out, HBB.out, HU.out, rfl⟩⟩
      | false =>
        go_wp2_with fail
        go_roundw
        case rel => exact ⟨i + 1, by omega, by go_num, fun j y hj hy => by
          rcases Nat.lt_or_ge j i with h | h
          · exact HU.out j y h hy
          · obtain rfl : j = i := by omega
            rw [HX.out] at hy
            injection hy with hy
            rw [← hy]
            exact HBB.out, HC2.out⟩
        case measure => simp [intOf]; omega
    · obtain rfl : i = n := by omega
      go_wp2_with fail
      go_ret
      exact ⟨HC.out, .inr ⟨fun y hy => by
        obtain ⟨j, hj⟩ := List.mem_iff_getElem?.1 hy
        exact HU.out j y (by have := (List.getElem?_eq_some_iff.1 hj).1; rw [HE.out] at this; exact this) hj, rfl⟩⟩
set_option maxRecDepth 20000 in
set_option maxHeartbeats 4000000 in
theorem conInt_c {W : World} {l : List (Int)} {A : Option Addr} {c : Nat} {p : Int → Bool} {cap : Value} (hl : CellsAt W A (entCells l)) (hn : l.length ≤ 9223372036854775807)
    (hf : ∀ W', Chg NoB W W' → ∀ x : Int, Calls Try.prog 77 #[.int .i64 x, cap] W' (Quiet (.bool (p x)) W')) :
    Calls Try.prog 76 #[.slice A l.length c, .func (.func 77) #[] #[cap]] W (ConPost p l W) := by
  have HI := Go.Lib.hid (idxInt_c (c := c) (fun h0 => by
    obtain ⟨b, o, h1, h2⟩ := hl.flat (by simpa [entCells] using h0)
    exact ⟨b, o, h1, fun i x hx W' hW => keepQ hW (h2 i _ (by rw [entCells, List.getElem?_map, hx]; rfl))⟩) hn hf)
  clear hl hf
  go_enter Try.func76, Try.ntmps76
  go_wp2_with fail
  refine HI.out.mono ?_
  rintro e w1 ⟨hc, hp⟩
  have HC := Go.Lib.hid hc
  clear hc
  rcases hp with ⟨i, x, h1, h2, h3, rfl⟩ | ⟨h1, rfl⟩
  · have HX : Hid (∃ y ∈ l, p y = true) := Go.Lib.hid ⟨x, List.mem_of_getElem? h1, h2⟩
    have hil := (List.getElem?_eq_some_iff.1 h1).1
    clear h1 h2 h3
    go_wp2_with fail
    go_ret
    exact ⟨true, rfl, ⟨fun _ => HX.out, fun _ => rfl⟩, HC.out⟩
  · have HX := Go.Lib.hid h1
    clear h1
    go_wp2_with fail
    go_ret
    exact ⟨false, rfl, ⟨(fun h => by cases h), fun ⟨y, hy, h⟩ => by rw [HX.out y hy] at h; cases h⟩, HC.out⟩
section
variable {W : World}
theorem impEq_c {xb : Nat} {nm : ByteArray} (h : W.cell? ⟨xb, 0, none⟩ = some (.string nm)) (x : ByteArray × Nat) : Calls Try.prog 87 #[.agg #[.string x.1, .int .u32 x.2], .pointer (some ⟨xb, 0, none⟩)] W (Quiet (.bool (x.1.toList == nm.toList)) W) := by
  have hq := fun ob => keepQ ((Chg.refl NoB W).alloc ob) h
  go_enter Try.func87, Try.ntmps87
  go_wp2_with fail
  go_ret
  exact ⟨rfl, (Chg.refl NoB W).alloc _⟩
theorem eq_bytes (a b : ByteArray) : (a.toList == b.toList) = decide (a = b) := by
  by_cases h : a = b
  · subst h; simp
  · rw [decide_eq_false h]
    simp only [beq_eq_false_iff_ne, ne_eq]
    exact fun e => h (bytes_ext e)
set_option maxRecDepth 20000 in
set_option maxHeartbeats 4000000 in
theorem imports_c {nm : ByteArray} {l : List (ByteArray × Nat)} {A : Option Addr} {c : Nat} (hn : nm.size ≤ maxLen) (hl : CellsAt W A (impCells l)) (hc : l.length ≤ c ∧ c ≤ maxLen) (hs : ∀ x ∈ l, x.1.size ≤ maxLen) :
    Calls Try.prog 74 #[.string nm, .slice A l.length c] W (Quiet (.bool (impsOk nm l)) W) := by
  have HN := Go.Lib.hid hn
  have HS := Go.Lib.hid hs
  have hc' : l.length ≤ 9223372036854775807 := by have := hc.1; have := hc.2; unfold maxLen at this; omega
  have hcc := hc.2
  have hlc := hc.1
  unfold maxLen at hcc
  have HR : Hid (∀ i, i ≤ l.length → ∀ W', Chg NoB W W' → CellsAt W' A (impCells (l.take i))) := Go.Lib.hid fun i hi W' hW => by
    have h1 := cells_take (hl.chg hW fun _ _ => id) (i * 2)
    have h2 : (impCells l).take (i * 2) = impCells (l.take i) := impCells_take l i
    rw [h2] at h1
    exact h1
  have HL : Hid (0 < l.length → ∃ b o, A = some ⟨b, o, none⟩ ∧ ∀ (i : Nat) x, l[i]? = some x → ∀ W', Chg NoB W W' → W'.cell? ⟨b, o + i * 2, none⟩ = some (.string x.1) ∧ W'.cell? ⟨b, o + i * 2 + 1, none⟩ = some (.int .u32 x.2)) := Go.Lib.hid fun h0 => by
    obtain ⟨b, o, h1, h2⟩ := hl.flat (by rw [impCells_len]; omega)
    refine ⟨b, o, h1, fun i x hx W' hW => ?_⟩
    obtain ⟨g1, g2⟩ := impCells_get l i x hx
    exact ⟨keepQ hW (h2 _ _ g1), keepQ hW (by have := h2 _ _ g2; rwa [← Nat.add_assoc] at this)⟩
  clear hl hs hn hc
  obtain ⟨n, hnl⟩ : ∃ n, l.length = n := ⟨_, rfl⟩
  have HE := Go.Lib.hid hnl
  rw [hnl] at hc' hlc HL HR ⊢
  clear hnl
  go_enter Try.func74, Try.ntmps74
  go_wp2_with fail
  go_loopw [9] (fun v9 wr => ∃ i : Nat, i ≤ n ∧ v9 = .int .i64 i ∧ impsPre nm (l.take i) ∧ Chg NoB W wr) (fun v9 _ => n - (intOf v9).toNat)
  case atStart => exact ⟨0, Nat.zero_le _, rfl, ⟨by simp, by simp⟩, Chg.refl _ _⟩
  case round =>
    obtain ⟨i, hi, rfl, hpre, hc⟩ := hrel
    have HC := Go.Lib.hid hc
    have HP := Go.Lib.hid hpre
    clear hc hpre
    by_cases hlt : i < n
    · obtain ⟨b, o, hA, hcell⟩ := HL.out (by omega)
      obtain ⟨x, hx⟩ : ∃ x, l[i]? = some x := ⟨_, List.getElem?_eq_getElem (by rw [HE.out]; exact hlt)⟩
      have hxm := List.mem_of_getElem? hx
      have HX := Go.Lib.hid (And.intro hx hxm)
      obtain ⟨hx0, hx1⟩ := hcell i x hx wr HC.out
      have HM := Go.Lib.hid (fun W' => objName_c x.1 (HS.out x hxm) W')
      have HA : Hid (wr.alloc (Obj.cells #[.string x.1, .int .u32 x.2] IT) = wr.alloc (Obj.cells #[.string x.1, .int .u32 x.2] IT)) := Go.Lib.hid rfl
      have hb := Blk.new wr IT #[.string x.1, .int .u32 x.2]
      have hca : Chg NoB wr (wr.alloc (Obj.cells #[.string x.1, .int .u32 x.2] IT)) := (Chg.refl NoB wr).alloc _
      have HB := Go.Lib.hid (And.intro hb hca)
      have x0 := hb.cell 0
      simp only [List.getElem?_toArray, List.getElem?_cons_zero] at x0
      clear hcell hx hxm hb hca HA
      subst hA
      by_cases hnx : objName x.1 = true
      · rw [hnx] at HM
        by_cases hxn : x.1 = nm
        · have hbe : (x.1.toList == nm.toList) = true := by rw [hxn]; simp
          have HXN := Go.Lib.hid hxn
          clear hxn hnx
          go_wp2_with fail
          refine (HM.out _).mono ?_
          rintro e w1 ⟨rfl, rfl⟩
          go_wp2_with fail
          go_ret
          exact ⟨by rw [imps_bad HX.out.2 (.inr HXN.out)]; rfl, HC.out.trans HB.out.2⟩
        · have hbe : (x.1.toList == nm.toList) = false := by
            simp only [beq_eq_false_iff_ne, ne_eq]
            exact fun e => hxn (bytes_ext e)
          have HXN := Go.Lib.hid (And.intro hnx hxn)
          clear hxn hnx
          go_wp2_with fail
          refine (HM.out _).mono ?_
          rintro e w1 ⟨rfl, rfl⟩
          have hic : i ≤ c := by omega
          go_wp2_with fail
          have hcon := conImp_c (W := wr.alloc (Obj.cells #[.string x.1, .int .u32 x.2] IT)) (l := l.take i) (A := some ⟨b, o, none⟩) (c := c) (p := fun y => y.1.toList == x.1.toList) (cap := .pointer (some ⟨wr.heap.size, 0, none⟩)) (HR.out i (by omega) _ (HC.out.trans HB.out.2)) (by rw [List.length_take, HE.out]; omega) (fun W' hW y => impEq_c (keepQ hW (HB.out.1.cell 0)) y)
          have hti : (l.take i).length = i := by rw [List.length_take, HE.out]; omega
          rw [hti] at hcon
          refine hcon.mono ?_
          clear hcon
          rintro e w2 ⟨bb, rfl, hbb, hc2⟩
          have HC2 := Go.Lib.hid ((HC.out.trans HB.out.2).trans hc2)
          clear hc2
          cases bb with
          | true =>
            have HBB := Go.Lib.hid (hbb.1 rfl)
            clear hbb
            go_wp2_with fail
            go_ret
            refine ⟨?_, HC2.out⟩
            obtain ⟨y, hy, he⟩ := HBB.out
            obtain ⟨k, hk⟩ := List.mem_iff_getElem?.1 hy
            rw [List.getElem?_take] at hk
            split at hk
            · rename_i hki
              rw [imps_twice HX.out.1 hk hki (by rw [eq_bytes] at he; exact of_decide_eq_true he)]
              rfl
            · cases hk
          | false =>
            have HBB : Hid (∀ (k : Nat) y, k < i → l[k]? = some y → y.1 ≠ x.1) := Go.Lib.hid fun k y hk hy e => by
              have : ∃ y ∈ l.take i, (y.1.toList == x.1.toList) = true := ⟨y, List.mem_iff_getElem?.2 ⟨k, by rw [List.getElem?_take, if_pos hk]; exact hy⟩, by rw [e]; simp⟩
              have := hbb.2 this
              cases this
            clear hbb
            go_wp2_with fail
            go_roundw
            case rel => exact ⟨i + 1, by omega, by go_num, HP.out.snoc HX.out.1 HXN.out.1 HXN.out.2 HBB.out, HC2.out⟩
            case measure => simp [intOf]; omega
      · have hnx' : objName x.1 = false := by simpa using hnx
        rw [hnx'] at HM
        have HXN := Go.Lib.hid hnx'
        clear hnx hnx'
        go_wp2_with fail
        refine (HM.out _).mono ?_
        rintro e w1 ⟨rfl, rfl⟩
        go_wp2_with fail
        go_ret
        exact ⟨by rw [imps_bad HX.out.2 (.inl HXN.out)]; rfl, HC.out.trans HB.out.2⟩
    · obtain rfl : i = n := by omega
      have hall := HP.out
      rw [List.take_of_length_le (by rw [HE.out]; exact Nat.le_refl _)] at hall
      have hok := hall.ok
      rw [HE.out] at hok
      have HOK := Go.Lib.hid hok
      have HM := Go.Lib.hid (fun W' => objName_c nm HN.out W')
      clear hall hok
      cases hnn : objName nm with
      | false =>
        rw [hnn] at HM HOK
        go_wp2_with fail
        refine (HM.out _).mono ?_
        rintro e w1 ⟨rfl, rfl⟩
        go_wp2_with fail
        go_ret
        exact ⟨by rw [HOK.out]; rfl, HC.out⟩
      | true =>
        rw [hnn] at HM HOK
        go_wp2_with fail
        refine (HM.out _).mono ?_
        rintro e w1 ⟨rfl, rfl⟩
        go_wp2_with fail
        go_ret
        exact ⟨by rw [HOK.out]; simp; try omega, HC.out⟩
end
end Go.Proofs.Yteleglkoagnmcaa
