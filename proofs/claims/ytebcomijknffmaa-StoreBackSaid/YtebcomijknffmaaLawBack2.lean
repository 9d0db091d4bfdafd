/- What is proved: the walk of the law StoreBack. Conditions: none. -/
import Derived.Test.YtebcomijknffmaaLawText
import Derived.Test.YtebcomijknffmaaLawRow
import Derived.Test.YtebcomijknffmaaLawBack1
import Derived.Test.YtebcomijknffmaaStoreQQ
import Derived.Test.YtebcomijknffmaaRefName
import Derived.Deep.RegionHeld3
import Derived.Lib.SlBytesConst
namespace Go.Proofs.Ytebcomijknffmaa
open Go.RowKit

theorem cells_marked (w : World) (C : Array Value) (e : TypeId) (fz : Nat × Nat) : CellsAt (w.alloc (.cells C e fz)) (some ⟨w.heap.size, 0, none⟩) C.toList := by
  intro _
  refine ⟨_, rfl, fun j u hj => ?_⟩
  have hp : (⟨w.heap.size, 0, none⟩ : Addr).add j = ⟨w.heap.size, 0 + j, none⟩ := by unfold Addr.add; split <;> simp_all
  have hb : (w.alloc (.cells C e fz)).heap[w.heap.size]? = some (.cells C e fz) := by
    show (w.heap.push _)[w.heap.size]? = _
    simp
  rw [hp]
  unfold World.cell?
  simp only [hb, Nat.zero_add]
  simpa using hj
def BR1 (wk : World) (nm : ByteArray) (s : Nat) (l : List UInt8) (i : Value) (wr : World) : Prop := ∃ k : Nat, k ≤ l.length ∧ i = .int .i64 k ∧ K wk s (bk3 nm (l.take k)) wr
def BR2 (wk : World) (nm : ByteArray) (s : Nat) (l : List UInt8) (ws : List Nat) (i : Value) (wr : World) : Prop := ∃ k : Nat, k ≤ ws.length ∧ i = .int .i64 k ∧ K wk s (bk3 nm (l ++ flatW (ws.take k))) wr
def BR3 (wk : World) (nm : ByteArray) (s : Nat) (Y l : List UInt8) (i : Value) (wr : World) : Prop := ∃ k : Nat, k ≤ l.length ∧ i = .int .i64 k ∧ K wk s (bk6 nm Y 1 k k) wr
def BR4 (wk : World) (nm : ByteArray) (s : Nat) (Y l : List UInt8) (ws : List Nat) (i : Value) (wr : World) : Prop := ∃ k : Nat, k ≤ ws.length ∧ i = .int .i64 k ∧ K wk s (bk6 nm Y 1 l.length (l.length + 4 * k)) wr
section
variable {wk w : World} {s : Nat} {nm : ByteArray} {y : List UInt8} {a b c : Nat}
theorem back_e (h : K wk s (bk6 nm y c a b) w) (hb : b < y.length) : Calls Try.prog 25 #[ptr s, .int .i64 3] w (KPost wk s (.bool false) (bk6 nm y c a b)) := back_16 nm y a b c hb ▸ eof_k h 3
theorem back_r3 (h : K wk s (bk6 nm y c a b) w) (x : UInt8) (hx : y[b]? = some x) : Calls Try.prog 19 #[ptr s, .int .i64 3] w (KPost wk s (.int .u8 x.toNat) (bk6 nm y c a (b + 1))) := by
  have h1 := read_k h 3
  rw [back_17 nm y a b c x hx] at h1
  exact h1
theorem back_r2 (h : K wk s (bk6 nm y c a b) w) (x : UInt8) (hx : y[a]? = some x) : Calls Try.prog 19 #[ptr s, .int .i64 2] w (KPost wk s (.int .u8 x.toNat) (bk6 nm y c (a + 1) b)) := by
  have h1 := read_k h 2
  rw [back_18 nm y a b c x hx] at h1
  exact h1
theorem back_w (h : K wk s (bk6 nm y c a b) w) (n : Nat) (hn : n < 4294967296) (hz : ∀ i, i < 4 → y[b + i]? = (bytesOfWord n)[i]?) : Calls Try.prog 21 #[ptr s, .int .i64 3] w (KPost wk s (.int .u32 n) (bk6 nm y c a (b + 4))) := by
  have h1 := readWord_k h 3
  rw [back_19 nm y a b c n hn hz] at h1
  exact h1
end
def elderCells : Array Value := #[.int .u8 101, .int .u8 108, .int .u8 100, .int .u8 101, .int .u8 114]
theorem elder_cv (w : World) : (convert 22 22 (.slice (some ⟨w.heap.size, 0, none⟩) 5 5)).run Try.prog (w.alloc (.cells elderCells 5)) = .ok (.slice (some ⟨w.heap.size, 0, none⟩) 5 5) (w.alloc (.cells elderCells 5 (5, 6))) :=
  Lib.run_convert_bytes_const (P := Try.prog) w 22 5 elderCells 5 5 Try.underlying22 Try.underlying5

set_option maxRecDepth 20000 in
theorem back_skip (w0 : World) (A A' : Option Addr) (L L' c c' : Nat) (nm : ByteArray) (hsz : nm.size ≤ maxLen) (hL : 3000 < L ∨ L ≤ 3000 ∧ 60 < L' ∨ L ≤ 3000 ∧ L' ≤ 60 ∧ mayName nm = false) :
    Calls Try.prog 5 #[.slice A L c, .slice A' L' c', .string nm] w0 (Yes w0) := by
  have Hk := Go.Lib.hid (known_c w0)
  rcases hL with hL | ⟨h1, h2⟩ | ⟨h1, h2, h3⟩
  · go_enter Try.func5, Try.ntmps5
    go_wp2_with fail
    refine Hk.out.mono ?_
    rintro e w ⟨rfl, h⟩
    have H := Go.Lib.hid h
    clear h
    go_wp2_with fail
    go_ret
    exact ⟨rfl, H.out⟩
  · go_enter Try.func5, Try.ntmps5
    go_wp2_with fail
    refine Hk.out.mono ?_
    rintro e w ⟨rfl, h⟩
    have H := Go.Lib.hid h
    clear h
    go_wp2_with fail
    go_ret
    exact ⟨rfl, H.out⟩
  · have Hr := fun w => Go.Lib.hid (h3 ▸ refName_c nm hsz w)
    clear h3
    go_enter Try.func5, Try.ntmps5
    go_wp2_with fail
    refine Hk.out.mono ?_
    rintro e w ⟨rfl, h⟩
    have H := Go.Lib.hid h
    clear h
    go_wp2_with fail
    refine (Hr _).out.mono ?_
    rintro e wn ⟨rfl, rfl⟩
    go_wp2_with fail
    go_ret
    exact ⟨rfl, H.out⟩

set_option maxRecDepth 20000 in
set_option maxHeartbeats 4000000 in
theorem back_go (w0 : World) (A A' : Option Addr) (c c' : Nat) (l : List UInt8) (ws : List Nat) (nm : ByteArray) (hsz : nm.size ≤ maxLen) (hL : l.length ≤ 3000) (hM : ws.length ≤ 60) (hn : mayName nm = true) (hcl : CellsAt w0 A (bv l)) (hcw : CellsAt w0 A' (wv32 ws)) (hw : ∀ n ∈ ws, n < 4294967296) :
    Calls Try.prog 5 #[.slice A l.length c, .slice A' ws.length c', .string nm] w0 (Yes w0) := by
  have hLi : (l.length : Int) ≤ 3000 := by omega
  have hMi : (ws.length : Int) ≤ 60 := by omega
  have Hk := Go.Lib.hid (known_c w0)
  have N := Go.Lib.hid num_c
  have HL := Go.Lib.hid hL
  have HM := Go.Lib.hid hM
  have Hw := Go.Lib.hid hw
  have Hsz := Go.Lib.hid hsz
  have Hn := Go.Lib.hid hn
  have Hr := fun w => Go.Lib.hid (hn ▸ refName_c nm hsz w)
  have Hc0 := Go.Lib.hid (And.intro hcl hcw)
  clear hL hM hcl hcw hw hsz hn
  go_enter Try.func5, Try.ntmps5
  go_wp2_with fail
  refine Hk.out.mono ?_
  rintro e wk ⟨rfl, hk⟩
  have Hcl := Go.Lib.hid (Hc0.out.1.chg hk (fun _ _ => id))
  have Hcw := Go.Lib.hid (Hc0.out.2.chg hk (fun _ _ => id))
  have HK := Go.Lib.hid hk
  clear hk Hk Hc0
  go_wp2_with fail
  refine (Hr _).out.mono ?_
  rintro e wn ⟨rfl, he⟩
  obtain rfl := he
  clear Hr
  have H0 := Go.Lib.hid (new_k 20000 (by decide) wk)
  go_wp2_with fail
  refine H0.out.mono ?_
  rintro e w1 ⟨s, rfl, h⟩
  clear H0
  have hcv := elder_cv
  unfold elderCells at hcv
  -- GENERATED
  have hcv := hcv w1
  have h : K wk s bk0 (w1.alloc (.cells elderCells 5 (5, 6))) := h.quiet ((Chg.refl _ _).alloc _)
  have H1 := Go.Lib.hid (show Calls _ _ #[ptr s, .string nm, .slice (some ⟨w1.heap.size, 0, none⟩) 5 5] _ (KPost wk s (.int .i64 0) (bk1 nm)) from (back_1 nm Hn.out) ▸ put_k h nm Hsz.out (c := 5) (l := elder) (fun h => by cases h) (cells_marked w1 elderCells _ _))
  clear h
  unfold elderCells ptr at H1
  unfold ptr
  go_wp2_with fail
  refine (N.out _ _).mono ?_
  rintro e wn ⟨rfl, he⟩
  obtain rfl := he.symm
  go_wp2_with fail
  clear hcv
  refine H1.out.mono ?_
  rintro e w2 ⟨rfl, h⟩
  clear H1
  have H2 := Go.Lib.hid (show Calls _ _ _ _ (KPost wk s (.int .i64 1) (bk2 nm)) from (back_2 nm Hn.out) ▸ old_k h nm Hsz.out)
  clear h
  unfold ptr at H2
  go_wp2_with fail
  refine (N.out _ _).mono ?_
  rintro e wn ⟨rfl, he⟩
  obtain rfl := he.symm
  go_wp2_with fail
  refine H2.out.mono ?_
  rintro e w3 ⟨rfl, h⟩
  clear H2
  have H3 := Go.Lib.hid (show Calls _ _ _ _ (KPost wk s (.int .i64 2) (bk3 nm [])) from (back_3 nm Hn.out) ▸ fresh_k h nm Hsz.out)
  clear h
  unfold ptr at H3
  go_wp2_with fail
  refine H3.out.mono ?_
  rintro e w4 ⟨rfl, h⟩
  clear H3
  go_wp2_with fail
  go_loopw [11] (fun i wr => BR1 wk nm s l i wr) (fun i _ => l.length - (intOf i).toNat)
  case atStart => exact ⟨0, Nat.zero_le _, rfl, h⟩
  case round =>
    clear h
    obtain ⟨k, hk, rfl, h⟩ := hrel
    by_cases hlt : k < l.length
    · obtain ⟨ad, rfl, hld⟩ := (Hcl.out.chg h.chg (fun _ _ => id)).head hlt
      have HR := Go.Lib.hid (show Calls _ _ _ _ (KPost wk s (.int .i64 0) (bk3 nm (l.take (k + 1)))) from List.take_succ_eq_append_getElem hlt ▸ (back_4 nm (l.take k) [l[k]] (by rw [List.length_take]; have := HL.out; omega) (by decide : 1 ≤ 4)) ▸ write_k h 2 l[k])
      clear h
      unfold ptr at HR
      go_wp2_with fail
      refine HR.out.mono ?_
      rintro e wx ⟨rfl, h⟩
      clear HR
      go_wp2_with fail
      refine (N.out _ _).mono ?_
      rintro e wn ⟨rfl, he⟩
      obtain rfl := he.symm
      go_wp2_with fail
      go_roundw
      case rel => exact ⟨k + 1, by omega, by go_num, h⟩
      case measure => simp [intOf]; omega
    · obtain rfl : k = l.length := by omega
      rw [List.take_length] at h
      go_wp2_with fail
      go_loopw [12] (fun i wr => BR2 wk nm s l ws i wr) (fun i _ => ws.length - (intOf i).toNat)
      case atStart => exact ⟨0, Nat.zero_le _, rfl, by rw [List.take_zero, show flatW [] = [] from rfl, List.append_nil]; exact h⟩
      case round =>
        clear h
        obtain ⟨k, hk, rfl, h⟩ := hrel
        by_cases hlt : k < ws.length
        · obtain ⟨ad, rfl, hld⟩ := (Hcw.out.chg h.chg (fun _ _ => id)).headW hlt
          have HR := Go.Lib.hid (show Calls _ _ _ _ (KPost wk s (.int .i64 0) (bk3 nm (l ++ flatW (ws.take (k + 1))))) from flatW_step ws k hlt ▸ List.append_assoc l _ _ ▸ (back_4 nm (l ++ flatW (ws.take k)) (bytesOfWord ws[k]) (by rw [List.length_append, flatW_length, List.length_take]; have := HL.out; have := HM.out; omega) (Nat.le_refl 4)) ▸ writeWord_k h 2 ws[k] (Hw.out _ (List.getElem_mem hlt)))
          clear h
          unfold ptr at HR
          go_wp2_with fail
          refine HR.out.mono ?_
          rintro e wx ⟨rfl, h⟩
          clear HR
          go_wp2_with fail
          refine (N.out _ _).mono ?_
          rintro e wn ⟨rfl, he⟩
          obtain rfl := he.symm
          go_wp2_with fail
          go_roundw
          case rel => exact ⟨k + 1, by omega, by go_num, h⟩
          case measure => simp [intOf]; omega
        · obtain rfl : k = ws.length := by omega
          rw [List.take_length] at h
          obtain ⟨Y, HY⟩ : ∃ Y, Hid (l ++ flatW ws = Y) := ⟨_, Go.Lib.hid rfl⟩
          rw [HY.out] at h
          have HYn := Go.Lib.hid (show (Y.length : Int) = l.length + 4 * ws.length by rw [← HY.out, List.length_append, flatW_length]; omega)
          have HG1 := Go.Lib.hid (show Calls _ _ _ _ (KGet wk wr s _ elder) from get_k h (nm := nm) (n := 0) Hsz.out Hn.out (by simp [bk3, lookD, nm_self]))
          clear h
          unfold ptr at HG1
          go_wp2_with fail
          refine HG1.out.mono ?_
          rintro e g1 ⟨A1, c1, rfl, _, hc1, h, _⟩
          clear HG1
          have HT := run_text rfl (c := c1) hc1
          rw [show (⟨elder.toArray⟩ : ByteArray) = ⟨#[101, 108, 100, 101, 114]⟩ from rfl] at HT
          clear hc1
          have H4 := Go.Lib.hid (show Calls _ _ _ _ (KPost wk s (.int .i64 0) (bk4 nm Y)) from (back_6 nm Y) ▸ register_k h 2)
          clear h
          unfold ptr at H4
          go_wp2_with fail
          refine (N.out _ _).mono ?_
          rintro e wn ⟨rfl, he⟩
          obtain rfl := he.symm
          go_wp2_with fail
          refine H4.out.mono ?_
          rintro e w5 ⟨rfl, h⟩
          clear H4
          clear HT
          go_wp2_with fail
          refine (N.out _ _).mono ?_
          rintro e wn ⟨rfl, he⟩
          obtain rfl := he.symm
          go_wp2_with fail
          have H5 := Go.Lib.hid (show Calls _ _ _ _ (KPost wk s (.int .i64 ((l.length : Int) + 4 * ws.length)) (bk4 nm Y)) from HYn.out ▸ (back_7 nm Y).symm ▸ length_k h 2)
          clear h
          unfold ptr at H5
          refine H5.out.mono ?_
          rintro e w6 ⟨rfl, h⟩
          clear H5
          have H6 := Go.Lib.hid (show Calls _ _ _ _ (KPost wk s (.bool true) (bk4 nm Y)) from (back_8 nm Y) ▸ eof_k h 2)
          clear h
          unfold ptr at H6
          go_wp2_with fail
          refine H6.out.mono ?_
          rintro e w7 ⟨rfl, h⟩
          clear H6
          have H7 := Go.Lib.hid (show Calls _ _ _ _ (KPost wk s (.int .i64 3) (bk5 nm Y)) from (back_9 nm Y Hn.out) ▸ old_k h nm Hsz.out)
          clear h
          unfold ptr at H7
          go_wp2_with fail
          refine H7.out.mono ?_
          rintro e w8 ⟨rfl, h⟩
          clear H7
          have H8 := Go.Lib.hid (show Calls _ _ _ _ (KPost wk s (.tuple #[]) (bk6 nm Y 0 Y.length 0)) from (back_10 nm Y) ▸ delete_k h nm)
          clear h
          unfold ptr at H8
          go_wp2_with fail
          refine H8.out.mono ?_
          rintro e w9 ⟨rfl, h⟩
          clear H8
          have H9 := Go.Lib.hid (show Calls _ _ _ _ (KPost wk s (.tuple #[.slice none 0 0, .int .i64 6]) (bk6 nm Y 0 Y.length 0)) from getno_k h Hsz.out 6 (.inr ⟨Hn.out, rfl, rfl⟩))
          clear h
          unfold ptr at H9
          go_wp2_with fail
          refine H9.out.mono ?_
          rintro e w10 ⟨rfl, h⟩
          clear H9
          go_wp2_with fail
          refine (N.out _ _).mono ?_
          rintro e wn ⟨rfl, he⟩
          obtain rfl := he.symm
          go_wp2_with fail
          have H10 := Go.Lib.hid (show Calls _ _ _ _ (KPost wk s (.int .i64 0) (bk6 nm Y 0 Y.length 0)) from (back_12 nm Y _ _ _ Hn.out) ▸ old_k h nm Hsz.out)
          clear h
          unfold ptr at H10
          refine H10.out.mono ?_
          rintro e w11 ⟨rfl, h⟩
          clear H10
          have H11 := Go.Lib.hid (show Calls _ _ _ _ (KPost wk s (.int .i64 5) (bk6 nm Y 0 Y.length 0)) from (back_13 nm Y _ _ _) ▸ length_k h 1)
          clear h
          unfold ptr at H11
          go_wp2_with fail
          refine H11.out.mono ?_
          rintro e w12 ⟨rfl, h⟩
          clear H11
          have H12 := Go.Lib.hid (show Calls _ _ _ _ (KPost wk s (.int .u8 101) (bk6 nm Y 1 Y.length 0)) from (back_14 nm Y _ _) ▸ read_k h 1)
          clear h
          unfold ptr at H12
          go_wp2_with fail
          refine H12.out.mono ?_
          rintro e w13 ⟨rfl, h⟩
          clear H12
          have H13 := Go.Lib.hid (show Calls _ _ _ _ (KPost wk s (.tuple #[]) (bk6 nm Y 1 0 0)) from (back_15 nm Y _ _ _) ▸ seek_k h 2 0 (by decide))
          clear h
          unfold ptr at H13
          go_wp2_with fail
          refine H13.out.mono ?_
          rintro e w14 ⟨rfl, h⟩
          clear H13
          go_wp2_with fail
          have HYl := Go.Lib.hid (show ∀ k (hk : k < l.length), Y[k]? = some l[k] from fun k hk => by rw [← HY.out, List.getElem?_append_left hk, List.getElem?_eq_getElem hk])
          have HYw := Go.Lib.hid (show ∀ i (hi : i < ws.length) j, j < 4 → Y[l.length + 4 * i + j]? = (bytesOfWord ws[i])[j]? from fun i hi j hj => by rw [← HY.out, List.getElem?_append_right (by omega), show l.length + 4 * i + j - l.length = 4 * i + j by omega]; exact flatW_get ws i j hi hj)
          go_loopw [18] (fun i wr => BR3 wk nm s Y l i wr) (fun i _ => l.length - (intOf i).toNat)
          case atStart => exact ⟨0, Nat.zero_le _, rfl, h⟩
          case round =>
            clear h
            obtain ⟨k, hk, rfl, h⟩ := hrel
            by_cases hlt : k < l.length
            · obtain ⟨ad, hA, _⟩ := (Hcl.out.chg h.chg (fun _ _ => id)).head hlt
              subst hA
              have Hld := Go.Lib.hid (show ∀ W, Chg NoB wk W → W.cell? (ad.add k) = some (.int .u8 l[k].toNat) from fun W hW => by
                obtain ⟨_, e1, e2⟩ := (Hcl.out.chg hW (fun _ _ => id)).head hlt
                injection e1 with e1
                rw [e1]
                exact e2)
              have Hx := Go.Lib.hid (HYl.out k hlt)
              have Hb := Go.Lib.hid (show k < Y.length by have := HYn.out; omega)
              have H := Go.Lib.hid (h.quiet ((Chg.refl _ _).drew))
              have hlk : (k : Int) < l.length := by omega
              clear h
              go_wp2_with fail
              set_option maxRecDepth 100000 in
              go_region_held3 (fun w' => w'.cell? (ad.add k) = some (.int .u8 l[k].toNat))
                (first
                  | exact Hld.out _ h6.chg
                  | exact Hld.out _ h5.chg
                  | exact Hld.out _ h4.chg
                  | exact Hld.out _ H.out.chg)
                (first
                  | (go_at_call 25; refine (back_e H.out Hb.out).mono ?_; rintro e w4 ⟨rfl, h4⟩)
                  | (go_at_call 19; refine (back_r2 h5 _ Hx.out).mono ?_; rintro e w6 ⟨rfl, h6⟩)
                  | (go_at_call 19; refine (back_r3 h4 _ Hx.out).mono ?_; rintro e w5 ⟨rfl, h5⟩))
              go_wp2_with fail
              go_roundw
              case rel => exact ⟨k + 1, by omega, by go_num, h6⟩
              case measure => simp [intOf]; omega
            · obtain rfl : k = l.length := by omega
              go_wp2_with fail
              go_loopw [19] (fun i wr => BR4 wk nm s Y l ws i wr) (fun i _ => ws.length - (intOf i).toNat)
              case atStart => exact ⟨0, Nat.zero_le _, rfl, h⟩
              case round =>
                clear h
                obtain ⟨k, hk, rfl, h⟩ := hrel
                by_cases hlt : k < ws.length
                · obtain ⟨ad, hA, _⟩ := (Hcw.out.chg h.chg (fun _ _ => id)).headW hlt
                  subst hA
                  have Hld := Go.Lib.hid (show ∀ W, Chg NoB wk W → W.cell? (ad.add k) = some (.int .u32 ws[k]) from fun W hW => by
                    obtain ⟨_, e1, e2⟩ := (Hcw.out.chg hW (fun _ _ => id)).headW hlt
                    injection e1 with e1
                    rw [e1]
                    exact e2)
                  have Hx := Go.Lib.hid (HYw.out k hlt)
                  have Hv := Go.Lib.hid (Hw.out _ (List.getElem_mem hlt))
                  have Hb := Go.Lib.hid (show l.length + 4 * k < Y.length by have := HYn.out; omega)
                  have H := Go.Lib.hid (h.quiet ((Chg.refl _ _).drew))
                  have hlk : (k : Int) < ws.length := by omega
                  clear h
                  go_wp2_with fail
                  set_option maxRecDepth 100000 in
                  go_region_held3 (fun w' => w'.cell? (ad.add k) = some (.int .u32 ws[k]))
                    (first
                      | exact Hld.out _ h5.chg
                      | exact Hld.out _ h4.chg
                      | exact Hld.out _ H.out.chg)
                    (first
                      | (go_at_call 25; refine (back_e H.out Hb.out).mono ?_; rintro e w4 ⟨rfl, h4⟩)
                      | (go_at_call 21; refine (back_w h4 _ Hv.out Hx.out).mono ?_; rintro e w5 ⟨rfl, h5⟩))
                  go_wp2_with fail
                  go_roundw
                  case rel => exact ⟨k + 1, by omega, by go_num, h5⟩
                  case measure => simp [intOf]; omega
                · obtain rfl : k = ws.length := by omega
                  have Hy := Go.Lib.hid (show l.length + 4 * ws.length = Y.length by have := HYn.out; omega)
                  have H14 := Go.Lib.hid (show Calls _ _ _ _ (KPost wk s (.bool true) (bk6 nm Y 1 l.length (l.length + 4 * ws.length))) from (back_16' nm Y l.length _ 1 Hy.out) ▸ eof_k h 3)
                  clear h
                  unfold ptr at H14
                  go_wp2_with fail
                  refine H14.out.mono ?_
                  rintro e w15 ⟨rfl, h⟩
                  clear H14
                  have H15 := Go.Lib.hid (show Calls _ _ _ _ (KPost wk s (.int .u8 0) (bk6 nm Y 1 l.length (l.length + 4 * ws.length))) from (back_17' nm Y l.length _ 1 Hy.out) ▸ read_k h 3)
                  clear h
                  unfold ptr at H15
                  go_wp2_with fail
                  refine H15.out.mono ?_
                  rintro e w16 ⟨rfl, h⟩
                  clear H15
                  have H16 := Go.Lib.hid (show Calls _ _ _ _ (KPost wk s (.int .i64 ((l.length : Int) + 4 * ws.length)) (bk6 nm Y 1 l.length (l.length + 4 * ws.length))) from (show ((l.length + 4 * ws.length : Nat) : Int) = (l.length : Int) + 4 * ws.length by omega) ▸ (back_21 nm Y l.length _ 1).symm ▸ at_k h 3)
                  clear h
                  unfold ptr at H16
                  go_wp2_with fail
                  refine H16.out.mono ?_
                  rintro e w17 ⟨rfl, h⟩
                  clear H16
                  have HF := Go.Lib.hid (HK.out.trans h.chg)
                  clear h
                  go_wp2_with fail
                  go_ret
                  exact ⟨rfl, HF.out⟩
end Go.Proofs.Ytebcomijknffmaa
