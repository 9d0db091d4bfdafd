/- What is proved: word.Of tells the words of bytes. Conditions: the memory holds the bytes. -/
import Derived.Test.YteleglkoagnmcaaLkV
set_option linter.unusedSimpArgs false
set_option linter.unusedVariables false
namespace Go.Proofs.Yteleglkoagnmcaa
open Go Go.RowKit
/-- words that are being built; all that was stands -/
structure BW (B w : World) (l : List Nat) (v : Value) : Prop where
  row : w.ownsRow B.heap.size U32T 1 v l.length (codeCells l)
  chg : Chg NoB B w
theorem codeCells_app (l m : List Nat) : codeCells (l ++ m) = codeCells l ++ codeCells m := by simp [codeCells]
theorem cc_len1 (l : List Nat) : (codeCells l).length = l.length * 1 := by simp [codeCells]
theorem cc_one (l : List Nat) : ∀ u ∈ codeCells l, u.oneCell' = true := by
  intro u hu
  obtain ⟨x, _, rfl⟩ := List.mem_map.1 hu
  rfl
section
variable {B w w1 : World} {l m : List Nat} {v v1 : Value}
theorem BW.quiet (h : BW B w l v) (hc : Chg NoB w w1) : BW B w1 l v := ⟨own_chg h.row hc fun _ _ => id, h.chg.trans hc⟩
theorem BW.app {news : List Value} (h : BW B w l v) (own : w1.ownsRow B.heap.size U32T 1 v1 (l.length + m.length) (codeCells l ++ news)) (gr : w.grownBy w1 v.ownBlock) (hn : news = codeCells m) : BW B w1 (l ++ m) v1 where
  row := by
    rw [List.length_append, codeCells_app, ← hn]
    exact own
  chg := h.chg.grown gr fun k hk hlt => by
    have := own_at_ h.row hk
    omega
end
theorem word4w (a b c d : Nat) (h0 : a < 256) (h1 : b < 256) (h2 : c < 256) (h3 : d < 256) : bits .or .u32 (bits .or .u32 (bits .or .u32 (a : Int) ((b : Int) * 256)) ((c : Int) * 65536)) ((d : Int) * 16777216) = ((a + 256 * b + 65536 * c + 16777216 * d : Nat) : Int) := by
  have h := wordN4 a b c d h0 h1 h2 h3
  have e0 : bits .or .u32 0 (a : Int) = (a : Int) := by
    have := u32_or_nat 0 a (by omega) (by omega)
    simpa using this
  rw [e0] at h
  rw [h]
  omega
/-- words that a call tells -/
def WPost (m : List Nat) (W : World) (e : Ending) (w' : World) : Prop := ∃ A c, e = .returned (.tuple #[.slice A m.length c, .int .i64 0]) ∧ CellsAt w' A (codeCells m) ∧ (∀ ad, A = some ad → W.heap.size ≤ ad.block) ∧ Chg NoB W w'
theorem wordsOf_cons4 (a b c d : UInt8) (r : List UInt8) : wordsOf (a :: b :: c :: d :: r) = (a.toNat + 256 * b.toNat + 65536 * c.toNat + 16777216 * d.toNat) :: wordsOf r := rfl
theorem cells4 {w : World} {A : Option Addr} {a b c d : UInt8} {r : List UInt8} (h : CellsAt w A (bv (a :: b :: c :: d :: r))) (hs : ∀ ad, A = some ad → ad.spot = none) : ∃ g o, A = some ⟨g, o, none⟩ ∧ ∀ W', Chg NoB w W' → W'.cell? ⟨g, o, none⟩ = some (.int .u8 a.toNat) ∧ W'.cell? ⟨g, o + 1, none⟩ = some (.int .u8 b.toNat) ∧ W'.cell? ⟨g, o + 2, none⟩ = some (.int .u8 c.toNat) ∧ W'.cell? ⟨g, o + 3, none⟩ = some (.int .u8 d.toNat) := by
  obtain ⟨g, o, h1, h2⟩ := h.flat (by simp [bv])
  exact ⟨g, o, h1, fun W' hW => ⟨keepQ hW (h2 0 _ rfl), keepQ hW (h2 1 _ rfl), keepQ hW (h2 2 _ rfl), keepQ hW (h2 3 _ rfl)⟩⟩
theorem drop4 {w : World} {g o : Nat} {a b c d : UInt8} {r : List UInt8} (h : CellsAt w (some ⟨g, o, none⟩) (bv (a :: b :: c :: d :: r))) : CellsAt w (some ⟨g, o + 4, none⟩) (bv r) := by
  have := CellsAt.drop_ h (by intro ad ha; injection ha with ha; rw [← ha]) 4
  simp only [Option.map_some, add_none] at this
  exact this
def lenV : Value → Nat
  | .slice _ n _ => n
  | _ => 0
set_option maxRecDepth 100000 in
set_option maxHeartbeats 16000000 in
theorem wordOf_c {W : World} {A0 : Option Addr} {c0 : Nat} {l : List UInt8} (hrow : CellsAt W A0 (bv l)) (h4 : l.length % 4 = 0) (hl : l.length ≤ 8192) (hc0 : l.length ≤ c0 ∧ c0 ≤ maxLen) : Calls Try.prog 65 #[.slice A0 l.length c0] W (WPost (wordsOf l) W) := by
  have hw0 : Chg NoB W W := Chg.refl _ _
  have hs : l ≠ [] → ∀ ad, A0 = some ad → ad.spot = none := fun hne ad ha => by
    obtain ⟨g, o, h1, _⟩ := hrow.flat (by
      have : 0 < l.length := List.length_pos_iff.2 hne
      simpa [bv] using this)
    rw [h1] at ha
    injection ha with ha
    rw [← ha]
  obtain ⟨i0, hi0, hz0, hz1, hz2⟩ := info_parts u32info
  have Hi := Go.Lib.hid (And.intro hi0 (And.intro hz0 (And.intro hz1 hz2)))
  have hrem : ((l.length : Int)).tmod 4 = 0 := by rw [Int.tmod_eq_emod_of_nonneg (by omega)]; omega
  have HR := Go.Lib.hid (And.intro hrow (And.intro hs (And.intro h4 hc0)))
  obtain ⟨n, hn⟩ : ∃ n, l.length = n := ⟨_, rfl⟩
  rw [hn] at hrem hl ⊢
  have HN := Go.Lib.hid hn
  have hrem2 : decide ((n : Int).tmod 4 = 0) = true := by simp [hrem]
  have hrem3 : ((n : Int) % 4) = 0 := by omega
  clear hrow hs h4 hc0 hw0 hi0 hz0 hz1 hz2 hn
  go_enter Try.func65, Try.ntmps65
  go_wp2_with fail
  go_loopw [0, 4] (fun v0 v4 wr => ∃ (r : List UInt8) (A : Option Addr) (c : Nat) (ws : List Nat), v0 = .slice A r.length c ∧ wordsOf l = ws ++ wordsOf r ∧ r.length % 4 = 0 ∧ 4 * ws.length + r.length = n ∧ (r.length ≤ c ∧ c ≤ maxLen) ∧ CellsAt W A (bv r) ∧ (r ≠ [] → ∀ ad, A = some ad → ad.spot = none) ∧ BW W wr ws v4) (fun v0 _ _ => lenV v0)
  case atStart => exact ⟨l, A0, c0, [], by rw [HN.out], rfl, HR.out.2.2.1, by rw [HN.out]; simp, HR.out.2.2.2, HR.out.1, HR.out.2.1, ⟨World.ownsRow_nil _ _ _ _, Chg.refl _ _⟩⟩
  case round =>
    obtain ⟨r, A, c, ws, rfl, hT, hr4, hlw, hrc, hcl, hsp, hb⟩ := hrel
    have HB1 := Go.Lib.hid hb
    match r, hT, hr4, hlw, hrc, hcl with
    | [], hT, hr4, hlw, hrc, hcl =>
      have HT : Hid (wordsOf l = ws) := Go.Lib.hid (by rw [hT]; simp [wordsOf])
      clear hT hr4 hlw hrc hcl hsp hb
      simp only [List.length_nil]
      go_wp2_with fail
      obtain ⟨Ar, cr, rfl⟩ := own_slice HB1.out.row
      refine bodyPost_ret (results_tmp2 rfl _ _ _) rfl ?_
      rw [HT.out]
      exact ⟨Ar, cr, rfl, own_cells_ HB1.out.row, fun ad ha => own_at_ HB1.out.row (by rw [ha]; rfl), HB1.out.chg⟩
    | [_], _, hr4, _, _, _ => simp at hr4
    | [_, _], _, hr4, _, _, _ => simp at hr4
    | [_, _, _], _, hr4, _, _, _ => simp at hr4
    | ca :: cb :: cc :: cd :: r, hT, hr4, hlw, hrc, hcl =>
      obtain ⟨g, o, rfl, hy⟩ := cells4 hcl (hsp (by simp))
      have HDR := Go.Lib.hid (drop4 hcl)
      have hr4b : r.length % 4 = 0 := by simp only [List.length_cons] at hr4; omega
      have HR4 := Go.Lib.hid hr4b
      simp only [List.length_cons] at hlw hrc ⊢
      have HLW : Hid (4 * ws.length + (r.length + 1 + 1 + 1 + 1) = n ∧ ws.length ≤ 8192) := Go.Lib.hid ⟨hlw, by omega⟩
      have HRC : Hid (r.length + 1 + 1 + 1 + 1 ≤ c ∧ c ≤ maxLen) := Go.Lib.hid hrc
      have HT : Hid (wordsOf l = ws ++ (ca.toNat + 256 * cb.toNat + 65536 * cc.toNat + 16777216 * cd.toNat) :: wordsOf r) := Go.Lib.hid (by rw [hT, wordsOf_cons4])
      have hb0 := ca.toNat_lt
      have hb1 := cb.toNat_lt
      have hb2 := cc.toNat_lt
      have hb3 := cd.toNat_lt
      have HW4 := Go.Lib.hid (word4w _ _ _ _ hb0 hb1 hb2 hb3)
      generalize ca.toNat = na at *
      generalize cb.toNat = nb at *
      generalize cc.toNat = nc at *
      generalize cd.toNat = nd at *
      have HY := Go.Lib.hid hy
      obtain ⟨X, hX⟩ : ∃ X, na + 256 * nb + 65536 * nc + 16777216 * nd = X := ⟨_, rfl⟩
      rw [hX] at HW4 HT
      clear hT hr4 hr4b hlw hcl hsp hb hy hX
      unfold maxLen at hrc
      obtain ⟨m, hm⟩ : ∃ m, r.length + 1 + 1 + 1 + 1 = m := ⟨_, rfl⟩
      rw [hm] at HLW HRC hrc ⊢
      have hm4 : 4 ≤ m := by omega
      have HM := Go.Lib.hid hm
      clear hm
      go_wp2_with fail
      refine regionT 25 (fun V' => Chg NoB W V') (by kernel_rfl) (by decide) ((HB1.out.quiet (Chg.refl NoB _).drew).chg) (fun inv hHeld => ?_)
      have HB1 := Go.Lib.hid (HB1.out.quiet (Chg.refl NoB _).drew)
      refine tkT 0 14 ?v1478 inv hHeld ?h1478 ?_
      case h1478 => (intro V' hSw; obtain ⟨y0, y1, y2, y3⟩ := HY.out V' hSw; clear hSw; have i1 : (1 : Int) < (m : Int) := (by omega); have i2 : (2 : Int) < (m : Int) := (by omega); have i3 : (3 : Int) < (m : Int) := (by omega); go_simp; try with_reducible rfl)
      clear inv; intro inv; try simp only [sw1, sw2, sw3]
      refine tkT 1 15 ?v1479 inv hHeld ?h1479 ?_
      case h1479 => (intro V' hSw; obtain ⟨y0, y1, y2, y3⟩ := HY.out V' hSw; clear hSw; have i1 : (1 : Int) < (m : Int) := (by omega); have i2 : (2 : Int) < (m : Int) := (by omega); have i3 : (3 : Int) < (m : Int) := (by omega); go_simp; try with_reducible rfl)
      clear inv; intro inv; try simp only [sw1, sw2, sw3]
      refine tkT 2 16 ?v1480 inv hHeld ?h1480 ?_
      case h1480 => (intro V' hSw; obtain ⟨y0, y1, y2, y3⟩ := HY.out V' hSw; clear hSw; have i1 : (1 : Int) < (m : Int) := (by omega); have i2 : (2 : Int) < (m : Int) := (by omega); have i3 : (3 : Int) < (m : Int) := (by omega); go_simp; try with_reducible rfl)
      clear inv; intro inv; try simp only [sw1, sw2, sw3]
      refine tkT 3 17 ?v1481 inv hHeld ?h1481 ?_
      case h1481 => (intro V' hSw; obtain ⟨y0, y1, y2, y3⟩ := HY.out V' hSw; clear hSw; have i1 : (1 : Int) < (m : Int) := (by omega); have i2 : (2 : Int) < (m : Int) := (by omega); have i3 : (3 : Int) < (m : Int) := (by omega); go_simp; try with_reducible rfl)
      clear inv; intro inv; try simp only [sw1, sw2, sw3]
      refine tkT 4 18 (.int .u32 (na : Int)) inv hHeld ?h1482 ?_
      case h1482 => (intro V' hSw; clear hSw; go_simp; first | done | with_reducible rfl | exact Int.emod_eq_of_lt (b := 4294967296) (by omega) (by omega))
      clear inv; intro inv; try simp only [sw1, sw2, sw3]
      refine tkT 5 19 ?v1483 inv hHeld ?h1483 ?_
      case h1483 => (intro V' hSw; obtain ⟨y0, y1, y2, y3⟩ := HY.out V' hSw; clear hSw; have i1 : (1 : Int) < (m : Int) := (by omega); have i2 : (2 : Int) < (m : Int) := (by omega); have i3 : (3 : Int) < (m : Int) := (by omega); go_simp; try with_reducible rfl)
      clear inv; intro inv; try simp only [sw1, sw2, sw3]
      refine tkT 6 20 ?v1484 inv hHeld ?h1484 ?_
      case h1484 => (intro V' hSw; obtain ⟨y0, y1, y2, y3⟩ := HY.out V' hSw; clear hSw; have i1 : (1 : Int) < (m : Int) := (by omega); have i2 : (2 : Int) < (m : Int) := (by omega); have i3 : (3 : Int) < (m : Int) := (by omega); go_simp; try with_reducible rfl)
      clear inv; intro inv; try simp only [sw1, sw2, sw3]
      refine tkT 7 21 ?v1485 inv hHeld ?h1485 ?_
      case h1485 => (intro V' hSw; obtain ⟨y0, y1, y2, y3⟩ := HY.out V' hSw; clear hSw; have i1 : (1 : Int) < (m : Int) := (by omega); have i2 : (2 : Int) < (m : Int) := (by omega); have i3 : (3 : Int) < (m : Int) := (by omega); go_simp; try with_reducible rfl)
      clear inv; intro inv; try simp only [sw1, sw2, sw3]
      refine tkT 8 22 (.int .u32 (nb : Int)) inv hHeld ?h1486 ?_
      case h1486 => (intro V' hSw; clear hSw; go_simp; first | done | with_reducible rfl | exact Int.emod_eq_of_lt (b := 4294967296) (by omega) (by omega))
      clear inv; intro inv; try simp only [sw1, sw2, sw3]
      refine tkT 9 23 (.int .u32 ((nb : Int) * 256)) inv hHeld ?h1487 ?_
      case h1487 => (intro V' hSw; clear hSw; go_simp; first | done | with_reducible rfl | exact Int.emod_eq_of_lt (b := 4294967296) (by omega) (by omega))
      clear inv; intro inv; try simp only [sw1, sw2, sw3]
      refine tkT 10 24 (.int .u32 (bits .or .u32 (na : Int) ((nb : Int) * 256))) inv hHeld ?h1488 ?_
      case h1488 => (intro V' hSw; clear hSw; go_simp; first | done | with_reducible rfl | exact Int.emod_eq_of_lt (b := 4294967296) (by omega) (by omega))
      clear inv; intro inv; try simp only [sw1, sw2, sw3]
      refine tkT 11 25 ?v1489 inv hHeld ?h1489 ?_
      case h1489 => (intro V' hSw; obtain ⟨y0, y1, y2, y3⟩ := HY.out V' hSw; clear hSw; have i1 : (1 : Int) < (m : Int) := (by omega); have i2 : (2 : Int) < (m : Int) := (by omega); have i3 : (3 : Int) < (m : Int) := (by omega); go_simp; try with_reducible rfl)
      clear inv; intro inv; try simp only [sw1, sw2, sw3]
      refine tkT 12 26 ?v1490 inv hHeld ?h1490 ?_
      case h1490 => (intro V' hSw; obtain ⟨y0, y1, y2, y3⟩ := HY.out V' hSw; clear hSw; have i1 : (1 : Int) < (m : Int) := (by omega); have i2 : (2 : Int) < (m : Int) := (by omega); have i3 : (3 : Int) < (m : Int) := (by omega); go_simp; try with_reducible rfl)
      clear inv; intro inv; try simp only [sw1, sw2, sw3]
      refine tkT 13 27 ?v1491 inv hHeld ?h1491 ?_
      case h1491 => (intro V' hSw; obtain ⟨y0, y1, y2, y3⟩ := HY.out V' hSw; clear hSw; have i1 : (1 : Int) < (m : Int) := (by omega); have i2 : (2 : Int) < (m : Int) := (by omega); have i3 : (3 : Int) < (m : Int) := (by omega); go_simp; try with_reducible rfl)
      clear inv; intro inv; try simp only [sw1, sw2, sw3]
      refine tkT 14 28 (.int .u32 (nc : Int)) inv hHeld ?h1492 ?_
      case h1492 => (intro V' hSw; clear hSw; go_simp; first | done | with_reducible rfl | exact Int.emod_eq_of_lt (b := 4294967296) (by omega) (by omega))
      clear inv; intro inv; try simp only [sw1, sw2, sw3]
      refine tkT 15 29 (.int .u32 ((nc : Int) * 65536)) inv hHeld ?h1493 ?_
      case h1493 => (intro V' hSw; clear hSw; go_simp; first | done | with_reducible rfl | exact Int.emod_eq_of_lt (b := 4294967296) (by omega) (by omega))
      clear inv; intro inv; try simp only [sw1, sw2, sw3]
      refine tkT 16 30 (.int .u32 (bits .or .u32 (bits .or .u32 (na : Int) ((nb : Int) * 256)) ((nc : Int) * 65536))) inv hHeld ?h1494 ?_
      case h1494 => (intro V' hSw; clear hSw; go_simp; first | done | with_reducible rfl | exact Int.emod_eq_of_lt (b := 4294967296) (by omega) (by omega))
      clear inv; intro inv; try simp only [sw1, sw2, sw3]
      refine tkT 17 31 ?v1495 inv hHeld ?h1495 ?_
      case h1495 => (intro V' hSw; obtain ⟨y0, y1, y2, y3⟩ := HY.out V' hSw; clear hSw; have i1 : (1 : Int) < (m : Int) := (by omega); have i2 : (2 : Int) < (m : Int) := (by omega); have i3 : (3 : Int) < (m : Int) := (by omega); go_simp; try with_reducible rfl)
      clear inv; intro inv; try simp only [sw1, sw2, sw3]
      refine tkT 18 32 ?v1496 inv hHeld ?h1496 ?_
      case h1496 => (intro V' hSw; obtain ⟨y0, y1, y2, y3⟩ := HY.out V' hSw; clear hSw; have i1 : (1 : Int) < (m : Int) := (by omega); have i2 : (2 : Int) < (m : Int) := (by omega); have i3 : (3 : Int) < (m : Int) := (by omega); go_simp; try with_reducible rfl)
      clear inv; intro inv; try simp only [sw1, sw2, sw3]
      refine tkT 19 33 ?v1497 inv hHeld ?h1497 ?_
      case h1497 => (intro V' hSw; obtain ⟨y0, y1, y2, y3⟩ := HY.out V' hSw; clear hSw; have i1 : (1 : Int) < (m : Int) := (by omega); have i2 : (2 : Int) < (m : Int) := (by omega); have i3 : (3 : Int) < (m : Int) := (by omega); go_simp; try with_reducible rfl)
      clear inv; intro inv; try simp only [sw1, sw2, sw3]
      refine tkT 20 34 (.int .u32 (nd : Int)) inv hHeld ?h1498 ?_
      case h1498 => (intro V' hSw; clear hSw; go_simp; first | done | with_reducible rfl | exact Int.emod_eq_of_lt (b := 4294967296) (by omega) (by omega))
      clear inv; intro inv; try simp only [sw1, sw2, sw3]
      refine tkT 21 35 (.int .u32 ((nd : Int) * 16777216)) inv hHeld ?h1499 ?_
      case h1499 => (intro V' hSw; clear hSw; go_simp; first | done | with_reducible rfl | exact Int.emod_eq_of_lt (b := 4294967296) (by omega) (by omega))
      clear inv; intro inv; try simp only [sw1, sw2, sw3]
      refine tkT 22 36 (.int .u32 ((X : Nat) : Int)) inv hHeld ?h1500 ?_
      case h1500 => (intro V' hSw; clear hSw; have e := HW4.out; go_simp; first | done | exact e)
      clear inv; intro inv; try simp only [sw1, sw2, sw3]
      refine valT (i := 23) (t := 37) (v := .slice (some ⟨(World.heap wr.drew).size, 0, none⟩) 1 1) (w' := World.alloc wr.drew (.cells #[.int .u32 ((X : Nat) : Int)] U32T)) rfl (by kernel_rfl) rfl (by rfl) ?hb24 inv (by decide) ((HB1.out.quiet ((Chg.refl NoB _).alloc _)).chg) ?hn24
      case hb24 => (go_simp; try rfl)
      case hn24 =>
        intro inv2 _
        clear inv hHeld
        have inv := inv2
        clear inv2
        have hne24 : ¬ (Value.ownBlock u4 = some (World.heap wr.drew).size) := own_ne HB1.out.row
        have hq := (Chg.refl NoB wr.drew).alloc (.cells #[.int .u32 ((X : Nat) : Int)] U32T)
        have HS3 : Hid (CellsAt (World.alloc wr.drew (.cells #[.int .u32 ((X : Nat) : Int)] U32T)) (some ⟨(World.heap wr.drew).size, 0, none⟩) (codeCells [X])) := Go.Lib.hid (by rw [show codeCells [X] = #[Value.int .u32 ((X : Nat) : Int)].toList from rfl]; exact cells_of_blk (Blk.new wr.drew U32T #[.int .u32 ((X : Nat) : Int)]))
        have HB2 := Go.Lib.hid (HB1.out.quiet hq)
        clear hq
        generalize World.alloc wr.drew (.cells #[.int .u32 ((X : Nat) : Int)] U32T) = wb1 at *
        generalize (World.heap wr.drew).size = gb4 at *
        have hHeld := HB2.out.chg
        try simp only [sw1, sw2, sw3]
        refine wpT (i := 24) rfl (by kernel_rfl) (by rfl) inv (by decide) (fun inv2 => ?_)
        clear inv
        have inv := inv2
        clear inv2
        refine (wp_appD _ 38 rfl (.tmp 14) (.tmp 37) _ rfl W.heap.size U32T i0 (.int .u32 0) 1 4 Try.underlying33 Hi.out.1 Hi.out.2.1 Hi.out.2.2.1 Hi.out.2.2.2 rfl (by decide) u4 (List.length ws) (codeCells ws) (by rfl) HB2.out.row (some ⟨gb4, 0, none⟩) (List.length [X]) 1 (codeCells [X]) (by rfl) (cc_len1 _) HS3.out (cc_one _) (by have := HLW.out; (try simp only [List.length_cons, List.length_nil]); unfold maxLen; omega) (by have := HLW.out; (try simp only [List.length_cons, List.length_nil]); omega) HB2.out.chg.size ?_)
        intro va7 wa5 own2 gr2 _
        have HB6 := Go.Lib.hid (HB2.out.app (m := [X]) own2 gr2 rfl)
        clear own2 gr2
        refine ⟨fun _ => HB6.out.chg, ?_⟩
        clear hHeld
        have hHeld := HB6.out.chg
        try simp only [sw1, sw2, sw3]
        refine lastV (i := 25) (t := 4) (v := va7) (w' := wa5) rfl (by kernel_rfl) rfl (by rfl) ?hx26 (by decide) (by kernel_rfl) ?_
        case hx26 => (go_simp; try with_reducible rfl)
        clear inv hHeld
        try simp only [sw1, sw2, sw3]
        go_wp2_with fail
        go_roundw
        case rel =>
          have hm2 := HM.out
          have hrc2 := HRC.out
          refine ⟨r, if c = 4 then some ⟨g, o, none⟩ else some ⟨g, o + 4, none⟩, c - 4, (ws ++ [X]), ?_, by rw [HT.out]; simp, HR4.out, by have := HLW.out; simp; omega, by omega, ?_, ?_, HB6.out⟩
          · rw [show m - 4 = r.length by omega]
          · by_cases h4 : c = 4
            · have hr0 : r = [] := List.eq_nil_of_length_eq_zero (by omega)
              rw [hr0]
              exact fun h => absurd h (by simp [bv])
            · rw [if_neg h4]
              exact HDR.out
          · intro _ ad ha
            split at ha
            · injection ha with ha; rw [← ha]
            · injection ha with ha; rw [← ha]
        case measure => have := HM.out; simp [lenV]; omega
end Go.Proofs.Yteleglkoagnmcaa
