import Derived.Test.YtggknljlibhkjaaGreatGR2C
set_option linter.unusedSimpArgs false
set_option linter.unusedVariables false
namespace Go.Proofs.YtggknljlibhkjaaGreat
open Go Go.RowKit
def wrK (b : List UInt8) (p : Nat) (l : List UInt8) (i : Nat) : List UInt8 := b.take p ++ l.take i ++ b.drop (p + i)
theorem wrK_len {b : List UInt8} {p : Nat} {l : List UInt8} {i : Nat} (hp : p ≤ b.length) (hi : i ≤ l.length) : (wrK b p l i).length = max b.length (p + i) := by
 simp [wrK]; omega
theorem wrK_zero (b : List UInt8) (p : Nat) (l : List UInt8) : wrK b p l 0 = b := by simp [wrK]
theorem wrK_set {b : List UInt8} {p : Nat} {l : List UInt8} {i : Nat} (hp : p + i < b.length) (hi : i < l.length) : (wrK b p l i).set (p + i) l[i] = wrK b p l (i + 1) := by
 unfold wrK
 have h1 : (b.take p ++ l.take i).length = p + i := by simp; omega
 rw [List.set_append_right _ _ (by omega), h1, Nat.sub_self]
 rw [List.drop_eq_getElem_cons hp, List.set_cons_zero, List.take_succ_eq_append_getElem hi]
 simp only [List.append_assoc, List.cons_append, List.nil_append, Nat.add_assoc]
theorem wrK_app {b : List UInt8} {p : Nat} {l : List UInt8} {i : Nat} (hp : b.length ≤ p + i) (hi : i < l.length) : wrK b p l i ++ [l[i]] = wrK b p l (i + 1) := by
 unfold wrK
 rw [List.take_succ_eq_append_getElem hi, List.drop_eq_nil_of_le hp, List.drop_eq_nil_of_le (by omega)]
 simp
theorem bv_set (l : List UInt8) (i : Nat) (x : UInt8) : (bv l).set i (.int .u8 x.toNat) = bv (l.set i x) := by
 unfold bv; rw [List.map_set]
def writeR (U : V) (f : Int) (l : List UInt8) : Nat × V :=
 match U.rdAt f with
 | none => (0, U)
 | some q => if (q.pos + l.length : Int) - (U.bytes q.n).length > 0 ∧ (q.pos + l.length : Int) - (U.bytes q.n).length > roomI U then (5, U)
  else (0, (U.setFile q.n (wrK (U.bytes q.n) q.pos l l.length)).setPos f (q.pos + l.length))
section
variable {W W' : World} {r : Nat} {U : V} {X F : Nat → Prop} {a : RA}
set_option maxRecDepth 100000 in
set_option maxHeartbeats 4000000 in
theorem rwrite_go (h : RefAt W r U X a) (hX : ∀ k, X k → k < W.heap.size) (hn : U.rd.length < 1000000) (hf : U.F.length < 1000000) {i : Nat} {q : VR} (hq : U.rd[i]? = some q) (hpos : q.pos ≤ (U.bytes q.n).length) (hbl : (U.bytes q.n).length < 1000000000)
  (l : List UInt8) (hl : l.length < 1000000) (B : Option Addr) (c : Nat) (hB : CellsAt W B (bv l))
  (HC : ∀ W', Chg NoB W W' → Calls Tryz.prog 109 #[.pointer (some ⟨r, 0, none⟩)] W' (fun e w' => e = .returned (.int .i64 (roomI U)) ∧ W' = w'))
  (hno : ¬ ((q.pos + l.length : Int) - (U.bytes q.n).length > 0 ∧ (q.pos + l.length : Int) - (U.bytes q.n).length > roomI U)) :
  Calls Tryz.prog 84 #[.pointer (some ⟨r, 0, none⟩), .int .i64 ((i : Int) + 1), .slice B l.length c] W (RPost r X (.int .i64 0) ((U.setFile q.n (wrK (U.bytes q.n) q.pos l l.length)).setPos ((i : Int) + 1) (q.pos + l.length)) W) := by
 have H := Go.Lib.hid h
 have HI := Go.Lib.hid (ris_some h hn hq)
 have hr : U.rdAt ((i : Int) + 1) = some q := by
  rcases rdAt_cases U ((i : Int) + 1) with ⟨j, q', hj, hq', hr⟩ | ⟨hff, _⟩
  ·obtain rfl : i = j := by omega
   rw [hq] at hq'; obtain rfl := Option.some.inj hq'; exact hr
  ·exact absurd ⟨by omega, by have := (List.getElem?_eq_some_iff.1 hq).1; omega⟩ hff
 have hpo : U.posOf ((i : Int) + 1) = q.pos := by unfold V.posOf; rw [hr]
 have hle : U.length ((i : Int) + 1) = (U.bytes q.n).length := by unfold V.length; rw [hr]
 have HA := Go.Lib.hid (fun (W' : World) (hc : Chg NoB W W') => rat_c (h.quiet hc) hn ((i : Int) + 1))
 have HL := Go.Lib.hid (rlen_c h hn ((i : Int) + 1))
 rw [hpo] at HA
 rw [hle] at HL
 obtain ⟨g, cR, hR, k0, _, _⟩ := h.rider hq
 obtain ⟨gF, cF, A, cc, hF, kf, hown⟩ := h.file (h.bytes hq)
 obtain ⟨c0, _, c2, _⟩ := h.cells
 rw [hR] at c2
 rw [hF] at c0
 have hil := (List.getElem?_eq_some_iff.1 hq).1
 have hnl := h.rb q (List.mem_of_getElem? hq)
 have hownF := h.F
 rw [hF] at hownF
 have HCl := Go.Lib.hid (And.intro (cells_ownK hown) (cells_ownK hownF))
 have HBc := Go.Lib.hid hB
 have hone := Go.Lib.hid h.fone
 have hflen := h.flen
 have hrl := h.lt
 obtain ⟨i0, hi0, hz0, hz1, hz2⟩ := info_parts u8info
 have Hi := Go.Lib.hid (And.intro hi0 (And.intro hz0 (And.intro hz1 hz2)))
 obtain ⟨i1, hi0', hz0', hz1', hz2'⟩ := info_parts btinfo
 have Hi1 := Go.Lib.hid (And.intro hi0' (And.intro hz0' (And.intro hz1' hz2')))
 have HCr := Go.Lib.hid HC
 have HPO : Hid (∀ nb, (U.setFile q.n nb).posOf ((i : Int) + 1) = q.pos) := Go.Lib.hid (fun nb => hpo)
 have hsp := setPos_succ (U.setFile q.n (wrK (U.bytes q.n) q.pos l l.length)) i (q.pos + l.length)
 rw [hsp]
 have hblen : (bv (U.bytes q.n)).length = (U.bytes q.n).length := by simp [bv]
 have K := Go.Lib.hid (And.intro c0 (And.intro c2 (And.intro k0 kf)))
 clear h hB HC hr hpo hle hR hF hown hownF hi0 hz0 hz1 hz2 hi0' hz0' hz1' hz2' hsp k0 kf
 by_cases hmr : (U.bytes q.n).length < q.pos + l.length
 ·have gm1 : decide (((U.bytes q.n).length : Int) < (q.pos : Int) + (l.length : Int)) = true := by simp; omega
  have gm2 : decide (roomI U < (q.pos : Int) + (l.length : Int) - ((U.bytes q.n).length : Int)) = false := by simp; omega
  clear hno
  generalize roomI U = ri at *
  go_enter Tryz.func84, Tryz.ntmps84
  go_wp2_with fail
  refine HI.out.mono ?_
  rintro e w1 ⟨rfl, rfl⟩
  go_wp2_with fail
  refine (HA.out _ (Chg.refl _ _)).mono ?_
  rintro e w1 ⟨rfl, rfl⟩
  go_wp2_with fail
  refine HL.out.mono ?_
  rintro e w1 ⟨rfl, hq1⟩
  have HQ1 := Go.Lib.hid hq1
  clear hq1
  go_wp2_with fail
  refine (HCr.out w1 HQ1.out).mono ?_
  rintro e w1' ⟨rfl, rfl⟩
  go_upto_region 6 with fail
  have c0 := cell_q HQ1.out K.out.1
  have c2 := cell_q HQ1.out K.out.2.1
  have k0 := cell_q HQ1.out K.out.2.2.1
  have kf := cell_q HQ1.out K.out.2.2.2
  have HCl1 := Go.Lib.hid (And.intro (HCl.out.1.chg HQ1.out (fun _ _ => id)) (HCl.out.2.chg HQ1.out (fun _ _ => id)))
  go_wp2_with (at_builtin; go_must (refine wpList_appK _ rfl (.const (.slice none 0 0)) (.tmp 49) _ rfl W.heap.size 5 i0 _ 1 1 Tryz.underlying44 Hi.out.1 Hi.out.2.1 Hi.out.2.2.1 Hi.out.2.2.2 rfl (by decide) (.slice none 0 0) 0 [] rfl (World.ownsRow_nil _ _ _ _) A (U.bytes q.n).length cc (bv (U.bytes q.n)) rfl (by rw [hblen, Nat.mul_one]) HCl1.out.1 (fun u hu => by simp only [bv, List.mem_map] at hu; obtain ⟨x, _, rfl⟩ := hu; rfl) (by unfold maxLen; omega) (by omega) HQ1.out.size ?_); go_must (intro v9 w2 own9 gr9 at9; rw [List.nil_append, Nat.zero_add] at own9; have hg9 : Chg NoB W w2 := (HQ1.out.grown gr9 (by simp [Value.ownBlock])); have HO9 := Go.Lib.hid own9; have HG9 := Go.Lib.hid hg9; clear own9 gr9 at9 hg9 c0 c2 k0 kf))
  go_loopw [9, 10] (fun v9' v10 wr => ∃ (j : Nat) (rv : Value), j ≤ l.length ∧ rv = v9' ∧ v10 = .int .i64 j ∧ Chg NoB W wr ∧ wr.ownsRow W.heap.size 5 1 rv (wrK (U.bytes q.n) q.pos l j).length (bv (wrK (U.bytes q.n) q.pos l j))) (fun _ v10 _ => l.length - (intOf v10).toNat)
  case atStart => exact ⟨0, _, Nat.zero_le _, rfl, rfl, HG9.out, by rw [wrK_zero]; exact HO9.out⟩
  case round =>
   clear HO9 HG9
   obtain ⟨j, rv, hj, rfl, rfl, hcg, hown⟩ := hrel
   have hwl := wrK_len (b := U.bytes q.n) (p := q.pos) (l := l) hpos hj
   have HCG := Go.Lib.hid hcg
   by_cases hlt : j < l.length
   ·have gj : decide ((j : Int) < (l.length : Int)) = true := by simp; omega
    obtain ⟨bd, rfl, hbc⟩ := HBc.out (by simp [bv]; omega)
    have hbj := hbc j (.int .u8 (l[j].toNat)) (by simp [bv, hlt])
    have hbj := cell_q hcg hbj
    have hwp : IntKind.i64.wrap ((q.pos : Int) + (j : Int)) = ((q.pos + j : Nat) : Int) := by rw [IntKind.wrap_i64]; omega
    have hone8 : ((l[j].toNat : Nat) : Int) = (l[j].toNat : Int) := rfl
    by_cases hin : q.pos + j < (U.bytes q.n).length
    ·have hset := wrK_set hin hlt
     have hwl2 : (wrK (U.bytes q.n) q.pos l j).length = (U.bytes q.n).length := by omega
     rw [hwl2] at hown
     obtain ⟨g9, cp9, rfl, hb9, hl9⟩ := hown.form (by omega)
     obtain ⟨old, hold⟩ : ∃ o, (bv (wrK (U.bytes q.n) q.pos l j))[q.pos + j]? = some o := ⟨_, List.getElem?_eq_getElem (by simp [bv]; omega)⟩
     have hk := own_cellK hown hold
     have ho2 := own_setK hown (i := q.pos + j) (by omega) (.int .u8 (l[j].toNat))
     rw [bv_set, hset] at ho2
     have hl3 : (wrK (U.bytes q.n) q.pos l (j + 1)).length = (U.bytes q.n).length := by rw [wrK_len hpos (by omega)]; omega
     have HN2 : Hid (Chg NoB W (wr.setCell ⟨g9, q.pos + j, none⟩ (.int .u8 (l[j].toNat))) ∧ (wr.setCell ⟨g9, q.pos + j, none⟩ (.int .u8 (l[j].toNat))).ownsRow W.heap.size 5 1 (.slice (some ⟨g9, 0, none⟩) (U.bytes q.n).length cp9) (wrK (U.bytes q.n) q.pos l (j + 1)).length (bv (wrK (U.bytes q.n) q.pos l (j + 1)))) := Go.Lib.hid ⟨hcg.setCell (p := ⟨g9, q.pos + j, none⟩) (fun h => absurd h (show ¬ g9 < W.heap.size by omega)) _, by rw [hl3]; exact ho2⟩
     have hk1 := hk.1
     have hk2 := hk.2
     have gin : decide (((q.pos + j : Nat) : Int) < (((U.bytes q.n).length : Nat) : Int)) = true := by simp; omega
     clear hset hwl hwl2 hown hk ho2 hl3 hcg hbc hold
     generalize l[j].toNat = lj at *
     generalize hpj : q.pos + j = pj at *
     go_wp2_with fail
     refine (HA.out _ HCG.out).mono ?_
     rintro e w3 ⟨rfl, rfl⟩
     go_wp2_with fail
     refine ⟨⟨j + 1, _, hlt, rfl, by simp, HN2.out.1, HN2.out.2⟩, by simp only [intOf]; omega⟩
    ·have happ := wrK_app (b := U.bytes q.n) (p := q.pos) (l := l) (i := j) (by omega) hlt
     have hwl2 : (wrK (U.bytes q.n) q.pos l j).length = q.pos + j := by omega
     have hwl3 : (wrK (U.bytes q.n) q.pos l (j + 1)).length = q.pos + j + 1 := by rw [wrK_len hpos (by omega)]; omega
     have HAP := Go.Lib.hid happ
     rw [hwl2] at hown
     obtain ⟨A9, c9, rfl⟩ := own_slice hown
     have HO := Go.Lib.hid hown
     have gin : decide (((q.pos + j : Nat) : Int) < ((q.pos + j : Nat) : Int)) = false := by simp
     have hbcd : q.pos + j < 1000000000 + 1000000 := by omega
     clear happ hwl hwl2 hown hcg hbc
     generalize hlj : l[j] = lj at *
     generalize hpj : q.pos + j = pj at *
     generalize hce : bv (wrK (U.bytes q.n) q.pos l j) = cells at *
     have HCE := Go.Lib.hid hce
     clear hce
     go_wp2_with fail
     refine (HA.out _ HCG.out).mono ?_
     rintro e w3 ⟨rfl, rfl⟩
     go_wp2_with (at_builtin; go_must (refine wpList_appK _ rfl (.tmp 73) (.tmp 78) _ rfl W.heap.size 5 i0 _ 1 1 Tryz.underlying44 Hi.out.1 Hi.out.2.1 Hi.out.2.2.1 Hi.out.2.2.2 rfl (by decide) (.slice A9 pj c9) pj cells rfl (own_chg HO.out ((Chg.refl NoB wr).alloc (.cells #[.int .u8 (lj.toNat : Int)] 5)) (fun _ _ => id)) (some ⟨wr.heap.size, 0, none⟩) 1 1 [.int .u8 (lj.toNat : Int)] rfl rfl (cells_of_blk (Blk.new wr _ _)) (by simp [Value.oneCell']) (by unfold maxLen; omega) (by omega) (by have := HCG.out.size; simp; omega) ?_); go_must (intro v9n w4 own4 gr4 at4; have hg4 : Chg NoB W w4 := ((HCG.out.alloc _).grown gr4 (fun jj hjj hltt => (by have := (HO.out.lt jj hjj).1; omega))); have HG4 := Go.Lib.hid (And.intro hg4 own4); clear own4 gr4 at4 hg4))
     refine ⟨⟨j + 1, _, hlt, rfl, by simp, HG4.out.1, ?_⟩, by simp only [intOf]; omega⟩
     have := HG4.out.2
     rw [hwl3, ← HAP.out]
     have e : bv (wrK (U.bytes q.n) q.pos l j ++ [lj]) = bv (wrK (U.bytes q.n) q.pos l j) ++ [.int .u8 (lj.toNat : Int)] := by simp [bv]
     rw [e, HCE.out]
     exact this
   ·obtain rfl : j = l.length := by omega
    have gj : decide ((l.length : Int) < (l.length : Int)) = false := by simp
    have c0 := cell_q hcg K.out.1
    have hclF := HCl.out.2.chg hcg (fun _ _ => id)
    obtain ⟨A9, c9, rfl⟩ := own_slice hown
    have HOW := Go.Lib.hid hown
    clear hown hcg
    obtain ⟨nb, hnb⟩ : ∃ y, y = wrK (U.bytes q.n) q.pos l l.length := ⟨_, rfl⟩
    rw [← hnb] at hwl HOW ⊢
    have HNB := Go.Lib.hid hnb
    clear hnb hwl
    go_wp2_with (at_builtin; go_must (refine wpList_appK _ rfl (.const (.slice none 0 0)) (.tmp 84) _ rfl W.heap.size BT i1 _ 1 24 Tryz.underlying63 Hi1.out.1 Hi1.out.2.1 Hi1.out.2.2.1 Hi1.out.2.2.2 rfl (by decide) (.slice none 0 0) 0 [] rfl (World.ownsRow_nil _ _ _ _) (some ⟨gF, 0, none⟩) U.F.length cF a.f rfl hflen hclF hone.out (by unfold maxLen; omega) (by omega) HCG.out.size ?_); go_must (intro vF w5 ownF grF atF; rw [List.nil_append, Nat.zero_add] at ownF; obtain ⟨gN, capN, rfl, hbN, hltN⟩ := ownF.form (by omega); have hgF : Chg NoB W w5 := (HCG.out.grown grF (by simp [Value.ownBlock])); have c0 := cell_q hgF K.out.1; have z0 := (H.out.quiet hgF).blk.frozen 0; have hkF := own_cellK ownF (i := q.n) (List.getElem?_eq_getElem (by omega)); have kF := hkF.1; have zF := hkF.2; have hneN1 : ¬ gN = r := (by omega); have hneN2 : ¬ r = gN := (by omega); have HOF := Go.Lib.hid ownF; have HGF := Go.Lib.hid (And.intro hgF (own_chg HOW.out (show Chg NoB wr w5 from (Chg.refl NoB wr).grown grF (by simp [Value.ownBlock])) (fun _ _ => id))); clear ownF grF atF hgF hkF))
    have hW6 : Chg NoB W w5 := HGF.out.1
    have hrn : RefAt ((w5.setCell ⟨r, 0, none⟩ (.slice (some ⟨gN, 0, none⟩) U.F.length capN)).setCell ⟨gN, q.n, none⟩ (.slice A9 nb.length c9)) r (U.setFile q.n nb) X { a with F := .slice (some ⟨gN, 0, none⟩) U.F.length capN, f := a.f.set q.n (.slice A9 nb.length c9) } ∧ Chg (fun k => k = r) W ((w5.setCell ⟨r, 0, none⟩ (.slice (some ⟨gN, 0, none⟩) U.F.length capN)).setCell ⟨gN, q.n, none⟩ (.slice A9 nb.length c9)) := by
     have hc2 : Chg (fun k => k = r) W (w5.setCell ⟨r, 0, none⟩ (.slice (some ⟨gN, 0, none⟩) U.F.length capN)) := (hW6.mono (G := fun k => k = r) (fun _ _ h => h.elim)).setCell (p := ⟨r, 0, none⟩) (fun _ => rfl) _
     have hc3 := hc2.setCell (p := ⟨gN, q.n, none⟩) (fun h => absurd h (show ¬ gN < W.heap.size by omega)) (.slice A9 nb.length c9)
     have hb3 := ((H.out.quiet hW6).blk.set_ 0 (.slice (some ⟨gN, 0, none⟩) U.F.length capN)).far (p := ⟨gN, q.n, none⟩) (show r ≠ gN from hneN2) (.slice A9 nb.length c9)
     have ho3 := own_setK (own_chg HOF.out ((Chg.refl (fun k => k = r) w5).setCell (p := ⟨r, 0, none⟩) (fun _ => rfl) (.slice (some ⟨gN, 0, none⟩) U.F.length capN)) (fun k hk => by
      have : gN = k := by simpa [Value.ownBlock] using hk
      omega)) (i := q.n) (by omega) (.slice A9 nb.length c9)
     have hne9 : ∀ k, (Value.slice A9 nb.length c9).ownBlock = some k → k ≠ gN := fun k hk e => by
      exact own_own_ne HGF.out.2 HOF.out (by decide) hk (by rw [e]; rfl)
     have h9 := own_chg (own_chg HGF.out.2 ((Chg.refl (fun k => k = r) w5).setCell (p := ⟨r, 0, none⟩) (fun _ => rfl) (.slice (some ⟨gN, 0, none⟩) U.F.length capN)) (fun k hk e => by have := (HGF.out.2.lt k hk).1; omega)) ((Chg.refl (fun k => k = gN) (w5.setCell ⟨r, 0, none⟩ (.slice (some ⟨gN, 0, none⟩) U.F.length capN))).setCell (p := ⟨gN, q.n, none⟩) (fun _ => rfl) (.slice A9 nb.length c9)) (fun k hk e => hne9 k hk e)
     have hlF : (U.F.set q.n nb).length = U.F.length := by simp
     refine ⟨H.out.putF hX hc3 hb3 (F' := U.F.set q.n nb) (by rw [hlF]; exact ho3) (by rw [hlF]; exact Nat.le_refl _) (fun ii b hb => ?_), hc3⟩
     by_cases hii : ii = q.n
     ·right
      subst hii
      rw [List.getElem?_set_self (by omega)] at hb
      obtain rfl := Option.some.inj hb
      exact ⟨_, List.getElem?_set_self (by omega), h9⟩
     ·left
      rw [List.getElem?_set_ne (Ne.symm hii)] at hb
      exact ⟨hb, List.getElem?_set_ne (Ne.symm hii)⟩
    generalize ((w5.setCell ⟨r, 0, none⟩ (.slice (some ⟨gN, 0, none⟩) U.F.length capN)).setCell ⟨gN, q.n, none⟩ (.slice A9 nb.length c9)) = w6 at *
    have HRN := Go.Lib.hid hrn
    have hAt := rat_c hrn.1 (show (U.setFile q.n nb).rd.length < 1000000 from hn) ((i : Int) + 1)
    rw [show (U.setFile q.n nb).posOf ((i : Int) + 1) = q.pos from HPO.out nb] at hAt
    have HSt := Go.Lib.hid (rstand_c hrn.1 (fun k hk => Nat.lt_of_lt_of_le (hX k hk) hrn.2.size) (show (U.setFile q.n nb).rd.length < 1000000 from hn) (show (U.setFile q.n nb).rd[i]? = some q from hq) (q.pos + l.length))
    have hwpl : IntKind.i64.wrap ((q.pos : Int) + (l.length : Int)) = ((q.pos + l.length : Nat) : Int) := by rw [IntKind.wrap_i64]; omega
    clear hrn
    refine hAt.mono ?_
    rintro e w7 ⟨rfl, rfl⟩
    go_wp2_with fail
    refine HSt.out.mono ?_
    rintro e w8 ⟨rfl, h8, hc8⟩
    have HR := Go.Lib.hid (And.intro h8 (HRN.out.2.trans hc8))
    clear h8 hc8
    go_wp2_with fail
    go_ret
    obtain ⟨a8, h8⟩ := HR.out.1
    rw [HNB.out] at h8
    exact ⟨rfl, ⟨a8, h8⟩, HR.out.2⟩
 ·have gm1 : decide (((U.bytes q.n).length : Int) < (q.pos : Int) + (l.length : Int)) = false := by simp; omega
  have gm0 : (q.pos : Int) + (l.length : Int) ≤ ((U.bytes q.n).length : Int) := by omega
  clear hno
  go_enter Tryz.func84, Tryz.ntmps84
  go_wp2_with fail
  refine HI.out.mono ?_
  rintro e w1 ⟨rfl, rfl⟩
  go_wp2_with fail
  refine (HA.out _ (Chg.refl _ _)).mono ?_
  rintro e w1 ⟨rfl, rfl⟩
  go_wp2_with fail
  refine HL.out.mono ?_
  rintro e w1 ⟨rfl, hq1⟩
  have HQ1 := Go.Lib.hid hq1
  clear hq1
  go_upto_region 6 with fail
  have c0 := cell_q HQ1.out K.out.1
  have c2 := cell_q HQ1.out K.out.2.1
  have k0 := cell_q HQ1.out K.out.2.2.1
  have kf := cell_q HQ1.out K.out.2.2.2
  have HCl1 := Go.Lib.hid (And.intro (HCl.out.1.chg HQ1.out (fun _ _ => id)) (HCl.out.2.chg HQ1.out (fun _ _ => id)))
  go_wp2_with (at_builtin; go_must (refine wpList_appK _ rfl (.const (.slice none 0 0)) (.tmp 49) _ rfl W.heap.size 5 i0 _ 1 1 Tryz.underlying44 Hi.out.1 Hi.out.2.1 Hi.out.2.2.1 Hi.out.2.2.2 rfl (by decide) (.slice none 0 0) 0 [] rfl (World.ownsRow_nil _ _ _ _) A (U.bytes q.n).length cc (bv (U.bytes q.n)) rfl (by rw [hblen, Nat.mul_one]) HCl1.out.1 (fun u hu => by simp only [bv, List.mem_map] at hu; obtain ⟨x, _, rfl⟩ := hu; rfl) (by unfold maxLen; omega) (by omega) HQ1.out.size ?_); go_must (intro v9 w2 own9 gr9 at9; rw [List.nil_append, Nat.zero_add] at own9; have hg9 : Chg NoB W w2 := (HQ1.out.grown gr9 (by simp [Value.ownBlock])); have HO9 := Go.Lib.hid own9; have HG9 := Go.Lib.hid hg9; clear own9 gr9 at9 hg9 c0 c2 k0 kf))
  go_loopw [9, 10] (fun v9' v10 wr => ∃ (j : Nat) (rv : Value), j ≤ l.length ∧ rv = v9' ∧ v10 = .int .i64 j ∧ Chg NoB W wr ∧ wr.ownsRow W.heap.size 5 1 rv (wrK (U.bytes q.n) q.pos l j).length (bv (wrK (U.bytes q.n) q.pos l j))) (fun _ v10 _ => l.length - (intOf v10).toNat)
  case atStart => exact ⟨0, _, Nat.zero_le _, rfl, rfl, HG9.out, by rw [wrK_zero]; exact HO9.out⟩
  case round =>
   clear HO9 HG9
   obtain ⟨j, rv, hj, rfl, rfl, hcg, hown⟩ := hrel
   have hwl := wrK_len (b := U.bytes q.n) (p := q.pos) (l := l) hpos hj
   have HCG := Go.Lib.hid hcg
   by_cases hlt : j < l.length
   ·have gj : decide ((j : Int) < (l.length : Int)) = true := by simp; omega
    obtain ⟨bd, rfl, hbc⟩ := HBc.out (by simp [bv]; omega)
    have hbj := hbc j (.int .u8 (l[j].toNat)) (by simp [bv, hlt])
    have hbj := cell_q hcg hbj
    have hwp : IntKind.i64.wrap ((q.pos : Int) + (j : Int)) = ((q.pos + j : Nat) : Int) := by rw [IntKind.wrap_i64]; omega
    have hone8 : ((l[j].toNat : Nat) : Int) = (l[j].toNat : Int) := rfl
    by_cases hin : q.pos + j < (U.bytes q.n).length
    ·have hset := wrK_set hin hlt
     have hwl2 : (wrK (U.bytes q.n) q.pos l j).length = (U.bytes q.n).length := by omega
     rw [hwl2] at hown
     obtain ⟨g9, cp9, rfl, hb9, hl9⟩ := hown.form (by omega)
     obtain ⟨old, hold⟩ : ∃ o, (bv (wrK (U.bytes q.n) q.pos l j))[q.pos + j]? = some o := ⟨_, List.getElem?_eq_getElem (by simp [bv]; omega)⟩
     have hk := own_cellK hown hold
     have ho2 := own_setK hown (i := q.pos + j) (by omega) (.int .u8 (l[j].toNat))
     rw [bv_set, hset] at ho2
     have hl3 : (wrK (U.bytes q.n) q.pos l (j + 1)).length = (U.bytes q.n).length := by rw [wrK_len hpos (by omega)]; omega
     have HN2 : Hid (Chg NoB W (wr.setCell ⟨g9, q.pos + j, none⟩ (.int .u8 (l[j].toNat))) ∧ (wr.setCell ⟨g9, q.pos + j, none⟩ (.int .u8 (l[j].toNat))).ownsRow W.heap.size 5 1 (.slice (some ⟨g9, 0, none⟩) (U.bytes q.n).length cp9) (wrK (U.bytes q.n) q.pos l (j + 1)).length (bv (wrK (U.bytes q.n) q.pos l (j + 1)))) := Go.Lib.hid ⟨hcg.setCell (p := ⟨g9, q.pos + j, none⟩) (fun h => absurd h (show ¬ g9 < W.heap.size by omega)) _, by rw [hl3]; exact ho2⟩
     have hk1 := hk.1
     have hk2 := hk.2
     have gin : decide (((q.pos + j : Nat) : Int) < (((U.bytes q.n).length : Nat) : Int)) = true := by simp; omega
     clear hset hwl hwl2 hown hk ho2 hl3 hcg hbc hold
     generalize l[j].toNat = lj at *
     generalize hpj : q.pos + j = pj at *
     go_wp2_with fail
     refine (HA.out _ HCG.out).mono ?_
     rintro e w3 ⟨rfl, rfl⟩
     go_wp2_with fail
     refine ⟨⟨j + 1, _, hlt, rfl, by simp, HN2.out.1, HN2.out.2⟩, by simp only [intOf]; omega⟩
    ·exfalso
     omega
   ·obtain rfl : j = l.length := by omega
    have gj : decide ((l.length : Int) < (l.length : Int)) = false := by simp
    have c0 := cell_q hcg K.out.1
    have hclF := HCl.out.2.chg hcg (fun _ _ => id)
    obtain ⟨A9, c9, rfl⟩ := own_slice hown
    have HOW := Go.Lib.hid hown
    clear hown hcg
    obtain ⟨nb, hnb⟩ : ∃ y, y = wrK (U.bytes q.n) q.pos l l.length := ⟨_, rfl⟩
    rw [← hnb] at hwl HOW ⊢
    have HNB := Go.Lib.hid hnb
    clear hnb hwl
    go_wp2_with (at_builtin; go_must (refine wpList_appK _ rfl (.const (.slice none 0 0)) (.tmp 84) _ rfl W.heap.size BT i1 _ 1 24 Tryz.underlying63 Hi1.out.1 Hi1.out.2.1 Hi1.out.2.2.1 Hi1.out.2.2.2 rfl (by decide) (.slice none 0 0) 0 [] rfl (World.ownsRow_nil _ _ _ _) (some ⟨gF, 0, none⟩) U.F.length cF a.f rfl hflen hclF hone.out (by unfold maxLen; omega) (by omega) HCG.out.size ?_); go_must (intro vF w5 ownF grF atF; rw [List.nil_append, Nat.zero_add] at ownF; obtain ⟨gN, capN, rfl, hbN, hltN⟩ := ownF.form (by omega); have hgF : Chg NoB W w5 := (HCG.out.grown grF (by simp [Value.ownBlock])); have c0 := cell_q hgF K.out.1; have z0 := (H.out.quiet hgF).blk.frozen 0; have hkF := own_cellK ownF (i := q.n) (List.getElem?_eq_getElem (by omega)); have kF := hkF.1; have zF := hkF.2; have hneN1 : ¬ gN = r := (by omega); have hneN2 : ¬ r = gN := (by omega); have HOF := Go.Lib.hid ownF; have HGF := Go.Lib.hid (And.intro hgF (own_chg HOW.out (show Chg NoB wr w5 from (Chg.refl NoB wr).grown grF (by simp [Value.ownBlock])) (fun _ _ => id))); clear ownF grF atF hgF hkF))
    have hW6 : Chg NoB W w5 := HGF.out.1
    have hrn : RefAt ((w5.setCell ⟨r, 0, none⟩ (.slice (some ⟨gN, 0, none⟩) U.F.length capN)).setCell ⟨gN, q.n, none⟩ (.slice A9 nb.length c9)) r (U.setFile q.n nb) X { a with F := .slice (some ⟨gN, 0, none⟩) U.F.length capN, f := a.f.set q.n (.slice A9 nb.length c9) } ∧ Chg (fun k => k = r) W ((w5.setCell ⟨r, 0, none⟩ (.slice (some ⟨gN, 0, none⟩) U.F.length capN)).setCell ⟨gN, q.n, none⟩ (.slice A9 nb.length c9)) := by
     have hc2 : Chg (fun k => k = r) W (w5.setCell ⟨r, 0, none⟩ (.slice (some ⟨gN, 0, none⟩) U.F.length capN)) := (hW6.mono (G := fun k => k = r) (fun _ _ h => h.elim)).setCell (p := ⟨r, 0, none⟩) (fun _ => rfl) _
     have hc3 := hc2.setCell (p := ⟨gN, q.n, none⟩) (fun h => absurd h (show ¬ gN < W.heap.size by omega)) (.slice A9 nb.length c9)
     have hb3 := ((H.out.quiet hW6).blk.set_ 0 (.slice (some ⟨gN, 0, none⟩) U.F.length capN)).far (p := ⟨gN, q.n, none⟩) (show r ≠ gN from hneN2) (.slice A9 nb.length c9)
     have ho3 := own_setK (own_chg HOF.out ((Chg.refl (fun k => k = r) w5).setCell (p := ⟨r, 0, none⟩) (fun _ => rfl) (.slice (some ⟨gN, 0, none⟩) U.F.length capN)) (fun k hk => by
      have : gN = k := by simpa [Value.ownBlock] using hk
      omega)) (i := q.n) (by omega) (.slice A9 nb.length c9)
     have hne9 : ∀ k, (Value.slice A9 nb.length c9).ownBlock = some k → k ≠ gN := fun k hk e => by
      exact own_own_ne HGF.out.2 HOF.out (by decide) hk (by rw [e]; rfl)
     have h9 := own_chg (own_chg HGF.out.2 ((Chg.refl (fun k => k = r) w5).setCell (p := ⟨r, 0, none⟩) (fun _ => rfl) (.slice (some ⟨gN, 0, none⟩) U.F.length capN)) (fun k hk e => by have := (HGF.out.2.lt k hk).1; omega)) ((Chg.refl (fun k => k = gN) (w5.setCell ⟨r, 0, none⟩ (.slice (some ⟨gN, 0, none⟩) U.F.length capN))).setCell (p := ⟨gN, q.n, none⟩) (fun _ => rfl) (.slice A9 nb.length c9)) (fun k hk e => hne9 k hk e)
     have hlF : (U.F.set q.n nb).length = U.F.length := by simp
     refine ⟨H.out.putF hX hc3 hb3 (F' := U.F.set q.n nb) (by rw [hlF]; exact ho3) (by rw [hlF]; exact Nat.le_refl _) (fun ii b hb => ?_), hc3⟩
     by_cases hii : ii = q.n
     ·right
      subst hii
      rw [List.getElem?_set_self (by omega)] at hb
      obtain rfl := Option.some.inj hb
      exact ⟨_, List.getElem?_set_self (by omega), h9⟩
     ·left
      rw [List.getElem?_set_ne (Ne.symm hii)] at hb
      exact ⟨hb, List.getElem?_set_ne (Ne.symm hii)⟩
    generalize ((w5.setCell ⟨r, 0, none⟩ (.slice (some ⟨gN, 0, none⟩) U.F.length capN)).setCell ⟨gN, q.n, none⟩ (.slice A9 nb.length c9)) = w6 at *
    have HRN := Go.Lib.hid hrn
    have hAt := rat_c hrn.1 (show (U.setFile q.n nb).rd.length < 1000000 from hn) ((i : Int) + 1)
    rw [show (U.setFile q.n nb).posOf ((i : Int) + 1) = q.pos from HPO.out nb] at hAt
    have HSt := Go.Lib.hid (rstand_c hrn.1 (fun k hk => Nat.lt_of_lt_of_le (hX k hk) hrn.2.size) (show (U.setFile q.n nb).rd.length < 1000000 from hn) (show (U.setFile q.n nb).rd[i]? = some q from hq) (q.pos + l.length))
    have hwpl : IntKind.i64.wrap ((q.pos : Int) + (l.length : Int)) = ((q.pos + l.length : Nat) : Int) := by rw [IntKind.wrap_i64]; omega
    clear hrn
    refine hAt.mono ?_
    rintro e w7 ⟨rfl, rfl⟩
    go_wp2_with fail
    refine HSt.out.mono ?_
    rintro e w8 ⟨rfl, h8, hc8⟩
    have HR := Go.Lib.hid (And.intro h8 (HRN.out.2.trans hc8))
    clear h8 hc8
    go_wp2_with fail
    go_ret
    obtain ⟨a8, h8⟩ := HR.out.1
    rw [HNB.out] at h8
    exact ⟨rfl, ⟨a8, h8⟩, HR.out.2⟩
end
end Go.Proofs.YtggknljlibhkjaaGreat
set_option linter.unusedSimpArgs false
set_option linter.unusedVariables false
namespace Go.Proofs.YtggknljlibhkjaaGreat
open Go Go.RowKit
theorem sumH_le (U : V) (M : Nat) (h : ∀ n, (U.bytes n).length ≤ M) : ∀ i, sumH U i ≤ i * M
 | 0 => Nat.zero_le _
 | i + 1 => by
  have := sumH_le U M h i
  have h2 := h i
  rw [Nat.succ_mul]
  show sumH U i + (if heldB U i = true then (U.bytes i).length else 0) ≤ _
  split <;> omega
structure RSmall (U : V) : Prop where
 r : U.rd.length < 1000000
 d : U.dir.length < 1000000
 f : U.F.length < 1000000
 b : ∀ n, (U.bytes n).length < 1000000000
 c : U.cap < 1000000000000
section
variable {W W' : World} {r r2 : Nat} {U : V} {X F : Nat → Prop} {a : RA}
theorem RSmall.sum (h : RSmall U) : sumH U U.F.length < 4000000000000000000 := by
 have h1 := sumH_le U 1000000000 (fun n => Nat.le_of_lt (h.b n)) U.F.length
 have h2 := h.f
 have h3 : U.F.length * 1000000000 ≤ 1000000 * 1000000000 := Nat.mul_le_mul_right _ (Nat.le_of_lt h2)
 omega
theorem rroom_s (h : RefAt W r U X a) (hs : RSmall U) : Calls Tryz.prog 109 #[.pointer (some ⟨r, 0, none⟩)] W (fun e w' => e = .returned (.int .i64 (roomI U)) ∧ W = w') :=
 rroom_c h hs.r hs.d hs.f hs.sum hs.c
theorem RefAt.copy (h : RefAt W r U X a) (hc : Chg NoB W W') (hb : Blk W' r2 RST #[a.F, a.D, a.R, .int .i64 U.cap]) (h2 : W.heap.size ≤ r2) (hx : ¬ X r2) : RefAt W' r2 U X a where
 blk := hb
 F := own_chg h.F hc (fun _ _ => id)
 f := fun i b hb => by
  obtain ⟨v, h1, h3, h4⟩ := h.f i b hb
  exact ⟨v, h1, own_chg h3 hc (fun _ _ => id), fun k hk => ⟨(h4 k hk).1, by have := (h3.lt k hk).2; omega⟩⟩
 D := own_chg h.D hc (fun _ _ => id)
 R := own_chg h.R hc (fun _ _ => id)
 xF := fun k hk => ⟨(h.xF k hk).1, by have := (h.F.lt k hk).2; omega⟩
 xD := fun k hk => ⟨(h.xD k hk).1, by have := (h.D.lt k hk).2; omega⟩
 xR := fun k hk => ⟨(h.xR k hk).1, by have := (h.R.lt k hk).2; omega⟩
 xr := hx
 db := h.db
 rb := h.rb
set_option maxRecDepth 100000 in
set_option maxHeartbeats 2000000 in
theorem rwrite_c (h : RefAt W r U X a) (hX : ∀ k, X k → k < W.heap.size) (hs : RSmall U) (hpos : ∀ q ∈ U.rd, q.pos ≤ (U.bytes q.n).length) (f : Int)
  (l : List UInt8) (hl : l.length < 1000000) (B : Option Addr) (c : Nat) (hB : CellsAt W B (bv l)) :
  Calls Tryz.prog 84 #[.pointer (some ⟨r, 0, none⟩), .int .i64 f, .slice B l.length c] W (RPost r X (.int .i64 (writeR U f l).1) (writeR U f l).2 W) := by
 have H := Go.Lib.hid h
 rcases rdAt_cases U f with ⟨i, q, rfl, hq, hr⟩ | ⟨hf, hr⟩
 ·have hpq := hpos q (List.mem_of_getElem? hq)
  by_cases hno : (q.pos + l.length : Int) - (U.bytes q.n).length > 0 ∧ (q.pos + l.length : Int) - (U.bytes q.n).length > roomI U
  ·have hres : writeR U ((i : Int) + 1) l = (5, U) := by unfold writeR; rw [hr]; simp only; rw [if_pos hno]
   rw [hres]
   have HI := Go.Lib.hid (ris_some h hs.r hq)
   have hpo : U.posOf ((i : Int) + 1) = q.pos := by unfold V.posOf; rw [hr]
   have hle : U.length ((i : Int) + 1) = (U.bytes q.n).length := by unfold V.length; rw [hr]
   have HA := Go.Lib.hid (rat_c h hs.r ((i : Int) + 1))
   have HL := Go.Lib.hid (rlen_c h hs.r ((i : Int) + 1))
   have HC := Go.Lib.hid (fun (W' : World) (hc : Chg NoB W W') => rroom_s (h.quiet hc) hs)
   rw [hpo] at HA
   rw [hle] at HL
   have hbl := hs.b q.n
   obtain ⟨hn1, hn2⟩ := hno
   have gm1 : decide (((U.bytes q.n).length : Int) < (q.pos : Int) + (l.length : Int)) = true := by simp; omega
   have gm2 : decide (roomI U < (q.pos : Int) + (l.length : Int) - ((U.bytes q.n).length : Int)) = true := by simp; omega
   clear h hr hres hpo hle hB
   generalize roomI U = ri at *
   go_enter Tryz.func84, Tryz.ntmps84
   go_wp2_with fail
   refine HI.out.mono ?_
   rintro e w1 ⟨rfl, rfl⟩
   go_wp2_with fail
   refine HA.out.mono ?_
   rintro e w1 ⟨rfl, rfl⟩
   go_wp2_with fail
   refine HL.out.mono ?_
   rintro e w1 ⟨rfl, hq1⟩
   have HQ1 := Go.Lib.hid hq1
   clear hq1
   go_wp2_with fail
   refine (HC.out w1 HQ1.out).mono ?_
   rintro e w2 ⟨rfl, rfl⟩
   go_wp2_with fail
   go_ret
   exact ⟨rfl, ⟨a, H.out.quiet HQ1.out⟩, HQ1.out.mono (fun _ _ h => h.elim)⟩
  ·have hres : writeR U ((i : Int) + 1) l = (0, (U.setFile q.n (wrK (U.bytes q.n) q.pos l l.length)).setPos ((i : Int) + 1) (q.pos + l.length)) := by unfold writeR; rw [hr]; simp only; rw [if_neg hno]
   rw [hres]
   exact rwrite_go h hX hs.r hs.f hq hpq (hs.b q.n) l hl B c hB (fun W' hc => rroom_s (h.quiet hc) hs) hno
 ·have HI := Go.Lib.hid (ris_none h hs.r hf)
  have hres : writeR U f l = (0, U) := by unfold writeR; rw [hr]
  rw [hres]
  clear h hf hr hres hB
  go_enter Tryz.func84, Tryz.ntmps84
  go_wp2_with fail
  refine HI.out.mono ?_
  rintro e w1 ⟨rfl, rfl⟩
  go_wp2_with fail
  go_ret
  exact ⟨rfl, ⟨a, H.out⟩, Chg.refl _ _⟩
end
end Go.Proofs.YtggknljlibhkjaaGreat
set_option linter.unusedSimpArgs false
set_option linter.unusedVariables false
namespace Go.Proofs.YtggknljlibhkjaaGreat
open Go Go.RowKit
def putR (U : V) (nm : ByteArray) (l : List UInt8) : Nat × V :=
 if mayName nm = true then
  if isD nm U.dir = true ∨ U.dir.length < 200 then
   if (l.length : Int) > roomI (delR U nm) then (5, U) else enterR (U.addFile l) nm U.F.length
  else (5, U)
 else (2, U)
section
variable {W W' : World} {r : Nat} {U : V} {X F : Nat → Prop} {a : RA}
set_option maxRecDepth 100000 in
set_option maxHeartbeats 4000000 in
theorem rput_may (nm : ByteArray) (hnm : nm.size ≤ maxLen) (hm : mayName nm = false) (l : List UInt8) (B : Option Addr) (c : Nat) (h : RefAt W r U X a) : Calls Tryz.prog 89 #[.pointer (some ⟨r, 0, none⟩), .string nm, .slice B l.length c] W (RPost r X (.int .i64 2) U W) := by
 have HN := Go.Lib.hid (refName_c nm hnm W)
 rw [hm] at HN
 have H := Go.Lib.hid h
 clear hm h
 go_enter Tryz.func89, Tryz.ntmps89
 go_wp2_with fail
 refine HN.out.mono ?_
 rintro e w1 ⟨rfl, rfl⟩
 go_wp2_with fail
 go_ret
 exact ⟨rfl, ⟨a, H.out⟩, Chg.refl _ _⟩
set_option maxRecDepth 100000 in
set_option maxHeartbeats 4000000 in
theorem rput_dir (h : RefAt W r U X a) (hs : RSmall U) (nm : ByteArray) (hnm : nm.size ≤ maxLen) (hm : mayName nm = true) (hi : isD nm U.dir = false) (hl : ¬ U.dir.length < 200) (l : List UInt8) (B : Option Addr) (c : Nat) : Calls Tryz.prog 89 #[.pointer (some ⟨r, 0, none⟩), .string nm, .slice B l.length c] W (RPost r X (.int .i64 5) U W) := by
 have HN := Go.Lib.hid (refName_c nm hnm W)
 rw [hm] at HN
 have HA := Go.Lib.hid (rpos_c h hs.d nm)
 rw [hi] at HA
 have H := Go.Lib.hid h
 obtain ⟨AD, cD, hD⟩ := own_slice h.D
 obtain ⟨_, c1, _, _⟩ := h.cells
 rw [hD] at c1
 have gl : decide ((U.dir.length : Int) ≥ 200) = true := by simp; omega
 clear hm h hi hD hl
 generalize posD nm U.dir = k at *
 go_enter Tryz.func89, Tryz.ntmps89
 go_wp2_with fail
 refine HN.out.mono ?_
 rintro e w1 ⟨rfl, rfl⟩
 go_wp2_with fail
 refine HA.out.mono ?_
 rintro e w1 ⟨rfl, hq⟩
 have c1 := cell_q hq c1
 have HQ := Go.Lib.hid hq
 clear hq
 go_wp2_with fail
 go_ret
 exact ⟨rfl, ⟨a, H.out.quiet HQ.out⟩, HQ.out.mono (fun _ _ h => h.elim)⟩
set_option maxRecDepth 100000 in
set_option maxHeartbeats 4000000 in
theorem rput_no_full (h : RefAt W r U X a) (hX : ∀ k, X k → k < W.heap.size) (hs : RSmall U) (nm : ByteArray) (hnm : nm.size ≤ maxLen) (hm : mayName nm = true) (hi : isD nm U.dir = false) (hl : U.dir.length < 200) (l : List UInt8) (hll : l.length < 1000000) (B : Option Addr) (c : Nat) (hB : CellsAt W B (bv l)) (hroom : (l.length : Int) > roomI U) : Calls Tryz.prog 89 #[.pointer (some ⟨r, 0, none⟩), .string nm, .slice B l.length c] W (RPost r X (.int .i64 5) U W) := by
 have HN := Go.Lib.hid (refName_c nm hnm W)
 rw [hm] at HN
 have HA := Go.Lib.hid (rpos_c h hs.d nm)
 rw [hi] at HA
 have H := Go.Lib.hid h
 obtain ⟨i0, hi0, hz0, hz1, hz2⟩ := info_parts u8info
 have Hi := Go.Lib.hid (And.intro hi0 (And.intro hz0 (And.intro hz1 hz2)))
 obtain ⟨i1, hi0', hz0', hz1', hz2'⟩ := info_parts btinfo
 have Hi1 := Go.Lib.hid (And.intro hi0' (And.intro hz0' (And.intro hz1' hz2')))
 clear hi0 hz0 hz1 hz2 hi0' hz0' hz1' hz2' hm
 have HC := Go.Lib.hid (fun (W' : World) (hc : Chg NoB W W') => rroom_s (h.quiet hc) hs)
 obtain ⟨AD, cD, hD⟩ := own_slice h.D
 obtain ⟨_, c1, _, _⟩ := h.cells
 rw [hD] at c1
 have gl : decide ((U.dir.length : Int) ≥ 200) = false := by simp; omega
 have gr : decide ((l.length : Int) > roomI U) = true := by simp; omega
 clear h hi hD hl hroom
 generalize posD nm U.dir = k at *
 generalize roomI U = ri at *
 go_enter Tryz.func89, Tryz.ntmps89
 go_wp2_with fail
 refine HN.out.mono ?_
 rintro e w1 ⟨rfl, rfl⟩
 go_wp2_with fail
 refine HA.out.mono ?_
 rintro e w1 ⟨rfl, hq⟩
 have c1 := cell_q hq c1
 have HQ := Go.Lib.hid hq
 clear hq
 go_wp2_with fail
 refine (HC.out _ HQ.out).mono ?_
 rintro e wR ⟨rfl, rfl⟩
 have HR := Go.Lib.hid (H.out.quiet HQ.out)
 have HCW := HQ
 generalize w1 = wR at *
 clear c1
 go_wp2_with fail
 go_ret
 exact ⟨rfl, ⟨a, HR.out⟩, HCW.out.mono (fun _ _ h => h.elim)⟩
set_option maxRecDepth 100000 in
set_option maxHeartbeats 4000000 in
theorem rput_no_go (h : RefAt W r U X a) (hX : ∀ k, X k → k < W.heap.size) (hs : RSmall U) (nm : ByteArray) (hnm : nm.size ≤ maxLen) (hm : mayName nm = true) (hi : isD nm U.dir = false) (hl : U.dir.length < 200) (l : List UInt8) (hll : l.length < 1000000) (B : Option Addr) (c : Nat) (hB : CellsAt W B (bv l)) (hroom : ¬ (l.length : Int) > roomI U) : Calls Tryz.prog 89 #[.pointer (some ⟨r, 0, none⟩), .string nm, .slice B l.length c] W (RPost r X (.int .i64 (enterR (U.addFile l) nm U.F.length).1) (enterR (U.addFile l) nm U.F.length).2 W) := by
 have HN := Go.Lib.hid (refName_c nm hnm W)
 rw [hm] at HN
 have HA := Go.Lib.hid (rpos_c h hs.d nm)
 rw [hi] at HA
 have H := Go.Lib.hid h
 obtain ⟨i0, hi0, hz0, hz1, hz2⟩ := info_parts u8info
 have Hi := Go.Lib.hid (And.intro hi0 (And.intro hz0 (And.intro hz1 hz2)))
 obtain ⟨i1, hi0', hz0', hz1', hz2'⟩ := info_parts btinfo
 have Hi1 := Go.Lib.hid (And.intro hi0' (And.intro hz0' (And.intro hz1' hz2')))
 clear hi0 hz0 hz1 hz2 hi0' hz0' hz1' hz2' hm
 have HC := Go.Lib.hid (fun (W' : World) (hc : Chg NoB W W') => rroom_s (h.quiet hc) hs)
 obtain ⟨AD, cD, hD⟩ := own_slice h.D
 obtain ⟨_, c1, _, _⟩ := h.cells
 rw [hD] at c1
 have gl : decide ((U.dir.length : Int) ≥ 200) = false := by simp; omega
 have gr : decide ((l.length : Int) > roomI U) = false := by simp; omega
 clear h hi hD hl hroom
 generalize posD nm U.dir = k at *
 generalize roomI U = ri at *
 go_enter Tryz.func89, Tryz.ntmps89
 go_wp2_with fail
 refine HN.out.mono ?_
 rintro e w1 ⟨rfl, rfl⟩
 go_wp2_with fail
 refine HA.out.mono ?_
 rintro e w1 ⟨rfl, hq⟩
 have c1 := cell_q hq c1
 have HQ := Go.Lib.hid hq
 clear hq
 go_wp2_with fail
 refine (HC.out _ HQ.out).mono ?_
 rintro e wR ⟨rfl, rfl⟩
 have HR := Go.Lib.hid (H.out.quiet HQ.out)
 have HCW := HQ
 generalize w1 = wR at *
 clear c1
 obtain ⟨AF, cF, hF⟩ := own_slice HR.out.F
 have c0 := HR.out.cells.1
 have z0 := HR.out.blk.frozen 0
 rw [hF] at c0
 have hownF := HR.out.F
 rw [hF] at hownF
 have HCl := Go.Lib.hid (And.intro (cells_ownK hownF) (hB.chg HCW.out (fun _ _ => id)))
 have hone := Go.Lib.hid HR.out.fone
 have hflen := HR.out.flen
 have hrl := HR.out.lt
 have hblen : (bv l).length = l.length := by simp [bv]
 have hfl := hs.f
 have hXR : ∀ j, X j → j < wR.heap.size := fun j hj => Nat.lt_of_lt_of_le (hX j hj) HCW.out.size
 clear hF hownF
 go_wp2_with (first
  | (at_builtin; refine wpList_appK _ rfl (.const (.slice none 0 0)) (.tmp 63) _ rfl wR.heap.size BT i1 _ 1 24 Tryz.underlying63 Hi1.out.1 Hi1.out.2.1 Hi1.out.2.2.1 Hi1.out.2.2.2 rfl (by decide) (.slice none 0 0) 0 [] rfl (World.ownsRow_nil _ _ _ _) AF U.F.length cF a.f rfl hflen HCl.out.1 hone.out (by unfold maxLen; omega) (by omega) (Nat.le_refl _) ?_; intro v1 w1 own1 gr1 at1; rw [List.nil_append, Nat.zero_add] at own1; have hg1 : Chg NoB wR w1 := ((Chg.refl NoB wR).grown gr1 (by simp [Value.ownBlock])); clear gr1 at1)
  | (at_builtin; refine wpList_appK _ rfl (.const (.slice none 0 0)) (.tmp 65) _ rfl wR.heap.size 5 i0 _ 1 1 Tryz.underlying44 Hi.out.1 Hi.out.2.1 Hi.out.2.2.1 Hi.out.2.2.2 rfl (by decide) (.slice none 0 0) 0 [] rfl (World.ownsRow_nil _ _ _ _) B l.length c (bv l) rfl (by rw [hblen, Nat.mul_one]) (HCl.out.2.chg hg1 (fun _ _ => id)) (fun u hu => by simp only [bv, List.mem_map] at hu; obtain ⟨x, _, rfl⟩ := hu; rfl) (by unfold maxLen; omega) (by omega) hg1.size ?_; intro v2 w2 own2 gr2 at2; rw [List.nil_append, Nat.zero_add] at own2; obtain ⟨A2, c2x, rfl⟩ := own_slice own2; have hg2 : Chg NoB w1 w2 := ((Chg.refl NoB w1).grown gr2 (by simp [Value.ownBlock])); have own1 := own_chg own1 hg2 (fun _ _ => id); have hg12 := hg1.trans hg2; clear gr2 at2 hg2)
  | (at_builtin; go_must (refine wpList_appK _ rfl (.tmp 64) (.tmp 67) _ rfl wR.heap.size BT i1 _ 1 24 Tryz.underlying63 Hi1.out.1 Hi1.out.2.1 Hi1.out.2.2.1 Hi1.out.2.2.2 rfl (by decide) v1 U.F.length a.f rfl (own_chg own1 ((Chg.refl NoB w2).alloc (.cells #[.slice A2 l.length c2x] BT)) (fun _ _ => id)) (some ⟨w2.heap.size, 0, none⟩) 1 1 [.slice A2 l.length c2x] rfl rfl (cells_of_blk (Blk.new w2 _ _)) (by simp [Value.oneCell']) (by unfold maxLen; omega) (by omega) (by have := hg12.size; simp; omega) ?_); go_must (intro v3 w3 own3 gr3 at3; have hg3 : Chg NoB wR w3 := ((hg12.alloc _).grown gr3 (fun j hj hlt => (by have := (own1.lt j hj).1; omega))); obtain ⟨A3, c3x, rfl⟩ := own_slice own3; have own2b : w3.ownsRow wR.heap.size 5 1 (.slice A2 l.length c2x) l.length (bv l) := own_chg own2 (show Chg (fun k => v1.ownBlock = some k) w2 w3 from ((Chg.refl (fun k => v1.ownBlock = some k) w2).alloc _).grown gr3 (fun j hj _ => hj)) (fun k hk e => own_own_ne own2 own1 (by decide) hk e); have c0 := cell_q hg3 c0; have z0 := (HR.out.quiet hg3).blk.frozen 0; clear gr3 at3 own1 own2 hg12 hg1)))
 have hc3 : Chg (fun k => k = r) wR (w3.setCell ⟨r, 0, none⟩ (.slice A3 (U.F.length + 1) c3x)) := (hg3.mono (G := fun k => k = r) (fun _ _ h => h.elim)).setCell (p := ⟨r, 0, none⟩) (fun _ => rfl) _
 have hb3 := (HR.out.quiet hg3).blk.set_ 0 (.slice A3 (U.F.length + 1) c3x)
 have hset : Chg (fun k => k = r) w3 (w3.setCell ⟨r, 0, none⟩ (.slice A3 (U.F.length + 1) c3x)) := (Chg.refl (fun k => k = r) w3).setCell (p := ⟨r, 0, none⟩) (fun _ => rfl) _
 have ho3 := own_chg own3 hset (fun k hk hx => by
  have := (own3.lt k hk).1
  omega)
 have ho2 := own_chg own2b hset (fun k hk hx => by
  have := (own2b.lt k hk).1
  omega)
 have hU1 : RefAt (w3.setCell ⟨r, 0, none⟩ (.slice A3 (U.F.length + 1) c3x)) r (U.addFile l) X { a with F := .slice A3 (U.F.length + 1) c3x, f := a.f ++ [.slice A2 l.length c2x] } := by
  have hl2 : (U.F ++ [l]).length = U.F.length + 1 := by simp
  refine HR.out.putF hXR hc3 hb3 (F' := U.F ++ [l]) (by rw [hl2]; exact ho3) (by simp) (fun i b hb => ?_)
  by_cases hi : i < U.F.length
  ·left
   rw [List.getElem?_append_left hi] at hb
   exact ⟨hb, List.getElem?_append_left (by omega)⟩
  ·right
   have hil := (List.getElem?_eq_some_iff.1 hb).1
   obtain rfl : i = U.F.length := by simp at hil; omega
   obtain rfl : b = l := by simpa using hb.symm
   exact ⟨.slice A2 b.length c2x, by rw [List.getElem?_append_right (by omega)]; simp [hflen], ho2⟩
 have hX1 : ∀ j, X j → j < (w3.setCell ⟨r, 0, none⟩ (.slice A3 (U.F.length + 1) c3x)).heap.size := fun j hj => Nat.lt_of_lt_of_le (hXR j hj) hc3.size
 have hEn := renter_c hU1 hX1 (show (U.addFile l).dir.length < 1000000 from hs.d) nm U.F.length (show U.F.length < (U.F ++ [l]).length by simp)
 have HCC := Go.Lib.hid ((HCW.out.mono (G := fun k => k = r) (fun _ _ h => h.elim)).trans hc3)
 have hwn : IntKind.i64.wrap (U.F.length : Int) = U.F.length := by rw [IntKind.wrap_i64]; omega
 clear hc3 hb3 ho3 ho2 hset hU1 hX1 own3 own2b z0 c0 hone hXR hg3
 generalize w3.setCell ⟨r, 0, none⟩ (.slice A3 (U.F.length + 1) c3x) = w4 at *
 refine hEn.mono ?_
 rintro e w5 ⟨rfl, h5, hc5⟩
 have HF := Go.Lib.hid (And.intro h5 (HCC.out.trans hc5))
 clear h5 hc5
 go_wp2_with fail
 go_ret
 exact ⟨rfl, HF.out.1, HF.out.2⟩
end
end Go.Proofs.YtggknljlibhkjaaGreat
