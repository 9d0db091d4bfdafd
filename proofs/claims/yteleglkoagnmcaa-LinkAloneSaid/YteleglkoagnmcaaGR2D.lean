/- What is proved: the reference's Write. Conditions: the memory holds the reference's store, and the bytes. · What is proved: the reference's Write, all cases; a copy of its store. Conditions: the memory holds the reference's store, and the bytes. · What is proved: the reference's Put. Conditions: the memory holds the reference's store, and the bytes. -/
import Derived.Test.YteleglkoagnmcaaGR2C
set_option linter.unusedSimpArgs false
set_option linter.unusedVariables false
namespace Go.Proofs.Yteleglkoagnmcaa
open Go Go.RowKit
/-- so many bytes of l written over b from p on -/
def wrK (b : List UInt8) (p : Nat) (l : List UInt8) (i : Nat) : List UInt8 := b.take p ++ l.take i ++ b.drop (p + i)
theorem wrK_len {b : List UInt8} {p : Nat} {l : List UInt8} {i : Nat} (hp : p ≤ b.length) (hi : i ≤ l.length) : (wrK b p l i).length = max b.length (p + i) := by
  simp [wrK]; omega
theorem wrK_zero (b : List UInt8) (p : Nat) (l : List UInt8) : wrK b p l 0 = b := by simp [wrK]
theorem wrK_set {b : List UInt8} {p : Nat} {l : List UInt8} {i : Nat} (hp : p + i < b.length) (hi : i < l.length) : (wrK b p l i).set (p + i) l[i] = wrK b p l (i + 1) := by
  unfold wrK
  have h1 : (b.take p ++ l.take i).length = p + i := by simp; omega
  rw [List.set_append_right _ _ (by omega), h1, Nat.sub_self]
  rw [List.drop_eq_getElem_cons hp, List.set_cons_zero, List.take_succ_eq_append_getElem hi]
  simp only [List.append_assoc, List.cons_append, List.nil_append, Nat.add_assoc]
theorem wrK_app {b : List UInt8} {p : Nat} {l : List UInt8} {i : Nat} (hp : b.length ≤ p + i) (hi : i < l.length) : wrK b p l i ++ [l[i]] = wrK b p l (i + 1) := by
  unfold wrK
  rw [List.take_succ_eq_append_getElem hi, List.drop_eq_nil_of_le hp, List.drop_eq_nil_of_le (by omega)]
  simp
theorem bv_set (l : List UInt8) (i : Nat) (x : UInt8) : (bv l).set i (.int .u8 x.toNat) = bv (l.set i x) := by
  unfold bv; rw [List.map_set]
def writeR (U : V) (f : Int) (l : List UInt8) : Nat × V :=
  match U.rdAt f with
  | none => (0, U)
  | some q => if (q.pos + l.length : Int) - (U.bytes q.n).length > 0 ∧ (q.pos + l.length : Int) - (U.bytes q.n).length > roomI U then (5, U)
    else (0, (U.setFile q.n (wrK (U.bytes q.n) q.pos l l.length)).setPos f (q.pos + l.length))
section
variable {W W' : World} {r : Nat} {U : V} {X F : Nat → Prop} {a : RA}
end
end Go.Proofs.Yteleglkoagnmcaa
set_option linter.unusedSimpArgs false
set_option linter.unusedVariables false
namespace Go.Proofs.Yteleglkoagnmcaa
open Go Go.RowKit
theorem sumH_le (U : V) (M : Nat) (h : ∀ n, (U.bytes n).length ≤ M) : ∀ i, sumH U i ≤ i * M
  | 0 => Nat.zero_le _
  | i + 1 => by
    have := sumH_le U M h i
    have h2 := h i
    rw [Nat.succ_mul]
    show sumH U i + (if heldB U i = true then (U.bytes i).length else 0) ≤ _
    split <;> omega
/-- the reference's store is no greater than is gone through -/
structure RSmall (U : V) : Prop where
  r : U.rd.length < 1000000
  d : U.dir.length < 1000000
  f : U.F.length < 1000000
  b : ∀ n, (U.bytes n).length < 1000000000
  c : U.cap < 1000000000000
section
variable {W W' : World} {r r2 : Nat} {U : V} {X F : Nat → Prop} {a : RA}
theorem RSmall.sum (h : RSmall U) : sumH U U.F.length < 4000000000000000000 := by
  have h1 := sumH_le U 1000000000 (fun n => Nat.le_of_lt (h.b n)) U.F.length
  have h2 := h.f
  have h3 : U.F.length * 1000000000 ≤ 1000000 * 1000000000 := Nat.mul_le_mul_right _ (Nat.le_of_lt h2)
  omega
theorem rroom_s (h : RefAt W r U X a) (hs : RSmall U) : Calls Try.prog 56 #[.pointer (some ⟨r, 0, none⟩)] W (fun e w' => e = .returned (.int .i64 (roomI U)) ∧ W = w') :=
  rroom_c h hs.r hs.d hs.f hs.sum hs.c
/-- another store that shares the rows -/
theorem RefAt.copy (h : RefAt W r U X a) (hc : Chg NoB W W') (hb : Blk W' r2 RST #[a.F, a.D, a.R, .int .i64 U.cap]) (h2 : W.heap.size ≤ r2) (hx : ¬ X r2) : RefAt W' r2 U X a where
  blk := hb
  F := own_chg h.F hc (fun _ _ => id)
  f := fun i b hb => by
    obtain ⟨v, h1, h3, h4⟩ := h.f i b hb
    exact ⟨v, h1, own_chg h3 hc (fun _ _ => id), fun k hk => ⟨(h4 k hk).1, by have := (h3.lt k hk).2; omega⟩⟩
  D := own_chg h.D hc (fun _ _ => id)
  R := own_chg h.R hc (fun _ _ => id)
  xF := fun k hk => ⟨(h.xF k hk).1, by have := (h.F.lt k hk).2; omega⟩
  xD := fun k hk => ⟨(h.xD k hk).1, by have := (h.D.lt k hk).2; omega⟩
  xR := fun k hk => ⟨(h.xR k hk).1, by have := (h.R.lt k hk).2; omega⟩
  xr := hx
  db := h.db
  rb := h.rb
end
end Go.Proofs.Yteleglkoagnmcaa
set_option linter.unusedSimpArgs false
set_option linter.unusedVariables false
namespace Go.Proofs.Yteleglkoagnmcaa
open Go Go.RowKit
def putR (U : V) (nm : ByteArray) (l : List UInt8) : Nat × V :=
  if mayName nm = true then
    if isD nm U.dir = true ∨ U.dir.length < 200 then
      if (l.length : Int) > roomI (delR U nm) then (5, U) else enterR (U.addFile l) nm U.F.length
    else (5, U)
  else (2, U)
section
variable {W W' : World} {r : Nat} {U : V} {X F : Nat → Prop} {a : RA}
set_option maxRecDepth 100000 in
set_option maxHeartbeats 4000000 in
theorem rput_may (nm : ByteArray) (hnm : nm.size ≤ maxLen) (hm : mayName nm = false) (l : List UInt8) (B : Option Addr) (c : Nat) (h : RefAt W r U X a) : Calls Try.prog 30 #[.pointer (some ⟨r, 0, none⟩), .string nm, .slice B l.length c] W (RPost r X (.int .i64 2) U W) := by
  have HN := Go.Lib.hid (refName_c nm hnm W)
  rw [hm] at HN
  have H := Go.Lib.hid h
  clear hm h
  go_enter Try.func30, Try.ntmps30
  go_wp2_with fail
  refine HN.out.mono ?_
  rintro e w1 ⟨rfl, rfl⟩
  go_wp2_with fail
  go_ret
  exact ⟨rfl, ⟨a, H.out⟩, Chg.refl _ _⟩
set_option maxRecDepth 100000 in
set_option maxHeartbeats 4000000 in
theorem rput_dir (h : RefAt W r U X a) (hs : RSmall U) (nm : ByteArray) (hnm : nm.size ≤ maxLen) (hm : mayName nm = true) (hi : isD nm U.dir = false) (hl : ¬ U.dir.length < 200) (l : List UInt8) (B : Option Addr) (c : Nat) : Calls Try.prog 30 #[.pointer (some ⟨r, 0, none⟩), .string nm, .slice B l.length c] W (RPost r X (.int .i64 5) U W) := by
  have HN := Go.Lib.hid (refName_c nm hnm W)
  rw [hm] at HN
  have HA := Go.Lib.hid (rpos_c h hs.d nm)
  rw [hi] at HA
  have H := Go.Lib.hid h
  obtain ⟨AD, cD, hD⟩ := own_slice h.D
  obtain ⟨_, c1, _, _⟩ := h.cells
  rw [hD] at c1
  have gl : decide ((U.dir.length : Int) ≥ 200) = true := by simp; omega
  clear hm h hi hD hl
  generalize posD nm U.dir = k at *
  go_enter Try.func30, Try.ntmps30
  go_wp2_with fail
  refine HN.out.mono ?_
  rintro e w1 ⟨rfl, rfl⟩
  go_wp2_with fail
  refine HA.out.mono ?_
  rintro e w1 ⟨rfl, hq⟩
  have c1 := cell_q hq c1
  have HQ := Go.Lib.hid hq
  clear hq
  go_wp2_with fail
  go_ret
  exact ⟨rfl, ⟨a, H.out.quiet HQ.out⟩, HQ.out.mono (fun _ _ h => h.elim)⟩
set_option maxRecDepth 100000 in
set_option maxHeartbeats 4000000 in
theorem rput_no_full (h : RefAt W r U X a) (hX : ∀ k, X k → k < W.heap.size) (hs : RSmall U) (nm : ByteArray) (hnm : nm.size ≤ maxLen) (hm : mayName nm = true) (hi : isD nm U.dir = false) (hl : U.dir.length < 200) (l : List UInt8) (hll : l.length < 1000000) (B : Option Addr) (c : Nat) (hB : CellsAt W B (bv l)) (hroom : (l.length : Int) > roomI U) : Calls Try.prog 30 #[.pointer (some ⟨r, 0, none⟩), .string nm, .slice B l.length c] W (RPost r X (.int .i64 5) U W) := by
  have HN := Go.Lib.hid (refName_c nm hnm W)
  rw [hm] at HN
  have HA := Go.Lib.hid (rpos_c h hs.d nm)
  rw [hi] at HA
  have H := Go.Lib.hid h
  obtain ⟨i0, hi0, hz0, hz1, hz2⟩ := info_parts u8info
  have Hi := Go.Lib.hid (And.intro hi0 (And.intro hz0 (And.intro hz1 hz2)))
  obtain ⟨i1, hi0', hz0', hz1', hz2'⟩ := info_parts btinfo
  have Hi1 := Go.Lib.hid (And.intro hi0' (And.intro hz0' (And.intro hz1' hz2')))
  clear hi0 hz0 hz1 hz2 hi0' hz0' hz1' hz2' hm
  have HC := Go.Lib.hid (fun (W' : World) (hc : Chg NoB W W') => rroom_s (h.quiet hc) hs)
  obtain ⟨AD, cD, hD⟩ := own_slice h.D
  obtain ⟨_, c1, _, _⟩ := h.cells
  rw [hD] at c1
  have gl : decide ((U.dir.length : Int) ≥ 200) = false := by simp; omega
  have gr : decide ((l.length : Int) > roomI U) = true := by simp; omega
  clear h hi hD hl hroom
  generalize posD nm U.dir = k at *
  generalize roomI U = ri at *
  go_enter Try.func30, Try.ntmps30
  go_wp2_with fail
  refine HN.out.mono ?_
  rintro e w1 ⟨rfl, rfl⟩
  go_wp2_with fail
  refine HA.out.mono ?_
  rintro e w1 ⟨rfl, hq⟩
  have c1 := cell_q hq c1
  have HQ := Go.Lib.hid hq
  clear hq
  go_wp2_with fail
  refine (HC.out _ HQ.out).mono ?_
  rintro e wR ⟨rfl, rfl⟩
  have HR := Go.Lib.hid (H.out.quiet HQ.out)
  have HCW := HQ
  generalize w1 = wR at *
  clear c1
  go_wp2_with fail
  go_ret
  exact ⟨rfl, ⟨a, HR.out⟩, HCW.out.mono (fun _ _ h => h.elim)⟩
set_option maxRecDepth 100000 in
set_option maxHeartbeats 4000000 in
theorem rput_no_go (h : RefAt W r U X a) (hX : ∀ k, X k → k < W.heap.size) (hs : RSmall U) (nm : ByteArray) (hnm : nm.size ≤ maxLen) (hm : mayName nm = true) (hi : isD nm U.dir = false) (hl : U.dir.length < 200) (l : List UInt8) (hll : l.length < 1000000) (B : Option Addr) (c : Nat) (hB : CellsAt W B (bv l)) (hroom : ¬ (l.length : Int) > roomI U) : Calls Try.prog 30 #[.pointer (some ⟨r, 0, none⟩), .string nm, .slice B l.length c] W (RPost r X (.int .i64 (enterR (U.addFile l) nm U.F.length).1) (enterR (U.addFile l) nm U.F.length).2 W) := by
  have HN := Go.Lib.hid (refName_c nm hnm W)
  rw [hm] at HN
  have HA := Go.Lib.hid (rpos_c h hs.d nm)
  rw [hi] at HA
  have H := Go.Lib.hid h
  obtain ⟨i0, hi0, hz0, hz1, hz2⟩ := info_parts u8info
  have Hi := Go.Lib.hid (And.intro hi0 (And.intro hz0 (And.intro hz1 hz2)))
  obtain ⟨i1, hi0', hz0', hz1', hz2'⟩ := info_parts btinfo
  have Hi1 := Go.Lib.hid (And.intro hi0' (And.intro hz0' (And.intro hz1' hz2')))
  clear hi0 hz0 hz1 hz2 hi0' hz0' hz1' hz2' hm
  have HC := Go.Lib.hid (fun (W' : World) (hc : Chg NoB W W') => rroom_s (h.quiet hc) hs)
  obtain ⟨AD, cD, hD⟩ := own_slice h.D
  obtain ⟨_, c1, _, _⟩ := h.cells
  rw [hD] at c1
  have gl : decide ((U.dir.length : Int) ≥ 200) = false := by simp; omega
  have gr : decide ((l.length : Int) > roomI U) = false := by simp; omega
  clear h hi hD hl hroom
  generalize posD nm U.dir = k at *
  generalize roomI U = ri at *
  go_enter Try.func30, Try.ntmps30
  go_wp2_with fail
  refine HN.out.mono ?_
  rintro e w1 ⟨rfl, rfl⟩
  go_wp2_with fail
  refine HA.out.mono ?_
  rintro e w1 ⟨rfl, hq⟩
  have c1 := cell_q hq c1
  have HQ := Go.Lib.hid hq
  clear hq
  go_wp2_with fail
  refine (HC.out _ HQ.out).mono ?_
  rintro e wR ⟨rfl, rfl⟩
  have HR := Go.Lib.hid (H.out.quiet HQ.out)
  have HCW := HQ
  generalize w1 = wR at *
  clear c1
  obtain ⟨AF, cF, hF⟩ := own_slice HR.out.F
  have c0 := HR.out.cells.1
  have z0 := HR.out.blk.frozen 0
  rw [hF] at c0
  have hownF := HR.out.F
  rw [hF] at hownF
  have HCl := Go.Lib.hid (And.intro (cells_ownK hownF) (hB.chg HCW.out (fun _ _ => id)))
  have hone := Go.Lib.hid HR.out.fone
  have hflen := HR.out.flen
  have hrl := HR.out.lt
  have hblen : (bv l).length = l.length := by simp [bv]
  have hfl := hs.f
  have hXR : ∀ j, X j → j < wR.heap.size := fun j hj => Nat.lt_of_lt_of_le (hX j hj) HCW.out.size
  clear hF hownF
  go_wp2_with (first
    | (at_builtin; refine wpList_appK _ rfl (.const (.slice none 0 0)) (.tmp 63) _ rfl wR.heap.size BT i1 _ 1 24 Try.underlying77 Hi1.out.1 Hi1.out.2.1 Hi1.out.2.2.1 Hi1.out.2.2.2 rfl (by decide) (.slice none 0 0) 0 [] rfl (World.ownsRow_nil _ _ _ _) AF U.F.length cF a.f rfl hflen HCl.out.1 hone.out (by unfold maxLen; omega) (by omega) (Nat.le_refl _) ?_; intro v1 w1 own1 gr1 at1; rw [List.nil_append, Nat.zero_add] at own1; have hg1 : Chg NoB wR w1 := ((Chg.refl NoB wR).grown gr1 (by simp [Value.ownBlock])); clear gr1 at1)
    | (at_builtin; refine wpList_appK _ rfl (.const (.slice none 0 0)) (.tmp 65) _ rfl wR.heap.size 5 i0 _ 1 1 Try.underlying22 Hi.out.1 Hi.out.2.1 Hi.out.2.2.1 Hi.out.2.2.2 rfl (by decide) (.slice none 0 0) 0 [] rfl (World.ownsRow_nil _ _ _ _) B l.length c (bv l) rfl (by rw [hblen, Nat.mul_one]) (HCl.out.2.chg hg1 (fun _ _ => id)) (fun u hu => by simp only [bv, List.mem_map] at hu; obtain ⟨x, _, rfl⟩ := hu; rfl) (by unfold maxLen; omega) (by omega) hg1.size ?_; intro v2 w2 own2 gr2 at2; rw [List.nil_append, Nat.zero_add] at own2; obtain ⟨A2, c2x, rfl⟩ := own_slice own2; have hg2 : Chg NoB w1 w2 := ((Chg.refl NoB w1).grown gr2 (by simp [Value.ownBlock])); have own1 := own_chg own1 hg2 (fun _ _ => id); have hg12 := hg1.trans hg2; clear gr2 at2 hg2)
    | (at_builtin; go_must (refine wpList_appK _ rfl (.tmp 64) (.tmp 67) _ rfl wR.heap.size BT i1 _ 1 24 Try.underlying77 Hi1.out.1 Hi1.out.2.1 Hi1.out.2.2.1 Hi1.out.2.2.2 rfl (by decide) v1 U.F.length a.f rfl (own_chg own1 ((Chg.refl NoB w2).alloc (.cells #[.slice A2 l.length c2x] BT)) (fun _ _ => id)) (some ⟨w2.heap.size, 0, none⟩) 1 1 [.slice A2 l.length c2x] rfl rfl (cells_of_blk (Blk.new w2 _ _)) (by simp [Value.oneCell']) (by unfold maxLen; omega) (by omega) (by have := hg12.size; simp; omega) ?_); go_must (intro v3 w3 own3 gr3 at3; have hg3 : Chg NoB wR w3 := ((hg12.alloc _).grown gr3 (fun j hj hlt => (by have := (own1.lt j hj).1; omega))); obtain ⟨A3, c3x, rfl⟩ := own_slice own3; have own2b : w3.ownsRow wR.heap.size 5 1 (.slice A2 l.length c2x) l.length (bv l) := own_chg own2 (show Chg (fun k => v1.ownBlock = some k) w2 w3 from ((Chg.refl (fun k => v1.ownBlock = some k) w2).alloc _).grown gr3 (fun j hj _ => hj)) (fun k hk e => own_own_ne own2 own1 (by decide) hk e); have c0 := cell_q hg3 c0; have z0 := (HR.out.quiet hg3).blk.frozen 0; clear gr3 at3 own1 own2 hg12 hg1)))
  have hc3 : Chg (fun k => k = r) wR (w3.setCell ⟨r, 0, none⟩ (.slice A3 (U.F.length + 1) c3x)) := (hg3.mono (G := fun k => k = r) (fun _ _ h => h.elim)).setCell (p := ⟨r, 0, none⟩) (fun _ => rfl) _
  have hb3 := (HR.out.quiet hg3).blk.set_ 0 (.slice A3 (U.F.length + 1) c3x)
  have hset : Chg (fun k => k = r) w3 (w3.setCell ⟨r, 0, none⟩ (.slice A3 (U.F.length + 1) c3x)) := (Chg.refl (fun k => k = r) w3).setCell (p := ⟨r, 0, none⟩) (fun _ => rfl) _
  have ho3 := own_chg own3 hset (fun k hk hx => by
    have := (own3.lt k hk).1
    omega)
  have ho2 := own_chg own2b hset (fun k hk hx => by
    have := (own2b.lt k hk).1
    omega)
  have hU1 : RefAt (w3.setCell ⟨r, 0, none⟩ (.slice A3 (U.F.length + 1) c3x)) r (U.addFile l) X { a with F := .slice A3 (U.F.length + 1) c3x, f := a.f ++ [.slice A2 l.length c2x] } := by
    have hl2 : (U.F ++ [l]).length = U.F.length + 1 := by simp
    refine HR.out.putF hXR hc3 hb3 (F' := U.F ++ [l]) (by rw [hl2]; exact ho3) (by simp) (fun i b hb => ?_)
    by_cases hi : i < U.F.length
    · left
      rw [List.getElem?_append_left hi] at hb
      exact ⟨hb, List.getElem?_append_left (by omega)⟩
    · right
      have hil := (List.getElem?_eq_some_iff.1 hb).1
      obtain rfl : i = U.F.length := by simp at hil; omega
      obtain rfl : b = l := by simpa using hb.symm
      exact ⟨.slice A2 b.length c2x, by rw [List.getElem?_append_right (by omega)]; simp [hflen], ho2⟩
  have hX1 : ∀ j, X j → j < (w3.setCell ⟨r, 0, none⟩ (.slice A3 (U.F.length + 1) c3x)).heap.size := fun j hj => Nat.lt_of_lt_of_le (hXR j hj) hc3.size
  have hEn := renter_c hU1 hX1 (show (U.addFile l).dir.length < 1000000 from hs.d) nm U.F.length (show U.F.length < (U.F ++ [l]).length by simp)
  have HCC := Go.Lib.hid ((HCW.out.mono (G := fun k => k = r) (fun _ _ h => h.elim)).trans hc3)
  have hwn : IntKind.i64.wrap (U.F.length : Int) = U.F.length := by rw [IntKind.wrap_i64]; omega
  clear hc3 hb3 ho3 ho2 hset hU1 hX1 own3 own2b z0 c0 hone hXR hg3
  generalize w3.setCell ⟨r, 0, none⟩ (.slice A3 (U.F.length + 1) c3x) = w4 at *
  refine hEn.mono ?_
  rintro e w5 ⟨rfl, h5, hc5⟩
  have HF := Go.Lib.hid (And.intro h5 (HCC.out.trans hc5))
  clear h5 hc5
  go_wp2_with fail
  go_ret
  exact ⟨rfl, HF.out.1, HF.out.2⟩
end
end Go.Proofs.Yteleglkoagnmcaa
