import Derived.Test.YtggknljlibhkjaaGreatGDo
import Derived.IntWalk
set_option linter.unusedSimpArgs false
set_option linter.unusedVariables false
namespace Go.Proofs.YtggknljlibhkjaaGreat
open Go.RowKit
structure StRaw (w : World) (x : St) : Prop where
 n : x.w < 4294967296
 nm : x.nm.size ≤ maxLen
 le : x.b.length ≤ x.c
 most : x.c ≤ maxLen
 cells : CellsAt w x.A (bv x.b)
 kf : (-9223372036854775808 ≤ x.kind ∧ x.kind ≤ 9223372036854775807) ∧ -9223372036854775808 ≤ x.f ∧ x.f ≤ 9223372036854775807
def StepsAt (w : World) (A : Option Addr) (L : List St) : Prop :=
 0 < L.length → ∃ b o, A = some ⟨b, o, none⟩ ∧ ∀ i x, L[i]? = some x → StRaw w x ∧
  w.cell? ⟨b, o + i * 5, none⟩ = some (.int .i64 x.kind) ∧ w.cell? ⟨b, o + i * 5 + 1, none⟩ = some (.int .i64 x.f) ∧ w.cell? ⟨b, o + i * 5 + 2, none⟩ = some (.int .u32 x.w) ∧ w.cell? ⟨b, o + i * 5 + 3, none⟩ = some (.string x.nm) ∧ w.cell? ⟨b, o + i * 5 + 4, none⟩ = some (.slice x.A x.b.length x.c)
theorem cell_chg {w w' : World} {p : Addr} {v : Value} (h : w.cell? p = some v) (hc : Chg NoB w w') : w'.cell? p = some v := (World.cell?_of_block (hc.block p.block (block_lt_of_cell h) id)).trans h
theorem StRaw.chg {w w' : World} {x : St} (h : StRaw w x) (hc : Chg NoB w w') : StRaw w' x := ⟨h.n, h.nm, h.le, h.most, h.cells.chg hc (fun _ _ => id), h.kf⟩
theorem StepsAt.chg {w w' : World} {A : Option Addr} {L : List St} (h : StepsAt w A L) (hc : Chg NoB w w') : StepsAt w' A L := fun hl => by
 obtain ⟨b, o, hA, hx⟩ := h hl
 refine ⟨b, o, hA, fun i x hi => ?_⟩
 obtain ⟨h0, h1, h2, h3, h4, h5⟩ := hx i x hi
 exact ⟨h0.chg hc, cell_chg h1 hc, cell_chg h2 hc, cell_chg h3 hc, cell_chg h4 hc, cell_chg h5 hc⟩
def MuchPost (L : List St) (most : Nat) (w : World) (e : Ending) (w' : World) : Prop :=
 ∃ b, e = .returned (.bool b) ∧ Chg NoB w w' ∧ (b = false → L.length ≤ most ∧ ∀ x ∈ L, x.b.length ≤ 20000 ∧ x.nm.size ≤ 20000)
set_option maxHeartbeats 2000000 in
theorem much_c {w : World} {A : Option Addr} {c : Nat} {L : List St} (h : StepsAt w A L) (most : Nat) (hm : most ≤ 1000) (hL : L.length ≤ maxLen) :
  Calls Tryz.prog 5 #[.slice A L.length c, .int .i64 most] w (MuchPost L most w) := by
 have H := Go.Lib.hid h
 clear h
 unfold maxLen at hL
 go_enter Tryz.func5, Tryz.ntmps5
 go_wp2_with fail
 go_loopw [5, 6] (fun v5 v6 wr => ∃ (k : Nat) (z : Int), k ≤ L.length ∧ k ≤ most + 1 ∧ v6 = .int .i64 k ∧ v5 = .int .i64 z ∧ 0 ≤ z ∧ z ≤ 20000 ∧ (∀ j x, j < k → L[j]? = some x → x.b.length ≤ 20000 ∧ x.nm.size ≤ 20000) ∧ Chg NoB w wr) (fun _ v6 _ => L.length + 1 - (intOf v6).toNat)
 case atStart => exact ⟨0, 0, Nat.zero_le _, by omega, rfl, rfl, by omega, by omega, fun _ _ h => absurd h (by omega), Chg.refl _ _⟩
 case round =>
  obtain ⟨k, z, hk, hkm, rfl, rfl, hz0, hz1, hall, hch⟩ := hrel
  have Hall := Go.Lib.hid hall
  have Hch := Go.Lib.hid hch
  clear hall hch
  by_cases hlt : k < L.length
  ·by_cases hlm : k ≤ most
   ·obtain ⟨x, hx⟩ : ∃ x, L[k]? = some x := ⟨_, List.getElem?_eq_getElem hlt⟩
    obtain ⟨b, o, hA, hcs⟩ := H.out (by omega)
    obtain ⟨h0, h1, h2, h3, h4, h5⟩ := hcs k x hx
    have g3 : wr.cell? ⟨b, o + k * 5 + 3, none⟩ = some (.string x.nm) := cell_chg h4 Hch.out
    have g4 : wr.cell? ⟨b, o + k * 5 + 4, none⟩ = some (.slice x.A x.b.length x.c) := cell_chg h5 Hch.out
    subst hA
    have Hx := Go.Lib.hid hx
    have hnm := h0.nm
    have hbl : x.b.length ≤ maxLen := Nat.le_trans h0.le h0.most
    unfold maxLen at hnm hbl
    clear hx hcs h0 h1 h2 h3 h4 h5
    by_cases hb : x.b.length ≤ 20001
    ·by_cases hn : x.nm.size ≤ 20001
     ·skip
      have hs1 : IntKind.i64.wrap (z + (x.b.length : Int)) = z + (x.b.length : Int) := IntWalk.i64_in _ (by omega)
      have hs2 : IntKind.i64.wrap (z + (x.b.length : Int) + (x.nm.size : Int)) = z + (x.b.length : Int) + (x.nm.size : Int) := IntWalk.i64_in _ (by omega)
      by_cases hgt : 20000 < z + (x.b.length : Int) + (x.nm.size : Int)
      ·go_wp2_with fail
       go_quiet (fail)
       go_wp2_with fail
       go_ret
       exact ⟨true, rfl, Hch.out.drewN _, fun h => by cases h⟩
      ·have Hn2 : Hid (∀ j y, j < k + 1 → L[j]? = some y → y.b.length ≤ 20000 ∧ y.nm.size ≤ 20000) := Go.Lib.hid (fun j y hj hy => by
        rcases Nat.lt_or_ge j k with h | h
        ·exact Hall.out j y h hy
        ·obtain rfl : j = k := by omega
         rw [Hx.out] at hy
         injection hy with hy
         subst hy
         omega)
       go_wp2_with fail
       go_quiet (fail)
       go_wp2_with fail
       go_roundw
       case rel => exact ⟨k + 1, _, by omega, by omega, by go_num, rfl, by omega, by omega, Hn2.out, Hch.out.drewN _⟩
       case measure => simp [intOf]; omega
     ·skip
      have hs1 : IntKind.i64.wrap (z + (x.b.length : Int)) = z + (x.b.length : Int) := IntWalk.i64_in _ (by omega)
      have hs2 : IntKind.i64.wrap (z + (x.b.length : Int) + 20001) = z + (x.b.length : Int) + 20001 := IntWalk.i64_in _ (by omega)
      by_cases hgt : 20000 < z + (x.b.length : Int) + 20001
      ·go_wp2_with fail
       go_quiet (fail)
       go_wp2_with fail
       go_ret
       exact ⟨true, rfl, Hch.out.drewN _, fun h => by cases h⟩
      ·exfalso; omega
    ·by_cases hn : x.nm.size ≤ 20001
     ·skip
      have hs1 : IntKind.i64.wrap (z + 20001) = z + 20001 := IntWalk.i64_in _ (by omega)
      have hs2 : IntKind.i64.wrap (z + 20001 + (x.nm.size : Int)) = z + 20001 + (x.nm.size : Int) := IntWalk.i64_in _ (by omega)
      by_cases hgt : 20000 < z + 20001 + (x.nm.size : Int)
      ·go_wp2_with fail
       go_quiet (fail)
       go_wp2_with fail
       go_ret
       exact ⟨true, rfl, Hch.out.drewN _, fun h => by cases h⟩
      ·exfalso; omega
     ·skip
      have hs1 : IntKind.i64.wrap (z + 20001) = z + 20001 := IntWalk.i64_in _ (by omega)
      have hs2 : IntKind.i64.wrap (z + 20001 + 20001) = z + 20001 + 20001 := IntWalk.i64_in _ (by omega)
      by_cases hgt : 20000 < z + 20001 + 20001
      ·go_wp2_with fail
       go_quiet (fail)
       go_wp2_with fail
       go_ret
       exact ⟨true, rfl, Hch.out.drewN _, fun h => by cases h⟩
      ·exfalso; omega
   ·have d1 : decide ((k : Int) ≤ (most : Int)) = false := by simp; omega
    have d2 : decide ((most : Int) < (L.length : Int)) = true := by simp; omega
    go_wp2_with fail
    go_ret
    refine ⟨_, rfl, Hch.out, fun h => ?_⟩
    first
     | cases h
     | (rw [d2] at h; cases h)
     | (have := of_decide_eq_false h; omega)
  ·obtain rfl : k = L.length := by omega
   have Hfin : Hid (L.length ≤ most → L.length ≤ most ∧ ∀ x ∈ L, x.b.length ≤ 20000 ∧ x.nm.size ≤ 20000) := Go.Lib.hid (fun hle => ⟨hle, fun x hx => by
    obtain ⟨j, hj⟩ := List.mem_iff_getElem?.1 hx
    exact Hall.out j x (List.getElem?_eq_some_iff.1 hj).1 hj⟩)
   go_wp2_with fail
   go_ret
   refine ⟨_, rfl, Hch.out, fun hb => Hfin.out ?_⟩
   have := of_decide_eq_false hb
   omega
end Go.Proofs.YtggknljlibhkjaaGreat
