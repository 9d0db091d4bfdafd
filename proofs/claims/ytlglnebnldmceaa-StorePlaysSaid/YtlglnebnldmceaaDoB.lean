/- What is proved: the contract of By.Do of a Put. Conditions: the memory holds a store and the bytes. -/
import Derived.Test.YtlglnebnldmceaaDoA
import Derived.Test.YtlglnebnldmceaaTail2
set_option linter.unusedSimpArgs false
set_option linter.unusedVariables false
namespace Go.Proofs.Ytlglnebnldmceaa
open Go.RowKit
section
variable {base : Nat} {w : World} {s : Nat} {v : V} {F : Nat → Prop}
theorem CellsAt.front {W : World} {b : Nat} {e : TypeId} {n : Nat} {A : Option Addr} {c : Nat} {xs ys : List Value} (h : W.ownsRow b e 1 (.slice A n c) n (xs ++ ys)) : CellsAt W A xs := by
  intro hl
  obtain ⟨ad, hA, hc⟩ := CellsAt.of_own h (by rw [List.length_append]; omega)
  exact ⟨ad, hA, fun j u hj => hc j u (by rw [List.getElem?_append_left (List.getElem?_eq_some_iff.1 hj).1]; exact hj)⟩
set_option maxHeartbeats 4000000 in
theorem do_10 (h : StoreV base w s v F) (f : Int) (n : Nat) (nm : ByteArray) (hsz : nm.size ≤ maxLen) {A : Option Addr} {c : Nat} {l : List UInt8} (hl : l.length ≤ 20000) (hcl : CellsAt w A (bv l)) :
    Calls Try.prog 11 #[.agg #[], ptr s, .agg #[.int .i64 10, .int .i64 f, .int .u32 n, .string nm, .slice A l.length c]] w (VPost base s F (.int .u32 (v.put nm l).1) (v.put nm l).2 w) := by
  have HF := Go.Lib.hid (fun k (hk : F k) => h.lt hk)
  have N := Go.Lib.hid num_c
  have H := Go.Lib.hid h
  have Hcl := Go.Lib.hid hcl
  have HL := Go.Lib.hid hl
  have Hsz := Go.Lib.hid hsz
  have Hput : Hid ((v.put nm l).1 ≤ 5) := Go.Lib.hid (V.put_le v nm l)
  obtain ⟨i0, hi0, hz0, hz1, hz2⟩ := info_parts u8info
  have Hi := Go.Lib.hid (And.intro hi0 (And.intro hz0 (And.intro hz1 hz2)))
  clear hi0 hz0 hz1 hz2 h hcl hsz
  unfold ptr
  go_enter Try.func11, Try.ntmps11
  have hW0 : Chg NoB w ((w.alloc (Obj.cells #[] 41)).alloc (Obj.cells #[.int .i64 10, .int .i64 f, .int .u32 n, .string nm, .slice A l.length c] 45)) := ((Chg.refl NoB w).alloc _).alloc _
  have hcl0 : CellsAt ((w.alloc (Obj.cells #[] 41)).alloc (Obj.cells #[.int .i64 10, .int .i64 f, .int .u32 n, .string nm, .slice A l.length c] 45)) A (bv l) := Hcl.out.chg hW0 (fun _ _ => id)
  have hbx0 : Blk ((w.alloc (Obj.cells #[] 41)).alloc (Obj.cells #[.int .i64 10, .int .i64 f, .int .u32 n, .string nm, .slice A l.length c] 45)) (w.heap.size + 1) 45 #[.int .i64 10, .int .i64 f, .int .u32 n, .string nm, .slice A l.length c] := Blk.new1 _ _ _ _
  have HW0 := Go.Lib.hid hW0
  have HCL0 := Go.Lib.hid hcl0
  have HBX0 := Go.Lib.hid hbx0
  clear hW0 hcl0 hbx0
  go_wp2_with (first
    | (at_builtin; (refine wpList_app _ rfl (.const (.slice none 0 0)) (.tmp 85) _ rfl w.heap.size 5 i0 _ 1 Try.underlying43 Hi.out.1 Hi.out.2.1 Hi.out.2.2.1 Hi.out.2.2.2 rfl (.slice none 0 0) 0 [] rfl (World.ownsRow_nil _ _ _ _) A l.length c (bv l) rfl (bv_length l) HCL0.out (bv_one _) (by unfold maxLen; omega) (by omega) (by simp; omega) ?_); intro v1 w1 own1 gr1 at1)
    | (at_builtin; (refine wpList_app _ rfl (.tmp 86) (.tmp 87) _ rfl w.heap.size 5 i0 _ 1 Try.underlying43 Hi.out.1 Hi.out.2.1 Hi.out.2.2.1 Hi.out.2.2.2 rfl v1 (0 + l.length) _ rfl (own1.alloc _) (some ⟨w1.heap.size, 0, none⟩) 1 1 [.int .u8 7] rfl rfl (cells_of_blk (Blk.new w1 _ _)) (by simp [Value.oneCell']) (by unfold maxLen; omega) (by omega) (by have h1 := gr1.size; have h2 := HW0.out.size; simp at h1 ⊢; omega) ?_); intro v2 w2 own2 gr2 at2))
  have own2a : w2.ownsRow w.heap.size 5 1 v2 (l.length + 1) (bv l ++ [.int .u8 7]) := by simpa using own2
  have hC1 : Chg NoB w w1 := HW0.out.grown gr1 (fun k e _ => by simp [Value.ownBlock] at e)
  have hC2 : Chg NoB w w2 := (hC1.alloc _).grown gr2 (fun k e hk => by have := (own1.lt k e).1; omega)
  have hb1 : Blk w1 (w.heap.size + 1) 45 #[.int .i64 10, .int .i64 f, .int .u32 n, .string nm, .slice A l.length c] := HBX0.out.grown gr1 (by simp [Value.ownBlock])
  have hb2 : Blk w2 (w.heap.size + 1) 45 #[.int .i64 10, .int .i64 f, .int .u32 n, .string nm, .slice A l.length c] := (hb1.alloc _).grown gr2 (fun e => own_blk_ne own1 hb1 (by decide) e.symm)
  obtain ⟨g, cap, cur, rfl, hg0, hgb, hcap, hmax, hcs, htake⟩ : ∃ g cap cur, v2 = .slice (some ⟨g, 0, none⟩) (l.length + 1) cap ∧ w.heap.size ≤ g ∧ w2.heap[g]? = some (.cells cur 5 (0, 0)) ∧ l.length + 1 ≤ cap ∧ cap ≤ maxLen ∧ cur.size = cap * 1 ∧ cur.toList.take ((l.length + 1) * 1) = bv l ++ [.int .u8 7] := by
    rcases own2a.2 with ⟨_, h0⟩ | h0
    · omega
    · exact h0
  have hcl2 : CellsAt w2.drew (some ⟨g, 0, none⟩) (bv l) := CellsAt.front own2a
  have hgl : g < w2.heap.size := (Array.getElem?_eq_some_iff.1 hgb).1
  have hBg : Blk w2 g 5 cur := hgb
  have HBG := Go.Lib.hid (And.intro hBg (show cur.size = cap by omega))
  have HC2 := Go.Lib.hid hC2
  have Hgl := Go.Lib.hid (And.intro hg0 hgl)
  have Hput2 := Go.Lib.hid (put_v (H.out.quiet (hC2.drew)) nm Hsz.out (A := some ⟨g, 0, none⟩) (c := cap) (l := l) (fun h => by cases h) hcl2)
  have b3 : w2.drew.cell? ⟨w.heap.size + 1, 3, none⟩ = some (.string nm) := hb2.cell 3
  have b4 : w2.drew.cell? ⟨w.heap.size + 1, 4, none⟩ = some (.slice A l.length c) := hb2.cell 4
  have hi0 : (0 : Int) ≤ (l.length : Int) := by omega
  have hi1 : (l.length : Int) ≤ (cap : Int) := by omega
  have Hcap := Go.Lib.hid (And.intro hcap hmax)
  unfold maxLen at hmax
  clear own2 own2a own1 gr1 gr2 at1 at2 hC1 hC2 hb1 hb2 hg0 hgb hcs htake hcl2 hgl hBg
  unfold ptr at Hput2
  refine regionT 8 (fun W' => W'.cell? ⟨w.heap.size + 1, 3, none⟩ = some (.string nm) ∧ W'.cell? ⟨w.heap.size + 1, 4, none⟩ = some (.slice A l.length c)) (by kernel_rfl) (by decide) (⟨b3, b4⟩) (fun inv0 hHeld => ?_)
  refine takeT (i := 0) (t := 89) (v := ?v0) rfl (by kernel_rfl) (by kernel_rfl) (by kernel_rfl) (fun _ _ _ h => h) (by kernel_rfl) (by kernel_rfl) (by decide) (by decide) rfl (Or.inl ⟨by rfl, ?h0⟩) inv0 hHeld ?r0
  case h0 => (intro w hSw; (try dsimp only at hSw); go_simp; try with_reducible rfl)
  intro inv01
  clear inv0
  try simp only [List.setIfInBounds_toArray, List.set_cons_zero, List.set_cons_succ]
  refine takeT (i := 1) (t := 90) (v := ?v1) rfl (by kernel_rfl) (by kernel_rfl) (by kernel_rfl) (fun _ _ _ h => h) (by kernel_rfl) (by kernel_rfl) (by decide) (by decide) rfl (Or.inl ⟨by rfl, ?h1⟩) inv01 hHeld ?r1
  case h1 => (intro w hSw; (try dsimp only at hSw); go_simp; try with_reducible rfl)
  intro inv11
  clear inv01
  try simp only [List.setIfInBounds_toArray, List.set_cons_zero, List.set_cons_succ]
  refine takeT (i := 2) (t := 91) (v := ?v2) rfl (by kernel_rfl) (by kernel_rfl) (by kernel_rfl) (fun _ _ _ h => h) (by kernel_rfl) (by kernel_rfl) (by decide) (by decide) rfl (Or.inl ⟨by rfl, ?h2⟩) inv11 hHeld ?r2
  case h2 => (intro w hSw; (try dsimp only at hSw); go_simp; try with_reducible rfl)
  intro inv21
  clear inv11
  try simp only [List.setIfInBounds_toArray, List.set_cons_zero, List.set_cons_succ]
  refine takeT (i := 3) (t := 92) (v := ?v3) rfl (by kernel_rfl) (by kernel_rfl) (by kernel_rfl) (fun _ _ _ h => h) (by kernel_rfl) (by kernel_rfl) (by decide) (by decide) rfl (Or.inl ⟨by rfl, ?h3⟩) inv21 hHeld ?r3
  case h3 => (intro w hSw; (try dsimp only at hSw); go_simp; try with_reducible rfl)
  intro inv31
  clear inv21
  try simp only [List.setIfInBounds_toArray, List.set_cons_zero, List.set_cons_succ]
  refine takeT (i := 4) (t := 93) (v := ?v4) rfl (by kernel_rfl) (by kernel_rfl) (by kernel_rfl) (fun _ _ _ h => h) (by kernel_rfl) (by kernel_rfl) (by decide) (by decide) rfl (Or.inl ⟨by rfl, ?h4⟩) inv31 hHeld ?r4
  case h4 => (intro w hSw; (try dsimp only at hSw); go_simp; try with_reducible rfl)
  intro inv41
  clear inv31
  try simp only [List.setIfInBounds_toArray, List.set_cons_zero, List.set_cons_succ]
  refine takeT (i := 5) (t := 94) (v := ?v5) rfl (by kernel_rfl) (by kernel_rfl) (by kernel_rfl) (fun _ _ _ h => h) (by kernel_rfl) (by kernel_rfl) (by decide) (by decide) rfl (Or.inl ⟨by rfl, ?h5⟩) inv41 hHeld ?r5
  case h5 => (intro w hSw; (try dsimp only at hSw); go_simp; try with_reducible rfl)
  intro inv51
  clear inv41
  try simp only [List.setIfInBounds_toArray, List.set_cons_zero, List.set_cons_succ]
  refine takeT (i := 6) (t := 95) (v := ?v6) rfl (by kernel_rfl) (by kernel_rfl) (by kernel_rfl) (fun _ _ _ h => h) (by kernel_rfl) (by kernel_rfl) (by decide) (by decide) rfl (Or.inl ⟨by rfl, ?h6⟩) inv51 hHeld ?r6
  case h6 => (intro w hSw; (try dsimp only at hSw); go_simp; try with_reducible rfl)
  intro inv61
  clear inv51
  try simp only [List.setIfInBounds_toArray, List.set_cons_zero, List.set_cons_succ]
  refine takeT (i := 7) (t := 96) (v := ?v7) rfl (by kernel_rfl) (by kernel_rfl) (by kernel_rfl) (fun _ _ _ h => h) (by kernel_rfl) (by kernel_rfl) (by decide) (by decide) rfl (Or.inl ⟨by rfl, ?h7⟩) inv61 hHeld ?r7
  case h7 => (intro w hSw; (try dsimp only at hSw); go_simp; try with_reducible rfl)
  intro inv71
  clear inv61
  try simp only [List.setIfInBounds_toArray, List.set_cons_zero, List.set_cons_succ]
  refine callE (i := 8) (t := 97) (f := 24) (args := #[.pointer (some ⟨s, 0, none⟩), .string nm, .slice (some ⟨g, 0, none⟩) l.length cap]) rfl (by kernel_rfl) rfl (by rfl) ?hx8 (by decide) ?hc8
  case hx8 => (go_simp; try rfl)
  case hc8 =>
    refine Hput2.out.mono ?_
    rintro e w3 ⟨rfl, F', h1, h2, h3⟩
    refine ⟨_, rfl, ?_⟩
    try simp only [List.setIfInBounds_toArray, List.set_cons_zero, List.set_cons_succ]
    refine lastV (i := 9) (t := 8) (v := ?v9) (w' := w3) rfl (by kernel_rfl) rfl (by rfl) ?hx9 (by decide) (by kernel_rfl) ?_
    case hx9 => (go_simp; try with_reducible rfl)
    try simp only [List.setIfInBounds_toArray, List.set_cons_zero, List.set_cons_succ]
    have HP : Hid (StoreV base w3 s (v.put nm l).2 F' ∧ Chg F w w3 ∧ (∀ k, F' k → k < w.heap.size → F k) ∧ ¬ F' g ∧ Blk w3 g 5 cur) := Go.Lib.hid (by
      have hFg : ¬ F g := fun hF => by have := HF.out g hF; have := Hgl.out.1; omega
      refine ⟨h1, (HC2.out.drew.mono fun _ _ h => h.elim).trans h2, fun k hk hlt => h3 k hk (Nat.lt_of_lt_of_le hlt HC2.out.size), fun hF => hFg (h3 g hF Hgl.out.2), ?_⟩
      have hb : Blk w2.drew g 5 cur := HBG.out.1
      exact hb.chg h2 hFg)
    clear h1 h2 h3 Hput2 inv71 hHeld b3 b4
    obtain ⟨r, Hr⟩ : ∃ r, Hid (v.put nm l = r) := ⟨_, Go.Lib.hid rfl⟩
    have hb := Hput.out
    rw [Hr.out] at HP hb ⊢
    have hlen : l.length + 1 ≤ cap := Hcap.out.1
    go_wp2_with fail
    go_loopw [9] (fun i wr => ∃ k : Nat, k ≤ l.length + 1 ∧ i = .int .i64 k ∧ (∃ cs, Blk wr g 5 cs ∧ cs.size = cap) ∧ Chg (fun k => k = g) w3 wr) (fun i _ => l.length + 1 - (intOf i).toNat)
    case atStart => exact ⟨0, Nat.zero_le _, rfl, ⟨cur, HP.out.2.2.2.2, HBG.out.2⟩, Chg.refl _ _⟩
    case round =>
      obtain ⟨k, hk, rfl, ⟨cs, hB, hcs⟩, hch⟩ := hrel
      have HB := Go.Lib.hid (And.intro hB hcs)
      have HCh := Go.Lib.hid hch
      by_cases hlt : k < l.length + 1
      · have hz := hB.frozen k
        obtain ⟨u, hu⟩ : ∃ u, wr.cell? ⟨g, k, none⟩ = some u := ⟨_, (hB.cell k).trans (Array.getElem?_eq_getElem (by omega))⟩
        clear hB hcs hch
        go_wp2_with fail
        have HB2 : Hid (Blk (wr.setCell ⟨g, k, none⟩ (.int .u8 9)) g 5 (cs.setIfInBounds k (.int .u8 9)) ∧ (cs.setIfInBounds k (.int .u8 9)).size = cap) := Go.Lib.hid ⟨HB.out.1.set_ k _, by rw [Array.size_setIfInBounds]; exact HB.out.2⟩
        have HCh2 : Hid (Chg (fun k => k = g) w3 (wr.setCell ⟨g, k, none⟩ (.int .u8 9))) := Go.Lib.hid (HCh.out.setCell (p := ⟨g, k, none⟩) (fun _ => rfl) _)
        clear hz hu
        go_roundw
        case rel => exact ⟨k + 1, by omega, by go_num, ⟨_, HB2.out⟩, HCh2.out⟩
        case measure => simp [intOf]; omega
      · obtain rfl : k = l.length + 1 := by omega
        clear hB hcs hch
        go_wp2_with fail
        refine (N.out _ _).mono ?_
        rintro e wn ⟨rfl, he⟩
        obtain rfl := he.symm
        clear he
        go_wp2_with fail
        go_ret
        have hr := Hr.out
        subst hr
        obtain ⟨h1, h2, h3, h4, h5⟩ := HP.out
        exact ⟨rfl, F', h1.chg HCh.out (fun k hk e => h4 (e ▸ hk)), h2.step HCh.out (fun k hk e => by have := Hgl.out.1; omega), h3⟩
end
end Go.Proofs.Ytlglnebnldmceaa
