import Derived.Test.YtggknljlibhkjaaGreatGMcC
set_option linter.unusedSimpArgs false
set_option linter.unusedVariables false
namespace Go.Proofs.YtggknljlibhkjaaGreat
open Go Go.RowKit
set_option maxRecDepth 100000 in
set_option maxHeartbeats 2000000 in
theorem rbytes_c (w : World) (A : Option Addr) (c : Nat) (l : List Int) (hl : l.length ≤ 4194304) (hb : ∀ x ∈ l, 0 ≤ x ∧ x < 4294967296) (h : CellsAt w A (u32s l)) : Calls Tryz.prog 73 #[.slice A l.length c] w (BytesPost l w) := by
 have H := Go.Lib.hid h
 have HB := Go.Lib.hid hb
 obtain ⟨i0, hi0, hz0, hz1, hz2⟩ := info_parts u8info
 have Hi := Go.Lib.hid (And.intro hi0 (And.intro hz0 (And.intro hz1 hz2)))
 clear h hb hi0 hz0 hz1 hz2
 go_enter Tryz.func73, Tryz.ntmps73
 go_wp2_with fail
 go_loopw [3, 4, 5, 6] (fun v3 v4 _ _ wr => ∃ (k : Nat) (rv : Value), k ≤ l.length ∧ rv = v3 ∧ v4 = .int .i64 k ∧ wr.ownsRow w.heap.size 5 1 v3 (4 * k) (u8s (wb (l.take k))) ∧ Chg NoB w wr) (fun _ v4 _ _ _ => l.length - (intOf v4).toNat)
 case atStart => exact ⟨0, _, Nat.zero_le _, rfl, rfl, by simpa [wb, u8s] using World.ownsRow_nil _ _ _ _, Chg.refl _ _⟩
 case round =>
  obtain ⟨k, rv, hk, rfl, rfl, hown, hc⟩ := hrel
  by_cases hlt : k < l.length
  ·obtain ⟨ad, rfl, hcell⟩ := H.out (by simp [u32s]; omega)
   have hbk := HB.out l[k] (List.getElem_mem _)
   have hck : wr.cell? (ad.add k) = some (.int .u32 l[k]) := by
    have h1 := hcell k (.int .u32 l[k]) (by simp [u32s, hlt])
    exact (World.cell?_of_block (hc.block _ (World.block_lt_of_cell? w _ h1) id)).trans h1
   have hsn : l.take (k + 1) = l.take k ++ [l[k]] := by rw [List.take_succ_eq_append_getElem hlt]
   have HS := Go.Lib.hid hsn
   have hlen : (u8s (wb (l.take k))).length = 4 * k := by simp [u8s, wb_len]; omega
   have HL := Go.Lib.hid hlen
   have HC0 := Go.Lib.hid hc
   have HO0 := Go.Lib.hid hown
   clear hsn hcell hlen hown hc
   obtain ⟨x, hx⟩ : ∃ x : Nat, l[k] = (x : Int) := ⟨l[k].toNat, by omega⟩
   rw [hx] at hck hbk HS
   clear hx
   have q1 : ((x / 256 : Nat) : Int) = (x : Int) / 256 := by omega
   have q2 : ((x / 65536 : Nat) : Int) = (x : Int) / 256 / 256 := by omega
   have q3 : ((x / 16777216 : Nat) : Int) = (x : Int) / 256 / 256 / 256 := by omega
   have Q := Go.Lib.hid (And.intro q1 (And.intro q2 q3))
   clear q1 q2 q3
   go_wp2_with fail
   refine wp_loop_rounds 5 ?_
   rw [rounds_succ]
   go_wp2_with (at_builtin; go_must (refine wpList_app _ rfl (.tmp 21) (.tmp 25) _ rfl w.heap.size 5 i0 _ 1 Tryz.underlying44 Hi.out.1 Hi.out.2.1 Hi.out.2.2.1 Hi.out.2.2.2 rfl rv (4 * k) (u8s (wb (l.take k))) rfl (HO0.out.alloc _) (some ⟨wr.heap.size, 0, none⟩) 1 1 [.int .u8 ((x : Int) % 256)] rfl rfl (cells_of_blk (Blk.new wr _ _)) (by simp [Value.oneCell']) (by unfold maxLen; omega) (by omega) (by have := HC0.out.size; simp; omega) ?_); intro v1 w1 own1 gr1 at1)
   have HC1 := Go.Lib.hid ((HC0.out.alloc _).grown gr1 (fun j hj hlt => by
    rcases HO0.out.2 with ⟨rfl, _⟩ | ⟨g, cap, cur, rfl, hb, _⟩
    ·simp [Value.ownBlock] at hj
    ·have : g = j := by simpa [Value.ownBlock] using hj
     omega))
   have HO1 := Go.Lib.hid own1
   clear own1 gr1 at1
   rw [rounds_succ]
   go_wp2_with (at_builtin; go_must (refine wpList_app _ rfl (.tmp 21) (.tmp 25) _ rfl w.heap.size 5 i0 _ 1 Tryz.underlying44 Hi.out.1 Hi.out.2.1 Hi.out.2.2.1 Hi.out.2.2.2 rfl v1 (4 * k + 1) ((u8s (wb (l.take k))) ++ [.int .u8 ((x : Int) % 256)]) rfl (HO1.out.alloc _) (some ⟨w1.heap.size, 0, none⟩) 1 1 [.int .u8 ((x : Int) / 256 % 256)] rfl rfl (cells_of_blk (Blk.new w1 _ _)) (by simp [Value.oneCell']) (by unfold maxLen; omega) (by omega) (by have := HC1.out.size; simp; omega) ?_); intro v2 w2 own1 gr1 at1)
   have HC2 := Go.Lib.hid ((HC1.out.alloc _).grown gr1 (fun j hj hlt => by
    rcases HO1.out.2 with ⟨rfl, _⟩ | ⟨g, cap, cur, rfl, hb, _⟩
    ·simp [Value.ownBlock] at hj
    ·have : g = j := by simpa [Value.ownBlock] using hj
     omega))
   have HO2 := Go.Lib.hid own1
   clear own1 gr1 at1
   rw [rounds_succ]
   go_wp2_with (at_builtin; go_must (refine wpList_app _ rfl (.tmp 21) (.tmp 25) _ rfl w.heap.size 5 i0 _ 1 Tryz.underlying44 Hi.out.1 Hi.out.2.1 Hi.out.2.2.1 Hi.out.2.2.2 rfl v2 (4 * k + 1 + 1) (((u8s (wb (l.take k))) ++ [.int .u8 ((x : Int) % 256)]) ++ [.int .u8 ((x : Int) / 256 % 256)]) rfl (HO2.out.alloc _) (some ⟨w2.heap.size, 0, none⟩) 1 1 [.int .u8 ((x : Int) / 256 / 256 % 256)] rfl rfl (cells_of_blk (Blk.new w2 _ _)) (by simp [Value.oneCell']) (by unfold maxLen; omega) (by omega) (by have := HC2.out.size; simp; omega) ?_); intro v3 w3 own1 gr1 at1)
   have HC3 := Go.Lib.hid ((HC2.out.alloc _).grown gr1 (fun j hj hlt => by
    rcases HO2.out.2 with ⟨rfl, _⟩ | ⟨g, cap, cur, rfl, hb, _⟩
    ·simp [Value.ownBlock] at hj
    ·have : g = j := by simpa [Value.ownBlock] using hj
     omega))
   have HO3 := Go.Lib.hid own1
   clear own1 gr1 at1
   rw [rounds_succ]
   go_wp2_with (at_builtin; go_must (refine wpList_app _ rfl (.tmp 21) (.tmp 25) _ rfl w.heap.size 5 i0 _ 1 Tryz.underlying44 Hi.out.1 Hi.out.2.1 Hi.out.2.2.1 Hi.out.2.2.2 rfl v3 (4 * k + 1 + 1 + 1) ((((u8s (wb (l.take k))) ++ [.int .u8 ((x : Int) % 256)]) ++ [.int .u8 ((x : Int) / 256 % 256)]) ++ [.int .u8 ((x : Int) / 256 / 256 % 256)]) rfl (HO3.out.alloc _) (some ⟨w3.heap.size, 0, none⟩) 1 1 [.int .u8 ((x : Int) / 256 / 256 / 256 % 256)] rfl rfl (cells_of_blk (Blk.new w3 _ _)) (by simp [Value.oneCell']) (by unfold maxLen; omega) (by omega) (by have := HC3.out.size; simp; omega) ?_); intro v4 w4 own1 gr1 at1)
   have HC4 := Go.Lib.hid ((HC3.out.alloc _).grown gr1 (fun j hj hlt => by
    rcases HO3.out.2 with ⟨rfl, _⟩ | ⟨g, cap, cur, rfl, hb, _⟩
    ·simp [Value.ownBlock] at hj
    ·have : g = j := by simpa [Value.ownBlock] using hj
     omega))
   have HO4 := Go.Lib.hid own1
   clear own1 gr1 at1
   rw [rounds_succ]
   go_wp2_with fail
   refine ⟨⟨k + 1, _, hlt, rfl, by simp, ?_, HC4.out⟩, ?_⟩
   ·have e1 : 4 * (k + 1) = 4 * k + 1 + 1 + 1 + 1 := by omega
    rw [e1, HS.out, wb_snoc]
    have e2 : (x : Int) / 256 / 256 = (x : Int) / 65536 := by omega
    have e3 : (x : Int) / 256 / 256 / 256 % 256 = (x : Int) / 16777216 := by omega
    have := HO4.out
    rw [e3, e2] at this
    unfold u8s at this ⊢
    rw [List.map_append]
    simpa using this
   ·simp only [intOf]
    omega
  ·have hkl : k = l.length := by omega
   subst hkl
   have hnn : decide ((l.length : Int) < l.length) = false := by simp
   have HO := Go.Lib.hid (And.intro hown hc)
   clear hown hc
   go_wp2_with fail
   go_ret
   have h1 := HO.out.1
   rw [List.take_length] at h1
   exact ⟨_, rfl, h1, HO.out.2⟩
abbrev RT : TypeId := 77
def Mc.rarr (d : Mc) (mb : Nat) (sv : Value) : Array Value := d.c.arr ++ #[.slice (some ⟨mb, 0, none⟩) d.n d.n, .int .i64 d.heap, sv, .int .i64 d.kind, .int .u32 d.code]
structure RMAt (W : World) (r mb : Nat) (sv : Value) (d : Mc) : Prop where
 m : Blk W r RT (d.rarr mb sv)
 b : Blk W mb U8 (memArr d.n d.M)
section
variable {W W' : World} {r mb : Nat} {sv : Value} {d : Mc} {F : Nat → Prop}
theorem RMAt.chg (h : RMAt W r mb sv d) (hc : Chg F W W') (h1 : ¬ F r) (h2 : ¬ F mb) : RMAt W' r mb sv d := ⟨h.m.chg hc h1, h.b.chg hc h2⟩
theorem RMAt.quiet (h : RMAt W r mb sv d) (hc : Chg NoB W W') : RMAt W' r mb sv d := h.chg hc id id
theorem RMAt.byte (h : RMAt W r mb sv d) {i : Nat} (hi : i < d.n) : W.cell? ⟨mb, i, none⟩ = some (.int .u8 (d.M i)) := by rw [h.b.cell i, memArr_get _ hi]
end
def RNewPost (n : Nat) (l : List Int) (sv : Value) (w : World) (e : Ending) (w' : World) : Prop := ∃ r mb, e = .returned (.pointer (some ⟨r, 0, none⟩)) ∧ RMAt w' r mb sv (Mc.new n l) ∧ Chg NoB w w' ∧ w.heap.size ≤ r ∧ w.heap.size ≤ mb
def upTo (l : List Int) (i : Nat) : Nat → Int := fun j => if j < i then l.getD j 0 else 0
theorem upTo_zero (l : List Int) : upTo l 0 = zeroR := by funext j; simp [upTo, zeroR]
theorem upTo_succ (l : List Int) (i : Nat) : upd (upTo l i) i (l.getD i 0) = upTo l (i + 1) := by
 funext j
 unfold upd upTo
 by_cases h : j = i
 ·subst h; simp
 ·rw [if_neg h]
  by_cases h2 : j < i
  ·rw [if_pos h2, if_pos (by omega)]
  ·rw [if_neg h2, if_neg (by omega)]
theorem upTo_all (l : List Int) (i : Nat) (h : l.length ≤ i) : upTo l i = fun j => l.getD j 0 := by
 funext j
 unfold upTo
 by_cases h2 : j < i
 ·rw [if_pos h2]
 ·rw [if_neg h2]
  simp [List.getElem?_eq_none (show l.length ≤ j by omega)]
set_option maxRecDepth 100000 in
set_option maxHeartbeats 4000000 in
theorem rnew_c (w : World) (n : Nat) (A : Option Addr) (c : Nat) (l : List Int) (sp : Option Addr) (hn : 64 ≤ n ∧ n ≤ 16777216 ∧ n % 4 = 0) (hl : l.length ≤ n / 4) (hb : ∀ x ∈ l, 0 ≤ x ∧ x < 4294967296) (hc : CellsAt w A (u32s l)) :
  Calls Tryz.prog 23 #[.int .i64 n, .slice A l.length c, .pointer sp] w (RNewPost n l (.pointer sp) w) := by
 have HB : Hid (∀ W', Chg NoB w W' → Calls Tryz.prog 73 #[.slice A l.length c] W' (BytesPost l W')) := Go.Lib.hid fun W' hc' => rbytes_c W' A c l (by omega) hb (hc.chg hc' (fun _ _ => id))
 have HBD := Go.Lib.hid (wb_bd l hb)
 obtain ⟨i0, hi0, hz0, hz1, hz2⟩ := info_parts u8info
 have HM : Hid (∀ W : World, (Instr.makeSlice 44 (.int .i64 n) (.int .i64 n)).run Tryz.prog W = .ok (.slice (some ⟨W.heap.size, 0, none⟩) n n) (W.alloc (.cells (memArr n zeroR) U8))) := Go.Lib.hid (fun W => by
  have := run_make (P := Tryz.prog) W 44 U8 i0 _ Tryz.underlying44 hi0 hz0 .i64 .i64 n n (by omega) (by omega) (by rw [hz2]; omega) (by omega)
  rw [this, hz1, ← made_u8]
  rfl)
 clear hb hc hi0 hz0 hz1 hz2
 go_enter Tryz.func23, Tryz.ntmps23
 go_wp2_with fail
 rw [HM.out]
 go_wp2_with fail
 have hb0 : Blk ((w.alloc (.cells (memArr n zeroR) U8)).alloc (.cells ((⟨Cp.zero, n, zeroR, 4 * l.length, 0, 0⟩ : Mc).rarr w.heap.size (.pointer sp)) RT)) (w.heap.size + 1) RT _ := Blk.new1 _ _ _ _
 have hb1 : Blk ((w.alloc (.cells (memArr n zeroR) U8)).alloc (.cells ((⟨Cp.zero, n, zeroR, 4 * l.length, 0, 0⟩ : Mc).rarr w.heap.size (.pointer sp)) RT)) w.heap.size U8 (memArr n zeroR) := (Blk.new _ _ _).alloc _
 have hch : Chg NoB w ((w.alloc (.cells (memArr n zeroR) U8)).alloc (.cells ((⟨Cp.zero, n, zeroR, 4 * l.length, 0, 0⟩ : Mc).rarr w.heap.size (.pointer sp)) RT)) := ((Chg.refl _ _).alloc _).alloc _
 have hz : ((w.alloc (.cells (memArr n zeroR) U8)).alloc (.cells ((⟨Cp.zero, n, zeroR, 4 * l.length, 0, 0⟩ : Mc).rarr w.heap.size (.pointer sp)) RT)).heap.size = w.heap.size + 2 := by simp
 change (Calls _ _ _ ((w.alloc (.cells (memArr n zeroR) U8)).alloc (.cells ((⟨Cp.zero, n, zeroR, 4 * l.length, 0, 0⟩ : Mc).rarr w.heap.size (.pointer sp)) RT)) _)
 generalize (w.alloc (.cells (memArr n zeroR) U8)).alloc (.cells ((⟨Cp.zero, n, zeroR, 4 * l.length, 0, 0⟩ : Mc).rarr w.heap.size (.pointer sp)) RT) = W at *
 generalize hmbE : w.heap.size = mb at *
 generalize har : (Mc.rarr ⟨Cp.zero, n, zeroR, 4 * l.length, 0, 0⟩ mb (.pointer sp)) = AR at *
 have HX := Go.Lib.hid (And.intro hb0 (And.intro hb1 hch))
 have HBW := Go.Lib.hid (HB.out W hch)
 have hlen := wb_len l
 clear hb0 hb1 hch HB
 refine HBW.out.mono ?_
 rintro e w2 ⟨bv, rfl, hown, hq⟩
 obtain ⟨A2, c2, rfl⟩ := own_slice hown
 have H2 := Go.Lib.hid (And.intro (HX.out.1.chg hq id) (And.intro (HX.out.2.1.chg hq id) (And.intro (HX.out.2.2.trans hq) hown)))
 clear HX HBW hq hown
 go_wp2_with fail
 go_loopw [9] (fun v9 wr => ∃ i : Nat, i ≤ 4 * l.length ∧ v9 = .int .i64 i ∧ Blk wr (mb + 1) RT AR ∧ Blk wr mb U8 (memArr n (upTo (wb l) i)) ∧ Chg NoB w wr ∧ wr.ownsRow W.heap.size U8 1 (.slice A2 (4 * l.length) c2) (4 * l.length) (u8s (wb l))) (fun v9 _ => 4 * l.length - (intOf v9).toNat)
 case atStart => exact ⟨0, Nat.zero_le _, rfl, H2.out.1, by rw [upTo_zero]; exact H2.out.2.1, H2.out.2.2.1, H2.out.2.2.2⟩
 case round =>
  obtain ⟨i, hi, rfl, hr, hm, hcg, hown⟩ := hrel
  by_cases hlt : i < 4 * l.length
  ·have hd : decide ((i : Int) < ((4 * l.length : Nat) : Int)) = true := by simp; omega
   obtain ⟨ad, rfl, hcell⟩ := CellsAt.of_own hown (by simp [u8s, hlen]; omega)
   have hv : (u8s (wb l))[i]? = some (.int .u8 ((wb l).getD i 0)) := by simp [u8s, hlen, hlt]
   have hcr := hcell i _ hv
   have HO := Go.Lib.hid (And.intro hr (And.intro hm (And.intro hcg hown)))
   have hin : i < n := by omega
   have hmbad : ad.block ≠ mb := fun e => by
    rcases hown.2 with ⟨h0, _⟩ | ⟨g, cap, cur, h0, hbk, hg, _⟩
    ·simp at h0
    ·have : ad = ⟨g, 0, none⟩ := (show ad = ⟨g, 0, none⟩ ∧ c2 = cap by simpa using h0).1
     rw [this] at e
     have : g = mb := e
     omega
   have cmb := hm.cell i
   rw [memArr_get _ hin] at cmb
   have zmb := hm.frozen i
   obtain ⟨x, hx⟩ : ∃ x, (wb l).getD i 0 = x := ⟨_, rfl⟩
   rw [hx] at hcr
   have HXv := Go.Lib.hid hx
   clear hr hm hcg hown hcell hv hx
   go_wp2_with fail
   refine regionT 10 (fun V' => V'.cell? ⟨mb + 1, 22, none⟩ = some (.slice (some ⟨mb, 0, none⟩) n n) ∧ V'.cell? (ad.add i) = some (.int .u8 x)) (by kernel_rfl) (by decide) (⟨by rw [HO.out.1.drew.cell 22, ← har]; rfl, hcr⟩) (fun inv hHeld => ?_)
   refine takeT (i := 0) (t := 26) (v := ?v0y1) rfl (by kernel_rfl) (fun _ _ _ h => h) rfl (Or.inl ⟨by rfl, ?h0y1⟩) inv hHeld ?r0y1
   case h0y1 => (intro V' hSw; obtain ⟨hs1, hs2⟩ := hSw; go_simp; try with_reducible rfl)
   clear inv
   intro inv
   try simp only [sw1, sw2, sw3]
   refine takeT (i := 1) (t := 27) (v := ?v1y2) rfl (by kernel_rfl) (fun _ _ _ h => h) rfl (Or.inl ⟨by rfl, ?h1y2⟩) inv hHeld ?r1y2
   case h1y2 => (intro V' hSw; obtain ⟨hs1, hs2⟩ := hSw; go_simp; try with_reducible rfl)
   clear inv
   intro inv
   try simp only [sw1, sw2, sw3]
   refine takeT (i := 2) (t := 28) (v := ?v2y3) rfl (by kernel_rfl) (fun _ _ _ h => h) rfl (Or.inl ⟨by rfl, ?h2y3⟩) inv hHeld ?r2y3
   case h2y3 => (intro V' hSw; obtain ⟨hs1, hs2⟩ := hSw; go_simp; try with_reducible rfl)
   clear inv
   intro inv
   try simp only [sw1, sw2, sw3]
   refine takeT (i := 3) (t := 29) (v := ?v3y4) rfl (by kernel_rfl) (fun _ _ _ h => h) rfl (Or.inl ⟨by rfl, ?h3y4⟩) inv hHeld ?r3y4
   case h3y4 => (intro V' hSw; obtain ⟨hs1, hs2⟩ := hSw; go_simp; try with_reducible rfl)
   clear inv
   intro inv
   try simp only [sw1, sw2, sw3]
   refine takeT (i := 4) (t := 30) (v := ?v4y5) rfl (by kernel_rfl) (fun _ _ _ h => h) rfl (Or.inl ⟨by rfl, ?h4y5⟩) inv hHeld ?r4y5
   case h4y5 => (intro V' hSw; obtain ⟨hs1, hs2⟩ := hSw; go_simp; try with_reducible rfl)
   clear inv
   intro inv
   try simp only [sw1, sw2, sw3]
   refine takeT (i := 5) (t := 31) (v := ?v5y6) rfl (by kernel_rfl) (fun _ _ _ h => h) rfl (Or.inl ⟨by rfl, ?h5y6⟩) inv hHeld ?r5y6
   case h5y6 => (intro V' hSw; obtain ⟨hs1, hs2⟩ := hSw; go_simp; try with_reducible rfl)
   clear inv
   intro inv
   try simp only [sw1, sw2, sw3]
   refine takeT (i := 6) (t := 32) (v := ?v6y7) rfl (by kernel_rfl) (fun _ _ _ h => h) rfl (Or.inl ⟨by rfl, ?h6y7⟩) inv hHeld ?r6y7
   case h6y7 => (intro V' hSw; obtain ⟨hs1, hs2⟩ := hSw; go_simp; try with_reducible rfl)
   clear inv
   intro inv
   try simp only [sw1, sw2, sw3]
   refine takeT (i := 7) (t := 33) (v := ?v7y8) rfl (by kernel_rfl) (fun _ _ _ h => h) rfl (Or.inl ⟨by rfl, ?h7y8⟩) inv hHeld ?r7y8
   case h7y8 => (intro V' hSw; obtain ⟨hs1, hs2⟩ := hSw; go_simp; try with_reducible rfl)
   clear inv
   intro inv
   try simp only [sw1, sw2, sw3]
   refine takeT (i := 8) (t := 34) (v := ?v8y9) rfl (by kernel_rfl) (fun _ _ _ h => h) rfl (Or.inl ⟨by rfl, ?h8y9⟩) inv hHeld ?r8y9
   case h8y9 => (intro V' hSw; obtain ⟨hs1, hs2⟩ := hSw; go_simp; try with_reducible rfl)
   clear inv
   intro inv
   try simp only [sw1, sw2, sw3]
   refine takeT (i := 9) (t := 35) (v := ?v9y10) rfl (by kernel_rfl) (fun _ _ _ h => h) rfl (Or.inl ⟨by rfl, ?h9y10⟩) inv hHeld ?r9y10
   case h9y10 => (intro V' hSw; obtain ⟨hs1, hs2⟩ := hSw; go_simp; try with_reducible rfl)
   clear inv
   intro inv
   try simp only [sw1, sw2, sw3]
   refine lastT (i := 10) (w' := (wr.setCell ⟨mb, i, none⟩ (.int .u8 x)).drew) rfl (by kernel_rfl) rfl (by rfl) ?hx11 (by decide) (by kernel_rfl) ?_
   case hx11 => (go_simp; try with_reducible rfl)
   clear hHeld inv
   have hB := (HO.out.1.far (p := ⟨mb, i, none⟩) (show mb + 1 ≠ mb by omega) (.int .u8 x))
   have hM := HO.out.2.1.set_ i (.int .u8 x)
   rw [memArr_set, ← HXv.out, upTo_succ] at hM
   have hC := HO.out.2.2.1.setCell (p := ⟨mb, i, none⟩) (fun h => absurd h (show ¬ mb < w.heap.size by omega)) (.int .u8 x)
   have hOw := own_chg HO.out.2.2.2 ((Chg.refl (fun k => k = mb) wr).setCell (p := ⟨mb, i, none⟩) (fun _ => rfl) (.int .u8 x)) (fun k hk => by
    have hk2 := (HO.out.2.2.2.lt k hk).1
    omega)
   rw [HXv.out] at hM
   have HF := Go.Lib.hid (And.intro hB (And.intro hM (And.intro hC hOw)))
   clear hB hM hC hOw
   go_wp2_with fail
   refine ⟨⟨i + 1, hlt, by simp, HF.out.1, HF.out.2.1, HF.out.2.2.1.drew, HF.out.2.2.2⟩, by simp only [intOf]; omega⟩
  ·have hd : decide ((i : Int) < ((4 * l.length : Nat) : Int)) = false := by simp; omega
   obtain rfl : i = 4 * l.length := by omega
   have HO := Go.Lib.hid (And.intro hr (And.intro hm (And.intro hcg hown)))
   have c14 : wr.cell? ⟨mb + 1, 14, none⟩ = some (.int .u32 0) := by rw [hr.cell 14, ← har]; rfl
   have z14 := hr.frozen 14
   have hn32 : (n : Int) % 4294967296 = n := by omega
   clear hr hm hcg hown
   go_wp2_with fail
   go_ret
   refine ⟨mb + 1, mb, rfl, ⟨?_, ?_⟩, HO.out.2.2.1.setCell (p := ⟨mb + 1, 14, none⟩) (fun h => absurd h (show ¬ mb + 1 < w.heap.size by omega)) _, by omega, by omega⟩
   ·have := HO.out.1.set_ 14 (.int .u32 n)
    rw [← har] at this
    exact this
   ·have := HO.out.2.1.far (p := ⟨mb + 1, 14, none⟩) (show mb ≠ mb + 1 by omega) (.int .u32 n)
    rw [upTo_all _ _ (by rw [hlen]; exact Nat.le_refl _)] at this
    exact this
end Go.Proofs.YtggknljlibhkjaaGreat
