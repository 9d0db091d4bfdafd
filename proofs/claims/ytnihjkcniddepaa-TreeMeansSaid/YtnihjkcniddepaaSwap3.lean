/- What is proved: the walk of the law's swap. Conditions: as its contract says. -/
import Derived.Test.YtnihjkcniddepaaSwap2
namespace Go.Proofs.Ytnihjkcniddepaa
open Go.RowKit
theorem store_facts {U : World} {b : Nat} {cur : Array Value} {p : Nat} {z0 z1 z2 z3 z4 : Value} (h : Blk U b NT cur) (h0 : cur[p]? = some z0) (h1 : cur[p + 1]? = some z1) (h2 : cur[p + 2]? = some z2) (h3 : cur[p + 3]? = some z3) (h4 : cur[p + 4]? = some z4) (v0 v1 v2 v3 : Value) :
    (U.cell? ⟨b, p, none⟩ = some z0 ∧ U.frozen? ⟨b, p, none⟩ = false) ∧
    ((U.setCell ⟨b, p, none⟩ v0).cell? ⟨b, p + 1, none⟩ = some z1 ∧ (U.setCell ⟨b, p, none⟩ v0).frozen? ⟨b, p + 1, none⟩ = false) ∧
    (((U.setCell ⟨b, p, none⟩ v0).setCell ⟨b, p + 1, none⟩ v1).cell? ⟨b, p + 2, none⟩ = some z2 ∧ ((U.setCell ⟨b, p, none⟩ v0).setCell ⟨b, p + 1, none⟩ v1).frozen? ⟨b, p + 2, none⟩ = false) ∧
    ((((U.setCell ⟨b, p, none⟩ v0).setCell ⟨b, p + 1, none⟩ v1).setCell ⟨b, p + 2, none⟩ v2).cell? ⟨b, p + 3, none⟩ = some z3 ∧ (((U.setCell ⟨b, p, none⟩ v0).setCell ⟨b, p + 1, none⟩ v1).setCell ⟨b, p + 2, none⟩ v2).frozen? ⟨b, p + 3, none⟩ = false) ∧
    (((((U.setCell ⟨b, p, none⟩ v0).setCell ⟨b, p + 1, none⟩ v1).setCell ⟨b, p + 2, none⟩ v2).setCell ⟨b, p + 3, none⟩ v3).cell? ⟨b, p + 4, none⟩ = some z4 ∧ ((((U.setCell ⟨b, p, none⟩ v0).setCell ⟨b, p + 1, none⟩ v1).setCell ⟨b, p + 2, none⟩ v2).setCell ⟨b, p + 3, none⟩ v3).frozen? ⟨b, p + 4, none⟩ = false) := by
  have B1 := h.set_ p v0
  have B2 := B1.set_ (p + 1) v1
  have B3 := B2.set_ (p + 2) v2
  have B4 := B3.set_ (p + 3) v3
  refine ⟨⟨by rw [h.cell]; exact h0, h.frozen _⟩, ⟨?_, B1.frozen _⟩, ⟨?_, B2.frozen _⟩, ⟨?_, B3.frozen _⟩, ⟨?_, B4.frozen _⟩⟩
  · rw [B1.cell, Array.getElem?_setIfInBounds_ne (by omega)]; exact h1
  · rw [B2.cell, Array.getElem?_setIfInBounds_ne (by omega), Array.getElem?_setIfInBounds_ne (by omega)]; exact h2
  · rw [B3.cell, Array.getElem?_setIfInBounds_ne (by omega), Array.getElem?_setIfInBounds_ne (by omega), Array.getElem?_setIfInBounds_ne (by omega)]; exact h3
  · rw [B4.cell, Array.getElem?_setIfInBounds_ne (by omega), Array.getElem?_setIfInBounds_ne (by omega), Array.getElem?_setIfInBounds_ne (by omega), Array.getElem?_setIfInBounds_ne (by omega)]; exact h4
section
variable {xd : Own} {xk : F} {xA : Option Addr} {xn xc : Nat} {yd : Own} {yk : F} {yA : Option Addr} {yn yc : Nat}
theorem swap_range (f : F) : ∀ k : Int, -9223372036854775808 ≤ k ∧ k ≤ 9223372036854775807 → -9223372036854775808 ≤ (F.swap xd xk yd yk f k).2 ∧ (F.swap xd xk yd yk f k).2 ≤ 9223372036854775807 := by
  induction f with
  | nil => exact fun k h => h
  | cons d ks r ih1 ih2 =>
    intro k h
    rw [swap_cons]
    split
    · exact h
    · split
      · exact ⟨(by decide : (-9223372036854775808 : Int) ≤ -1), (by decide : (-1 : Int) ≤ 9223372036854775807)⟩
      · split
        · exact ⟨(by decide : (-9223372036854775808 : Int) ≤ -1), (by decide : (-1 : Int) ≤ 9223372036854775807)⟩
        · exact ih2 _ (ih1 _ (by omega))
theorem blkc5 {W : World} {c : Nat} {v0 v1 v2 v3 v4 : Value} (h : Blk W c NT #[v0, v1, v2, v3, v4]) : W.cell? ⟨c, 0, none⟩ = some v0 ∧ W.cell? ⟨c, 1, none⟩ = some v1 ∧ W.cell? ⟨c, 2, none⟩ = some v2 ∧ W.cell? ⟨c, 3, none⟩ = some v3 ∧ W.cell? ⟨c, 4, none⟩ = some v4 :=
  ⟨h.cell 0, h.cell 1, h.cell 2, h.cell 3, h.cell 4⟩
set_option maxHeartbeats 4000000 in
theorem swap_c (g : G) (hok : SwapOK xd xk xA xn xc yd yk yA yn yc g) : SwapC xd xk xA xn xc yd yk yA yn yc g := by
  intro b o n c A k w hn hle hmo h4 hb hs hr hnd hk hx
  unfold maxLen at hmo
  obtain ⟨hk1, hk2⟩ := hk
  have hrlt : ∀ q ∈ rowOf A n ++ g.rows, q < w.heap.size := fun q hq => by
    rcases List.mem_append.1 hq with hq | hq
    · rcases Nat.eq_zero_or_pos n with h0 | h0
      · unfold rowOf at hq; rw [if_pos h0] at hq; cases hq
      · obtain ⟨b', _, hr', hlt'⟩ := (hr h0).mem h0
        rw [hr'] at hq
        have : q = b' := by simpa using hq
        omega
    · exact sub_lt hs q hq
  have hw0 : Chg NoB w ((w.alloc (.cells #[.int .i64 xd.kind, .string xd.nm, .int .u32 xd.val, .bool xd.mark, .slice xA xn xc] NT)).alloc (.cells #[.int .i64 yd.kind, .string yd.nm, .int .u32 yd.val, .bool yd.mark, .slice yA yn yc] NT)) := ((Chg.refl _ _).alloc _).alloc _
  have hbx : Blk ((w.alloc (.cells #[.int .i64 xd.kind, .string xd.nm, .int .u32 xd.val, .bool xd.mark, .slice xA xn xc] NT)).alloc (.cells #[.int .i64 yd.kind, .string yd.nm, .int .u32 yd.val, .bool yd.mark, .slice yA yn yc] NT)) w.heap.size NT #[.int .i64 xd.kind, .string xd.nm, .int .u32 xd.val, .bool xd.mark, .slice xA xn xc] := (Blk.new w NT #[.int .i64 xd.kind, .string xd.nm, .int .u32 xd.val, .bool xd.mark, .slice xA xn xc]).alloc _
  have hby : Blk ((w.alloc (.cells #[.int .i64 xd.kind, .string xd.nm, .int .u32 xd.val, .bool xd.mark, .slice xA xn xc] NT)).alloc (.cells #[.int .i64 yd.kind, .string yd.nm, .int .u32 yd.val, .bool yd.mark, .slice yA yn yc] NT)) (w.heap.size + 1) NT #[.int .i64 yd.kind, .string yd.nm, .int .u32 yd.val, .bool yd.mark, .slice yA yn yc] := by
    have := Blk.new (w.alloc (.cells #[.int .i64 xd.kind, .string xd.nm, .int .u32 xd.val, .bool xd.mark, .slice xA xn xc] NT)) NT #[.int .i64 yd.kind, .string yd.nm, .int .u32 yd.val, .bool yd.mark, .slice yA yn yc]
    simpa using this
  have hs0 : SubG ((w.alloc (.cells #[.int .i64 xd.kind, .string xd.nm, .int .u32 xd.val, .bool xd.mark, .slice xA xn xc] NT)).alloc (.cells #[.int .i64 yd.kind, .string yd.nm, .int .u32 yd.val, .bool yd.mark, .slice yA yn yc] NT)) NT g := hs.keep fun q hq => hw0.block q (sub_lt hs q hq) id
  have hr0 : 0 < n → RowAt ((w.alloc (.cells #[.int .i64 xd.kind, .string xd.nm, .int .u32 xd.val, .bool xd.mark, .slice xA xn xc] NT)).alloc (.cells #[.int .i64 yd.kind, .string yd.nm, .int .u32 yd.val, .bool yd.mark, .slice yA yn yc] NT)) NT A g := fun h0 => (hr h0).keep h0 fun q hq => hw0.block q (hrlt q (List.mem_append.2 (.inl hq))) id
  have Hn := Go.Lib.hid hn
  have Hnd := Go.Lib.hid hnd
  have Hok := Go.Lib.hid hok
  have HS := Go.Lib.hid hs0
  have HR := Go.Lib.hid hr0
  have HBX : Hid (∀ W, Chg (fun q => q ∈ rowOf A n ++ g.rows) ((w.alloc (.cells #[.int .i64 xd.kind, .string xd.nm, .int .u32 xd.val, .bool xd.mark, .slice xA xn xc] NT)).alloc (.cells #[.int .i64 yd.kind, .string yd.nm, .int .u32 yd.val, .bool yd.mark, .slice yA yn yc] NT)) W → Blk W w.heap.size NT #[.int .i64 xd.kind, .string xd.nm, .int .u32 xd.val, .bool xd.mark, .slice xA xn xc]) := Go.Lib.hid fun W hW => hbx.chg hW fun hm => by have := hrlt _ hm; omega
  have HBY : Hid (∀ W, Chg (fun q => q ∈ rowOf A n ++ g.rows) ((w.alloc (.cells #[.int .i64 xd.kind, .string xd.nm, .int .u32 xd.val, .bool xd.mark, .slice xA xn xc] NT)).alloc (.cells #[.int .i64 yd.kind, .string yd.nm, .int .u32 yd.val, .bool yd.mark, .slice yA yn yc] NT)) W → Blk W (w.heap.size + 1) NT #[.int .i64 yd.kind, .string yd.nm, .int .u32 yd.val, .bool yd.mark, .slice yA yn yc]) := Go.Lib.hid fun W hW => hby.chg hW fun hm => by have := hrlt _ hm; omega
  have HB4 : Hid (∀ W, Chg (fun q => q ∈ rowOf A n ++ g.rows) ((w.alloc (.cells #[.int .i64 xd.kind, .string xd.nm, .int .u32 xd.val, .bool xd.mark, .slice xA xn xc] NT)).alloc (.cells #[.int .i64 yd.kind, .string yd.nm, .int .u32 yd.val, .bool yd.mark, .slice yA yn yc] NT)) W → W.cell? ⟨b, o + 4, none⟩ = some (.slice A n c)) := Go.Lib.hid fun W hW => hW.cell (hw0.cell h4 id) hb
  have HX : Hid (∀ W, Chg (fun q => q ∈ rowOf A n ++ g.rows) ((w.alloc (.cells #[.int .i64 xd.kind, .string xd.nm, .int .u32 xd.val, .bool xd.mark, .slice xA xn xc] NT)).alloc (.cells #[.int .i64 yd.kind, .string yd.nm, .int .u32 yd.val, .bool yd.mark, .slice yA yn yc] NT)) W → IsN W xd xk xA xn xc ∧ IsN W yd yk yA yn yc) := Go.Lib.hid fun W hW => hx W ((hw0.mono fun _ _ h => h.elim).trans hW)
  have HFin : Hid (∀ e W, SwapPost xd xk yd yk g A n k ((w.alloc (.cells #[.int .i64 xd.kind, .string xd.nm, .int .u32 xd.val, .bool xd.mark, .slice xA xn xc] NT)).alloc (.cells #[.int .i64 yd.kind, .string yd.nm, .int .u32 yd.val, .bool yd.mark, .slice yA yn yc] NT)) e W → SwapPost xd xk yd yk g A n k w e W) := Go.Lib.hid fun e W hp => ⟨hp.1, hp.2.1, (hw0.mono fun _ _ h => h.elim).trans hp.2.2.1, fun h0 => hw0.trans (hp.2.2.2 h0)⟩
  have Hb := Go.Lib.hid hb
  clear hn hs hr hnd hok hb hx hs0 hr0 hbx hby hw0 hrlt h4
  unfold nodeV
  go_enter Try.func30, Try.ntmps30
  go_wp2_with fail
  go_loopw [3, 9, 10] (fun v3 v9 _ W => ∃ (i : Nat) (kk : Int) (g1 g2 : G), i ≤ n ∧ v9 = .int .i64 i ∧ v3 = .int .i64 kk ∧ (-9223372036854775808 ≤ kk ∧ kk ≤ 9223372036854775807) ∧ SwI xd xk yd yk g A n k ((w.alloc (.cells #[.int .i64 xd.kind, .string xd.nm, .int .u32 xd.val, .bool xd.mark, .slice xA xn xc] NT)).alloc (.cells #[.int .i64 yd.kind, .string yd.nm, .int .u32 yd.val, .bool yd.mark, .slice yA yn yc] NT)) W i kk g1 g2) (fun _ v9 _ _ => n - (intOf v9).toNat)
  case atStart => exact ⟨0, k, .nil, g, Nat.zero_le _, rfl, rfl, ⟨hk1, hk2⟩, SwI.start Hn.out HS.out HR.out⟩
  case round =>
    obtain ⟨i, kk, g1, g2, hi, rfl, rfl, hkk, hinv⟩ := hrel
    have H := Go.Lib.hid hinv
    have hc4 := HB4.out _ hinv.chg
    clear hinv
    by_cases hgo : i < n ∧ 0 ≤ kk
    · obtain ⟨hlt, hpos⟩ := hgo
      obtain ⟨bA, d1, kA, kn, kc, ks, r, cur, rfl, rfl, hrow, hB, ⟨z0, z1, z2, z3, z4⟩, k3, k1, k2, hsubg, hrowg, hsub, hrk, okd, hsl⟩ := H.out.node Hn.out HS.out HR.out hpos hlt
      have hi1 : (0 : Int) ≤ i := by omega
      have hi2 : (i : Int) < n := by omega
      have cz0 : wr.cell? ⟨bA, i * 5, none⟩ = some (.int .i64 d1.kind) := by rw [hB.cell]; exact z0
      obtain ⟨x0, x1, x2, x3, x4⟩ := blkc5 (HBX.out _ H.out.chg)
      obtain ⟨y0, y1, y2, y3, y4⟩ := blkc5 (HBY.out _ H.out.chg)
      have hnd := Hnd.out
      rw [hrow] at hnd
      have hbA : bA ∉ rowOf kA kn ++ ks.rows := fun hm => by
        simp only [List.singleton_append, List.nodup_cons] at hnd
        exact hnd.1 (hsl.subset hm)
      have hndk : (rowOf kA kn ++ ks.rows).Nodup := by
        simp only [List.singleton_append, List.nodup_cons] at hnd
        exact List.Nodup.sublist hsl hnd.2
      have hok1 : SwapC xd xk xA xn xc yd yk yA yn yc ks := by
        have := Hok.out
        rw [H.out.eq] at this
        exact this.at_
      have hsubr : ∀ q, q ∈ rowOf kA kn ++ ks.rows → q ∈ rowOf (some (Addr.mk bA 0 none)) n ++ g.rows := fun q hq => List.mem_append.2 (.inr (hsl.subset hq))
      obtain ⟨km, hkm⟩ : ∃ km : Int, km = kk - 1 := ⟨_, rfl⟩
      have Hc := Go.Lib.hid (hok1 bA (i * 5) kn kc kA km wr.drew k3 k1 k2 (by show wr.cell? _ = _; rw [hB.cell]; exact z4) hbA (hsub.keep fun _ _ => rfl) (fun h0 => (hrk h0).keep h0 fun _ _ => rfl) hndk (by omega) (fun W hW => HX.out W (H.out.drew.chg.trans (hW.mono fun q _ hq => hsubr q hq))))
      unfold nodeV at Hc
      have HBl := Go.Lib.hid (show ¬ (kk = 0 ∧ 25 ≤ d1.kind ∧ d1.kind ≤ 33) → ¬ (kk = 0 ∧ d1.kind = 19) → ∀ e W', SwapPost xd xk yd yk ks kA kn km wr.drew e W' → SwI xd xk yd yk g (some ⟨bA, 0, none⟩) n k ((w.alloc (.cells #[.int .i64 xd.kind, .string xd.nm, .int .u32 xd.val, .bool xd.mark, .slice xA xn xc] NT)).alloc (.cells #[.int .i64 yd.kind, .string yd.nm, .int .u32 yd.val, .bool yd.mark, .slice yA yn yc] NT)) W' (i + 1) (F.swap xd xk yd yk ks.erase km).2 (g1.app (.cons d1 kA kn kc ks .nil)) r from fun c1 c2 e W' hp => by subst hkm; exact H.out.drew.below hpos Hn.out (hsubg.keep fun _ _ => rfl) rfl hrow (hrowg.keep (n := 1) (by omega) fun _ _ => rfl) Hnd.out c1 c2 hp)
      have HRg := Go.Lib.hid (swap_range (xd := xd) (xk := xk) (yd := yd) (yk := yk) ks.erase km (by omega))
      have HH := Go.Lib.hid (fun (hk0 : kk = 0) (zd : Own) (zk : F) (zA : Option Addr) (zn zc : Nat) hz hN => SwI.here H.out.drew hk0 Hn.out (hsubg.keep fun _ _ => rfl) rfl hrow (hrowg.keep (n := 1) (by omega) fun _ _ => rfl) Hnd.out zd zk zA zn zc hz hN)
      have hBd : Blk wr.drew bA NT cur := hB
      have FX := store_facts hBd z0 z1 z2 z3 z4 (.int .i64 xd.kind) (.string xd.nm) (.int .u32 xd.val) (.bool xd.mark)
      have FY := store_facts hBd z0 z1 z2 z3 z4 (.int .i64 yd.kind) (.string yd.nm) (.int .u32 yd.val) (.bool yd.mark)
      have HFX := Go.Lib.hid FX
      have HFY := Go.Lib.hid FY
      have hkind := okd.1
      have hw1 : IntKind.i64.wrap (kk - 1) = km := by rw [hkm]; exact IntWalk.i64_in _ (by omega)
      have hw2 : kk = 0 → IntKind.i64.wrap (-1) = km := fun h0 => by rw [← hw1, h0]; rfl
      clear hkm hnd hbA hndk hok1 hsubr hsub hrk k3 hsl hrow okd hsubg hrowg hB hBd z0 z1 z2 z3 z4 FX FY
      by_cases e0 : kk = 0
      · by_cases e1 : 25 ≤ d1.kind
        · by_cases e2 : d1.kind ≤ 33
          · have HE := Go.Lib.hid (HH.out e0 xd xk xA xn xc (by rw [swap_cons, if_neg (by omega), if_pos ⟨rfl, e1, e2⟩]) (fun W hW => (HX.out W hW).1))
            clear hw1 hw2 hkind
            subst e0
            go_wp2_with fail
            set_option maxRecDepth 100000 in go_still_tail 7, (by kernel_rfl)
            change wpList _ _ _ _ _ wr.drew
            generalize wr.drew = wu at HFX HE ⊢
            obtain ⟨⟨f0, p0⟩, ⟨f1, p1⟩, ⟨f2, p2⟩, ⟨f3, p3⟩, ⟨f4, p4⟩⟩ := HFX.out
            go_wp2_with fail
            go_ret
            exact HFin.out _ _ HE.out
          · have c1 : ¬ (kk = 0 ∧ 25 ≤ d1.kind ∧ d1.kind ≤ 33) := by omega
            have c2 : ¬ (kk = 0 ∧ d1.kind = 19) := by omega
            have HL := Go.Lib.hid (HBl.out c1 c2)
            have e3 : ¬ d1.kind = 19 := by omega
            clear c1 c2
            have hw3 := hw2 e0
            clear hw1 hw2
            subst e0
            go_wp2_with fail
            set_option maxRecDepth 100000 in go_still_tail 10, (by kernel_rfl)
            change wpList _ _ _ _ _ wr.drew
            go_wp2_with fail
            refine Hc.out.mono ?_
            rintro e w1 hp
            have HN := Go.Lib.hid (HL.out _ _ hp)
            obtain ⟨rfl, _⟩ := hp
            go_wp2_with fail
            go_roundw
            case rel => exact ⟨i + 1, _, _, _, by omega, by go_num, rfl, HRg.out, HN.out⟩
            case measure => simp [intOf]; omega
        · by_cases e3 : d1.kind = 19
          · have HE := Go.Lib.hid (HH.out e0 yd yk yA yn yc (by rw [swap_cons, if_neg (by omega), if_neg (by omega), if_pos ⟨rfl, e3⟩]) (fun W hW => (HX.out W hW).2))
            clear hw1 hw2 hkind
            subst e0
            go_wp2_with fail
            set_option maxRecDepth 100000 in go_still_tail 7, (by kernel_rfl)
            change wpList _ _ _ _ _ wr.drew
            generalize wr.drew = wu at HFY HE ⊢
            obtain ⟨⟨f0, p0⟩, ⟨f1, p1⟩, ⟨f2, p2⟩, ⟨f3, p3⟩, ⟨f4, p4⟩⟩ := HFY.out
            go_wp2_with fail
            go_ret
            exact HFin.out _ _ HE.out
          · have c1 : ¬ (kk = 0 ∧ 25 ≤ d1.kind ∧ d1.kind ≤ 33) := by omega
            have c2 : ¬ (kk = 0 ∧ d1.kind = 19) := by omega
            have HL := Go.Lib.hid (HBl.out c1 c2)
            clear c1 c2
            have hw3 := hw2 e0
            clear hw1 hw2
            subst e0
            go_wp2_with fail
            set_option maxRecDepth 100000 in go_still_tail 10, (by kernel_rfl)
            change wpList _ _ _ _ _ wr.drew
            go_wp2_with fail
            refine Hc.out.mono ?_
            rintro e w1 hp
            have HN := Go.Lib.hid (HL.out _ _ hp)
            obtain ⟨rfl, _⟩ := hp
            go_wp2_with fail
            go_roundw
            case rel => exact ⟨i + 1, _, _, _, by omega, by go_num, rfl, HRg.out, HN.out⟩
            case measure => simp [intOf]; omega
      · have c1 : ¬ (kk = 0 ∧ 25 ≤ d1.kind ∧ d1.kind ≤ 33) := by omega
        have c2 : ¬ (kk = 0 ∧ d1.kind = 19) := by omega
        have HL := Go.Lib.hid (HBl.out c1 c2)
        clear c1 c2
        clear hw2
        go_wp2_with fail
        set_option maxRecDepth 100000 in go_still_tail 10, (by kernel_rfl)
        change wpList _ _ _ _ _ wr.drew
        go_wp2_with fail
        refine Hc.out.mono ?_
        rintro e w1 hp
        have HN := Go.Lib.hid (HL.out _ _ hp)
        obtain ⟨rfl, _⟩ := hp
        go_wp2_with fail
        go_roundw
        case rel => exact ⟨i + 1, _, _, _, by omega, by go_num, rfl, HRg.out, HN.out⟩
        case measure => simp [intOf]; omega
    · have HF := Go.Lib.hid (HFin.out _ _ (H.out.fin Hn.out HS.out HR.out (by omega)))
      by_cases hlt : i < n
      · have hneg : ¬ (0 : Int) ≤ kk := by omega
        have hi2 : (i : Int) < n := by omega
        clear hgo
        go_wp2_with fail
        go_ret
        exact HF.out
      · have hi2 : ¬ (i : Int) < n := by omega
        clear hgo
        go_wp2_with fail
        go_ret
        exact HF.out
theorem swap_all (g : G) : SwapC xd xk xA xn xc yd yk yA yn yc g ∧ SwapOK xd xk xA xn xc yd yk yA yn yc g := by
  induction g with
  | nil => exact ⟨swap_c .nil trivial, trivial⟩
  | cons d kA kn kc ks r ihk ihr => exact ⟨swap_c _ ⟨ihk.1, ihr.2⟩, ihk.1, ihr.2⟩
end
end Go.Proofs.Ytnihjkcniddepaa

