/- What is proved: tree's Walk hands back an iterator that gives all nodes in their order, or as many as are asked for. Conditions: a round that goes on keeps all cells but the caller's own. -/
import Derived.Test.YtnihjkcniddepaaVis
import Derived.RangeFuncNested
import Derived.RangeFuncBound
import Derived.RangeFuncCalls
import Derived.RangeFuncLeaves
import Derived.Shelf.Abstract
import Derived.Shelf.RegionOpen
import Derived.WalkKit
import Derived.OwnWalkIn
import Derived.TacticsInMore
import Derived.LoopNIn
import Derived.LoopIn
import Derived.Laws.EntriesVeiled
namespace Go.Proofs.Ytnihjkcniddepaa
open Go.RowKit Go.Shelf
attribute [local go_sem] Oper.semAt_some
abbrev YT : TypeId := 65
theorem room_of_none {F : Fence} (hd : F.depth = none) (n : Nat) : F.room n := fun d h => by rw [hd] at h; cases h
theorem RoundIn.anyDepth {F : Fence} (hd : F.depth = none) {m m' : Nat} {P : Program} {l : Nat} {f : FuncId} {tmps : Array Value} {assign body : Code} {w : World} {R : Ending → World → Prop}
    (h : RoundIn F m P l f tmps assign body w R) : RoundIn F m' P l f tmps assign body w R := ⟨h.1, fun c cs _ => h.2 c cs (room_of_none hd _)⟩
theorem YieldAt.anyDepth {F : Fence} (hd : F.depth = none) {m : Nat} (m' : Nat) {P : Program} {l : Nat} {args : Array Value} {W : World} {R : Ending → World → Prop} (h : YieldAt F m P l args W R) : YieldAt F m' P l args W R := by
  obtain ⟨fn, tmps, assign, body, hy, hR⟩ := h
  exact ⟨fn, tmps, assign, body, hy, RoundIn.anyDepth hd hR⟩
section
variable (l : Nat) (X : Nat → Prop) (Bm : Nat) (w0 : World) (vl : List Vis) (J Jx : Nat → World → Prop) (B2 B3 : Nat)
@[reducible] def walkF : Value := .func (.func 49) #[] #[.pointer (some ⟨B2, 0, none⟩), .pointer (some ⟨B3, 0, none⟩)]
def WalkC (d : Own) (ks : F) : Prop :=
  ∀ (e : Int) (A : Option Addr) (n c k : Nat) (pre post : List Vis) (m : Nat) (W : World), vl = pre ++ (⟨e, d, ks, A, n, c⟩ :: (visL w0 ks A (e + 1) ++ post)) → k = pre.length → IsN w0 d ks A n c → KeepC X w0 W → Bm ≤ W.heap.size →
    W.cell? ⟨B2, 0, none⟩ = some (.func (.yield l) #[] #[]) → W.cell? ⟨B3, 0, none⟩ = some (walkF B2 B3) → (0 ≤ e ∧ e + ks.size ≤ 1000000000) → J k W →
    CallsIn Fence.wide m Try.prog 49 #[.int .i64 e, nodeV d A n c, .pointer (some ⟨B2, 0, none⟩), .pointer (some ⟨B3, 0, none⟩)] W fun r W' =>
      (r = .returned (.bool true) ∧ J (k + 1 + ks.size) W' ∧ KeepC X W W') ∨ (r = .returned (.bool false) ∧ ∃ k', k' ≤ vl.length ∧ Jx k' W')
/-- what is asked of a round -/
structure RoundOk : Prop where
  lo : ∀ b, X b → w0.heap.size ≤ b
  hi : ∀ b, X b → b < Bm
  b2 : ¬ X B2
  b3 : ¬ X B3
  grow : ∀ k W W', J k W → W.grownBy W' none → J k W'
  ask : ∀ m k v W, vl[k]? = some v → J k W → YieldAt Fence.wide m Try.prog l #[.int .i64 v.e, nodeV v.d v.A v.n v.c] W fun r W' =>
    (r = .returned (.bool true) ∧ J (k + 1) W' ∧ KeepC X W W') ∨ (r = .returned (.bool false) ∧ Jx (k + 1) W')
theorem size_at_le (f : F) (k : Nat) {d1 : Own} {k1 r : F} (h : f.drop k = .cons d1 k1 r) : 1 + k1.size ≤ f.size := by
  have h1 := (F.take_size f k h).1
  have h2 := (F.take_size_le f (k + 1)).1
  omega
set_option maxRecDepth 100000 in
set_option maxHeartbeats 4000000 in
theorem walk_c (hO : RoundOk l X Bm w0 vl J Jx B2 B3) (d : Own) (ks : F) (hks : ks.All (WalkC l X Bm w0 vl J Jx B2 B3)) : WalkC l X Bm w0 vl J Jx B2 B3 d ks := by
  intro e A n c k pre post m W hvl hk hN hK hBm h2 h3 he hJ
  have hle := hN.le
  have hmo := hN.most
  have hlen := hN.kids.len
  unfold maxLen at hmo
  have hv : vl[k]? = some ⟨e, d, ks, A, n, c⟩ := by rw [hvl, hk]; simp
  have hcb : KeepC X W (W.alloc (.cells #[.int .i64 d.kind, .string d.nm, .int .u32 d.val, .bool d.mark, .slice A n c] NT)) := KeepC.of_chg ((Chg.refl _ _).alloc _)
  have hJb : J k (W.alloc (.cells #[.int .i64 d.kind, .string d.nm, .int .u32 d.val, .bool d.mark, .slice A n c] NT)) := hO.grow _ _ _ hJ (World.grownBy_alloc W _ none)
  obtain ⟨fn, tmps, assign, body, hy, hR⟩ := hO.ask (m - 1) k _ _ hv hJb
  have HB : Hid (∀ W', KeepC X (W.alloc (.cells #[.int .i64 d.kind, .string d.nm, .int .u32 d.val, .bool d.mark, .slice A n c] NT)) W' → W'.cell? ⟨W.heap.size, 4, none⟩ = some (.slice A n c)) := Go.Lib.hid fun W' h => h.cell ((Blk.new W NT _).cell 4) (fun hx => by have := hO.hi _ hx; simp at this; omega)
  have HB2 : Hid (∀ W', KeepC X W W' → W'.cell? ⟨B2, 0, none⟩ = some (.func (.yield l) #[] #[])) := Go.Lib.hid fun W' h => h.cell h2 hO.b2
  have HB3 : Hid (∀ W', KeepC X W W' → W'.cell? ⟨B3, 0, none⟩ = some (walkF B2 B3)) := Go.Lib.hid fun W' h => h.cell h3 hO.b3
  have HN : Hid (∀ W', KeepC X W W' → IsN W' d ks A n c) := Go.Lib.hid fun W' h => (hK.trans h).isN hO.lo hN
  have HK := Go.Lib.hid hK
  have HN0 := Go.Lib.hid hN
  have Hks := Go.Lib.hid hks
  have HO := Go.Lib.hid hO
  have Hvl := Go.Lib.hid hvl
  have Hk := Go.Lib.hid hk
  have Hlen := Go.Lib.hid hlen
  have Hcb := Go.Lib.hid hcb
  have c2 := HB2.out _ hcb
  clear h2 h3 hN hK hks hO hvl hk hcb hJ hJb hv hlen
  refine callsIn_of_wp Try.func49 rfl trivial ?_ rfl
  unfold nodeV at hy ⊢
  dsimp only at hy
  simp only [Try.ntmps49, List.size_toArray, List.length_cons, List.length_nil, Nat.reduceAdd, Nat.reduceSub, Array.replicate_succ, Array.replicate_zero, List.push_toArray, List.append_toArray, List.nil_append, List.cons_append]
  gi_wp2
  refine ⟨fun h => by simp [Fence.wide] at h, hR.mono ?_⟩
  clear hR hy
  rintro r W2 (⟨rfl, hJ2, hK2⟩ | ⟨rfl, hx⟩)
  · have c4 := HB.out _ hK2
    have HK2 : Hid (KeepC X W W2) := Go.Lib.hid (Hcb.out.trans hK2)
    have HJ2 := Go.Lib.hid hJ2
    clear c2 hK2 hJ2
    gi_wp2
    gi_loopw [17] (fun v17 wr => ∃ i : Nat, i ≤ n ∧ v17 = .int .i64 i ∧ J (k + 1 + (ks.take i).size) wr ∧ KeepC X W wr) (fun v17 _ => n - (intOf v17).toNat)
    case atStart => exact ⟨0, Nat.zero_le _, rfl, by rw [show (ks.take 0).size = 0 by cases ks <;> rfl]; exact HJ2.out, HK2.out⟩
    case round =>
      obtain ⟨i, hi, rfl, hJ, hKr⟩ := hrel
      have HJ := Go.Lib.hid hJ
      have HKr := Go.Lib.hid hKr
      clear hJ hKr
      by_cases hlt : i < n
      · obtain ⟨b, o, d1, k1, r, kA1, kn1, kc1, rfl, hd, ok, h1, h2, e0, e1, e2, e3, e4, hk1⟩ := HN0.out.kids.at_ hlt
        have hbX : ¬ X b := fun hx => by have := HO.out.lo b hx; have := block_lt_of_cell e0; simp at this; omega
        have hKw := HK.out.trans HKr.out
        have c0 := hKw.cell e0 hbX
        have c1 := hKw.cell e1 hbX
        have c2 := hKw.cell e2 hbX
        have c3 := hKw.cell e3 hbX
        have c4 := hKw.cell e4 hbX
        have hvis := visL_at (e := e + 1) HN0.out.kids hd e4
        have hvl1 : vl = (pre ++ (⟨e, d, ks, some ⟨b, o, none⟩, n, c⟩ :: visL w0 (ks.take i) (some ⟨b, o, none⟩) (e + 1))) ++ (⟨e + 1, d1, k1, kA1, kn1, kc1⟩ :: (visL w0 k1 kA1 (e + 1 + 1) ++ (visL w0 r (some ⟨b, o + (i + 1) * 5, none⟩) (e + 1) ++ post))) := by rw [Hvl.out, hvis]; simp
        have hk2 : k + 1 + (ks.take i).size = (pre ++ (⟨e, d, ks, some ⟨b, o, none⟩, n, c⟩ :: visL w0 (ks.take i) (some ⟨b, o, none⟩) (e + 1))).length := by simp only [List.length_append, List.length_cons, visL_len, Hk.out]; omega
        have hs1 := size_at_le ks i hd
        have hcb1 : KeepC X wr (wr.alloc (.cells #[.int .i64 d1.kind, .string d1.nm, .int .u32 d1.val, .bool d1.mark, .slice kA1 kn1 kc1] NT)) := KeepC.of_chg ((Chg.refl _ _).alloc _)
        have hJb : J (k + 1 + (ks.take i).size) (wr.alloc (.cells #[.int .i64 d1.kind, .string d1.nm, .int .u32 d1.val, .bool d1.mark, .slice kA1 kn1 kc1] NT)) := HO.out.grow _ _ _ HJ.out (World.grownBy_alloc wr _ none)
        have Hc := Go.Lib.hid (F.All.at_ Hks.out (F.at_drop ks i hd) (e + 1) kA1 kn1 kc1 (k + 1 + (ks.take i).size) _ _ (m - 1) _ hvl1 hk2 ⟨ok, h1, h2, hk1⟩ (hKw.trans hcb1) (by have := HKr.out.size; simp; omega) (HB2.out _ (HKr.out.trans hcb1)) (HB3.out _ (HKr.out.trans hcb1)) (by omega) hJb)
        have HT := Go.Lib.hid ((F.take_size ks i hd).1)
        have g3 := HB3.out _ (HKr.out.trans hcb1)
        have Hcb1 := Go.Lib.hid hcb1
        have he1 : e + 1 + k1.size ≤ 1000000000 := by omega
        clear hbX hKw e0 e1 e2 e3 e4 hvis hvl1 hk2 hcb1 hJb hd ok h1 h2 hk1 hs1
        gi_wp2
        refine ⟨trivial, fun h => by simp [Fence.wide] at h, Hc.out.mono ?_⟩
        rintro r' w1 (⟨rfl, hJ1, hK1⟩ | ⟨rfl, k', hk', hx⟩)
        · have HJ1 := Go.Lib.hid hJ1
          have HK1 := Go.Lib.hid hK1
          clear hJ1 hK1 c0 c1 c2 c3 c4 g3
          gi_wp2
          go_roundw
          case rel => exact ⟨i + 1, by omega, by go_num, by have := HJ1.out; rwa [show k + 1 + (ks.take i).size + 1 + k1.size = k + 1 + (ks.take (i + 1)).size by rw [HT.out]; omega] at this, (HKr.out.trans Hcb1.out).trans HK1.out⟩
          case measure => simp [intOf]; omega
        · clear c0 c1 c2 c3 c4 g3
          gi_wp2
          go_ret
          exact .inr ⟨rfl, k', hk', hx⟩
      · obtain rfl : i = n := by omega
        gi_wp2
        go_ret
        exact .inl ⟨rfl, by have := HJ.out; rwa [Hlen.out, F.take_len] at this, HKr.out⟩
  · gi_wp2
    go_ret
    exact .inr ⟨rfl, k + 1, by rw [Hvl.out, Hk.out]; simp, hx⟩
theorem Chg.grows {W W' : World} (h : Chg NoB W W') : W.grownBy W' none := ⟨h.os, h.tape, h.output, h.size, fun k hk _ => h.block k hk id⟩
theorem walk_all (hO : RoundOk l X Bm w0 vl J Jx B2 B3) (d : Own) (ks : F) : WalkC l X Bm w0 vl J Jx B2 B3 d ks :=
  (F.each (fun d ks h => walk_c l X Bm w0 vl J Jx B2 B3 hO d ks h) (.cons d ks .nil)).1
end
abbrev encV (v : Vis) : Array Value := #[.int .i64 v.e, nodeV v.d v.A v.n v.c]
/-- the nodes that come at a node -/
def visN (w0 : World) (d : Own) (ks : F) (A : Option Addr) (n c : Nat) : List Vis := ⟨0, d, ks, A, n, c⟩ :: visL w0 ks A 1
theorem visN_len (w0 : World) (d : Own) (ks : F) (A : Option Addr) (n c : Nat) : (visN w0 d ks A n c).length = 1 + ks.size := by
  simp [visN, visL_len]; omega
theorem take_fin {N k : Nat} (hk : k < N) : (List.finRange N).take k ++ [⟨k, hk⟩] = (List.finRange N).take (k + 1) := by
  rw [List.take_add_one]
  congr 1
  simp [hk]
set_option maxRecDepth 100000 in
set_option maxHeartbeats 2000000 in
theorem walk_stops (X : Nat → Prop) (w0 w : World) (d : Own) (ks : F) (A : Option Addr) (n c Bn m : Nat) (vl : List Vis) (hvl : vl = visN w0 d ks A n c) (hN : IsN w0 d ks A n c) (hK : KeepC X w0 w) (lo : ∀ b, X b → w0.heap.size ≤ b) (hi : ∀ b, X b → b < w.heap.size)
    (hBn : Blk w Bn NT #[.int .i64 d.kind, .string d.nm, .int .u32 d.val, .bool d.mark, .slice A n c]) (hsz : ks.size ≤ 1000000) :
    SeqStopsK Fence.wide m Try.prog 48 #[.pointer (some ⟨Bn, 0, none⟩)] (fun x : Fin vl.length => encV vl[x]) (KeepC X) (fun ys => ys = List.finRange vl.length) (fun pre => pre <+: List.finRange vl.length) vl.length w := by
  intro l J Jx W hW hJ hJx hY h0
  have hWs := hW.size
  have hcW : Chg NoB W ((W.alloc (.cells #[.func (.yield l) #[] #[]] YT)).alloc (.cells #[walkF W.heap.size (W.heap.size + 1)] YT)) := ((Chg.refl _ _).alloc _).alloc _
  have hb2 : Blk ((W.alloc (.cells #[.func (.yield l) #[] #[]] YT)).alloc (.cells #[walkF W.heap.size (W.heap.size + 1)] YT)) W.heap.size YT #[.func (.yield l) #[] #[]] := (Blk.new W YT _).alloc _
  have hb3 : Blk ((W.alloc (.cells #[.func (.yield l) #[] #[]] YT)).alloc (.cells #[walkF W.heap.size (W.heap.size + 1)] YT)) (W.heap.size + 1) YT #[walkF W.heap.size (W.heap.size + 1)] := Blk.at_ _ _ _ _ (by simp)
  have hbn : Blk W Bn NT #[.int .i64 d.kind, .string d.nm, .int .u32 d.val, .bool d.mark, .slice A n c] := (hW.block Bn hBn.lt).trans hBn
  have hbn2 := (hbn.chg hcW id)
  have hKW : KeepC X w W := ⟨hW.size, fun k o _ hk _ => (hW.block k (Array.getElem?_eq_some_iff.1 hk).1).trans hk⟩
  have hO : RoundOk l X w.heap.size w0 vl (fun k W => J ((List.finRange vl.length).take k) W) (fun k W => Jx ((List.finRange vl.length).take k) W) W.heap.size (W.heap.size + 1) := by
    refine ⟨lo, hi, fun h => by have := hi _ h; omega, fun h => by have := hi _ h; omega, fun k A B hs hg => hJ _ _ _ none hs hg (fun r h => by cases h), ?_⟩
    intro m' k v W1 hv hJ1
    obtain ⟨hk, rfl⟩ := List.getElem?_eq_some_iff.1 hv
    have := hY ((List.finRange vl.length).take k) ⟨k, hk⟩ W1 hJ1 (by simp; omega)
    rw [take_fin hk] at this
    exact YieldAt.anyDepth rfl m' this
  have hc := walk_all l X w.heap.size w0 vl _ _ W.heap.size (W.heap.size + 1) hO d ks 0 A n c 0 [] [] (m - 1) _ (by rw [hvl, visN]; simp) rfl hN (hK.trans (hKW.trans (KeepC.of_chg hcW))) (by simp; omega) (hb2.cell 0) (hb3.cell 0) (by omega) (hJ _ _ _ none h0 hcW.grows (fun r h => by cases h))
  have Hc := Go.Lib.hid hc
  obtain ⟨n0, n1, n2, n3, n4⟩ := blk5 hbn2 (Chg.refl _ _)
  have hlen : 0 + 1 + ks.size = vl.length := by rw [hvl, visN_len]
  clear hc hO hY hJ hJx h0 hbn2 hbn hb2 hb3 hKW hW hK hBn hcW hN
  refine callsIn_of_wp Try.func48 rfl trivial ?_ rfl
  simp only [Try.ntmps48, List.size_toArray, List.length_cons, List.length_nil, Nat.reduceAdd, Nat.reduceSub, Array.replicate_succ, Array.replicate_zero, List.push_toArray, List.append_toArray, List.nil_append, List.cons_append]
  gi_wp2
  refine ⟨trivial, fun h => by simp [Fence.wide] at h, Hc.out.mono ?_⟩
  rintro r w1 (⟨rfl, hJ1, hK1⟩ | ⟨rfl, k', hk', hx⟩)
  · gi_wp2
    go_end0
    exact ⟨⟨_, rfl⟩, .inl ⟨_, rfl, by rw [hlen, List.take_of_length_le (by simp)] at hJ1; exact hJ1⟩⟩
  · gi_wp2
    go_end0
    exact ⟨⟨_, rfl⟩, .inr ⟨_, List.take_prefix _ _, hx⟩⟩
end Go.Proofs.Ytnihjkcniddepaa
