/- What is proved: Walk's iterator, where a round may write rows of strings of its own too. Conditions: as XIter's. -/
import Derived.Test.YtnihjkcniddepaaIter
namespace Go.Proofs.Ytnihjkcniddepaa
open Go.RowKit Go.Shelf
attribute [local go_sem] Oper.semAt_some
def strO (o : Obj) : Bool := match o with
  | .cells _ t _ => t == 9
  | _ => false
/-- whatever holds cells lies as it lay, but for the blocks of X, and rows of strings beyond B0 -/
structure KeepD (X : Nat → Prop) (B0 : Nat) (W W' : World) : Prop where
  size : W.heap.size ≤ W'.heap.size
  same : ∀ (k : Nat) (o : Obj), ¬ X k → (k < B0 ∨ strO o = false) → W.heap[k]? = some o → o.isCells = true → W'.heap[k]? = some o
section
variable {X : Nat → Prop} {B0 : Nat} {W W' W'' : World}
theorem KeepD.refl (X : Nat → Prop) (B0 : Nat) (W : World) : KeepD X B0 W W := ⟨Nat.le_refl _, fun _ _ _ _ h _ => h⟩
theorem KeepD.trans (h : KeepD X B0 W W') (k : KeepD X B0 W' W'') : KeepD X B0 W W'' := ⟨Nat.le_trans h.size k.size, fun i o hX hs hi ho => k.same i o hX hs (h.same i o hX hs hi ho) ho⟩
theorem KeepD.of_chg (h : Chg NoB W W') : KeepD X B0 W W' := ⟨h.size, fun i o _ _ hi _ => (h.block i (Array.getElem?_eq_some_iff.1 hi).1 id).trans hi⟩
theorem KeepD.put {l : Nat} {o : Obj} (o' : Obj) (h : W.heap[l]? = some o) (hc : o.isCells = false) : KeepD X B0 W (W.putObj l o') :=
  ⟨by simp, fun i u _ _ hi hu => (World.putObj_heap_other (fun e => by subst e; rw [h] at hi; injection hi with hi; subst hi; rw [hc] at hu; cases hu)).trans hi⟩
theorem KeepD.cell (h : KeepD X B0 W W') {p : Addr} {v : Value} (hc : W.cell? p = some v) (hp : ¬ X p.block) (hb : p.block < B0) : W'.cell? p = some v := by
  obtain ⟨o, ho, hcc⟩ := cells_of_cell hc
  exact (World.cell?_of_block (by rw [h.same _ o hp (.inl hb) ho hcc, ho])).trans hc
theorem KeepD.blk (h : KeepD X B0 W W') {b : Nat} {t : TypeId} {cs : Array Value} (hb : Blk W b t cs) (ht : (t == 9) = false) (hp : ¬ X b) : Blk W' b t cs := h.same b _ hp (.inr ht) hb rfl
theorem KeepD.isL (h : KeepD X B0 W W') (hX : ∀ b, X b → W.heap.size ≤ b) (h0 : W.heap.size ≤ B0) : ∀ {f : F} {A : Option Addr} {n : Nat}, IsL W A n f → IsL W' A n f := by
  intro f
  induction f with
  | nil => intro A n h; exact h
  | cons d ks r h1 h2 =>
    rintro A n ⟨b, o, kA, kn, kc, m, rfl, rfl, ok, le, most, c0, c1, c2, c3, c4, hk, hr⟩
    have hlt : b < W.heap.size := by have := block_lt_of_cell c0; simpa using this
    have hb : ¬ X b := fun hx => by have := hX b hx; omega
    have hb0 : b < B0 := by omega
    exact ⟨b, o, kA, kn, kc, m, rfl, rfl, ok, le, most, h.cell c0 hb hb0, h.cell c1 hb hb0, h.cell c2 hb hb0, h.cell c3 hb hb0, h.cell c4 hb hb0, h1 hk, h2 hr⟩
theorem KeepD.isN (h : KeepD X B0 W W') (hX : ∀ b, X b → W.heap.size ≤ b) (h0 : W.heap.size ≤ B0) {d : Own} {ks : F} {A : Option Addr} {n c : Nat} (hn : IsN W d ks A n c) : IsN W' d ks A n c :=
  ⟨hn.ok, hn.le, hn.most, h.isL hX h0 hn.kids⟩
end
section
variable (l : Nat) (X : Nat → Prop) (B0 : Nat) (Bm : Nat) (w0 : World) (vl : List Vis) (J Jx : Nat → World → Prop) (B2 B3 : Nat)
def WalkD (d : Own) (ks : F) : Prop :=
  ∀ (e : Int) (A : Option Addr) (n c k : Nat) (pre post : List Vis) (m : Nat) (W : World), vl = pre ++ (⟨e, d, ks, A, n, c⟩ :: (visL w0 ks A (e + 1) ++ post)) → k = pre.length → IsN w0 d ks A n c → KeepD X B0 w0 W → Bm ≤ W.heap.size →
    Blk W B2 YT #[.func (.yield l) #[] #[]] → Blk W B3 YT #[walkF B2 B3] → (0 ≤ e ∧ e + ks.size ≤ 1000000000) → J k W →
    CallsIn Fence.wide m Try.prog 49 #[.int .i64 e, nodeV d A n c, .pointer (some ⟨B2, 0, none⟩), .pointer (some ⟨B3, 0, none⟩)] W fun r W' =>
      (r = .returned (.bool true) ∧ J (k + 1 + ks.size) W' ∧ KeepD X B0 W W') ∨ (r = .returned (.bool false) ∧ ∃ k', k' ≤ vl.length ∧ Jx k' W')
/-- what is asked of a round -/
structure RoundOkD : Prop where
  b0 : w0.heap.size ≤ B0
  lo : ∀ b, X b → w0.heap.size ≤ b
  hi : ∀ b, X b → b < Bm
  b2 : ¬ X B2
  b3 : ¬ X B3
  grow : ∀ k W W', J k W → W.grownBy W' none → J k W'
  ask : ∀ m k v W, vl[k]? = some v → J k W → YieldAt Fence.wide m Try.prog l #[.int .i64 v.e, nodeV v.d v.A v.n v.c] W fun r W' =>
    (r = .returned (.bool true) ∧ J (k + 1) W' ∧ KeepD X B0 W W') ∨ (r = .returned (.bool false) ∧ Jx (k + 1) W')
set_option maxRecDepth 100000 in
set_option maxHeartbeats 4000000 in
theorem walk_cD (hO : RoundOkD l X B0 Bm w0 vl J Jx B2 B3) (d : Own) (ks : F) (hks : ks.All (WalkD l X B0 Bm w0 vl J Jx B2 B3)) : WalkD l X B0 Bm w0 vl J Jx B2 B3 d ks := by
  intro e A n c k pre post m W hvl hk hN hK hBm h2 h3 he hJ
  have hle := hN.le
  have hmo := hN.most
  have hlen := hN.kids.len
  unfold maxLen at hmo
  have hv : vl[k]? = some ⟨e, d, ks, A, n, c⟩ := by rw [hvl, hk]; simp
  have hcb : KeepD X B0 W (W.alloc (.cells #[.int .i64 d.kind, .string d.nm, .int .u32 d.val, .bool d.mark, .slice A n c] NT)) := KeepD.of_chg ((Chg.refl _ _).alloc _)
  have hJb : J k (W.alloc (.cells #[.int .i64 d.kind, .string d.nm, .int .u32 d.val, .bool d.mark, .slice A n c] NT)) := hO.grow _ _ _ hJ (World.grownBy_alloc W _ none)
  obtain ⟨fn, tmps, assign, body, hy, hR⟩ := hO.ask (m - 1) k _ _ hv hJb
  have HB : Hid (∀ W', KeepD X B0 (W.alloc (.cells #[.int .i64 d.kind, .string d.nm, .int .u32 d.val, .bool d.mark, .slice A n c] NT)) W' → W'.cell? ⟨W.heap.size, 4, none⟩ = some (.slice A n c)) := Go.Lib.hid fun W' h => (h.blk (Blk.new W NT _) (by decide) (fun hx => by have := hO.hi _ hx; omega)).cell 4
  have HB2 : Hid (∀ W', KeepD X B0 W W' → Blk W' B2 YT #[.func (.yield l) #[] #[]]) := Go.Lib.hid fun W' h => h.blk h2 (by decide) hO.b2
  have HB3 : Hid (∀ W', KeepD X B0 W W' → Blk W' B3 YT #[walkF B2 B3]) := Go.Lib.hid fun W' h => h.blk h3 (by decide) hO.b3
  have HN : Hid (∀ W', KeepD X B0 W W' → IsN W' d ks A n c) := Go.Lib.hid fun W' h => (hK.trans h).isN hO.lo hO.b0 hN
  have HK := Go.Lib.hid hK
  have HN0 := Go.Lib.hid hN
  have Hks := Go.Lib.hid hks
  have HO := Go.Lib.hid hO
  have Hvl := Go.Lib.hid hvl
  have Hk := Go.Lib.hid hk
  have Hlen := Go.Lib.hid hlen
  have Hcb := Go.Lib.hid hcb
  have c2 : _ = some (Value.func (.yield l) #[] #[]) := (HB2.out _ hcb).cell 0
  clear h2 h3 hN hK hks hO hvl hk hcb hJ hJb hv hlen
  refine callsIn_of_wp Try.func49 rfl trivial ?_ rfl
  unfold nodeV at hy ⊢
  dsimp only at hy
  simp only [Try.ntmps49, List.size_toArray, List.length_cons, List.length_nil, Nat.reduceAdd, Nat.reduceSub, Array.replicate_succ, Array.replicate_zero, List.push_toArray, List.append_toArray, List.nil_append, List.cons_append]
  gi_wp2
  refine ⟨fun h => by simp [Fence.wide] at h, hR.mono ?_⟩
  clear hR hy
  rintro r W2 (⟨rfl, hJ2, hK2⟩ | ⟨rfl, hx⟩)
  · have c4 := HB.out _ hK2
    have HK2 : Hid (KeepD X B0 W W2) := Go.Lib.hid (Hcb.out.trans hK2)
    have HJ2 := Go.Lib.hid hJ2
    clear c2 hK2 hJ2
    gi_wp2
    gi_loopw [17] (fun v17 wr => ∃ i : Nat, i ≤ n ∧ v17 = .int .i64 i ∧ J (k + 1 + (ks.take i).size) wr ∧ KeepD X B0 W wr) (fun v17 _ => n - (intOf v17).toNat)
    case atStart => exact ⟨0, Nat.zero_le _, rfl, by rw [show (ks.take 0).size = 0 by cases ks <;> rfl]; exact HJ2.out, HK2.out⟩
    case round =>
      obtain ⟨i, hi, rfl, hJ, hKr⟩ := hrel
      have HJ := Go.Lib.hid hJ
      have HKr := Go.Lib.hid hKr
      clear hJ hKr
      by_cases hlt : i < n
      · obtain ⟨b, o, d1, k1, r, kA1, kn1, kc1, rfl, hd, ok, h1, h2, e0, e1, e2, e3, e4, hk1⟩ := HN0.out.kids.at_ hlt
        have hbX : ¬ X b := fun hx => by have := HO.out.lo b hx; have := block_lt_of_cell e0; simp at this; omega
        have hKw := HK.out.trans HKr.out
        have hb0 : b < B0 := by have := block_lt_of_cell e0; have := HO.out.b0; simp at *; omega
        have c0 := hKw.cell e0 hbX hb0
        have c1 := hKw.cell e1 hbX hb0
        have c2 := hKw.cell e2 hbX hb0
        have c3 := hKw.cell e3 hbX hb0
        have c4 := hKw.cell e4 hbX hb0
        have hvis := visL_at (e := e + 1) HN0.out.kids hd e4
        have hvl1 : vl = (pre ++ (⟨e, d, ks, some ⟨b, o, none⟩, n, c⟩ :: visL w0 (ks.take i) (some ⟨b, o, none⟩) (e + 1))) ++ (⟨e + 1, d1, k1, kA1, kn1, kc1⟩ :: (visL w0 k1 kA1 (e + 1 + 1) ++ (visL w0 r (some ⟨b, o + (i + 1) * 5, none⟩) (e + 1) ++ post))) := by rw [Hvl.out, hvis]; simp
        have hk2 : k + 1 + (ks.take i).size = (pre ++ (⟨e, d, ks, some ⟨b, o, none⟩, n, c⟩ :: visL w0 (ks.take i) (some ⟨b, o, none⟩) (e + 1))).length := by simp only [List.length_append, List.length_cons, visL_len, Hk.out]; omega
        have hs1 := size_at_le ks i hd
        have hcb1 : KeepD X B0 wr (wr.alloc (.cells #[.int .i64 d1.kind, .string d1.nm, .int .u32 d1.val, .bool d1.mark, .slice kA1 kn1 kc1] NT)) := KeepD.of_chg ((Chg.refl _ _).alloc _)
        have hJb : J (k + 1 + (ks.take i).size) (wr.alloc (.cells #[.int .i64 d1.kind, .string d1.nm, .int .u32 d1.val, .bool d1.mark, .slice kA1 kn1 kc1] NT)) := HO.out.grow _ _ _ HJ.out (World.grownBy_alloc wr _ none)
        have Hc := Go.Lib.hid (F.All.at_ Hks.out (F.at_drop ks i hd) (e + 1) kA1 kn1 kc1 (k + 1 + (ks.take i).size) _ _ (m - 1) _ hvl1 hk2 ⟨ok, h1, h2, hk1⟩ (hKw.trans hcb1) (by have := HKr.out.size; simp; omega) (HB2.out _ (HKr.out.trans hcb1)) (HB3.out _ (HKr.out.trans hcb1)) (by omega) hJb)
        have HT := Go.Lib.hid ((F.take_size ks i hd).1)
        have g3 : _ = some (walkF B2 B3) := (HB3.out _ (HKr.out.trans hcb1)).cell 0
        have Hcb1 := Go.Lib.hid hcb1
        have he1 : e + 1 + k1.size ≤ 1000000000 := by omega
        clear hbX hb0 hKw e0 e1 e2 e3 e4 hvis hvl1 hk2 hcb1 hJb hd ok h1 h2 hk1 hs1
        gi_wp2
        refine ⟨trivial, fun h => by simp [Fence.wide] at h, Hc.out.mono ?_⟩
        rintro r' w1 (⟨rfl, hJ1, hK1⟩ | ⟨rfl, k', hk', hx⟩)
        · have HJ1 := Go.Lib.hid hJ1
          have HK1 := Go.Lib.hid hK1
          clear hJ1 hK1 c0 c1 c2 c3 c4 g3
          gi_wp2
          go_roundw
          case rel => exact ⟨i + 1, by omega, by go_num, by have := HJ1.out; rwa [show k + 1 + (ks.take i).size + 1 + k1.size = k + 1 + (ks.take (i + 1)).size by rw [HT.out]; omega] at this, (HKr.out.trans Hcb1.out).trans HK1.out⟩
          case measure => simp [intOf]; omega
        · clear c0 c1 c2 c3 c4 g3
          gi_wp2
          go_ret
          exact .inr ⟨rfl, k', hk', hx⟩
      · obtain rfl : i = n := by omega
        gi_wp2
        go_ret
        exact .inl ⟨rfl, by have := HJ.out; rwa [Hlen.out, F.take_len] at this, HKr.out⟩
  · gi_wp2
    go_ret
    exact .inr ⟨rfl, k + 1, by rw [Hvl.out, Hk.out]; simp, hx⟩
theorem walk_allD (hO : RoundOkD l X B0 Bm w0 vl J Jx B2 B3) (d : Own) (ks : F) : WalkD l X B0 Bm w0 vl J Jx B2 B3 d ks :=
  (F.each (fun d ks h => walk_cD l X B0 Bm w0 vl J Jx B2 B3 hO d ks h) (.cons d ks .nil)).1
end
set_option maxRecDepth 100000 in
set_option maxHeartbeats 2000000 in
theorem walk_stopsD (X : Nat → Prop) (B0 : Nat) (w0 w : World) (d : Own) (ks : F) (A : Option Addr) (n c Bn m : Nat) (vl : List Vis) (hvl : vl = visN w0 d ks A n c) (hN : IsN w0 d ks A n c) (hK : KeepD X B0 w0 w) (lo : ∀ b, X b → w0.heap.size ≤ b) (hi : ∀ b, X b → b < w.heap.size)
    (hBn : Blk w Bn NT #[.int .i64 d.kind, .string d.nm, .int .u32 d.val, .bool d.mark, .slice A n c]) (hsz : ks.size ≤ 1000000) (hb0 : w0.heap.size ≤ B0) :
    SeqStopsK Fence.wide m Try.prog 48 #[.pointer (some ⟨Bn, 0, none⟩)] (fun x : Fin vl.length => encV vl[x]) (KeepD X B0) (fun ys => ys = List.finRange vl.length) (fun pre => pre <+: List.finRange vl.length) vl.length w := by
  intro l J Jx W hW hJ hJx hY h0
  have hWs := hW.size
  have hcW : Chg NoB W ((W.alloc (.cells #[.func (.yield l) #[] #[]] YT)).alloc (.cells #[walkF W.heap.size (W.heap.size + 1)] YT)) := ((Chg.refl _ _).alloc _).alloc _
  have hb2 : Blk ((W.alloc (.cells #[.func (.yield l) #[] #[]] YT)).alloc (.cells #[walkF W.heap.size (W.heap.size + 1)] YT)) W.heap.size YT #[.func (.yield l) #[] #[]] := (Blk.new W YT _).alloc _
  have hb3 : Blk ((W.alloc (.cells #[.func (.yield l) #[] #[]] YT)).alloc (.cells #[walkF W.heap.size (W.heap.size + 1)] YT)) (W.heap.size + 1) YT #[walkF W.heap.size (W.heap.size + 1)] := Blk.at_ _ _ _ _ (by simp)
  have hbn : Blk W Bn NT #[.int .i64 d.kind, .string d.nm, .int .u32 d.val, .bool d.mark, .slice A n c] := (hW.block Bn hBn.lt).trans hBn
  have hbn2 := (hbn.chg hcW id)
  have hKW : KeepD X B0 w W := ⟨hW.size, fun k o _ _ hk _ => (hW.block k (Array.getElem?_eq_some_iff.1 hk).1).trans hk⟩
  have hO : RoundOkD l X B0 w.heap.size w0 vl (fun k W => J ((List.finRange vl.length).take k) W) (fun k W => Jx ((List.finRange vl.length).take k) W) W.heap.size (W.heap.size + 1) := by
    refine ⟨hb0, lo, hi, fun h => by have := hi _ h; omega, fun h => by have := hi _ h; omega, fun k A B hs hg => hJ _ _ _ none hs hg (fun r h => by cases h), ?_⟩
    intro m' k v W1 hv hJ1
    obtain ⟨hk, rfl⟩ := List.getElem?_eq_some_iff.1 hv
    have := hY ((List.finRange vl.length).take k) ⟨k, hk⟩ W1 hJ1 (by simp; omega)
    rw [take_fin hk] at this
    exact YieldAt.anyDepth rfl m' this
  have hc := walk_allD l X B0 w.heap.size w0 vl _ _ W.heap.size (W.heap.size + 1) hO d ks 0 A n c 0 [] [] (m - 1) _ (by rw [hvl, visN]; simp) rfl hN (hK.trans (hKW.trans (KeepD.of_chg hcW))) (by simp; omega) hb2 hb3 (by omega) (hJ _ _ _ none h0 hcW.grows (fun r h => by cases h))
  have Hc := Go.Lib.hid hc
  obtain ⟨n0, n1, n2, n3, n4⟩ := blk5 hbn2 (Chg.refl _ _)
  have hlen : 0 + 1 + ks.size = vl.length := by rw [hvl, visN_len]
  clear hc hO hY hJ hJx h0 hbn2 hbn hb2 hb3 hKW hW hK hBn hcW hN
  refine callsIn_of_wp Try.func48 rfl trivial ?_ rfl
  simp only [Try.ntmps48, List.size_toArray, List.length_cons, List.length_nil, Nat.reduceAdd, Nat.reduceSub, Array.replicate_succ, Array.replicate_zero, List.push_toArray, List.append_toArray, List.nil_append, List.cons_append]
  gi_wp2
  refine ⟨trivial, fun h => by simp [Fence.wide] at h, Hc.out.mono ?_⟩
  rintro r w1 (⟨rfl, hJ1, hK1⟩ | ⟨rfl, k', hk', hx⟩)
  · gi_wp2
    go_end0
    exact ⟨⟨_, rfl⟩, .inl ⟨_, rfl, by rw [hlen, List.take_of_length_le (by simp)] at hJ1; exact hJ1⟩⟩
  · gi_wp2
    go_end0
    exact ⟨⟨_, rfl⟩, .inr ⟨_, List.take_prefix _ _, hx⟩⟩
end Go.Proofs.Ytnihjkcniddepaa

