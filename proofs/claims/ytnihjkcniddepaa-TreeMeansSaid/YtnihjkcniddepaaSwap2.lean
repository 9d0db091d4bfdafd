/- What is proved: the head of a round of the law's swap, and its contract's words; no program walked. Conditions: as each theorem says. -/
import Derived.Test.YtnihjkcniddepaaSwap
namespace Go.Proofs.Ytnihjkcniddepaa
open Go.RowKit
section
variable (xd : Own) (xk : F) (xA : Option Addr) (xn xc : Nat) (yd : Own) (yk : F) (yA : Option Addr) (yn yc : Nat)
def SwapPost (g : G) (A : Option Addr) (n : Nat) (k : Int) (w : World) (e : Ending) (w' : World) : Prop :=
  e = .returned (.int .i64 (F.swap xd xk yd yk g.erase k).2) ∧ IsL w' A n (F.swap xd xk yd yk g.erase k).1 ∧ Chg (fun q => q ∈ rowOf A n ++ g.rows) w w' ∧ (0 ≤ (F.swap xd xk yd yk g.erase k).2 → Chg NoB w w')
def SwapC (g : G) : Prop :=
  ∀ (b o n c : Nat) (A : Option Addr) (k : Int) (w : World), n = g.len → n ≤ c → c ≤ maxLen → w.cell? ⟨b, o + 4, none⟩ = some (.slice A n c) → b ∉ rowOf A n ++ g.rows → SubG w NT g → (0 < n → RowAt w NT A g) → (rowOf A n ++ g.rows).Nodup →
    (-9223372036854775808 ≤ k ∧ k ≤ 9223372036854775807) → (∀ W, Chg (fun q => q ∈ rowOf A n ++ g.rows) w W → IsN W xd xk xA xn xc ∧ IsN W yd yk yA yn yc) →
    Calls Try.prog 30 #[.pointer (some ⟨b, o, none⟩), nodeV xd xA xn xc, nodeV yd yA yn yc, .int .i64 k] w (SwapPost xd xk yd yk g A n k w)
def SwapOK : G → Prop
  | .nil => True
  | .cons _ _ _ _ ks r => SwapC xd xk xA xn xc yd yk yA yn yc ks ∧ SwapOK r
theorem SwapOK.at_ : ∀ {g1 : G} {d1 : Own} {kA : Option Addr} {kn kc : Nat} {ks r : G}, SwapOK xd xk xA xn xc yd yk yA yn yc (g1.app (.cons d1 kA kn kc ks r)) → SwapC xd xk xA xn xc yd yk yA yn yc ks := by
  intro g1
  induction g1 with
  | nil => exact fun h => h.1
  | cons d kA kn kc ks r _ ih => exact fun h => ih h.2
structure SwI (g : G) (A : Option Addr) (n : Nat) (k : Int) (w W : World) (i : Nat) (kk : Int) (g1 g2 : G) : Prop where
  eq : g = g1.app g2
  num : g1.len = i
  num2 : kk = (F.swap xd xk yd yk g1.erase k).2
  chg : Chg (fun q => q ∈ rowOf A n ++ g.rows) w W
  pos : 0 ≤ kk → Chg NoB w W
  neg : kk < 0 → IsL W A n (F.swap xd xk yd yk g.erase k).1 ∧ (F.swap xd xk yd yk g.erase k).2 = kk
end
section
variable {xd : Own} {xk : F} {xA : Option Addr} {xn xc : Nat} {yd : Own} {yk : F} {yA : Option Addr} {yn yc : Nat}
variable {w W W' : World} {g g1 g2 : G} {A : Option Addr} {n i : Nat} {k kk : Int}
theorem SwI.start (hn : n = g.len) (hs : SubG w NT g) (hr : 0 < n → RowAt w NT A g) : SwI xd xk yd yk g A n k w w 0 k .nil g :=
  ⟨rfl, rfl, rfl, Chg.refl _ _, fun _ => Chg.refl _ _, fun h => by rw [swap_neg _ _ h]; exact ⟨isL_own hs hn hr, rfl⟩⟩
theorem SwI.drew (h : SwI xd xk yd yk g A n k w W i kk g1 g2) : SwI xd xk yd yk g A n k w W.drew i kk g1 g2 :=
  ⟨h.eq, h.num, h.num2, h.chg.drew, fun h0 => (h.pos h0).drew, fun h0 => ⟨(h.neg h0).1.chg (Chg.refl _ _).drew, (h.neg h0).2⟩⟩
theorem app_nil_ (g : G) : g.app .nil = g := by
  induction g with
  | nil => rfl
  | cons d kA kn kc ks r _ ih => simp [G.app, ih]
/-- the loop's end -/
theorem SwI.fin (h : SwI xd xk yd yk g A n k w W i kk g1 g2) (hn : n = g.len) (hs : SubG w NT g) (hr : 0 < n → RowAt w NT A g) (hend : i = n ∨ kk < 0) : SwapPost xd xk yd yk g A n k w (.returned (.int .i64 kk)) W := by
  by_cases h0 : kk < 0
  · have hg := h.neg h0
    exact ⟨by rw [hg.2], hg.1, h.chg, fun h1 => by rw [hg.2] at h1; omega⟩
  · have hi : i = n := by omega
    have hg2 : g2 = .nil := by
      have h1 := h.eq
      have h2 := h.num
      rw [h1, G.len_app] at hn
      cases g2 with
      | nil => rfl
      | cons => simp [G.len] at hn; omega
    have hgg : g = g1 := by rw [h.eq, hg2, app_nil_]
    have e := h.num2
    rw [← hgg] at e
    refine ⟨by rw [e], ?_, h.chg, fun _ => h.pos (by omega)⟩
    rw [swap_keep _ _ (by omega)]
    exact (isL_own hs hn hr).chg (h.pos (by omega))
/-- the node that comes up -/
theorem SwI.node (h : SwI xd xk yd yk g A n k w W i kk g1 g2) (hn : n = g.len) (hs : SubG w NT g) (hr : 0 < n → RowAt w NT A g) (hk : 0 ≤ kk) (hi : i < n) :
    ∃ b d1 kA kn kc ks r cur, g2 = .cons d1 kA kn kc ks r ∧ A = some ⟨b, 0, none⟩ ∧ rowOf A n = [b] ∧ Blk W b NT cur ∧ (cur[i * 5]? = some (.int .i64 d1.kind) ∧ cur[i * 5 + 1]? = some (.string d1.nm) ∧ cur[i * 5 + 2]? = some (.int .u32 d1.val) ∧ cur[i * 5 + 3]? = some (.bool d1.mark) ∧ cur[i * 5 + 4]? = some (.slice kA kn kc)) ∧
      kn = ks.len ∧ kn ≤ kc ∧ kc ≤ maxLen ∧ SubG W NT g ∧ RowAt W NT A g ∧ SubG W NT ks ∧ (0 < kn → RowAt W NT kA ks) ∧ OwnOk d1 ∧ (rowOf kA kn ++ ks.rows).Sublist g.rows := by
  have hl : g2.len = n - i := by have := h.eq; have h2 := h.num; rw [this, G.len_app] at hn; omega
  have hc := h.pos hk
  have hrow0 := hr (by omega)
  obtain ⟨b, hA, hrb, hblt⟩ := hrow0.mem (n := n) (by omega)
  have hrow : RowAt W NT A g := hrow0.keep (n := n) (by omega) fun q hq => hc.block q (by rw [hrb] at hq; have : q = b := by simpa using hq
                                                                                          omega) id
  have hsub : SubG W NT g := hs.keep fun q hq => hc.block q (sub_lt hs q hq) id
  cases g2 with
  | nil => simp [G.len] at hl; omega
  | cons d1 kA kn kc ks r =>
    have hrow1 := hrow
    have hsub1 := hsub
    rw [h.eq] at hrow1 hsub1
    obtain ⟨b', cur, hA', hb, hcur⟩ := hrow1
    rw [hA] at hA'
    injection hA' with hA'
    injection hA' with hA'
    subst hA'
    obtain ⟨_, ok, k1, k2, k3, k5, k6, _⟩ := hsub1.parts
    have hlen : (g1.app (.cons d1 kA kn kc ks r)).cells = g1.cells ++ (nodeL d1 kA kn kc ++ r.cells) := by rw [G.cells_app]; rfl
    have hcl : g1.cells.length = i * 5 := by rw [G.cells_len, h.num]
    have hcell : ∀ j u, j < 5 → (nodeL d1 kA kn kc)[j]? = some u → cur[i * 5 + j]? = some u := fun j u hj hu => by
      have h1 : cur.toList[i * 5 + j]? = (g1.app (.cons d1 kA kn kc ks r)).cells[i * 5 + j]? := take_get hcur _ (by rw [hlen]; simp [hcl, nodeL]; omega)
      rw [hlen, List.getElem?_append_right (by omega), hcl, Nat.add_sub_cancel_left, List.getElem?_append_left (by simp [nodeL]; omega), hu] at h1
      simpa using h1
    refine ⟨b, d1, kA, kn, kc, ks, r, cur, rfl, hA, hrb, hb, ⟨hcell 0 _ (by omega) rfl, hcell 1 _ (by omega) rfl, hcell 2 _ (by omega) rfl, hcell 3 _ (by omega) rfl, hcell 4 _ (by omega) rfl⟩, k3, k1, k2, hsub, hrow, k6, k5, ok, ?_⟩
    rw [h.eq, G.rows_app]
    simp only [G.rows]
    refine List.Sublist.trans ?_ (List.sublist_append_right _ _)
    exact List.Sublist.append (List.Sublist.refl _) (List.sublist_append_left _ _)
section
variable {b : Nat} {d1 : Own} {kA : Option Addr} {kn kc : Nat} {ks r : G}
theorem SwI.whole (h : SwI xd xk yd yk g A n k w W i kk g1 (.cons d1 kA kn kc ks r)) (hk : 0 ≤ kk) : F.swap xd xk yd yk g.erase k = (g1.erase.app (F.swap xd xk yd yk (.cons d1 ks.erase r.erase) kk).1, (F.swap xd xk yd yk (.cons d1 ks.erase r.erase) kk).2) := by
  have e := h.num2
  rw [h.eq, G.erase_app, swap_app, ← e, swap_keep _ _ (by rw [← e]; exact hk)]
  rfl
theorem SwI.below (h : SwI xd xk yd yk g A n k w W i kk g1 (.cons d1 kA kn kc ks r)) (hk : 0 ≤ kk) (hn : n = g.len) (hs : SubG W NT g) (hA : A = some ⟨b, 0, none⟩) (hrow : rowOf A n = [b]) (hr : RowAt W NT A g) (hnd : (rowOf A n ++ g.rows).Nodup)
    (h1 : ¬ (kk = 0 ∧ 25 ≤ d1.kind ∧ d1.kind ≤ 33)) (h2 : ¬ (kk = 0 ∧ d1.kind = 19)) {e : Ending} (hp : SwapPost xd xk yd yk ks kA kn (kk - 1) W e W') :
    SwI xd xk yd yk g A n k w W' (i + 1) (F.swap xd xk yd yk ks.erase (kk - 1)).2 (g1.app (.cons d1 kA kn kc ks .nil)) r := by
  obtain ⟨_, hl, hc, h0⟩ := hp
  have hw := h.whole hk
  rw [swap_cons, if_neg (by omega), if_neg h1, if_neg h2] at hw
  have hrows : g.rows = g1.rows ++ (rowOf kA kn ++ (ks.rows ++ r.rows)) := by rw [h.eq, G.rows_app]; rfl
  refine ⟨?_, ?_, ?_, h.chg.trans (hc.mono fun q _ hq => ?_), fun hz => (h.pos hk).trans (h0 hz), fun hz => ?_⟩
  · rw [h.eq, G.app_one]
  · rw [G.len_app, h.num]; rfl
  · rw [G.erase_app, swap_app]
    simp only [G.erase]
    rw [← h.num2, swap_cons, if_neg (by omega), if_neg h1, if_neg h2]
    rfl
  · rw [hrows]
    rcases List.mem_append.1 hq with hq | hq
    · simp [hq]
    · simp [hq]
  · rw [swap_neg _ _ hz] at hw
    rw [hw]
    refine ⟨?_, rfl⟩
    rw [h.eq] at hn hs hr hnd
    exact put_below hn hs hA hrow hr hnd hl hc
theorem SwI.here (h : SwI xd xk yd yk g A n k w W i kk g1 (.cons d1 kA kn kc ks r)) (hk : kk = 0) (hn : n = g.len) (hs : SubG W NT g) (hA : A = some ⟨b, 0, none⟩) (hrow : rowOf A n = [b]) (hr : RowAt W NT A g) (hnd : (rowOf A n ++ g.rows).Nodup)
    (zd : Own) (zk : F) (zA : Option Addr) (zn zc : Nat) (hz : F.swap xd xk yd yk (.cons d1 ks.erase r.erase) 0 = (.cons zd zk r.erase, -1))
    (hN : ∀ W', Chg (fun q => q ∈ rowOf A n ++ g.rows) w W' → IsN W' zd zk zA zn zc) :
    SwapPost xd xk yd yk g A n k w (.returned (.int .i64 (-1))) (((((W.setCell ⟨b, i * 5, none⟩ (.int .i64 zd.kind)).setCell ⟨b, i * 5 + 1, none⟩ (.string zd.nm)).setCell ⟨b, i * 5 + 2, none⟩ (.int .u32 zd.val)).setCell ⟨b, i * 5 + 3, none⟩ (.bool zd.mark)).setCell ⟨b, i * 5 + 4, none⟩ (.slice zA zn zc)) := by
  subst hk
  have hw := h.whole (Int.le_refl 0)
  rw [hz] at hw
  have hb : b ∈ rowOf A n ++ g.rows := by rw [hrow]; simp
  have hc : Chg (fun q => q ∈ rowOf A n ++ g.rows) w (((((W.setCell ⟨b, i * 5, none⟩ (.int .i64 zd.kind)).setCell ⟨b, i * 5 + 1, none⟩ (.string zd.nm)).setCell ⟨b, i * 5 + 2, none⟩ (.int .u32 zd.val)).setCell ⟨b, i * 5 + 3, none⟩ (.bool zd.mark)).setCell ⟨b, i * 5 + 4, none⟩ (.slice zA zn zc)) := by
    have c0 := h.chg.setCell (p := ⟨b, i * 5, none⟩) (fun _ => hb) (.int .i64 zd.kind)
    have c1 := c0.setCell (p := ⟨b, i * 5 + 1, none⟩) (fun _ => hb) (.string zd.nm)
    have c2 := c1.setCell (p := ⟨b, i * 5 + 2, none⟩) (fun _ => hb) (.int .u32 zd.val)
    have c3 := c2.setCell (p := ⟨b, i * 5 + 3, none⟩) (fun _ => hb) (.bool zd.mark)
    exact c3.setCell (p := ⟨b, i * 5 + 4, none⟩) (fun _ => hb) (.slice zA zn zc)
  refine ⟨by rw [hw], ?_, hc, fun h0 => by rw [hw] at h0; simp at h0⟩
  rw [hw]
  have hnum := h.num
  rw [h.eq] at hn hs hr hnd
  exact (put_at hn hs hA hrow hr hnd hnum.symm rfl (hN _ hc)).1
end
end
end Go.Proofs.Ytnihjkcniddepaa
