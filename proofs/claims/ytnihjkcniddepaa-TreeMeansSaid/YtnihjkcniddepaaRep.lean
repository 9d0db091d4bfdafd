/- What is proved: the rounds of the law's replace, and its walk. Conditions: as each theorem says. -/
import Derived.Test.YtnihjkcniddepaaSwap3
import Derived.Test.YtnihjkcniddepaaMeansLaw
namespace Go.Proofs.Ytnihjkcniddepaa
open Go.RowKit
def badD : Own := ⟨99, ⟨#[]⟩, 0, false⟩
def F.rep : F → Int → F × Int
  | .nil, k => (.nil, k)
  | .cons d ks r, k =>
    if k < 0 then (.cons d ks r, k)
    else if k = 0 then (.cons badD .nil r, -1)
    else (.cons d (F.rep ks (k - 1)).1 (F.rep r (F.rep ks (k - 1)).2).1, (F.rep r (F.rep ks (k - 1)).2).2)
theorem rep_cons (d : Own) (ks r : F) (k : Int) : F.rep (.cons d ks r) k = if k < 0 then (.cons d ks r, k)
    else if k = 0 then (.cons badD .nil r, -1)
    else (.cons d (F.rep ks (k - 1)).1 (F.rep r (F.rep ks (k - 1)).2).1, (F.rep r (F.rep ks (k - 1)).2).2) := rfl
theorem rep_neg (f : F) (k : Int) (h : k < 0) : F.rep f k = (f, k) := by
  cases f with
  | nil => rfl
  | cons d ks r => unfold F.rep; rw [if_pos h]
theorem rep_app (f g : F) : ∀ k, F.rep (f.app g) k = ((F.rep f k).1.app (F.rep g (F.rep f k).2).1, (F.rep g (F.rep f k).2).2) := by
  induction f with
  | nil => intro k; rfl
  | cons d ks r _ ih =>
    intro k
    by_cases h0 : k < 0
    · rw [rep_neg _ _ h0, rep_neg _ _ h0, rep_neg _ _ h0]
    · simp only [F.app, F.rep]
      rw [if_neg h0, if_neg h0]
      split
      · simp only [rep_neg _ (-1) (by omega), F.app]
      · simp only [F.app, ih]
theorem rep_keep (f : F) : ∀ k, 0 ≤ (F.rep f k).2 → (F.rep f k).1 = f := by
  induction f with
  | nil => intro k _; rfl
  | cons d ks r ih1 ih2 =>
    intro k h
    rw [rep_cons] at h ⊢
    split at h
    · rename_i c; rw [if_pos c]
    · rename_i c
      rw [if_neg c]
      split at h
      · omega
      · rename_i c; rw [if_neg c]
        have h2 := ih2 _ h
        have h1 : 0 ≤ (F.rep ks (k - 1)).2 := by
          by_cases hn : (F.rep ks (k - 1)).2 < 0
          · rw [rep_neg _ _ hn] at h; exact h
          · omega
        simp only [ih1 _ h1, h2]
theorem rep_range (f : F) : ∀ k : Int, -9223372036854775808 ≤ k ∧ k ≤ 9223372036854775807 → -9223372036854775808 ≤ (F.rep f k).2 ∧ (F.rep f k).2 ≤ 9223372036854775807 := by
  induction f with
  | nil => exact fun k h => h
  | cons d ks r ih1 ih2 =>
    intro k h
    rw [rep_cons]
    split
    · exact h
    · split
      · exact ⟨(by decide : (-9223372036854775808 : Int) ≤ -1), (by decide : (-1 : Int) ≤ 9223372036854775807)⟩
      · exact ih2 _ (ih1 _ (by omega))
theorem bad_role : ¬ RoleT badD .nil := fun h => by
  have hk : badD.kind = 99 := rfl
  rcases role_is h with h | h | h | h <;> omega
/-- a tree with a part put in that is none is none; which numbers there are -/
theorem rep_bad (f : F) : ∀ k : Int, 0 ≤ k → (k < f.size → (F.rep f k).2 = -1 ∧ ¬ (F.rep f k).1.Every RoleT) ∧ (f.size ≤ k → (F.rep f k).2 = k - f.size) := by
  induction f with
  | nil => intro k h; exact ⟨fun h1 => by simp [F.size] at h1; omega, fun _ => by simp [F.rep, F.size]⟩
  | cons d ks r ih1 ih2 =>
    intro k h
    rw [rep_cons, if_neg (by omega)]
    simp only [F.size]
    split
    · exact ⟨fun _ => ⟨rfl, fun hh => bad_role hh.1⟩, fun h1 => by omega⟩
    · obtain ⟨a1, a2⟩ := ih1 (k - 1) (by omega)
      rcases Int.lt_or_le (k - 1) ks.size with hlt | hge
      · obtain ⟨b1, b2⟩ := a1 hlt
        rw [b1, rep_neg _ (-1) (by omega)]
        exact ⟨fun _ => ⟨rfl, fun hh => b2 hh.2.1⟩, fun h1 => by omega⟩
      · have c1 := a2 hge
        obtain ⟨e1, e2⟩ := ih2 (F.rep ks (k - 1)).2 (by omega)
        refine ⟨fun h1 => ?_, fun h1 => ?_⟩
        · obtain ⟨b1, b2⟩ := e1 (by omega)
          exact ⟨b1, fun hh => b2 hh.2.2⟩
        · rw [e2 (by omega)]; omega
theorem rep_may {d : Own} {ks : F} {k : Int} (h0 : 0 ≤ k) (h1 : k < ks.size) : (F.rep ks k).2 = -1 ∧ mayT d (F.rep ks k).1 = false := by
  obtain ⟨a1, a2⟩ := (rep_bad ks k h0).1 h1
  refine ⟨a1, ?_⟩
  cases hm : mayT d (F.rep ks k).1 with
  | false => rfl
  | true => exact (a2 (may_every d _ hm)).elim
section
def RepPost (g : G) (A : Option Addr) (n : Nat) (k : Int) (w : World) (e : Ending) (w' : World) : Prop :=
  e = .returned (.int .i64 (F.rep g.erase k).2) ∧ IsL w' A n (F.rep g.erase k).1 ∧ Chg (fun q => q ∈ rowOf A n ++ g.rows) w w' ∧ (0 ≤ (F.rep g.erase k).2 → Chg NoB w w')
structure ReI (g : G) (A : Option Addr) (n : Nat) (k : Int) (w W : World) (i : Nat) (kk : Int) (g1 g2 : G) : Prop where
  eq : g = g1.app g2
  num : g1.len = i
  num2 : kk = (F.rep g1.erase k).2
  chg : Chg (fun q => q ∈ rowOf A n ++ g.rows) w W
  pos : 0 ≤ kk → Chg NoB w W
  neg : kk < 0 → IsL W A n (F.rep g.erase k).1 ∧ (F.rep g.erase k).2 = kk
section
variable {w W W' : World} {g g1 g2 : G} {A : Option Addr} {n i : Nat} {k kk : Int}
theorem ReI.start (hn : n = g.len) (hs : SubG w NT g) (hr : 0 < n → RowAt w NT A g) : ReI g A n k w w 0 k .nil g :=
  ⟨rfl, rfl, rfl, Chg.refl _ _, fun _ => Chg.refl _ _, fun h => by rw [rep_neg _ _ h]; exact ⟨isL_own hs hn hr, rfl⟩⟩
theorem ReI.drew (h : ReI g A n k w W i kk g1 g2) : ReI g A n k w W.drew i kk g1 g2 :=
  ⟨h.eq, h.num, h.num2, h.chg.drew, fun h0 => (h.pos h0).drew, fun h0 => ⟨(h.neg h0).1.chg (Chg.refl _ _).drew, (h.neg h0).2⟩⟩
/-- the loop's end -/
theorem ReI.fin (h : ReI g A n k w W i kk g1 g2) (hn : n = g.len) (hs : SubG w NT g) (hr : 0 < n → RowAt w NT A g) (hend : i = n ∨ kk < 0) : RepPost g A n k w (.returned (.int .i64 kk)) W := by
  by_cases h0 : kk < 0
  · have hg := h.neg h0
    exact ⟨by rw [hg.2], hg.1, h.chg, fun h1 => by rw [hg.2] at h1; omega⟩
  · have hi : i = n := by omega
    have hg2 : g2 = .nil := by
      have h1 := h.eq
      have h2 := h.num
      rw [h1, G.len_app] at hn
      cases g2 with
      | nil => rfl
      | cons => simp [G.len] at hn; omega
    have hgg : g = g1 := by rw [h.eq, hg2, app_nil_]
    have e := h.num2
    rw [← hgg] at e
    refine ⟨by rw [e], ?_, h.chg, fun _ => h.pos (by omega)⟩
    rw [rep_keep _ _ (by omega)]
    exact (isL_own hs hn hr).chg (h.pos (by omega))
/-- the node that comes up -/
theorem ReI.node (h : ReI g A n k w W i kk g1 g2) (hn : n = g.len) (hs : SubG w NT g) (hr : 0 < n → RowAt w NT A g) (hk : 0 ≤ kk) (hi : i < n) :
    ∃ b d1 kA kn kc ks r cur, g2 = .cons d1 kA kn kc ks r ∧ A = some ⟨b, 0, none⟩ ∧ rowOf A n = [b] ∧ Blk W b NT cur ∧ (cur[i * 5]? = some (.int .i64 d1.kind) ∧ cur[i * 5 + 1]? = some (.string d1.nm) ∧ cur[i * 5 + 2]? = some (.int .u32 d1.val) ∧ cur[i * 5 + 3]? = some (.bool d1.mark) ∧ cur[i * 5 + 4]? = some (.slice kA kn kc)) ∧
      kn = ks.len ∧ kn ≤ kc ∧ kc ≤ maxLen ∧ SubG W NT g ∧ RowAt W NT A g ∧ SubG W NT ks ∧ (0 < kn → RowAt W NT kA ks) ∧ OwnOk d1 ∧ (rowOf kA kn ++ ks.rows).Sublist g.rows := by
  have hl : g2.len = n - i := by have := h.eq; have h2 := h.num; rw [this, G.len_app] at hn; omega
  have hc := h.pos hk
  have hrow0 := hr (by omega)
  obtain ⟨b, hA, hrb, hblt⟩ := hrow0.mem (n := n) (by omega)
  have hrow : RowAt W NT A g := hrow0.keep (n := n) (by omega) fun q hq => hc.block q (by rw [hrb] at hq; have : q = b := by simpa using hq
                                                                                          omega) id
  have hsub : SubG W NT g := hs.keep fun q hq => hc.block q (sub_lt hs q hq) id
  cases g2 with
  | nil => simp [G.len] at hl; omega
  | cons d1 kA kn kc ks r =>
    have hrow1 := hrow
    have hsub1 := hsub
    rw [h.eq] at hrow1 hsub1
    obtain ⟨b', cur, hA', hb, hcur⟩ := hrow1
    rw [hA] at hA'
    injection hA' with hA'
    injection hA' with hA'
    subst hA'
    obtain ⟨_, ok, k1, k2, k3, k5, k6, _⟩ := hsub1.parts
    have hlen : (g1.app (.cons d1 kA kn kc ks r)).cells = g1.cells ++ (nodeL d1 kA kn kc ++ r.cells) := by rw [G.cells_app]; rfl
    have hcl : g1.cells.length = i * 5 := by rw [G.cells_len, h.num]
    have hcell : ∀ j u, j < 5 → (nodeL d1 kA kn kc)[j]? = some u → cur[i * 5 + j]? = some u := fun j u hj hu => by
      have h1 : cur.toList[i * 5 + j]? = (g1.app (.cons d1 kA kn kc ks r)).cells[i * 5 + j]? := take_get hcur _ (by rw [hlen]; simp [hcl, nodeL]; omega)
      rw [hlen, List.getElem?_append_right (by omega), hcl, Nat.add_sub_cancel_left, List.getElem?_append_left (by simp [nodeL]; omega), hu] at h1
      simpa using h1
    refine ⟨b, d1, kA, kn, kc, ks, r, cur, rfl, hA, hrb, hb, ⟨hcell 0 _ (by omega) rfl, hcell 1 _ (by omega) rfl, hcell 2 _ (by omega) rfl, hcell 3 _ (by omega) rfl, hcell 4 _ (by omega) rfl⟩, k3, k1, k2, hsub, hrow, k6, k5, ok, ?_⟩
    rw [h.eq, G.rows_app]
    simp only [G.rows]
    refine List.Sublist.trans ?_ (List.sublist_append_right _ _)
    exact List.Sublist.append (List.Sublist.refl _) (List.sublist_append_left _ _)
section
variable {b : Nat} {d1 : Own} {kA : Option Addr} {kn kc : Nat} {ks r : G}
theorem ReI.whole (h : ReI g A n k w W i kk g1 (.cons d1 kA kn kc ks r)) (hk : 0 ≤ kk) : F.rep g.erase k = (g1.erase.app (F.rep (.cons d1 ks.erase r.erase) kk).1, (F.rep (.cons d1 ks.erase r.erase) kk).2) := by
  have e := h.num2
  rw [h.eq, G.erase_app, rep_app, ← e, rep_keep _ _ (by rw [← e]; exact hk)]
  rfl
theorem ReI.below (h : ReI g A n k w W i kk g1 (.cons d1 kA kn kc ks r)) (hk : 0 ≤ kk) (hn : n = g.len) (hs : SubG W NT g) (hA : A = some ⟨b, 0, none⟩) (hrow : rowOf A n = [b]) (hr : RowAt W NT A g) (hnd : (rowOf A n ++ g.rows).Nodup)
    (h1 : ¬ kk = 0) {e : Ending} (hp : RepPost ks kA kn (kk - 1) W e W') :
    ReI g A n k w W' (i + 1) (F.rep ks.erase (kk - 1)).2 (g1.app (.cons d1 kA kn kc ks .nil)) r := by
  obtain ⟨_, hl, hc, h0⟩ := hp
  have hw := h.whole hk
  rw [rep_cons, if_neg (by omega), if_neg h1] at hw
  have hrows : g.rows = g1.rows ++ (rowOf kA kn ++ (ks.rows ++ r.rows)) := by rw [h.eq, G.rows_app]; rfl
  refine ⟨?_, ?_, ?_, h.chg.trans (hc.mono fun q _ hq => ?_), fun hz => (h.pos hk).trans (h0 hz), fun hz => ?_⟩
  · rw [h.eq, G.app_one]
  · rw [G.len_app, h.num]; rfl
  · rw [G.erase_app, rep_app]
    simp only [G.erase]
    rw [← h.num2, rep_cons, if_neg (by omega), if_neg h1]
    rfl
  · rw [hrows]
    rcases List.mem_append.1 hq with hq | hq
    · simp [hq]
    · simp [hq]
  · rw [rep_neg _ _ hz] at hw
    rw [hw]
    refine ⟨?_, rfl⟩
    rw [h.eq] at hn hs hr hnd
    exact put_below hn hs hA hrow hr hnd hl hc
theorem ReI.here (h : ReI g A n k w W i kk g1 (.cons d1 kA kn kc ks r)) (hk : kk = 0) (hn : n = g.len) (hs : SubG W NT g) (hA : A = some ⟨b, 0, none⟩) (hrow : rowOf A n = [b]) (hr : RowAt W NT A g) (hnd : (rowOf A n ++ g.rows).Nodup)
    (zd : Own) (zk : F) (zA : Option Addr) (zn zc : Nat) (hz : F.rep (.cons d1 ks.erase r.erase) 0 = (.cons zd zk r.erase, -1))
    (hN : ∀ W', Chg (fun q => q ∈ rowOf A n ++ g.rows) w W' → IsN W' zd zk zA zn zc) :
    RepPost g A n k w (.returned (.int .i64 (-1))) (((((W.setCell ⟨b, i * 5, none⟩ (.int .i64 zd.kind)).setCell ⟨b, i * 5 + 1, none⟩ (.string zd.nm)).setCell ⟨b, i * 5 + 2, none⟩ (.int .u32 zd.val)).setCell ⟨b, i * 5 + 3, none⟩ (.bool zd.mark)).setCell ⟨b, i * 5 + 4, none⟩ (.slice zA zn zc)) := by
  subst hk
  have hw := h.whole (Int.le_refl 0)
  rw [hz] at hw
  have hb : b ∈ rowOf A n ++ g.rows := by rw [hrow]; simp
  have hc : Chg (fun q => q ∈ rowOf A n ++ g.rows) w (((((W.setCell ⟨b, i * 5, none⟩ (.int .i64 zd.kind)).setCell ⟨b, i * 5 + 1, none⟩ (.string zd.nm)).setCell ⟨b, i * 5 + 2, none⟩ (.int .u32 zd.val)).setCell ⟨b, i * 5 + 3, none⟩ (.bool zd.mark)).setCell ⟨b, i * 5 + 4, none⟩ (.slice zA zn zc)) := by
    have c0 := h.chg.setCell (p := ⟨b, i * 5, none⟩) (fun _ => hb) (.int .i64 zd.kind)
    have c1 := c0.setCell (p := ⟨b, i * 5 + 1, none⟩) (fun _ => hb) (.string zd.nm)
    have c2 := c1.setCell (p := ⟨b, i * 5 + 2, none⟩) (fun _ => hb) (.int .u32 zd.val)
    have c3 := c2.setCell (p := ⟨b, i * 5 + 3, none⟩) (fun _ => hb) (.bool zd.mark)
    exact c3.setCell (p := ⟨b, i * 5 + 4, none⟩) (fun _ => hb) (.slice zA zn zc)
  refine ⟨by rw [hw], ?_, hc, fun h0 => by rw [hw] at h0; simp at h0⟩
  rw [hw]
  have hnum := h.num
  rw [h.eq] at hn hs hr hnd
  exact (put_at hn hs hA hrow hr hnd hnum.symm rfl (hN _ hc)).1
theorem ReI.put (h : ReI g A n k w W i kk g1 (.cons d1 kA kn kc ks r)) (hk : kk = 0) (hn : n = g.len) (hs : SubG W NT g) (hA : A = some ⟨b, 0, none⟩) (hrow : rowOf A n = [b]) (hr : RowAt W NT A g) (hnd : (rowOf A n ++ g.rows).Nodup) :
    ReI g A n k w (((((W.setCell ⟨b, i * 5, none⟩ (.int .i64 99)).setCell ⟨b, i * 5 + 1, none⟩ (.string ⟨#[]⟩)).setCell ⟨b, i * 5 + 2, none⟩ (.int .u32 0)).setCell ⟨b, i * 5 + 3, none⟩ (.bool false)).setCell ⟨b, i * 5 + 4, none⟩ (.slice none 0 0)) (i + 1) (-1) (g1.app (.cons d1 kA kn kc ks .nil)) r := by
  have hp := h.here hk hn hs hA hrow hr hnd badD .nil none 0 0 (by rw [rep_cons, if_neg (by omega), if_pos rfl]) (fun W' _ => ⟨ownOk_lit 99 _ 0 false (by omega) (by decide) (by omega), Nat.le_refl _, by unfold maxLen; omega, rfl⟩)
  obtain ⟨he, hl, hc, _⟩ := hp
  have h2 : (F.rep g.erase k).2 = -1 := by injection he with he; injection he with _ he; exact he.symm
  refine ⟨?_, ?_, ?_, hc, fun hz => by omega, fun _ => ⟨hl, h2⟩⟩
  · rw [h.eq, G.app_one]
  · rw [G.len_app, h.num]; rfl
  · rw [G.erase_app, rep_app]
    simp only [G.erase]
    rw [← h.num2, hk, rep_cons, if_neg (by omega), if_pos rfl]
end
end
end

end Go.Proofs.Ytnihjkcniddepaa
