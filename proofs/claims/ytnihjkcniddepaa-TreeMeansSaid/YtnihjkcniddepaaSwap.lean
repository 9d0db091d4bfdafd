/- What is proved: what a part put into a tree's own rows leaves in memory; no program. Conditions: as each theorem says. -/
import Derived.Test.YtnihjkcniddepaaPutsLaw
import Derived.Test.YtnihjkcniddepaaSpoil
namespace Go.Proofs.Ytnihjkcniddepaa
open Go.RowKit
section
variable {xd : Own} {xk : F} {yd : Own} {yk : F}
theorem swap_cons (d : Own) (ks r : F) (k : Int) : F.swap xd xk yd yk (.cons d ks r) k = if k < 0 then (.cons d ks r, k)
    else if k = 0 ∧ 25 ≤ d.kind ∧ d.kind ≤ 33 then (.cons xd xk r, -1)
    else if k = 0 ∧ d.kind = 19 then (.cons yd yk r, -1)
    else (.cons d (F.swap xd xk yd yk ks (k - 1)).1 (F.swap xd xk yd yk r (F.swap xd xk yd yk ks (k - 1)).2).1, (F.swap xd xk yd yk r (F.swap xd xk yd yk ks (k - 1)).2).2) := rfl
theorem swap_neg (f : F) (k : Int) (h : k < 0) : F.swap xd xk yd yk f k = (f, k) := by
  cases f with
  | nil => rfl
  | cons d ks r => unfold F.swap; rw [if_pos h]
theorem swap_app (f g : F) : ∀ k, F.swap xd xk yd yk (f.app g) k = ((F.swap xd xk yd yk f k).1.app (F.swap xd xk yd yk g (F.swap xd xk yd yk f k).2).1, (F.swap xd xk yd yk g (F.swap xd xk yd yk f k).2).2) := by
  induction f with
  | nil => intro k; rfl
  | cons d ks r _ ih =>
    intro k
    by_cases h0 : k < 0
    · rw [swap_neg _ _ h0, swap_neg _ _ h0, swap_neg _ _ h0]
    · simp only [F.app, F.swap]
      rw [if_neg h0, if_neg h0]
      split
      · simp only [swap_neg _ (-1) (by omega), F.app]
      · split
        · simp only [swap_neg _ (-1) (by omega), F.app]
        · simp only [F.app, ih]
theorem swap_keep (f : F) : ∀ k, 0 ≤ (F.swap xd xk yd yk f k).2 → (F.swap xd xk yd yk f k).1 = f := by
  induction f with
  | nil => intro k _; rfl
  | cons d ks r ih1 ih2 =>
    intro k h
    rw [swap_cons] at h ⊢
    split at h
    · rename_i c; rw [if_pos c]
    · rename_i c
      rw [if_neg c]
      split at h
      · omega
      · rename_i c; rw [if_neg c]
        split at h
        · omega
        · rename_i c; rw [if_neg c]
          have h2 := ih2 _ h
          have h1 : 0 ≤ (F.swap xd xk yd yk ks (k - 1)).2 := by
            by_cases hn : (F.swap xd xk yd yk ks (k - 1)).2 < 0
            · rw [swap_neg _ _ hn] at h; exact h
            · omega
          simp only [ih1 _ h1, h2]
end
theorem cellsL_of_sub {w : World} : ∀ {g : G}, SubG w NT g → CellsL w g.cells g.erase := by
  intro g
  induction g with
  | nil => exact fun _ => rfl
  | cons d kA kn kc ks r _ ih =>
    rintro ⟨h1, h2, h3, h4, h5, h6, h7⟩
    exact ⟨kA, kn, kc, r.cells, rfl, ⟨h1, h2, h3, isL_own h6 h4 h5⟩, ih h7⟩
theorem sub_lt {w : World} : ∀ {g : G}, SubG w NT g → ∀ q ∈ g.rows, q < w.heap.size := by
  intro g
  induction g with
  | nil => intro _ q hq; cases hq
  | cons d kA kn kc ks r ih1 ih2 =>
    rintro ⟨_, _, _, _, h5, h6, h7⟩ q hq
    rcases List.mem_append.1 hq with hq | hq
    · rcases Nat.eq_zero_or_pos kn with h0 | h0
      · unfold rowOf at hq; rw [if_pos h0] at hq; cases hq
      · obtain ⟨b', _, hr', hlt'⟩ := (h5 h0).mem h0
        rw [hr'] at hq
        have : q = b' := by simpa using hq
        subst this; exact hlt'
    · rcases List.mem_append.1 hq with hq | hq
      · exact ih1 h6 q hq
      · exact ih2 h7 q hq
theorem rows_apart {b n : Nat} {A : Option Addr} {g1 : G} {d1 : Own} {kA : Option Addr} {kn kc : Nat} {ks r : G} (hrow : rowOf A n = [b]) (hnd : (rowOf A n ++ (g1.app (.cons d1 kA kn kc ks r)).rows).Nodup) :
    (b ∉ g1.rows ∧ b ∉ rowOf kA kn ++ ks.rows ∧ b ∉ r.rows) ∧ (∀ q ∈ g1.rows, q ∉ rowOf kA kn ++ ks.rows) ∧ (∀ q ∈ r.rows, q ∉ rowOf kA kn ++ ks.rows) := by
  have hrows : (g1.app (.cons d1 kA kn kc ks r)).rows = g1.rows ++ (rowOf kA kn ++ (ks.rows ++ r.rows)) := by rw [G.rows_app]; rfl
  rw [hrow, hrows] at hnd
  refine ⟨?_, ?_, ?_⟩
  · simp only [List.singleton_append, List.nodup_cons, List.mem_append, not_or] at hnd ⊢
    exact ⟨hnd.1.1, ⟨hnd.1.2.1, hnd.1.2.2.1⟩, hnd.1.2.2.2⟩
  · intro q hq hm
    have hnd' := (List.nodup_append.1 (List.nodup_append.1 hnd).2.1).2.2
    have hmm : q ∈ rowOf kA kn ++ (ks.rows ++ r.rows) := by
      rcases List.mem_append.1 hm with hm | hm
      · exact List.mem_append.2 (.inl hm)
      · exact List.mem_append.2 (.inr (List.mem_append.2 (.inl hm)))
    exact hnd' q hq q hmm rfl
  · intro q hq hm
    have hnd1 := (List.nodup_append.1 (List.nodup_append.1 hnd).2.1).2.1
    rcases List.mem_append.1 hm with hm | hm
    · exact (List.nodup_append.1 hnd1).2.2 q hm q (List.mem_append.2 (.inr hq)) rfl
    · exact (List.nodup_append.1 (List.nodup_append.1 hnd1).2.1).2.2 q hm q hq rfl
section
variable {w W W' : World} {g1 : G} {A : Option Addr} {n b : Nat} {d1 : Own} {kA : Option Addr} {kn kc : Nat} {ks r : G}
theorem G.erase_len_app (g1 : G) (f : F) : (g1.erase.app f).len = g1.len + f.len := by
  induction g1 with
  | nil => simp [G.erase, F.app, G.len]
  | cons d kA kn kc ks r _ ih => simp [G.erase, F.app, F.len, G.len, ih]; omega
/-- a change below one node of a row -/
theorem put_below (hn : n = (g1.app (.cons d1 kA kn kc ks r)).len) (hs : SubG W NT (g1.app (.cons d1 kA kn kc ks r))) (hA : A = some ⟨b, 0, none⟩) (hrow : rowOf A n = [b]) (hr : RowAt W NT A (g1.app (.cons d1 kA kn kc ks r)))
    (hnd : (rowOf A n ++ (g1.app (.cons d1 kA kn kc ks r)).rows).Nodup) {f : F} (hl : IsL W' kA kn f) (hc : Chg (fun q => q ∈ rowOf kA kn ++ ks.rows) W W') : IsL W' A n (g1.erase.app (.cons d1 f r.erase)) := by
  obtain ⟨⟨hb1, hb2, hb3⟩, hd1, hd2⟩ := rows_apart hrow hnd
  obtain ⟨s1, ⟨ok, k1, k2, k3, k5, k6, s2⟩⟩ := hs.parts
  have kp : ∀ {g : G}, SubG W NT g → (∀ q ∈ g.rows, q ∉ rowOf kA kn ++ ks.rows) → SubG W' NT g := fun hg hq => hg.keep fun q hm => hc.block q (sub_lt hg q hm) (hq q hm)
  have hcl : CellsL W' (g1.app (.cons d1 kA kn kc ks r)).cells (g1.erase.app (.cons d1 f r.erase)) := by
    rw [G.cells_app]
    exact (cellsL_of_sub (kp s1 hd1)).app ⟨kA, kn, kc, r.cells, rfl, ⟨ok, k1, k2, hl⟩, cellsL_of_sub (kp s2 hd2)⟩
  obtain ⟨b', cur, hA', hb, hcur⟩ := hr
  rw [hA] at hA'
  injection hA' with hA'
  injection hA' with hA'
  subst hA'
  have hb' : W'.heap[b]? = some (.cells cur NT (0, 0)) := by rw [hc.block b (Array.getElem?_eq_some_iff.1 hb).1 hb2]; exact hb
  have hlen : n = (g1.erase.app (.cons d1 f r.erase)).len := by rw [hn, G.len_app, G.erase_len_app]; simp [G.len, F.len, G.len_erase]
  rw [hA, hlen]
  refine hcl.isL fun j u hu => ?_
  rw [Nat.zero_add, cell_of_row W' b j cur NT (0, 0) hb', ← hu]
  have := take_get hcur j (List.getElem?_eq_some_iff.1 hu).1
  simpa using this
/-- a node put in the place of one of a row -/
theorem put_at (hn : n = (g1.app (.cons d1 kA kn kc ks r)).len) (hs : SubG W NT (g1.app (.cons d1 kA kn kc ks r))) (hA : A = some ⟨b, 0, none⟩) (hrow : rowOf A n = [b]) (hr : RowAt W NT A (g1.app (.cons d1 kA kn kc ks r)))
    (hnd : (rowOf A n ++ (g1.app (.cons d1 kA kn kc ks r)).rows).Nodup) {xd : Own} {xk : F} {xA : Option Addr} {xn xc i : Nat} (hi : i = g1.len)
    (hW : W' = ((((W.setCell ⟨b, i * 5, none⟩ (.int .i64 xd.kind)).setCell ⟨b, i * 5 + 1, none⟩ (.string xd.nm)).setCell ⟨b, i * 5 + 2, none⟩ (.int .u32 xd.val)).setCell ⟨b, i * 5 + 3, none⟩ (.bool xd.mark)).setCell ⟨b, i * 5 + 4, none⟩ (.slice xA xn xc))
    (hx : IsN W' xd xk xA xn xc) : IsL W' A n (g1.erase.app (.cons xd xk r.erase)) ∧ Chg (fun q => q = b) W W' := by
  obtain ⟨⟨hb1, hb2, hb3⟩, hd1, hd2⟩ := rows_apart hrow hnd
  obtain ⟨s1, ⟨ok, k1, k2, k3, k5, k6, s2⟩⟩ := hs.parts
  obtain ⟨b', cur, hA', hb, hcur⟩ := hr
  rw [hA] at hA'
  injection hA' with hA'
  injection hA' with hA'
  subst hA'
  have hc : Chg (fun q => q = b) W W' := by
    rw [hW]
    have c0 := (Chg.refl (fun q => q = b) W).setCell (p := ⟨b, i * 5, none⟩) (fun _ => rfl) (.int .i64 xd.kind)
    have c1 := c0.setCell (p := ⟨b, i * 5 + 1, none⟩) (fun _ => rfl) (.string xd.nm)
    have c2 := c1.setCell (p := ⟨b, i * 5 + 2, none⟩) (fun _ => rfl) (.int .u32 xd.val)
    have c3 := c2.setCell (p := ⟨b, i * 5 + 3, none⟩) (fun _ => rfl) (.bool xd.mark)
    exact c3.setCell (p := ⟨b, i * 5 + 4, none⟩) (fun _ => rfl) (.slice xA xn xc)
  have hB : Blk W' b NT (((((cur.setIfInBounds (i * 5) (.int .i64 xd.kind)).setIfInBounds (i * 5 + 1) (.string xd.nm)).setIfInBounds (i * 5 + 2) (.int .u32 xd.val)).setIfInBounds (i * 5 + 3) (.bool xd.mark)).setIfInBounds (i * 5 + 4) (.slice xA xn xc)) := by
    rw [hW]
    exact ((((Blk.set_ (t := NT) hb (i * 5) _).set_ (i * 5 + 1) _).set_ (i * 5 + 2) _).set_ (i * 5 + 3) _).set_ (i * 5 + 4) _
  refine ⟨?_, hc⟩
  have kp : ∀ {g : G}, SubG W NT g → b ∉ g.rows → SubG W' NT g := fun hg hq => hg.keep fun q hm => hc.block q (sub_lt hg q hm) (fun e => hq (e ▸ hm))
  have hcl : CellsL W' (g1.cells ++ (nodeL xd xA xn xc ++ r.cells)) (g1.erase.app (.cons xd xk r.erase)) :=
    (cellsL_of_sub (kp s1 hb1)).app ⟨xA, xn, xc, r.cells, rfl, hx, cellsL_of_sub (kp s2 hb3)⟩
  have hlen : n = (g1.erase.app (.cons xd xk r.erase)).len := by rw [hn, G.len_app, G.erase_len_app]; simp [G.len, F.len, G.len_erase]
  rw [hA, hlen]
  refine hcl.isL fun j u hu => ?_
  rw [Nat.zero_add, hB.cell j, ← hu]
  have hcells : (g1.app (.cons d1 kA kn kc ks r)).cells = g1.cells ++ (nodeL d1 kA kn kc ++ r.cells) := by rw [G.cells_app]; rfl
  have hj := (List.getElem?_eq_some_iff.1 hu).1
  have hgl : g1.cells.length = i * 5 := by rw [G.cells_len, hi]
  have hcurlen : g1.cells.length + (5 + r.cells.length) ≤ cur.size := by
    have := congrArg List.length hcur
    rw [hcells] at this
    simp [nodeL] at this
    omega
  have hold : ∀ k, k < g1.cells.length + (5 + r.cells.length) → cur[k]? = (g1.cells ++ (nodeL d1 kA kn kc ++ r.cells))[k]? := fun k hk => by
    have := take_get hcur k (by rw [hcells]; simp [nodeL]; omega)
    rw [hcells] at this
    simpa using this
  have n5 : ∀ (d : Own) (A : Option Addr) (n c : Nat), (nodeL d A n c).length = 5 := fun _ _ _ _ => rfl
  have hj' : j < g1.cells.length + (5 + r.cells.length) := by rw [List.length_append, List.length_append, n5] at hj; exact hj
  rcases Nat.lt_or_ge j (i * 5) with h1 | h1
  · rw [Array.getElem?_setIfInBounds_ne (by omega), Array.getElem?_setIfInBounds_ne (by omega), Array.getElem?_setIfInBounds_ne (by omega), Array.getElem?_setIfInBounds_ne (by omega), Array.getElem?_setIfInBounds_ne (by omega), hold j hj', List.getElem?_append_left (by omega), List.getElem?_append_left (by omega)]
  · rcases Nat.lt_or_ge j (i * 5 + 5) with h2 | h2
    · have hj5 : j = i * 5 ∨ j = i * 5 + 1 ∨ j = i * 5 + 2 ∨ j = i * 5 + 3 ∨ j = i * 5 + 4 := by omega
      rw [List.getElem?_append_right (by omega), hgl]
      rcases hj5 with rfl | rfl | rfl | rfl | rfl
      · simp [Array.getElem?_setIfInBounds, nodeL, show i * 5 < cur.size by omega]
      · simp [Array.getElem?_setIfInBounds, nodeL, show i * 5 + 1 < cur.size by omega]
      · simp [Array.getElem?_setIfInBounds, nodeL, show i * 5 + 2 < cur.size by omega]
      · simp [Array.getElem?_setIfInBounds, nodeL, show i * 5 + 3 < cur.size by omega]
      · simp [Array.getElem?_setIfInBounds, nodeL, show i * 5 + 4 < cur.size by omega]
    · rw [Array.getElem?_setIfInBounds_ne (by omega), Array.getElem?_setIfInBounds_ne (by omega), Array.getElem?_setIfInBounds_ne (by omega), Array.getElem?_setIfInBounds_ne (by omega), Array.getElem?_setIfInBounds_ne (by omega), hold j hj',
        List.getElem?_append_right (by omega), List.getElem?_append_right (by rw [n5]; omega), List.getElem?_append_right (by omega), List.getElem?_append_right (by rw [n5]; omega), n5, n5]
end
end Go.Proofs.Ytnihjkcniddepaa
