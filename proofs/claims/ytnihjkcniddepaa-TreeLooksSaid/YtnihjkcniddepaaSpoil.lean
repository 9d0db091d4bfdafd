/- What is proved: the contract of the law's spoil: all values below a node of a copy are raised by one. Conditions: the copy lies in memory of its own. -/
import Derived.Test.YtnihjkcniddepaaFlat
import Derived.StillTailTactics
namespace Go.Proofs.Ytnihjkcniddepaa
open Go.RowKit
def rais (d : Own) : Own := ⟨d.kind, d.nm, (d.val + 1) % 4294967296, d.mark⟩
namespace G
def spoil : G → Int → G
  | .nil, _ => .nil
  | .cons d kA kn kc ks r, left => if 0 < left then .cons (rais d) kA kn kc (ks.spoil (left - 1)) (r.spoil left) else .cons d kA kn kc ks r
theorem app_one (g : G) (d : Own) (kA : Option Addr) (kn kc : Nat) (ks r : G) : (g.app (.cons d kA kn kc ks .nil)).app r = g.app (.cons d kA kn kc ks r) := by
  induction g with
  | nil => rfl
  | cons d kA kn kc ks r _ ih => simp [app, ih]
theorem spoil_none (g : G) (left : Int) (h : ¬ 0 < left) : g.spoil left = g := by
  cases g with
  | nil => rfl
  | cons d kA kn kc ks r => simp only [spoil]; rw [if_neg h]
theorem spoil_rows (g : G) : ∀ left, (g.spoil left).rows = g.rows := by
  induction g with
  | nil => intro left; rfl
  | cons d kA kn kc ks r h1 h2 =>
    intro left
    simp only [spoil]
    split
    · simp [rows, h1, h2]
    · rfl
theorem spoil_len (g : G) : ∀ left, (g.spoil left).len = g.len := by
  induction g with
  | nil => intro left; rfl
  | cons d kA kn kc ks r h1 h2 =>
    intro left
    simp only [spoil]
    split
    · simp [len, h2]
    · rfl
theorem spoil_app (g h : G) (left : Int) (hl : 0 < left) : (g.app h).spoil left = (g.spoil left).app (h.spoil left) := by
  induction g with
  | nil => rfl
  | cons d kA kn kc ks r _ ih => simp only [app, spoil]; rw [if_pos hl, if_pos hl, ih]; rfl
/-- spoilt nodes are others -/
theorem spoil_same (g : G) (left : Int) (hl : 0 < left) (hg : 0 < g.len) (hok : ∀ d kA kn kc ks r, g = .cons d kA kn kc ks r → 0 ≤ d.val ∧ d.val ≤ 4294967295) : (g.spoil left).erase.same g.erase = false := by
  cases g with
  | nil => simp [len] at hg
  | cons d kA kn kc ks r =>
    have := hok _ _ _ _ _ _ rfl
    simp only [spoil]
    rw [if_pos hl]
    simp only [erase, F.same]
    have e : ownB (rais d) d = false := by
      have : ((rais d).val == d.val) = false := by
        simp only [beq_eq_false_iff_ne]
        show (d.val + 1) % 4294967296 ≠ d.val
        omega
      unfold ownB
      rw [this]; simp
    rw [e]; rfl
end G
theorem ok_rais {d : Own} (h : OwnOk d) : OwnOk (rais d) := ⟨h.1, h.2.1, by show 0 ≤ (d.val + 1) % 4294967296 ∧ (d.val + 1) % 4294967296 ≤ 4294967295; omega⟩
def SpoilPost (g : G) (A : Option Addr) (n : Nat) (left : Int) (w : World) (e : Ending) (w' : World) : Prop :=
  e = .returned (.tuple #[]) ∧ SubG w' NT (g.spoil left) ∧ (0 < n → RowAt w' NT A (g.spoil left)) ∧ Chg (fun q => q ∈ rowOf A n ++ g.rows) w w'
def SpoilC (g : G) : Prop :=
  ∀ (b o n c : Nat) (A : Option Addr) (left : Int) (w : World), n = g.len → n ≤ c → c ≤ maxLen → w.cell? ⟨b, o + 4, none⟩ = some (.slice A n c) → b ∉ rowOf A n ++ g.rows → SubG w NT g → (0 < n → RowAt w NT A g) → (rowOf A n ++ g.rows).Nodup →
    (-1000000 ≤ left ∧ left ≤ 1000000000000) → Calls Try.prog 20 #[.pointer (some ⟨b, o, none⟩), .int .i64 left] w (SpoilPost g A n left w)
def SpoilOK : G → Prop
  | .nil => True
  | .cons _ _ _ _ ks r => SpoilC ks ∧ SpoilOK r
/-- the head of a round -/
structure SInv (g : G) (A : Option Addr) (n : Nat) (left : Int) (w wr : World) (i : Nat) (g1 g2 : G) : Prop where
  eq : g = g1.app g2
  num : g1.len = i
  sub : SubG wr NT ((g1.spoil left).app g2)
  row : 0 < n → RowAt wr NT A ((g1.spoil left).app g2)
  chg : Chg (fun q => q ∈ rowOf A n ++ g.rows) w wr
section
variable {w wr w1 : World} {g g1 : G} {A : Option Addr} {n i : Nat} {left : Int}
theorem SubG.parts {T : TypeId} : ∀ {g h : G}, SubG w T (g.app h) → SubG w T g ∧ SubG w T h := by
  intro g
  induction g with
  | nil => exact fun h => ⟨trivial, h⟩
  | cons d kA kn kc ks r _ ih =>
    rintro h ⟨h1, h2, h3, h4, h5, h6, h7⟩
    exact ⟨⟨h1, h2, h3, h4, h5, h6, (ih h7).1⟩, (ih h7).2⟩
theorem row_set {T : TypeId} {b : Nat} {d d' : Own} {kA : Option Addr} {kn kc : Nat} {ks ks' r : G} {v : Int} (h : RowAt w T (some ⟨b, 0, none⟩) (g.app (.cons d kA kn kc ks r))) (h1 : d'.kind = d.kind) (h2 : d'.nm = d.nm) (h3 : d'.val = v) (h4 : d'.mark = d.mark) :
    RowAt (w.setCell ⟨b, g.len * 5 + 2, none⟩ (.int .u32 v)) T (some ⟨b, 0, none⟩) (g.app (.cons d' kA kn kc ks' r)) := by
  obtain ⟨b', cur, hA, hb, hc⟩ := h
  injection hA with hA
  injection hA with hA
  subst hA
  refine ⟨b, _, rfl, Blk.set_ (t := T) hb (g.len * 5 + 2) (.int .u32 v), ?_⟩
  have e1 : (g.app (.cons d' kA kn kc ks' r)).cells = (g.app (.cons d kA kn kc ks r)).cells.set (g.len * 5 + 2) (.int .u32 v) := by
    rw [G.cells_app, G.cells_app]
    simp only [G.cells, nodeL]
    rw [List.set_append, if_neg (by rw [G.cells_len]; omega), G.cells_len]
    simp [h1, h2, h3, h4]
  have e2 : (g.app (.cons d' kA kn kc ks' r)).cells.length = (g.app (.cons d kA kn kc ks r)).cells.length := by rw [e1]; simp
  rw [e2, e1, Array.toList_setIfInBounds, List.take_set, hc]
theorem SInv.next {d1 : Own} {kA : Option Addr} {kn kc : Nat} {ks r : G} {b : Nat} (h : SInv g A n left w wr i g1 (.cons d1 kA kn kc ks r)) (hl : 0 < left) (hA : A = some ⟨b, 0, none⟩) (hn : 0 < n) (hnd : (rowOf A n ++ g.rows).Nodup)
    (hs : SubG w1 NT (ks.spoil (left - 1))) (hr : 0 < kn → RowAt w1 NT kA (ks.spoil (left - 1))) (hc : Chg (fun q => q ∈ rowOf kA kn ++ ks.rows) wr w1) :
    SInv g A n left w (w1.setCell ⟨b, i * 5 + 2, none⟩ (.int .u32 ((d1.val + 1) % 4294967296))) (i + 1) (g1.app (.cons d1 kA kn kc ks .nil)) r := by
  have hrow : rowOf A n = [b] := by rw [hA]; unfold rowOf; rw [if_neg (by omega)]; rfl
  have heq := h.eq
  have hrows : g.rows = g1.rows ++ (rowOf kA kn ++ (ks.rows ++ r.rows)) := by rw [heq, G.rows_app]; rfl
  rw [hrow, hrows] at hnd
  have hbm : b ∉ g1.rows ∧ b ∉ rowOf kA kn ∧ b ∉ ks.rows ∧ b ∉ r.rows := by
    simp only [List.singleton_append, List.nodup_cons, List.mem_append, not_or] at hnd
    exact ⟨hnd.1.1, hnd.1.2.1, hnd.1.2.2.1, hnd.1.2.2.2⟩
  have hdis1 : ∀ q ∈ g1.rows, q ∉ rowOf kA kn ++ ks.rows := by
    intro q hq hm
    have hnd' := (List.nodup_append.1 (List.nodup_append.1 hnd).2.1).2.2
    have hmm : q ∈ rowOf kA kn ++ (ks.rows ++ r.rows) := by
      rcases List.mem_append.1 hm with hm | hm
      · exact List.mem_append.2 (.inl hm)
      · exact List.mem_append.2 (.inr (List.mem_append.2 (.inl hm)))
    exact hnd' q hq q hmm rfl
  have hdis2 : ∀ q ∈ r.rows, q ∉ rowOf kA kn ++ ks.rows := by
    intro q hq hm
    have hnd1 := (List.nodup_append.1 (List.nodup_append.1 hnd).2.1).2.1
    rcases List.mem_append.1 hm with hm | hm
    · exact (List.nodup_append.1 hnd1).2.2 q hm q (List.mem_append.2 (.inr hq)) rfl
    · exact (List.nodup_append.1 (List.nodup_append.1 hnd1).2.1).2.2 q hm q hq rfl
  have hset : ∀ (W : World) (u : Value) (q : Nat), q ≠ b → (W.setCell ⟨b, i * 5 + 2, none⟩ u).heap[q]? = W.heap[q]? := fun W u q hq => Below.heap_setCell W _ u q (by simpa using hq)
  have hlt : ∀ {g : G}, SubG wr NT g → ∀ q ∈ g.rows, q < wr.heap.size := by
    intro g
    induction g with
    | nil => intro _ q hq; cases hq
    | cons d kA kn kc ks r ih1 ih2 =>
      rintro ⟨_, _, _, _, h5, h6, h7⟩ q hq
      rcases List.mem_append.1 hq with hq | hq
      · rcases Nat.eq_zero_or_pos kn with h0 | h0
        · unfold rowOf at hq; rw [if_pos h0] at hq; cases hq
        · obtain ⟨b', _, hr', hlt'⟩ := (h5 h0).mem h0
          rw [hr'] at hq
          have : q = b' := by simpa using hq
          subst this; exact hlt'
      · rcases List.mem_append.1 hq with hq | hq
        · exact ih1 h6 q hq
        · exact ih2 h7 q hq
  obtain ⟨sub1, sub2⟩ := h.sub.parts
  obtain ⟨ok, k1, k2, k3, _, _, sr⟩ := sub2
  have kp : ∀ {g : G}, SubG wr NT g → (∀ q ∈ g.rows, q ∉ rowOf kA kn ++ ks.rows ∧ q ≠ b) → SubG (w1.setCell ⟨b, i * 5 + 2, none⟩ (.int .u32 ((d1.val + 1) % 4294967296))) NT g := fun hg hq =>
    hg.keep fun q hm => by rw [hset _ _ q (hq q hm).2]; exact hc.block q (hlt hg q hm) (hq q hm).1
  have kp1 : ∀ {g : G}, SubG w1 NT g → (∀ q ∈ g.rows, q ≠ b) → SubG (w1.setCell ⟨b, i * 5 + 2, none⟩ (.int .u32 ((d1.val + 1) % 4294967296))) NT g := fun hg hq =>
    hg.keep fun q hm => hset _ _ q (hq q hm)
  have espo : ((g1.app (.cons d1 kA kn kc ks .nil)).spoil left).app r = (g1.spoil left).app (.cons (rais d1) kA kn kc (ks.spoil (left - 1)) r) := by
    rw [G.spoil_app _ _ _ hl]
    simp only [G.spoil]
    rw [if_pos hl, G.app_one]
  have hbrow : ∀ q ∈ rowOf kA kn, q ≠ b := fun q hq e => hbm.2.1 (e ▸ hq)
  refine ⟨?_, ?_, ?_, ?_, ?_⟩
  · rw [heq, G.app_one]
  · rw [G.len_app, h.num]; rfl
  · rw [espo]
    refine SubG.app (kp sub1 fun q hq => ?_) ⟨ok_rais ok, k1, k2, by rw [G.spoil_len]; exact k3, fun h0 => ?_, kp1 hs fun q hq => ?_, kp sr fun q hq => ?_⟩
    · rw [G.spoil_rows] at hq
      exact ⟨hdis1 q hq, fun e => hbm.1 (e ▸ hq)⟩
    · exact (hr h0).keep h0 fun q hq => hset _ _ q (hbrow q hq)
    · rw [G.spoil_rows] at hq
      exact fun e => hbm.2.2.1 (e ▸ hq)
    · exact ⟨hdis2 q hq, fun e => hbm.2.2.2 (e ▸ hq)⟩
  · intro _
    rw [espo]
    have hrw := h.row hn
    rw [hA] at hrw ⊢
    have hrw1 : RowAt w1 NT (some ⟨b, 0, none⟩) ((g1.spoil left).app (.cons d1 kA kn kc ks r)) := hrw.keep (n := 1) (by omega) fun q hq => by
      have : q = b := by simpa [rowOf] using hq
      subst this
      have hb := (hrw.mem (n := 1) (by omega))
      obtain ⟨b', hb1, _, hb2⟩ := hb
      injection hb1 with hb1
      injection hb1 with hb1
      subst hb1
      exact hc.block q hb2 (by simp only [List.mem_append, not_or]; exact ⟨hbm.2.1, hbm.2.2.1⟩)
    have := row_set (d' := rais d1) (ks' := ks.spoil (left - 1)) (v := (d1.val + 1) % 4294967296) hrw1 rfl rfl rfl rfl
    rw [G.spoil_len, h.num] at this
    exact this
  · refine (h.chg.trans (hc.mono fun q _ hq => ?_)).setCell (fun _ => ?_) _
    · rw [hrow, hrows]
      rcases List.mem_append.1 hq with hq | hq
      · simp [hq]
      · simp [hq]
    · rw [hrow]; simp
end
theorem SInv.start {g : G} {A : Option Addr} {n : Nat} {left : Int} {w : World} (hs : SubG w NT g) (hr : 0 < n → RowAt w NT A g) : SInv g A n left w w 0 .nil g :=
  ⟨rfl, rfl, hs, hr, Chg.refl _ _⟩
/-- what the head of a round tells of the node that comes up -/
theorem SInv.node {g : G} {A : Option Addr} {n i : Nat} {left : Int} {w wr : World} {g1 g2 : G} (h : SInv g A n left w wr i g1 g2) (hn : n = g.len) (hi : i < n) :
    ∃ b d1 kA kn kc ks r, g2 = .cons d1 kA kn kc ks r ∧ A = some ⟨b, 0, none⟩ ∧ rowOf A n = [b] ∧ wr.cell? ⟨b, i * 5 + 2, none⟩ = some (.int .u32 d1.val) ∧ wr.cell? ⟨b, i * 5 + 4, none⟩ = some (.slice kA kn kc) ∧ wr.frozen? ⟨b, i * 5 + 2, none⟩ = false ∧
      kn = ks.len ∧ kn ≤ kc ∧ kc ≤ maxLen ∧ SubG wr NT ks ∧ (0 < kn → RowAt wr NT kA ks) ∧ OwnOk d1 ∧ (rowOf kA kn ++ ks.rows).Sublist g.rows := by
  have hl : g2.len = n - i := by have := h.eq; have h2 := h.num; rw [this, G.len_app] at hn; omega
  cases g2 with
  | nil => simp [G.len] at hl; omega
  | cons d1 kA kn kc ks r =>
    have hrow := h.row (by omega)
    obtain ⟨b, hA, hrb, _⟩ := hrow.mem (n := n) (by omega)
    obtain ⟨b', cur, hA', hb, hc⟩ := hrow
    rw [hA] at hA'
    injection hA' with hA'
    injection hA' with hA'
    subst hA'
    obtain ⟨_, ok, k1, k2, k3, k5, k6, _⟩ := h.sub.parts
    have hlen : ((g1.spoil left).app (.cons d1 kA kn kc ks r)).cells = (g1.spoil left).cells ++ (nodeL d1 kA kn kc ++ r.cells) := by rw [G.cells_app]; rfl
    have hcl : (g1.spoil left).cells.length = i * 5 := by rw [G.cells_len, G.spoil_len, h.num]
    have hcell : ∀ j u, j < 5 → (nodeL d1 kA kn kc)[j]? = some u → wr.cell? ⟨b, i * 5 + j, none⟩ = some u := fun j u hj hu => by
      rw [cell_of_row wr b (i * 5 + j) cur NT (0, 0) hb]
      have h1 : cur.toList[i * 5 + j]? = ((g1.spoil left).app (.cons d1 kA kn kc ks r)).cells[i * 5 + j]? := take_get hc _ (by rw [hlen]; simp [hcl, nodeL]; omega)
      rw [hlen, List.getElem?_append_right (by omega), hcl, Nat.add_sub_cancel_left, List.getElem?_append_left (by simp [nodeL]; omega), hu] at h1
      simpa using h1
    refine ⟨b, d1, kA, kn, kc, ks, r, rfl, hA, hrb, hcell 2 _ (by omega) rfl, hcell 4 _ (by omega) rfl, Blk.frozen (t := NT) hb _, k3, k1, k2, k6, k5, ok, ?_⟩
    rw [h.eq, G.rows_app]
    simp only [G.rows]
    refine List.Sublist.trans ?_ (List.sublist_append_right _ _)
    exact List.Sublist.append (List.Sublist.refl _) (List.sublist_append_left _ _)
theorem SInv.drew {g : G} {A : Option Addr} {n i : Nat} {left : Int} {w wr : World} {g1 g2 : G} (h : SInv g A n left w wr i g1 g2) : SInv g A n left w wr.drew i g1 g2 :=
  ⟨h.eq, h.num, h.sub.keep fun _ _ => rfl, fun hn => (h.row hn).keep (n := n) hn fun _ _ => rfl, h.chg.drew⟩
theorem SpoilOK.at_ : ∀ {g1 : G} {d1 : Own} {kA : Option Addr} {kn kc : Nat} {ks r : G}, SpoilOK (g1.app (.cons d1 kA kn kc ks r)) → SpoilC ks := by
  intro g1
  induction g1 with
  | nil => exact fun h => h.1
  | cons d kA kn kc ks r _ ih => exact fun h => ih h.2
set_option maxHeartbeats 1000000 in
theorem spoil_c (g : G) (hok : SpoilOK g) : SpoilC g := by
  intro b o n c A left w hn hle hmo h4 hb hs hr hnd hleft
  unfold maxLen at hmo
  obtain ⟨hl1, hl2⟩ := hleft
  have Hn := Go.Lib.hid hn
  have Hnd := Go.Lib.hid hnd
  have Hok := Go.Lib.hid hok
  have HB := Go.Lib.hid hb
  have H4 := Go.Lib.hid h4
  have HS0 := Go.Lib.hid (SInv.start (left := left) hs hr)
  have HZ : Hid (¬ 0 < left → SpoilPost g A n left w (.returned (.tuple #[])) w) := Go.Lib.hid fun h0 => by
    refine ⟨rfl, ?_, ?_, Chg.refl _ _⟩
    · rw [G.spoil_none _ _ h0]; exact hs
    · rw [G.spoil_none _ _ h0]; exact hr
  clear hn hs hr hnd hok hb
  by_cases hpos : 0 < left
  · go_enter Try.func20, Try.ntmps20
    go_wp2_with fail
    go_loopw [4] (fun v W => ∃ (i : Nat) (g1 g2 : G), i ≤ n ∧ v = .int .i64 i ∧ SInv g A n left w W i g1 g2) (fun v _ => n - (intOf v).toNat)
    case atStart => exact ⟨0, .nil, g, Nat.zero_le _, rfl, HS0.out⟩
    case round =>
      obtain ⟨i, g1, g2, hi, rfl, hinv⟩ := hrel
      have H := Go.Lib.hid hinv
      have hc4 := hinv.chg.cell H4.out HB.out
      clear hinv h4
      by_cases hlt : i < n
      · obtain ⟨bA, d1, kA, kn, kc, ks, r, rfl, rfl, hrow, cv, ck, hfz, k3, k1, k2, hsub, hrk, okd, hsl⟩ := H.out.node Hn.out hlt
        have hnd := Hnd.out
        rw [hrow] at hnd
        have hbA : bA ∉ rowOf kA kn ++ ks.rows := fun hm => by
          simp only [List.singleton_append, List.nodup_cons] at hnd
          exact hnd.1 (hsl.subset hm)
        have hndk : (rowOf kA kn ++ ks.rows).Nodup := by
          simp only [List.singleton_append, List.nodup_cons] at hnd
          exact List.Nodup.sublist hsl hnd.2
        have hok1 : SpoilC ks := by
          have := Hok.out
          rw [H.out.eq] at this
          exact this.at_
        have Hc := Go.Lib.hid (hok1 bA (i * 5) kn kc kA (left - 1) wr k3 k1 k2 ck hbA hsub hrk hndk (by omega))
        have Hbn : Hid (b ∉ rowOf kA kn ++ ks.rows) := Go.Lib.hid fun hm => HB.out (List.mem_append.2 (.inr (hsl.subset hm)))
        have HbA := Go.Lib.hid hbA
        have HRow := Go.Lib.hid hrow
        have hv0 := okd.2.2
        have hi1 : (0 : Int) ≤ i := by omega
        have hi2 : (i : Int) < n := by omega
        clear hnd hbA hndk hok1 hsub hrk k3 hsl hrow okd
        go_wp2_with fail
        refine Hc.out.mono ?_
        rintro e w1 ⟨rfl, hs1, hr1, hcg⟩
        have hc4' := hcg.cell hc4 Hbn.out
        have cv' := hcg.cell cv HbA.out
        have hfz' : w1.frozen? ⟨bA, i * 5 + 2, none⟩ = false := by
          have := hcg.block bA (block_lt_of_cell cv) HbA.out
          rw [World.frozen?_of_block this]; exact hfz
        have HN := Go.Lib.hid (SInv.next H.out hpos rfl (by omega) Hnd.out hs1 hr1 hcg)
        clear hs1 hr1 hcg hc4 cv hfz ck
        go_wp2_with fail
        set_option maxRecDepth 100000 in go_still_tail 16, (by kernel_rfl)
        rw [IntKind.wrap_u32]
        change wpList _ _ _ _ _ w1.drew
        go_wp2_with fail
        go_roundw
        case rel => exact ⟨i + 1, _, _, by omega, by go_num, HN.out.drew⟩
        case measure => simp [intOf]; omega
      · obtain rfl : i = n := by omega
        have hg2 : g2 = .nil := by
          have := H.out.eq
          have h2 := H.out.num
          have h3 := Hn.out
          rw [this, G.len_app] at h3
          cases g2 with
          | nil => rfl
          | cons => simp [G.len] at h3; omega
        subst hg2
        have HF : Hid (SpoilPost g A i left w (.returned (.tuple #[])) wr) := Go.Lib.hid (by
          have e := H.out.eq
          have hnil : ∀ g : G, g.app .nil = g := fun g => by
            induction g with
            | nil => rfl
            | cons d kA kn kc ks r _ ih => simp [G.app, ih]
          rw [hnil] at e
          have h1 := H.out.sub
          have h2 := H.out.row
          rw [hnil, ← e] at h1 h2
          exact ⟨rfl, h1, h2, H.out.chg⟩)
        go_wp2_with fail
        go_end0
        exact HF.out
  · have HF := Go.Lib.hid (HZ.out hpos)
    rcases Nat.eq_zero_or_pos n with h0 | h0
    · have h0' : (n : Int) = 0 := by omega
      have h4 := H4.out
      subst h0
      go_enter Try.func20, Try.ntmps20
      go_wp2_with fail
      refine wp_loop_rounds 1 ?_
      rw [rounds_succ]
      go_wp2_with fail
      go_end0
      exact HF.out
    · go_enter Try.func20, Try.ntmps20
      go_wp2_with fail
      refine wp_loop_rounds 1 ?_
      rw [rounds_succ]
      go_wp2_with fail
      go_end0
      exact HF.out
theorem spoil_all (g : G) : SpoilC g ∧ SpoilOK g := by
  induction g with
  | nil => exact ⟨spoil_c .nil trivial, trivial⟩
  | cons d kA kn kc ks r ihk ihr => exact ⟨spoil_c _ ⟨ihk.1, ihr.2⟩, ihk.1, ihr.2⟩
end Go.Proofs.Ytnihjkcniddepaa
