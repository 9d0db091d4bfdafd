/- What is proved: the contract of tree's Copy: the same tree in memory of its own. Conditions: as many nodes as an int counts. -/
import Derived.Test.YtnihjkcniddepaaGrove
import Derived.Test.YtnihjkcniddepaaOpen
import Derived.Deep.RegionHeld3
import Derived.Deep.AppendLies
namespace Go.Proofs.Ytnihjkcniddepaa
open Go.RowKit
abbrev NT : TypeId := 28
def boxL (d : Own) (A : Option Addr) (n c : Nat) : Array Value := #[.int .i64 d.kind, .string d.nm, .int .u32 d.val, .bool d.mark, .slice A n c]
def zeroL : Array Value := #[.int .i64 0, .string ⟨#[]⟩, .int .u32 0, .bool false, .slice none 0 0]
/-- what a copy is -/
structure CopyIs (ks : F) (W w' : World) (A : Option Addr) (c : Nat) (g : G) : Prop where
  chg : Chg NoB W w'
  le : ks.len ≤ c
  most : c ≤ maxLen
  sub : SubG w' NT g
  row : 0 < ks.len → RowAt w' NT A g
  er : g.erase = ks
  nd : (rowOf A ks.len ++ g.rows).Nodup
  new : ∀ b ∈ rowOf A ks.len ++ g.rows, W.heap.size ≤ b ∧ b < w'.heap.size
def CopyPost (d : Own) (ks : F) (W : World) (e : Ending) (w' : World) : Prop := ∃ A c g, e = .returned (nodeV d A ks.len c) ∧ CopyIs ks W w' A c g
def CopyC (d : Own) (ks : F) : Prop :=
  ∀ (kA : Option Addr) (kn kc : Nat) (W : World), IsN W d ks kA kn kc → ks.size ≤ 1000000000 → Calls Try.prog 19 #[nodeV d kA kn kc] W (CopyPost d ks W)
/-- the head of a round: k nodes are copied -/
structure CInv (w : World) (d : Own) (ks : F) (wr : World) (k : Nat) (A : Option Addr) (c : Nat) (g : G) : Prop where
  chg : Chg NoB w wr
  size : w.heap.size + 2 ≤ wr.heap.size
  box : Blk wr w.heap.size NT (boxL d A k c)
  res : Blk wr (w.heap.size + 1) NT zeroL
  own : wr.ownsRow (w.heap.size + 2) NT 5 (.slice A k c) k g.cells
  sub : SubG wr NT g
  er : g.erase = ks.take k
  nd : (rowOf A k ++ g.rows).Nodup
  new : ∀ b ∈ rowOf A k ++ g.rows, w.heap.size + 2 ≤ b ∧ b < wr.heap.size
section
variable {w wr w' : World} {d : Own} {ks : F} {k c : Nat} {A : Option Addr} {g : G}
theorem SubG.chg {T : TypeId} (h : SubG wr T g) (hn : ∀ b ∈ g.rows, b < wr.heap.size) (hc : Chg NoB wr w') : SubG w' T g := h.keep fun b hb => hc.block b (hn b hb) id
theorem CInv.chg_ (h : CInv w d ks wr k A c g) (hc : Chg NoB wr w') : CInv w d ks w' k A c g :=
  ⟨h.chg.trans hc, Nat.le_trans h.size hc.size, h.box.chg hc id, h.res.chg hc id, own_chg h.own hc (fun _ _ => id), h.sub.chg (fun b hb => (h.new b (List.mem_append.2 (.inr hb))).2) hc, h.er, h.nd,
    fun b hb => ⟨(h.new b hb).1, Nat.lt_of_lt_of_le (h.new b hb).2 hc.size⟩⟩
theorem SubG.of_chg {ks1 : F} {W w1 : World} {A1 : Option Addr} {c1 : Nat} {g1 : G} (h : CopyIs ks1 W w1 A1 c1 g1) {d1 : Own} (hd : OwnOk d1) : SubG w1 NT (.cons d1 A1 ks1.len c1 g1 .nil) :=
  ⟨hd, h.le, h.most, by rw [← h.er, G.len_erase], h.row, h.sub, trivial⟩
/-- a round: one node more -/
theorem CInv.next {W w1 w2 : World} {d1 : Own} {k1 r : F} {A1 : Option Addr} {c1 : Nat} {g1 : G} {b cap : Nat} {cs : Array Value} {T : TypeId}
    (h : CInv w d ks W k A c g) (h1 : CopyIs k1 W w1 A1 c1 g1) (hd1 : OwnOk d1) (hd : ks.drop k = .cons d1 k1 r)
    (hown : w2.ownsRow (w.heap.size + 2) NT 5 (.slice (some ⟨b, 0, none⟩) (k + 1) cap) (k + 1) (g.cells ++ nodeL d1 A1 k1.len c1))
    (hgrow : (w1.alloc (.cells cs T)).grownBy w2 (Value.slice A k c).ownBlock) (hat : (Value.slice A k c).ownBlock = some b ∨ b = w1.heap.size + 1) (hlt : b < w2.heap.size) :
    CInv w d ks (w2.setCell ⟨w.heap.size, 4, none⟩ (.slice (some ⟨b, 0, none⟩) (k + 1) cap)) (k + 1) (some ⟨b, 0, none⟩) cap (g.app (.cons d1 A1 k1.len c1 g1 .nil)) := by
  have hI := (h.chg_ h1.chg).chg_ ((Chg.refl NoB w1).alloc (.cells cs T))
  have hs1 := h1.chg.size
  have hs2 : w1.heap.size + 1 ≤ w2.heap.size := by have := hgrow.size; simpa using this
  -- the row's own block
  have hvb : ∀ q, (Value.slice A k c).ownBlock = some q → w.heap.size + 2 ≤ q ∧ q < W.heap.size ∧ (0 < k → rowOf A k = [q]) := by
    intro q hq
    rcases h.own.2 with ⟨hv, _⟩ | ⟨g', cap', cur, hv, hb', hh, _⟩
    · rw [hv] at hq; simp [Value.ownBlock] at hq
    · rw [hv] at hq
      have : g' = q := by simpa [Value.ownBlock] using hq
      subst this
      refine ⟨hb', (Array.getElem?_eq_some_iff.1 hh).1, fun hk => ?_⟩
      injection hv with hA
      subst hA
      unfold rowOf
      rw [if_neg (by omega)]; rfl
  have hold : ∀ q ∈ g.rows, w.heap.size + 2 ≤ q ∧ q < W.heap.size := fun q hq => h.new q (List.mem_append.2 (.inr hq))
  have hnv : ∀ q ∈ g.rows, (Value.slice A k c).ownBlock ≠ some q := by
    intro q hq he
    obtain ⟨_, _, h3⟩ := hvb q he
    rcases Nat.eq_zero_or_pos k with h0 | h0
    · have hl : g.len = 0 := by rw [← G.len_erase, h.er, h0]; cases ks <;> rfl
      cases g with
      | nil => cases hq
      | cons => simp [G.len] at hl
    · have := h.nd
      rw [h3 h0] at this
      simp only [List.singleton_append, List.nodup_cons] at this
      exact this.1 hq
  have hnew1 : ∀ q ∈ rowOf A1 k1.len ++ g1.rows, W.heap.size ≤ q ∧ q < w1.heap.size := h1.new
  have hbg : b ∉ g.rows := by
    intro hb
    rcases hat with e | e
    · exact hnv b hb e
    · have := hold b hb; omega
  have hbn : b ∉ rowOf A1 k1.len ++ g1.rows := by
    intro hb
    have := hnew1 b hb
    rcases hat with e | e
    · have := (hvb b e).2.1; omega
    · omega
  have hkeep : ∀ q, q < w1.heap.size → (Value.slice A k c).ownBlock ≠ some q → q ≠ w.heap.size → (w2.setCell ⟨w.heap.size, 4, none⟩ (.slice (some ⟨b, 0, none⟩) (k + 1) cap)).heap[q]? = w1.heap[q]? := by
    intro q hq hne hn0
    rw [Below.heap_setCell w2 ⟨w.heap.size, 4, none⟩ _ q (by simpa using hn0), hgrow.block q (by simp; omega) (fun e => hne e.symm)]
    exact Below.heap_alloc w1 _ q hq
  have hbase : w.heap.size + 2 ≤ b := by
    rcases hat with e | e
    · exact (hvb b e).1
    · have := h.size; omega
  have hwb : (Value.slice A k c).ownBlock ≠ some w.heap.size ∧ (Value.slice A k c).ownBlock ≠ some (w.heap.size + 1) := by
    constructor <;> (intro e; have := (hvb _ e).1; omega)
  refine ⟨?_, ?_, ?_, ?_, ?_, ?_, ?_, ?_, ?_⟩
  · refine (Chg.grown (h := (h.chg.trans h1.chg).alloc _) hgrow fun q hq hlt' => ?_).setCell (fun hlt' => ?_) _
    · have := (hvb q hq).1; omega
    · simp at hlt'
  · simp only [World.setCell]; have := h.size; simp; omega
  · have hb0 : Blk w2 w.heap.size NT (boxL d A k c) := hI.box.grown hgrow (fun e => hwb.1 e.symm)
    exact hb0.set_ 4 _
  · have hb1 : Blk w2 (w.heap.size + 1) NT zeroL := hI.res.grown hgrow (fun e => hwb.2 e.symm)
    exact hb1.far (p := ⟨w.heap.size, 4, none⟩) (by simp) _
  · rw [G.cells_app]
    have e : (G.cons d1 A1 k1.len c1 g1 .nil).cells = nodeL d1 A1 k1.len c1 := by simp [G.cells]
    rw [e]
    refine own_chg (F := fun q => q = w.heap.size) hown ((Chg.refl (fun q => q = w.heap.size) w2).setCell (p := ⟨w.heap.size, 4, none⟩) (fun _ => rfl) _) fun q hq he => ?_
    have : b = q := by simpa [Value.ownBlock] using hq
    omega
  · refine SubG.app ?_ ?_
    · refine (h.sub.chg (fun q hq => (hold q hq).2) h1.chg).keep fun q hq => ?_
      have := hold q hq
      exact hkeep q (by omega) (hnv q hq) (by omega)
    · refine (SubG.of_chg h1 hd1).keep fun q hq => ?_
      have hq' : q ∈ rowOf A1 k1.len ++ g1.rows := by simpa [G.rows] using hq
      have := hnew1 q hq'
      refine hkeep q this.2 (fun e => ?_) ?_
      · have := (hvb q e).2.1; omega
      · have := h.size; omega
  · rw [G.erase_app, h.er, F.take_app ks k hd]
    simp [G.erase, h1.er]
  · have e : rowOf (some (⟨b, 0, none⟩ : Addr)) (k + 1) = [b] := by unfold rowOf; simp
    rw [e, G.rows_app]
    have e2 : (G.cons d1 A1 k1.len c1 g1 .nil).rows = rowOf A1 k1.len ++ g1.rows := by simp [G.rows]
    rw [e2]
    simp only [List.singleton_append, List.nodup_cons]
    refine ⟨fun hm => ?_, ?_⟩
    · rcases List.mem_append.1 hm with hm | hm
      · exact hbg hm
      · exact hbn hm
    · rw [List.nodup_append]
      refine ⟨(List.nodup_append.1 h.nd).2.1, h1.nd, ?_⟩
      intro x hx y hy hxy
      have := hold x hx
      have := hnew1 y hy
      omega
  · intro q hq
    have e : rowOf (some (⟨b, 0, none⟩ : Addr)) (k + 1) = [b] := by unfold rowOf; simp
    have e2 : (G.cons d1 A1 k1.len c1 g1 .nil).rows = rowOf A1 k1.len ++ g1.rows := by simp [G.rows]
    rw [e, G.rows_app, e2] at hq
    have hsz : (w2.setCell ⟨w.heap.size, 4, none⟩ (.slice (some ⟨b, 0, none⟩) (k + 1) cap)).heap.size = w2.heap.size := by simp [World.setCell]
    rw [hsz]
    rcases List.mem_append.1 hq with hq | hq
    · have : q = b := by simpa using hq
      subst this
      exact ⟨hbase, hlt⟩
    · rcases List.mem_append.1 hq with hq | hq
      · have := hold q hq; omega
      · have := hnew1 q hq; have := h.size; omega
theorem CInv.start (w : World) (d : Own) (ks : F) : CInv w d ks ((w.alloc (.cells (boxL d none 0 0) NT)).alloc (.cells zeroL NT)) 0 none 0 .nil :=
  ⟨((Chg.refl _ _).alloc _).alloc _, by simp, (Blk.new _ _ _).alloc _, Blk.at_ _ _ _ _ (by simp), ⟨by simp [G.cells], .inl ⟨rfl, rfl⟩⟩, trivial, by cases ks <;> rfl, by simp [rowOf, G.rows], by simp [rowOf, G.rows]⟩
theorem nodeL_one (d : Own) (kA : Option Addr) (kn kc : Nat) : ∀ u ∈ nodeL d kA kn kc, u.oneCell' = true := by
  intro u hu
  simp only [nodeL, List.mem_cons, List.not_mem_nil, or_false] at hu
  rcases hu with rfl | rfl | rfl | rfl | rfl <;> rfl
theorem copy_keep {W1 W2 : World} {o : Obj} {a0 a1 a2 a3 a4 : Value} (h : CInv w d ks wr k A c g) (hEB : Chg NoB wr (wr.alloc (.cells #[a0, a1, a2, a3, a4] NT))) (hW : Chg NoB (wr.alloc (.cells #[a0, a1, a2, a3, a4] NT)) W1) (hg : (W1.alloc o).grownBy W2 (Value.slice A k c).ownBlock) :
    (W2.cell? ⟨w.heap.size, 4, none⟩ = some (.slice A k c) ∧ (W2.cell? ⟨wr.heap.size, 0, none⟩ = some a0 ∧ W2.cell? ⟨wr.heap.size, 1, none⟩ = some a1 ∧ W2.cell? ⟨wr.heap.size, 2, none⟩ = some a2 ∧ W2.cell? ⟨wr.heap.size, 3, none⟩ = some a3 ∧ W2.cell? ⟨wr.heap.size, 4, none⟩ = some a4)) ∧ W2.frozen? ⟨w.heap.size, 4, none⟩ = false := by
  have hv : ∀ q, (Value.slice A k c).ownBlock = some q → w.heap.size + 2 ≤ q ∧ q < wr.heap.size := by
    intro q hq
    rcases h.own.2 with ⟨hv, _⟩ | ⟨g', cap', cur, hv, hb', hh, _⟩
    · rw [hv] at hq; simp [Value.ownBlock] at hq
    · rw [hv] at hq
      have : g' = q := by simpa [Value.ownBlock] using hq
      subst this
      exact ⟨hb', (Array.getElem?_eq_some_iff.1 hh).1⟩
  have hb : Blk W2 w.heap.size NT (boxL d A k c) := (((h.box.chg hEB id).chg hW id).alloc o).grown hg (fun e => by have := (hv _ e.symm).1; omega)
  have hx : Blk W2 wr.heap.size NT #[a0, a1, a2, a3, a4] := (((Blk.new _ _ _).chg hW id).alloc o).grown hg (fun e => by have := (hv _ e.symm).2; omega)
  exact ⟨⟨hb.cell 4, hx.cell 0, hx.cell 1, hx.cell 2, hx.cell 3, hx.cell 4⟩, hb.frozen 4⟩
theorem set5 {g : Nat} {cs : Array Value} (hb : Blk wr g NT cs) (h5 : cs.size = 5) : Blk (((((wr.setCell ⟨g, 0, none⟩ (.int .i64 d.kind)).setCell ⟨g, 1, none⟩ (.string d.nm)).setCell ⟨g, 2, none⟩ (.int .u32 d.val)).setCell ⟨g, 3, none⟩ (.bool d.mark)).setCell ⟨g, 4, none⟩ (.slice A k c)) g NT (boxL d A k c) ∧ Chg (fun q => q = g) wr (((((wr.setCell ⟨g, 0, none⟩ (.int .i64 d.kind)).setCell ⟨g, 1, none⟩ (.string d.nm)).setCell ⟨g, 2, none⟩ (.int .u32 d.val)).setCell ⟨g, 3, none⟩ (.bool d.mark)).setCell ⟨g, 4, none⟩ (.slice A k c)) := by
  constructor
  · have := ((((hb.set_ 0 (.int .i64 d.kind)).set_ 1 (.string d.nm)).set_ 2 (.int .u32 d.val)).set_ 3 (.bool d.mark)).set_ 4 (.slice A k c)
    have e : (((((cs.setIfInBounds 0 (.int .i64 d.kind)).setIfInBounds 1 (.string d.nm)).setIfInBounds 2 (.int .u32 d.val)).setIfInBounds 3 (.bool d.mark)).setIfInBounds 4 (.slice A k c)) = boxL d A k c := by
      obtain ⟨l⟩ := cs
      obtain ⟨v0, v1, v2, v3, v4, rfl⟩ := five (l := l) (by simpa using h5)
      simp [boxL]
    rw [e] at this
    exact this
  · have hF : ∀ (W : World) (p : Addr) (u : Value), p.block = g → Chg (fun q => q = g) wr W → Chg (fun q => q = g) wr (W.setCell p u) := fun W p u hp h => Chg.setCell h (fun _ => hp) u
    have h1 := hF wr ⟨g, 0, none⟩ (.int .i64 d.kind) rfl (Chg.refl _ _)
    have h2 := hF _ ⟨g, 1, none⟩ (.string d.nm) rfl h1
    have h3 := hF _ ⟨g, 2, none⟩ (.int .u32 d.val) rfl h2
    have h4 := hF _ ⟨g, 3, none⟩ (.bool d.mark) rfl h3
    have h5 := hF _ ⟨g, 4, none⟩ (.slice A k c) rfl h4
    exact h5
theorem node_info : (Try.prog.info? NT).map (fun i => (i.zero, i.size, i.bytes)) = some (some (.agg zeroL), 5, 56) := by kernel_rfl
/-- the end of the walk -/
theorem CInv.fin {n : Nat} (h : CInv w d ks wr n A c g) (hn : n = ks.len) (hmost : c ≤ maxLen) (hle : n ≤ c) (hc : Chg (fun q => q = w.heap.size + 1) wr w') : CopyIs ks w w' A c g := by
  subst hn
  have hne : ∀ b ∈ rowOf A ks.len ++ g.rows, b ≠ w.heap.size + 1 := fun b hb => by have := (h.new b hb).1; omega
  have hk : ∀ b ∈ rowOf A ks.len ++ g.rows, w'.heap[b]? = wr.heap[b]? := fun b hb => hc.block b (h.new b hb).2 (hne b hb)
  refine ⟨h.chg.step hc (fun i hi hg => by omega), hle, hmost, h.sub.keep fun b hb => hk b (List.mem_append.2 (.inr hb)), fun hn => ?_, by rw [h.er, F.take_len], h.nd, fun b hb => ⟨by have := (h.new b hb).1; omega, Nat.lt_of_lt_of_le (h.new b hb).2 hc.size⟩⟩
  exact (RowAt.of_own h.own hn).keep hn fun b hb => hk b (List.mem_append.2 (.inl hb))
theorem CInv.caps (h : CInv w d ks wr k A c g) : k ≤ c ∧ c ≤ maxLen := by
  rcases h.own.2 with ⟨hv, h0⟩ | ⟨_, cap, cur, hv, _, _, h1, h2, _⟩
  · injection hv with _ h1 h2
    exact ⟨by omega, by omega⟩
  · injection hv with _ _ h3
    exact ⟨by omega, by omega⟩
set_option maxHeartbeats 1000000 in
theorem copy_c (d : Own) (ks : F) (hks : ks.All CopyC) : CopyC d ks := by
  intro kA kn kc w hN hsz
  have hle := hN.le
  have hmo := hN.most
  have hlen := hN.kids.len
  unfold maxLen at hmo
  have HN := Go.Lib.hid hN
  have Hks := Go.Lib.hid hks
  have Hlen := Go.Lib.hid hlen
  have Hsz := Go.Lib.hid hsz
  have HS0 := Go.Lib.hid (CInv.start w d ks)
  clear hN hks hlen
  obtain ⟨i0, hi, hz0, hz1, hz2⟩ := info_parts node_info
  have Hi := Go.Lib.hid hi
  have Hz0 := Go.Lib.hid hz0
  have Hz1 := Go.Lib.hid hz1
  have Hz2 := Go.Lib.hid hz2
  clear hi hz0 hz1 hz2
  unfold boxL zeroL NT at HS0
  unfold nodeV
  go_enter Try.func19, Try.ntmps19
  go_wp2_with fail
  go_loopw [11] (fun i W => ∃ (k : Nat) (A : Option Addr) (c : Nat) (g : G), k ≤ kn ∧ i = .int .i64 k ∧ CInv w d ks W k A c g) (fun i _ => kn - (intOf i).toNat)
  case atStart => exact ⟨0, none, 0, .nil, Nat.zero_le _, rfl, HS0.out⟩
  case round =>
    obtain ⟨k, A, c, g, hk, rfl, hinv⟩ := hrel
    have H := Go.Lib.hid hinv
    clear hinv
    by_cases hlt : k < kn
    · have hl := HN.out.kids.chg H.out.chg
      obtain ⟨b, o, d1, k1, r, kA1, kn1, kc1, rfl, hd, ok, h1, h2, c0, c1, c2, c3, c4, hk1⟩ := hl.at_ hlt
      have HD := Go.Lib.hid hd
      have Hok := Go.Lib.hid ok
      have hEB : Chg NoB wr (wr.alloc (.cells #[.int .i64 d1.kind, .string d1.nm, .int .u32 d1.val, .bool d1.mark, .slice kA1 kn1 kc1] 28)) := (Chg.refl _ _).alloc _
      have hs1 := (F.take_size ks k hd).1
      have hs2 := (F.take_size_le ks (k + 1)).1
      have hsz' := Hsz.out
      have hkl : k + 1 ≤ 1000000001 := by
        have := H.out.chg
        have h3 := F.len_take ks k (by have := Hlen.out; omega)
        have h4 : ∀ f : F, f.len ≤ f.size := fun f => by
          induction f with
          | nil => simp [F.len, F.size]
          | cons _ _ _ _ ih => simp only [F.len, F.size]; omega
        have := h4 ks
        have := Hlen.out
        omega
      have Hc : Hid (∀ W, Chg NoB (wr.alloc (.cells #[.int .i64 d1.kind, .string d1.nm, .int .u32 d1.val, .bool d1.mark, .slice kA1 kn1 kc1] 28)) W → Calls Try.prog 19 #[nodeV d1 kA1 kn1 kc1] W (CopyPost d1 k1 W)) := Go.Lib.hid fun W hW => F.All.at_ Hks.out (F.at_drop ks k hd) kA1 kn1 kc1 W ⟨ok, h1, h2, hk1.chg (hEB.trans hW)⟩ (by omega)
      have HS : Hid (∀ W, Chg NoB (wr.alloc (.cells #[.int .i64 d1.kind, .string d1.nm, .int .u32 d1.val, .bool d1.mark, .slice kA1 kn1 kc1] 28)) W → W.cell? ⟨w.heap.size, 4, none⟩ = some (.slice A k c) ∧ (W.cell? ⟨wr.heap.size, 0, none⟩ = some (.int .i64 d1.kind) ∧ W.cell? ⟨wr.heap.size, 1, none⟩ = some (.string d1.nm) ∧ W.cell? ⟨wr.heap.size, 2, none⟩ = some (.int .u32 d1.val) ∧ W.cell? ⟨wr.heap.size, 3, none⟩ = some (.bool d1.mark) ∧ W.cell? ⟨wr.heap.size, 4, none⟩ = some (.slice kA1 kn1 kc1))) := Go.Lib.hid fun W hW => ⟨(H.out.box.chg (hEB.trans hW) id).cell 4, box5 hW⟩
      have HG : Hid (∀ W1 W2 o, Chg NoB (wr.alloc (.cells #[.int .i64 d1.kind, .string d1.nm, .int .u32 d1.val, .bool d1.mark, .slice kA1 kn1 kc1] 28)) W1 → (W1.alloc o).grownBy W2 (Value.slice A k c).ownBlock → (W2.cell? ⟨w.heap.size, 4, none⟩ = some (.slice A k c) ∧ (W2.cell? ⟨wr.heap.size, 0, none⟩ = some (.int .i64 d1.kind) ∧ W2.cell? ⟨wr.heap.size, 1, none⟩ = some (.string d1.nm) ∧ W2.cell? ⟨wr.heap.size, 2, none⟩ = some (.int .u32 d1.val) ∧ W2.cell? ⟨wr.heap.size, 3, none⟩ = some (.bool d1.mark) ∧ W2.cell? ⟨wr.heap.size, 4, none⟩ = some (.slice kA1 kn1 kc1))) ∧ W2.frozen? ⟨w.heap.size, 4, none⟩ = false) := Go.Lib.hid fun W1 W2 o hW hg => copy_keep H.out hEB hW hg
      have Hkl := Go.Lib.hid hkl
      have HEB := Go.Lib.hid hEB
      clear hl hd ok h1 h2 hk1 hs1 hs2 hsz' hEB
      have hub := Try.underlying26
      have Hub := Go.Lib.hid hub
      clear hub
      unfold nodeV at Hc
      go_wp2_with fail
      have hp4 := (HS.out _ (Chg.refl _ _)).1
      set_option maxRecDepth 100000 in
      go_region_law (first
          | ((refine step_append_lies _ (by rfl) (.tmp 16) (.tmp 19) 26 (by rfl) (w.heap.size + 2) 28 i0 _ 5 56 Hub.out Hi.out Hz0.out Hz1.out Hz2.out (by rfl) (by omega) (.slice A k c) k g.cells (by rfl) ((H.out.chg_ ((HEB.out.drew.trans hc1.chg).alloc _)).own) ⟨w1.heap.size, 0, none⟩ 1 1 (nodeL d1 A1 k1.len c1) (by rfl) (by rfl) (World.news_of_block (heap_alloc_new w1 _)) (nodeL_one _ _ _ _) (by omega) (by unfold maxLen; have := Hkl.out; omega) (by have := Hkl.out; omega) (by have := H.out.size; have := hc1.chg.size; simp at *; omega) (w1.heap.size + 1) (by simp) ?_; intro bb cap w2 hown hgrow hat hlt2; have hG := HG.out _ _ _ (((Chg.refl _ _).drew).trans hc1.chg) hgrow; have hf4 := hG.2; have hc4 := hG.1.1))
          | (go_simp; go_at_call 19; (with_reducible refine (Hc.out _ ((Chg.refl _ _).drew)).mono ?_); rintro e w1 ⟨A1, c1, g1, rfl, hc1⟩; have hS := HS.out _ (((Chg.refl _ _).drew).trans hc1.chg); obtain ⟨hS4, e0, e1, e2, e3, e4⟩ := hS; have hSo := fun o => (HS.out _ ((((Chg.refl _ _).drew).trans hc1.chg).alloc o)).1))
      all_goals
        have Hn := Go.Lib.hid (CInv.next (H.out.chg_ HEB.out.drew) hc1 Hok.out HD.out hown hgrow hat hlt2)
        clear hc1 hown hgrow hat hlt2 hG hf4 hc4 hS4 e0 e1 e2 e3 e4 hSo hp4
        go_wp2_with fail
        go_roundw
        case rel => exact ⟨k + 1, _, cap, _, by omega, by go_num, Hn.out⟩
        case measure => simp [intOf]; omega
    · obtain rfl : k = kn := by omega
      obtain ⟨hkc, hcm⟩ := H.out.caps
      obtain ⟨b0, b1, b2, b3, b4⟩ := blk5 H.out.box (Chg.refl _ _)
      obtain ⟨r0, r1, r2, r3, r4⟩ := blk5 H.out.res (Chg.refl _ _)
      have f0 := H.out.res.frozen 0
      have f1 := H.out.res.frozen 1
      have f2 := H.out.res.frozen 2
      have f3 := H.out.res.frozen 3
      have f4 := H.out.res.frozen 4
      go_wp2_with fail
      obtain ⟨hB, hC⟩ := set5 (d := d) (A := A) (k := k) (c := c) (cs := zeroL) H.out.res rfl
      generalize (((((wr.setCell ⟨w.heap.size + 1, 0, none⟩ (.int .i64 d.kind)).setCell ⟨w.heap.size + 1, 1, none⟩ (.string d.nm)).setCell ⟨w.heap.size + 1, 2, none⟩ (.int .u32 d.val)).setCell ⟨w.heap.size + 1, 3, none⟩ (.bool d.mark)).setCell ⟨w.heap.size + 1, 4, none⟩ (.slice A k c)) = W5 at hB hC ⊢
      obtain ⟨s0, s1, s2, s3, s4⟩ := blk5 hB (Chg.refl _ _)
      refine bodyPost_ret (v := .agg #[.int .i64 d.kind, .string d.nm, .int .u32 d.val, .bool d.mark, .slice A k c]) ?_ rfl ⟨A, c, g, ?_, H.out.fin Hlen.out hcm hkc hC⟩
      · simp [results, Try.results19, go_sem, s0, s1, s2, s3, s4]
      · rw [← Hlen.out]
theorem Copy_c (d : Own) (ks : F) : CopyC d ks := (F.each copy_c (.cons d ks .nil)).1
end
end Go.Proofs.Ytnihjkcniddepaa
