/- What is proved: the contract of the reference's Flat: all nodes, each ahead of those below it, and their depths. Conditions: as many nodes as an int counts. -/
import Derived.Test.YtnihjkcniddepaaSame
namespace Go.Proofs.Ytnihjkcniddepaa
open Go.RowKit
namespace F
def flat : F → F
  | .nil => .nil
  | .cons d ks r => .cons d ks (ks.flat.app r.flat)
def depths : F → Int → List Int
  | .nil, _ => []
  | .cons _ ks r, e => e :: (ks.depths (e + 1) ++ r.depths e)
theorem app_nil (f : F) : f.app .nil = f := by
  induction f with
  | nil => rfl
  | cons d ks r _ ih => simp [app, ih]
theorem app_assoc (f g h : F) : (f.app g).app h = f.app (g.app h) := by
  induction f with
  | nil => rfl
  | cons d ks r _ ih => simp [app, ih]
theorem flat_app (f g : F) : (f.app g).flat = f.flat.app g.flat := by
  induction f with
  | nil => rfl
  | cons d ks r _ ih => simp [app, flat, ih, app_assoc]
theorem depths_app (f g : F) (e : Int) : (f.app g).depths e = f.depths e ++ g.depths e := by
  induction f with
  | nil => rfl
  | cons d ks r _ ih => simp [app, depths, ih]
theorem flat_len (f : F) : f.flat.len = f.size := by
  have hl : ∀ f g : F, (f.app g).len = f.len + g.len := fun f g => by
    induction f with
    | nil => simp [app, len]
    | cons d ks r _ ih => simp [app, len, ih]; omega
  induction f with
  | nil => rfl
  | cons d ks r h1 h2 => simp [flat, len, size, hl, h1, h2]; omega
end F
/-- cells that are a row of nodes -/
def CellsL (w : World) : List Value → F → Prop
  | cs, .nil => cs = []
  | cs, .cons d ks r => ∃ A n c cs', cs = nodeL d A n c ++ cs' ∧ IsN w d ks A n c ∧ CellsL w cs' r
theorem CellsL.app {w : World} : ∀ {f g : F} {cs ds : List Value}, CellsL w cs f → CellsL w ds g → CellsL w (cs ++ ds) (f.app g) := by
  intro f
  induction f with
  | nil => intro g cs ds h h'; have : cs = [] := h; subst this; exact h'
  | cons d ks r _ ih =>
    rintro g cs ds ⟨A, n, c, cs', rfl, hn, hr⟩ h'
    exact ⟨A, n, c, cs' ++ ds, by simp, hn, ih hr h'⟩
theorem CellsL.chg {w w' : World} (hc : Chg NoB w w') : ∀ {f : F} {cs : List Value}, CellsL w cs f → CellsL w' cs f := by
  intro f
  induction f with
  | nil => intro cs h; exact h
  | cons d ks r _ ih =>
    rintro cs ⟨A, n, c, cs', rfl, hn, hr⟩
    exact ⟨A, n, c, cs', rfl, hn.chg hc, ih hr⟩
theorem CellsL.one {w : World} : ∀ {f : F} {cs : List Value}, CellsL w cs f → ∀ u ∈ cs, u.oneCell' = true := by
  intro f
  induction f with
  | nil => intro cs h; have : cs = [] := h; subst this; simp
  | cons d ks r _ ih =>
    rintro cs ⟨A, n, c, cs', rfl, hn, hr⟩ u hu
    rcases List.mem_append.1 hu with hu | hu
    · exact nodeL_one _ _ _ _ u hu
    · exact ih hr u hu
theorem CellsL.isL {w : World} : ∀ {f : F} {cs : List Value} {b o : Nat}, CellsL w cs f → (∀ j u, cs[j]? = some u → w.cell? ⟨b, o + j, none⟩ = some u) → IsL w (some ⟨b, o, none⟩) f.len f := by
  intro f
  induction f with
  | nil => intro cs b o h _; rfl
  | cons d ks r _ ih =>
    rintro cs b o ⟨A, n, c, cs', rfl, hn, hr⟩ hc
    refine ⟨b, o, A, n, c, r.len, rfl, rfl, hn.ok, hn.le, hn.most, hc 0 _ rfl, hc 1 _ rfl, hc 2 _ rfl, hc 3 _ rfl, hc 4 _ rfl, hn.kids, ih hr fun j u hu => ?_⟩
    have := hc (5 + j) u (by rw [Nat.add_comm 5 j]; simpa [nodeL] using hu)
    rwa [← Nat.add_assoc] at this
theorem CellsL.len {w : World} : ∀ {f : F} {cs : List Value}, CellsL w cs f → cs.length = f.len * 5 := by
  intro f
  induction f with
  | nil => intro cs h; have : cs = [] := h; subst this; rfl
  | cons d ks r _ ih =>
    rintro cs ⟨A, n, c, cs', rfl, hn, hr⟩
    simp [nodeL, ih hr, F.len]; omega
def ints (l : List Int) : List Value := l.map (.int .i64)
/-- what Flat comes to -/
structure FlatIs (w0 : World) (d : Own) (ks : F) (e : Int) (W w' : World) (A1 A2 : Option Addr) (c1 c2 : Nat) : Prop where
  chg : Chg NoB W w'
  cells : ∃ cs, CellsL w0 cs (F.flat (.cons d ks .nil)) ∧ w'.ownsRow W.heap.size 28 5 (.slice A1 (1 + ks.size) c1) (1 + ks.size) cs
  deps : w'.ownsRow W.heap.size 3 1 (.slice A2 (1 + ks.size) c2) (1 + ks.size) (ints (F.depths (.cons d ks .nil) e))
def FlatPost (w0 : World) (d : Own) (ks : F) (dep : Int) (W : World) (e : Ending) (w' : World) : Prop := ∃ A1 A2 c1 c2, e = .returned (.tuple #[.slice A1 (1 + ks.size) c1, .slice A2 (1 + ks.size) c2]) ∧ FlatIs w0 d ks dep W w' A1 A2 c1 c2
def FlatC (d : Own) (ks : F) : Prop :=
  ∀ (kA : Option Addr) (kn kc : Nat) (w0 W : World) (e : Int), IsN w0 d ks kA kn kc → Chg NoB w0 W → (0 ≤ e ∧ e + ks.size ≤ 1000000000) → Calls Try.prog 18 #[nodeV d kA kn kc, .int .i64 e] W (FlatPost w0 d ks e W)
theorem int_info : (Try.prog.info? 3).map (fun i => (i.zero, i.size, i.bytes)) = some (some (.int .i64 0), 1, 8) := by kernel_rfl
/-- the head of a round -/
structure FInv (w0 w : World) (d : Own) (ks : F) (e : Int) (kA : Option Addr) (kn kc : Nat) (wr : World) (k : Nat) (A1 A2 : Option Addr) (n c1 c2 : Nat) : Prop where
  chg : Chg NoB (w.alloc (.cells #[.int .i64 d.kind, .string d.nm, .int .u32 d.val, .bool d.mark, .slice kA kn kc] 28)) wr
  num : n = 1 + (ks.take k).size
  cells : ∃ cs, CellsL w0 cs (.cons d ks (ks.take k).flat) ∧ wr.ownsRow (w.heap.size + 1) 28 5 (.slice A1 n c1) n cs
  deps : wr.ownsRow (w.heap.size + 1) 3 1 (.slice A2 n c2) n (ints (e :: (ks.take k).depths (e + 1)))
section
variable {w0 w wr : World} {d : Own} {ks : F} {e : Int} {kA : Option Addr} {kn kc k n c1 c2 : Nat} {A1 A2 : Option Addr}
theorem own_new (W : World) (base : Nat) (t : TypeId) (size : Nat) (cs : Array Value) (hs : cs.size = 1 * size) (hb : base ≤ W.heap.size) (g : Nat) (hg : W.heap.size = g) : (W.alloc (.cells cs t)).ownsRow base t size (.slice (some ⟨g, 0, none⟩) 1 1) 1 cs.toList := by
  subst hg
  refine ⟨by simp [hs], .inr ⟨W.heap.size, 1, cs, rfl, hb, heap_alloc_new W _, Nat.le_refl _, by unfold maxLen; omega, hs, ?_⟩⟩
  rw [List.take_of_length_le]
  simp [hs]
theorem FInv.start (hN : IsN w0 d ks kA kn kc) : FInv w0 w d ks e kA kn kc (((w.alloc (.cells #[.int .i64 d.kind, .string d.nm, .int .u32 d.val, .bool d.mark, .slice kA kn kc] 28)).alloc (.cells #[.int .i64 d.kind, .string d.nm, .int .u32 d.val, .bool d.mark, .slice kA kn kc] 28)).alloc (.cells #[.int .i64 e] 3)) 0 (some ⟨w.heap.size + 1, 0, none⟩) (some ⟨w.heap.size + 1 + 1, 0, none⟩) 1 1 1 := by
  have e0 : ks.take 0 = .nil := by cases ks <;> rfl
  refine ⟨((Chg.refl _ _).alloc _).alloc _, by rw [e0]; rfl, ⟨nodeL d kA kn kc, ?_, ?_⟩, ?_⟩
  · rw [e0]; exact ⟨kA, kn, kc, [], by simp, hN, rfl⟩
  · exact own_chg (own_new _ _ _ 5 _ rfl (by simp) _ (by simp)) ((Chg.refl NoB _).alloc _) (fun _ _ => id)
  · rw [e0]
    exact own_new _ _ _ 1 #[.int .i64 e] rfl (by simp) _ (by simp)
theorem FInv.chg_ {W : World} (h : FInv w0 w d ks e kA kn kc wr k A1 A2 n c1 c2) (hc : Chg NoB wr W) : FInv w0 w d ks e kA kn kc W k A1 A2 n c1 c2 := by
  obtain ⟨cs, h1, h2⟩ := h.cells
  exact ⟨h.chg.trans hc, h.num, ⟨cs, h1, own_chg h2 hc (fun _ _ => id)⟩, own_chg h.deps hc (fun _ _ => id)⟩
theorem grown_chg {W W' : World} {base : Nat} {t : TypeId} {size n c : Nat} {A : Option Addr} {xs : List Value} (h : W.ownsRow base t size (.slice A n c) n xs) (hg : W.grownBy W' (Value.slice A n c).ownBlock) {b0 : World} (hb : b0.heap.size ≤ base) (hc : Chg NoB b0 W) : Chg NoB b0 W' :=
  hc.grown hg fun q hq hlt => by
    rcases h.2 with ⟨hv, _⟩ | ⟨g', _, _, hv, hb', _⟩
    · rw [hv] at hq; simp [Value.ownBlock] at hq
    · rw [hv] at hq
      have : g' = q := by simpa [Value.ownBlock] using hq
      omega
theorem own_apart {W W' : World} {base base' : Nat} {t t' : TypeId} {size size' n n' c : Nat} {A : Option Addr} {v : Value} {xs xs' : List Value} (h : W.ownsRow base t size (.slice A n c) n xs) (h' : W.ownsRow base' t' size' v n' xs') (hne : t ≠ t') (hg : W.grownBy W' (Value.slice A n c).ownBlock) : W'.ownsRow base' t' size' v n' xs' :=
  own_chg (F := fun q => (Value.slice A n c).ownBlock = some q) h' ((Chg.refl _ W).grown hg fun q hq _ => hq) fun q hq he => by
    rcases h'.2 with ⟨rfl, _⟩ | ⟨g, cap, cur, rfl, _, hh, _⟩
    · simp [Value.ownBlock] at hq
    · have : g = q := by simpa [Value.ownBlock] using hq
      subst this
      exact own_blk_ne (g := g) (t := t') h hh hne he
theorem FInv.next {w1 w2 w3 : World} {d1 : Own} {k1 r : F} {ms : List Value} {p1 p2 m1 m2 : Nat} {cs : List Value} {A1' A2' : Option Addr} {q1 q2 : Option Addr}
    (h : FInv w0 w d ks e kA kn kc wr k A1 A2 n c1 c2) (hd : ks.drop k = .cons d1 k1 r) (hf : FlatIs w0 d1 k1 (e + 1) wr w1 q1 q2 m1 m2)
    (hcs : CellsL w0 cs (.cons d ks (ks.take k).flat)) (o1 : w1.ownsRow (w.heap.size + 1) 28 5 (.slice A1 n c1) n cs) (hms : CellsL w0 ms (F.flat (.cons d1 k1 .nil)))
    (o1' : w2.ownsRow (w.heap.size + 1) 28 5 (.slice A1' (n + (1 + k1.size)) p1) (n + (1 + k1.size)) (cs ++ ms)) (g1 : w1.grownBy w2 (Value.slice A1 n c1).ownBlock)
    (o2 : w2.ownsRow (w.heap.size + 1) 3 1 (.slice A2 n c2) n (ints (e :: (ks.take k).depths (e + 1))))
    (o2' : w3.ownsRow (w.heap.size + 1) 3 1 (.slice A2' (n + (1 + k1.size)) p2) (n + (1 + k1.size)) (ints (e :: (ks.take k).depths (e + 1)) ++ ints (F.depths (.cons d1 k1 .nil) (e + 1)))) (g2 : w2.grownBy w3 (Value.slice A2 n c2).ownBlock) :
    FInv w0 w d ks e kA kn kc w3 (k + 1) A1' A2' (n + (1 + k1.size)) p1 p2 := by
  have hb : (w.alloc (.cells #[.int .i64 d.kind, .string d.nm, .int .u32 d.val, .bool d.mark, .slice kA kn kc] 28)).heap.size ≤ w.heap.size + 1 := by simp
  have c1' := grown_chg o1 g1 hb (h.chg.trans hf.chg)
  have c2' := grown_chg o2 g2 hb c1'
  have hN1 : Chg NoB (w.alloc (.cells #[.int .i64 d.kind, .string d.nm, .int .u32 d.val, .bool d.mark, .slice kA kn kc] 28)) w3 := c2'
  have ht := F.take_app ks k hd
  have hN : n + (1 + k1.size) = 1 + (ks.take (k + 1)).size := by have := h.num; have := (F.take_size ks k hd).1; omega
  refine ⟨c2', hN, ⟨cs ++ ms, ?_, own_apart o2 o1' (by decide) g2⟩, ?_⟩
  · have hx : CellsL w0 (cs ++ ms) ((F.cons d ks (ks.take k).flat).app (F.flat (.cons d1 k1 .nil))) := hcs.app hms
    have e2 : (F.cons d ks (ks.take k).flat).app (F.flat (.cons d1 k1 .nil)) = .cons d ks (ks.take (k + 1)).flat := by rw [ht, F.flat_app]; rfl
    rw [e2] at hx
    exact hx
  · rw [ht, F.depths_app]
    have : ints (e :: ((ks.take k).depths (e + 1) ++ F.depths (.cons d1 k1 .nil) (e + 1))) = ints (e :: (ks.take k).depths (e + 1)) ++ ints (F.depths (.cons d1 k1 .nil) (e + 1)) := by simp [ints]
    rw [this]
    exact o2'
theorem own_base {W : World} {base base' : Nat} {t : TypeId} {size n : Nat} {v : Value} {xs : List Value} (h : W.ownsRow base t size v n xs) (hb : base' ≤ base) : W.ownsRow base' t size v n xs := by
  refine ⟨h.1, ?_⟩
  rcases h.2 with h0 | ⟨g, cap, cur, hv, hbb, r⟩
  · exact .inl h0
  · exact .inr ⟨g, cap, cur, hv, by omega, r⟩
theorem own_slice1 {W : World} {base : Nat} {t : TypeId} {size n c : Nat} {A : Option Addr} {xs : List Value} (h : W.ownsRow base t size (.slice A n c) n xs) (hn : 0 < n) : ∃ g, A = some ⟨g, 0, none⟩ := by
  obtain ⟨g, cap, hv, _⟩ := h.form hn
  injection hv with hA
  exact ⟨g, hA⟩
end
set_option maxHeartbeats 1000000 in
theorem flat_c (d : Own) (ks : F) (hks : ks.All FlatC) : FlatC d ks := by
  intro kA kn kc w0 w e hN hw0 hsz
  have hle := hN.le
  have hmo := hN.most
  unfold maxLen at hmo
  obtain ⟨h0, hsz⟩ := hsz
  have HN := Go.Lib.hid hN
  have HW := Go.Lib.hid hw0
  clear hw0
  have Hks := Go.Lib.hid hks
  have Hlen := Go.Lib.hid hN.kids.len
  have Hsz := Go.Lib.hid hsz
  clear hN hks
  obtain ⟨i0, hi, hz0, hz1, hz2⟩ := info_parts node_info
  obtain ⟨j0, hj, hy0, hy1, hy2⟩ := info_parts int_info
  have Hi := Go.Lib.hid hi
  have Hz0 := Go.Lib.hid hz0
  have Hz1 := Go.Lib.hid hz1
  have Hz2 := Go.Lib.hid hz2
  have Hj := Go.Lib.hid hj
  have Hy0 := Go.Lib.hid hy0
  have Hy1 := Go.Lib.hid hy1
  have Hy2 := Go.Lib.hid hy2
  have Hu := Go.Lib.hid Try.underlying26
  have Hv := Go.Lib.hid Try.underlying34
  clear hi hz0 hz1 hz2 hj hy0 hy1 hy2
  unfold nodeV
  go_enter Try.func18, Try.ntmps18
  go_wp2_with fail
  go_loopw [6, 7, 8] (fun v1 v2 i W => ∃ (k : Nat) (A1 A2 : Option Addr) (n c1 c2 : Nat), k ≤ kn ∧ i = .int .i64 k ∧ v1 = .slice A1 n c1 ∧ v2 = .slice A2 n c2 ∧ FInv w0 w d ks e kA kn kc W k A1 A2 n c1 c2) (fun _ _ i _ => kn - (intOf i).toNat)
  case atStart => exact ⟨0, _, _, 1, 1, 1, Nat.zero_le _, rfl, rfl, rfl, FInv.start HN.out⟩
  case round =>
    obtain ⟨k, A1, A2, n, c1, c2, hk, rfl, rfl, rfl, hinv⟩ := hrel
    have H := Go.Lib.hid hinv
    obtain ⟨hb0, hb1, hb2, hb3, hb4⟩ := box5 hinv.chg
    clear hinv hb0 hb1 hb2 hb3
    by_cases hlt : k < kn
    · have hl := HN.out.kids
      have hcw := HW.out.trans (((Chg.refl NoB w).alloc _).trans H.out.chg)
      obtain ⟨b, o, d1, k1, r, kA1, kn1, kc1, rfl, hd, ok, h1, h2, g0, g1, g2, g3, g4, hk1⟩ := hl.at_ hlt
      replace g0 := hcw.cell g0 id
      replace g1 := hcw.cell g1 id
      replace g2 := hcw.cell g2 id
      replace g3 := hcw.cell g3 id
      replace g4 := hcw.cell g4 id
      have hs1 := (F.take_size ks k hd).1
      have hs2 := (F.take_size_le ks (k + 1)).1
      have hsz' := Hsz.out
      have hnum := H.out.num
      have hb1 : e + 1 + k1.size ≤ 1000000000 := by omega
      have hb2 : n + (1 + k1.size) ≤ 1000000001 := by omega
      have Hc := Go.Lib.hid (F.All.at_ Hks.out (F.at_drop ks k hd) kA1 kn1 kc1 w0 wr (e + 1) ⟨ok, h1, h2, hk1⟩ hcw (by omega))
      have HB2 := Go.Lib.hid hb2
      have HD := Go.Lib.hid hd
      have HNum : Hid (n + (1 + k1.size) = 1 + (ks.take (k + 1)).size) := Go.Lib.hid (by omega)
      have hi1 : (0 : Int) ≤ k := by omega
      have hw1 : IntKind.i64.wrap (e + 1) = e + 1 := IntWalk.i64_in _ (by omega)
      clear hl hd ok h1 h2 hk1 hs1 hs2 hsz' hnum hb2 hcw
      go_wp2_with fail
      refine Hc.out.mono ?_
      rintro e1 w1 ⟨B1, B2, m1, m2, rfl, hf⟩
      obtain ⟨ms, hms, om⟩ := hf.cells
      have od := hf.deps
      obtain ⟨q1, rfl⟩ := own_slice1 om (by omega)
      obtain ⟨q2, rfl⟩ := own_slice1 od (by omega)
      obtain ⟨cs, hcs, o1⟩ := (H.out.chg_ hf.chg).cells
      have o2 := (H.out.chg_ hf.chg).deps
      have hbase : w.heap.size + 1 ≤ w1.heap.size := by have := (H.out.chg.trans hf.chg).size; simpa using this
      have hln : (ints (F.depths (.cons d1 k1 .nil) (e + 1))).length = 1 + k1.size := by have := od.1; omega
      have HF := Go.Lib.hid hf
      have HMS := Go.Lib.hid hms
      have OM := Go.Lib.hid om
      have OD := Go.Lib.hid od
      have HCS := Go.Lib.hid hcs
      have O1 := Go.Lib.hid o1
      have O2 := Go.Lib.hid o2
      have HLN := Go.Lib.hid hln
      have HBS := Go.Lib.hid hbase
      clear hf hms om od hcs o1 o2 hln hbase
      go_wp2_with (first
        | (at_builtin; refine wpList_append_own_at _ rfl (.tmp 33) (.tmp 34) _ rfl (w.heap.size + 1) 28 i0 _ 5 56 Hu.out Hi.out Hz0.out Hz1.out Hz2.out rfl (by omega) (.slice A1 n c1) n cs rfl O1.out ⟨q1, 0, none⟩ (1 + k1.size) m1 ms rfl ?_ ?_ ?_ ?_ ?_ ?_ ?_
           · have := OM.out.1; omega
           · exact OM.out.cells rfl
           · exact HMS.out.one
           · have := HB2.out; unfold maxLen; omega
           · have := HB2.out; omega
           · exact HBS.out
           intro v1 w2 hown1 hg1 _ hat1)
        | (at_builtin; refine wpList_append_own_at _ rfl (.tmp 36) (.tmp 37) _ rfl (w.heap.size + 1) 3 j0 _ 1 8 Hv.out Hj.out Hy0.out Hy1.out Hy2.out rfl (by omega) (.slice A2 n c2) n _ rfl (own_apart O1.out O2.out (by decide) hg1) ⟨q2, 0, none⟩ (1 + k1.size) m2 (ints (F.depths (.cons d1 k1 .nil) (e + 1))) rfl ?_ ?_ ?_ ?_ ?_ ?_ ?_
           · have := HLN.out; omega
           · exact (own_apart O1.out OD.out (by decide) hg1).cells rfl
           · intro u hu; obtain ⟨z, _, rfl⟩ := List.mem_map.1 hu; rfl
           · have := HB2.out; unfold maxLen; omega
           · have := HB2.out; omega
           · have := HBS.out; have := hg1.size; omega
           intro v2 w3 hown2 hg2 _ hat2))
      obtain ⟨s1, p1, hv1, _⟩ := hown1.form (by omega)
      obtain ⟨s2, p2, hv2, _⟩ := hown2.form (by omega)
      have hn1 := hown1
      rw [hv1] at hn1
      have hn2 := hown2
      rw [hv2] at hn2
      have HFin := Go.Lib.hid (FInv.next H.out HD.out HF.out HCS.out O1.out HMS.out hn1 hg1 (own_apart O1.out O2.out (by decide) hg1) hn2 hg2)
      go_roundw
      case rel => exact ⟨k + 1, _, _, _, p1, p2, by omega, by go_num, hv1, hv2, HFin.out⟩
      case measure => simp [intOf]; omega
    · obtain rfl : k = kn := by omega
      have hnum := H.out.num
      have hall : ks.take k = ks := by rw [show k = ks.len from Hlen.out, F.take_len]
      rw [hall] at hnum
      have HF : Hid (FlatPost w0 d ks e w (.returned (.tuple #[.slice A1 n c1, .slice A2 n c2])) wr) := Go.Lib.hid (by
        subst hnum
        obtain ⟨cs, hcs, o1⟩ := H.out.cells
        have o2 := H.out.deps
        rw [hall] at hcs o2
        have hx : CellsL w0 cs (F.flat (.cons d ks .nil)) := by
          simpa [F.flat, F.app_nil] using hcs
        refine ⟨A1, A2, c1, c2, rfl, ((Chg.refl NoB w).alloc _).trans H.out.chg, ⟨cs, hx, ?_⟩, ?_⟩
        · exact own_base o1 (by omega)
        · have := own_base o2 (show w.heap.size ≤ w.heap.size + 1 by omega)
          simpa [F.depths] using this)
      clear hnum hall
      go_wp2_with fail
      go_ret2
      exact HF.out
theorem Flat_c (d : Own) (ks : F) : FlatC d ks := (F.each flat_c (.cons d ks .nil)).1
end Go.Proofs.Ytnihjkcniddepaa
