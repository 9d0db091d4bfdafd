/- What is proved: the contract of tree's Names. Conditions: few nodes. -/
import Derived.Test.YtnihjkcniddepaaIterD
import Derived.Test.YtnihjkcniddepaaOnce
import Derived.Maps.OwnIn
import Derived.Maps.AppendAt
namespace Go.Proofs.Ytnihjkcniddepaa
open Go.RowKit Go.Shelf
attribute [local go_sem] Oper.semAt_some
abbrev ST : TypeId := 41
abbrev CT : TypeId := 9
abbrev MT : TypeId := 60
abbrev ET : TypeId := 61
theorem run_field_is (b : Bool) (W : World) : (Instr.field ET (.agg #[.bool b]) 0).run Try.prog W = .ok (.bool b) W := rfl
def plainB (q : Int) : Bool := (q != 27) && ((q != 34) && (q != 35))
def nmStep (acc : List ByteArray) (d : Own) : List ByteArray := if plainB d.kind && (!(d.nm.toList == []) && !(acc.any fun s => s.toList == d.nm.toList)) then acc ++ [d.nm] else acc
def nmsL (l : List Own) (acc : List ByteArray) : List ByteArray := l.foldl nmStep acc
theorem nmsL_snoc (l : List Own) (d : Own) (acc : List ByteArray) : nmsL (l ++ [d]) acc = nmStep (nmsL l acc) d := by simp [nmsL]
theorem nmsL_len (l : List Own) : ∀ acc, (nmsL l acc).length ≤ acc.length + l.length := by
  induction l with
  | nil => intro acc; simp [nmsL]
  | cons d l ih =>
    intro acc
    have h1 := ih (nmStep acc d)
    have h2 : (nmStep acc d).length ≤ acc.length + 1 := by unfold nmStep; split <;> simp
    unfold nmsL at h1 ⊢
    simp only [List.foldl_cons, List.length_cons]
    omega
def isV : Value := .agg #[.bool true]
def keysM (l : List ByteArray) : List (ByteArray × Value) := l.map fun s => (s, isV)
theorem bytes_eq_list {s t : ByteArray} : (s.toList == t.toList) = (t == s) := by
  cases h : (t == s) with
  | true => have := (MapKept.bytes_beq t s).1 h; subst this; simp
  | false =>
    cases h2 : (s.toList == t.toList) with
    | false => rfl
    | true =>
      have h3 : s = t := by
        have := beq_iff_eq.1 h2
        rw [ByteArray.toList_eq, ByteArray.toList_eq] at this
        cases s; cases t; simp at this; simpa using this
      subst h3
      rw [(MapKept.bytes_beq s s).2 rfl] at h; cases h
theorem look_keys (k : ByteArray) (l : List ByteArray) : lookS k (keysM l) = if l.any (fun s => s.toList == k.toList) then some isV else none := by
  induction l with
  | nil => rfl
  | cons s l ih =>
    simp only [keysM, List.map_cons, lookS, List.any_cons, bytes_eq_list] at ih ⊢
    cases h : (k == s) with
    | true => simp
    | false => simpa using ih
theorem put_keys (k : ByteArray) (l : List ByteArray) (h : l.any (fun s => s.toList == k.toList) = false) : putS k isV (keysM l) = keysM (l ++ [k]) := by
  induction l with
  | nil => rfl
  | cons s l ih =>
    simp only [List.any_cons, Bool.or_eq_false_iff, bytes_eq_list] at h ih
    simp only [keysM, List.map_cons, putS, List.cons_append, h.1]
    have := ih h.2
    simpa [keysM] using this
structure NI (N0 : World) (s : Nat) (acc : List ByteArray) (W : World) : Prop where
  chg : Chg NoB N0 W
  out : ∃ v, Blk W (s + 1) ST #[v] ∧ W.ownsRow (s + 5) CT 1 v acc.length (acc.map Value.string)
  map : MapIs W (s + 1 + 1) (strs (keysM acc))
  box : Blk W (s + 1 + 1 + 1) MT #[.map (some (s + 1 + 1))]
theorem own_at {W : World} {base : Nat} {e : TypeId} {size n : Nat} {v : Value} {xs : List Value} (h : W.ownsRow base e size v n xs) {k : Nat} (hk : v.ownBlock = some k) : base ≤ k ∧ ∃ cur, W.heap[k]? = some (.cells cur e (0, 0)) := by
  rcases h.2 with ⟨rfl, _⟩ | ⟨g, cap, cur, rfl, hb, hh, _⟩
  · simp [Value.ownBlock] at hk
  · have : g = k := by simpa [Value.ownBlock] using hk
    subst this
    exact ⟨hb, cur, hh⟩
theorem NI.grown {N0 A B : World} {s : Nat} {acc : List ByteArray} {row : Option Nat} {b : Nat} (h : NI N0 s acc A) (hb : s + 5 ≤ b) (hg : A.grownBy B row) (hw : N0.heap.size ≤ b) (hr : ∀ r, row = some r → b ≤ r ∧ ∃ o : Obj, A.heap[r]? = some o ∧ o.isCells = false) : NI N0 s acc B := by
  obtain ⟨v, h1, h2⟩ := h.out
  refine ⟨h.chg.grown hg fun k e hk => by have := (hr k e).1; omega, ⟨v, h1.grown hg fun e => by have := (hr _ e.symm).1; omega, ?_⟩, h.map.of_block (hg.block _ h.map.lt fun e => by have := (hr _ e.symm).1; omega), h.box.grown hg fun e => by have := (hr _ e.symm).1; omega⟩
  refine own_chg (F := fun q => row = some q) h2 ((Chg.refl _ A).grown hg fun k e _ => e) fun k hk e => ?_
  obtain ⟨_, cur, hc⟩ := own_at h2 hk
  obtain ⟨_, o, ho, hcc⟩ := hr k e
  rw [hc] at ho
  cases ho; cases hcc
theorem NI.alloc {N0 A : World} {s : Nat} {acc : List ByteArray} {o : Obj} (h : NI N0 s acc A) : NI N0 s acc (A.alloc o) := by
  obtain ⟨v, h1, h2⟩ := h.out
  exact ⟨h.chg.alloc _, ⟨v, h1.alloc _, own_chg (F := NoB) h2 ((Chg.refl _ _).alloc _) fun _ _ => id⟩, h.map.alloc _, h.box.alloc _⟩
def NX (s : Nat) : Nat → Prop := fun b => b = s + 1
theorem NI.add {N0 W w1 : World} {s : Nat} {acc : List ByteArray} {nm : ByteArray} {v v' : Value} {o tmp : Obj} (h : NI N0 s acc W) (hv : Blk W (s + 1) ST #[v]) (hrow : W.ownsRow (s + 5) CT 1 v acc.length (acc.map Value.string))
    (hnew : acc.any (fun t => t.toList == nm.toList) = false) (hm : MapIs (setB W (s + 1 + 1) o) (s + 1 + 1) (strs (putS nm isV (keysM acc)))) (hN : N0.heap.size ≤ s + 1)
    (hown' : w1.ownsRow (s + 5) CT 1 v' (acc.length + 1) (acc.map Value.string ++ [.string nm])) (hgrow : ((setB W (s + 1 + 1) o).alloc tmp).grownBy w1 v.ownBlock) :
    KeepsFrom (s + 5) W (w1.setCell ⟨s + 1, 0, none⟩ v') ∧ KeepD (NX s) (s + 5) W (w1.setCell ⟨s + 1, 0, none⟩ v') ∧ NI N0 s (acc ++ [nm]) (w1.setCell ⟨s + 1, 0, none⟩ v') ∧ Blk w1 (s + 1) ST #[v] := by
  have hob := fun k => own_at hrow (k := k)
  have h1 : Chg (fun q => q = s + 1 ∨ q = s + 1 + 1 ∨ v.ownBlock = some q) W (setB W (s + 1 + 1) o) := setB_chg (Chg.refl _ W) (s + 1 + 1) (fun _ => .inr (.inl rfl)) o
  have h3 : Chg (fun q => q = s + 1 ∨ q = s + 1 + 1 ∨ v.ownBlock = some q) W w1 := (h1.alloc tmp).grown hgrow (fun k e _ => .inr (.inr e))
  have h4 := h3.setCell (p := ⟨s + 1, 0, none⟩) (fun _ => .inl rfl) v'
  have hlt : ∀ k, k < W.heap.size → k < ((setB W (s + 1 + 1) o).alloc tmp).heap.size := fun k hk => by have := (h1.alloc tmp).size; omega
  have hb1 : Blk w1 (s + 1) ST #[v] := by
    refine (hgrow.block _ (hlt _ hv.lt) fun e => by have := (hob _ e.symm).1; omega).trans ?_
    refine (Below.heap_alloc _ _ _ (by have := h1.size; have := hv.lt; omega)).trans ?_
    rw [setB_other _ _ _ _ (by omega)]
    exact hv
  refine ⟨⟨h4.size, fun k u hk hu hc => (h4.block k (Array.getElem?_eq_some_iff.1 hu).1 ?_).trans hu⟩, ⟨h4.size, fun k u hX hs hu hc => (h4.block k (Array.getElem?_eq_some_iff.1 hu).1 ?_).trans hu⟩, ⟨h.chg.step h4 ?_, ⟨v', hb1.set_ 0 v', ?_⟩, ?_, h.box.chg h4 ?_⟩, hb1⟩
  · rintro (e | e | e)
    · omega
    · omega
    · obtain ⟨_, cur, hcu⟩ := hob k e
      rw [hu] at hcu; cases hcu; cases hc
  · rintro (e | e | e)
    · exact hX e
    · obtain ⟨es, cl, hmm, _⟩ := h.map
      rw [e, hmm] at hu; cases hu; cases hc
    · obtain ⟨hb, cur, hcu⟩ := hob k e
      rw [hu] at hcu; cases hcu
      rcases hs with hs | hs
      · omega
      · simp [strO] at hs
  · rintro i hi (e | e | e)
    · omega
    · omega
    · have := (hob _ e).1; omega
  · rw [List.length_append, List.map_append]
    refine own_chg (F := fun q => q = s + 1) hown' ((Chg.refl (fun q => q = s + 1) w1).setCell (p := ⟨s + 1, 0, none⟩) (fun _ => rfl) v') fun k hk e => ?_
    subst e
    have := (own_at hown' hk).1
    omega
  · rw [← put_keys nm acc hnew]
    refine hm.of_block ?_
    rw [Below.heap_setCell _ _ _ _ (by simp), hgrow.block _ (hlt _ h.map.lt) fun e => by have := (hob _ e.symm).1; omega]
    exact Below.heap_alloc _ _ _ hm.lt
  · rintro (e | e | e)
    · omega
    · omega
    · have := (hob _ e).1; omega
section
variable (d : Own) (ks : F) (A : Option Addr) (n c : Nat) (w : World)
theorem str_info : (Try.prog.info? CT).map (fun i => (i.zero, i.size, i.bytes)) = some (some (.string ⟨#[]⟩), 1, 16) := by kernel_rfl
set_option maxRecDepth 100000 in
set_option maxHeartbeats 4000000 in
theorem names_c (w0 : World) (hN : IsN w0 d ks A n c) (hw : Chg NoB w0 w) (hsz : ks.size ≤ 400) :
    Calls Try.prog 23 #[nodeV d A n c] w fun e w' => ∃ v, e = .returned v ∧ w'.ownsRow w.heap.size CT 1 v (nmsL ((visN w0 d ks A n c).map (·.d)) []).length ((nmsL ((visN w0 d ks A n c).map (·.d)) []).map Value.string) ∧ Chg NoB w w' := by
  have hmm := @run_makeMap Try.prog
  have HN0 := Go.Lib.hid hN
  have Hw := Go.Lib.hid hw
  clear hN hw
  refine (callsIn_wide (n := 9)).1 (callsIn_of_wp_marks Try.func23 rfl trivial (wpIn_wide.2 ?_) rfl)
  simp only [Try.ntmps23, List.size_toArray, List.length_cons, List.length_nil, Nat.reduceAdd, Nat.reduceSub, Array.replicate_succ, Array.replicate_zero, List.push_toArray, List.append_toArray, List.nil_append, List.cons_append]
  go_wp2_with fail
  refine (Walk_c d A n c _).mono ?_
  rintro e w4 ⟨rfl, rfl⟩
  clear hmm
  go_wp2_with fail
  have hNI : NI (w.alloc (.cells #[.int .i64 d.kind, .string d.nm, .int .u32 d.val, .bool d.mark, .slice A n c] NT)) w.heap.size [] (((((w.alloc (.cells #[.int .i64 d.kind, .string d.nm, .int .u32 d.val, .bool d.mark, .slice A n c] NT)).alloc (.cells #[.slice none 0 0] ST)).alloc (.map #[] 0)).alloc (.cells #[.map (some (w.heap.size + 1 + 1))] MT)).alloc (.cells #[.int .i64 d.kind, .string d.nm, .int .u32 d.val, .bool d.mark, .slice A n c] NT)) := by
    refine ⟨(((Chg.refl _ _).alloc _).alloc _).alloc _ |>.alloc _, ⟨.slice none 0 0, ((Blk.at_ _ _ _ _ (by simp)).alloc _ |>.alloc _).alloc _, ?_⟩, ?_, (Blk.at_ _ _ _ _ (by simp)).alloc _⟩
    · exact ⟨rfl, .inl ⟨rfl, rfl⟩⟩
    · have := MapIs.new ((w.alloc (.cells #[.int .i64 d.kind, .string d.nm, .int .u32 d.val, .bool d.mark, .slice A n c] NT)).alloc (.cells #[.slice none 0 0] ST))
      rw [show ((w.alloc (.cells #[.int .i64 d.kind, .string d.nm, .int .u32 d.val, .bool d.mark, .slice A n c] NT)).alloc (.cells #[.slice none 0 0] ST)).heap.size = w.heap.size + 1 + 1 by simp] at this
      exact (this.alloc _).alloc _
  have b4 : Blk (((((w.alloc (.cells #[.int .i64 d.kind, .string d.nm, .int .u32 d.val, .bool d.mark, .slice A n c] NT)).alloc (.cells #[.slice none 0 0] ST)).alloc (.map #[] 0)).alloc (.cells #[.map (some (w.heap.size + 1 + 1))] MT)).alloc (.cells #[.int .i64 d.kind, .string d.nm, .int .u32 d.val, .bool d.mark, .slice A n c] NT)) (w.heap.size + 1 + 1 + 1 + 1) NT #[.int .i64 d.kind, .string d.nm, .int .u32 d.val, .bool d.mark, .slice A n c] := Blk.at_ _ _ _ _ (by simp)
  have hsW : (((((w.alloc (.cells #[.int .i64 d.kind, .string d.nm, .int .u32 d.val, .bool d.mark, .slice A n c] NT)).alloc (.cells #[.slice none 0 0] ST)).alloc (.map #[] 0)).alloc (.cells #[.map (some (w.heap.size + 1 + 1))] MT)).alloc (.cells #[.int .i64 d.kind, .string d.nm, .int .u32 d.val, .bool d.mark, .slice A n c] NT)).heap.size = w.heap.size + 5 := by simp
  have hcW : Chg NoB w (((((w.alloc (.cells #[.int .i64 d.kind, .string d.nm, .int .u32 d.val, .bool d.mark, .slice A n c] NT)).alloc (.cells #[.slice none 0 0] ST)).alloc (.map #[] 0)).alloc (.cells #[.map (some (w.heap.size + 1 + 1))] MT)).alloc (.cells #[.int .i64 d.kind, .string d.nm, .int .u32 d.val, .bool d.mark, .slice A n c] NT)) := ((((Chg.refl _ _).alloc _).alloc _).alloc _).alloc _ |>.alloc _
  obtain ⟨WL, hWL⟩ : ∃ W', (((((w.alloc (.cells #[.int .i64 d.kind, .string d.nm, .int .u32 d.val, .bool d.mark, .slice A n c] NT)).alloc (.cells #[.slice none 0 0] ST)).alloc (.map #[] 0)).alloc (.cells #[.map (some (w.heap.size + 1 + 1))] MT)).alloc (.cells #[.int .i64 d.kind, .string d.nm, .int .u32 d.val, .bool d.mark, .slice A n c] NT)) = W' := ⟨_, rfl⟩
  rw [hWL] at hNI b4 hsW hcW ⊢
  clear hWL
  have hKL : KeepD (NX w.heap.size) (w.heap.size + 5) w0 WL := KeepD.of_chg (Hw.out.trans hcW)
  have hw0s := Hw.out.size
  obtain ⟨vl, hvl⟩ : ∃ vl, vl = visN w0 d ks A n c := ⟨_, rfl⟩
  have hlen : vl.length = 1 + ks.size := by rw [hvl, visN_len]
  have Hvl := Go.Lib.hid hvl
  clear hvl hcW
  refine (wpIn_wide (n := 9)).1 (wpIn_rangeFunc_ownH (n := 9) rfl (by omega) (gf := 48) (lb := #[.pointer (some ⟨w.heap.size + 1 + 1 + 1 + 1, 0, none⟩)]) (encs := fun x => encV (vget vl x)) rfl trivial (enters_of Try.func48 (by kernel_rfl) rfl)
    (walk_stopsD (NX w.heap.size) (w.heap.size + 5) w0 WL d ks A n c (w.heap.size + 1 + 1 + 1 + 1) (9 - 1) vl Hvl.out HN0.out hKL (fun b hb => by have : b = w.heap.size + 1 := hb; omega) (fun b hb => by have : b = w.heap.size + 1 := hb; omega) b4 (by omega) (by omega))
    (fun h k => h.trans k) (fun W l o o' _ ho hc _ => KeepD.put o' ho hc) (Below.refl _ _) (fun _ => rfl)
    (fun pre W => NI (w.alloc (.cells #[.int .i64 d.kind, .string d.nm, .int .u32 d.val, .bool d.mark, .slice A n c] NT)) w.heap.size (nmsL (pre.map fun x => (vget vl x).d) []) W)
    (fun _ _ _ => False)
    (fun pre A B row hs hg hr => hs.grown (b := WL.heap.size) (by omega) hg (by simp; omega) hr)
    (fun _ _ _ _ _ hs _ _ => hs)
    hNI
    (fun x a' W => ∃ Bx, w.heap.size + 4 ≤ Bx ∧ Blk W Bx NT #[.int .i64 (vget vl x).d.kind, .string (vget vl x).d.nm, .int .u32 (vget vl x).d.val, .bool (vget vl x).d.mark, .slice (vget vl x).A (vget vl x).n (vget vl x).c] ∧ a' = { tmps := #[nodeV d A n c, .pointer (some ⟨w.heap.size, 0, none⟩), .slice none 0 0, .pointer (some ⟨w.heap.size + 1, 0, none⟩), .pointer (some ⟨w.heap.size + 1 + 1 + 1, 0, none⟩), undef, .pointer (some ⟨Bx, 0, none⟩), undef, .map (some (w.heap.size + 1 + 1)), .agg #[.int .i64 d.kind, .string d.nm, .int .u32 d.val, .bool d.mark, .slice A n c], .func (.func 48) #[] #[.pointer (some ⟨w.heap.size + 1 + 1 + 1 + 1, 0, none⟩)], .int .i64 (vget vl x).e, .agg #[.int .i64 (vget vl x).d.kind, .string (vget vl x).d.nm, .int .u32 (vget vl x).d.val, .bool (vget vl x).d.mark, .slice (vget vl x).A (vget vl x).n (vget vl x).c], undef, undef, undef, undef, undef, undef, undef, undef, undef, undef, undef, undef, undef, undef, undef, undef, undef, undef, undef, undef, undef, undef, undef, undef, undef, undef, undef, undef, undef, undef, undef, undef, undef, undef, undef, undef, undef], defers := [] })
    (fun x a' _ A B row hs hg hr => by
      obtain ⟨Bx, h1, h2, h3⟩ := hs
      refine ⟨Bx, h1, h2.grown hg (fun e => ?_), h3⟩
      obtain ⟨_, o, ho, hc⟩ := hr Bx e.symm
      rw [show A.heap[Bx]? = _ from h2] at ho
      cases ho; cases hc)
    ?assign ?body ?done ?stop)
  case assign =>
    rintro l pre x W K hI hK
    gi_wp2
    exact hK _ _ ((KeepsOthers.alloc _ _).from _) (KeepD.of_chg ((Chg.refl _ _).alloc _)) hI.alloc ⟨W.heap.size, by have := hI.box.lt; omega, Blk.new _ _ _, rfl⟩
  case body =>
    rintro l pre x a' W _ _ hI ⟨Bx, hBx, hbx, rfl⟩ hlt
    have HX : Hid (∀ W', NI (w.alloc (.cells #[.int .i64 d.kind, .string d.nm, .int .u32 d.val, .bool d.mark, .slice A n c] NT)) w.heap.size (nmStep (nmsL (pre.map fun x => (vget vl x).d) []) (vget vl x).d) W' → NI (w.alloc (.cells #[.int .i64 d.kind, .string d.nm, .int .u32 d.val, .bool d.mark, .slice A n c] NT)) w.heap.size (nmsL ((pre ++ [x]).map fun x => (vget vl x).d) []) W') := Go.Lib.hid (fun W' h => by
      rw [List.map_append, List.map_cons, List.map_nil, nmsL_snoc]; exact h)
    have hal : (nmsL (pre.map fun x => (vget vl x).d) []).length ≤ 401 := by
      have := nmsL_len (pre.map fun x => (vget vl x).d) []
      simp at this
      omega
    generalize vget vl x = v at *
    generalize nmsL (pre.map fun x => (vget vl x).d) [] = acc at *
    obtain ⟨x0, x1, x2, x3, x4⟩ := blk5 hbx (Chg.refl _ _)
    have HI := Go.Lib.hid hI
    have hcls : (v.d.kind != 27) = false ∨ ((v.d.kind != 27) = true ∧ (v.d.kind != 34) = false) ∨ ((v.d.kind != 27) = true ∧ (v.d.kind != 34) = true ∧ (v.d.kind != 35) = false) ∨ ((v.d.kind != 27) = true ∧ (v.d.kind != 34) = true ∧ (v.d.kind != 35) = true) := by
      cases (v.d.kind != 27) <;> cases (v.d.kind != 34) <;> cases (v.d.kind != 35) <;> simp
    have HS0 : Hid (nmStep acc v.d = acc → NI (w.alloc (.cells #[.int .i64 d.kind, .string d.nm, .int .u32 d.val, .bool d.mark, .slice A n c] NT)) w.heap.size (nmStep acc v.d) W) := Go.Lib.hid (fun h => by rw [h]; exact hI)
    obtain ⟨vo, ho1, ho2⟩ := hI.out
    have y1 := ho1.cell 0
    have y2 := hI.box.cell 0
    simp only [List.getElem?_toArray, List.getElem?_cons_zero] at y1 y2
    rcases hcls with k1 | ⟨k1, k2⟩ | ⟨k1, k2, k3⟩ | ⟨k1, k2, k3⟩
    · have hst := Go.Lib.hid (HX.out W (HS0.out (by unfold nmStep plainB; rw [k1]; simp)))
      clear hI ho1 ho2 hbx
      gi_wp2
      exact ⟨KeepsFrom.refl _ _, KeepD.refl _ _ _, hst.out⟩
    · have hst := Go.Lib.hid (HX.out W (HS0.out (by unfold nmStep plainB; rw [k1, k2]; simp)))
      clear hI ho1 ho2 hbx
      gi_wp2
      exact ⟨KeepsFrom.refl _ _, KeepD.refl _ _ _, hst.out⟩
    · have hst := Go.Lib.hid (HX.out W (HS0.out (by unfold nmStep plainB; rw [k1, k2, k3]; simp)))
      clear hI ho1 ho2 hbx
      gi_wp2
      exact ⟨KeepsFrom.refl _ _, KeepD.refl _ _ _, hst.out⟩
    · cases hne : (v.d.nm.toList == []) with
      | true =>
        have hst := Go.Lib.hid (HX.out W (HS0.out (by unfold nmStep plainB; rw [hne]; simp)))
        clear hI ho1 ho2 hbx
        gi_wp2
        exact ⟨KeepsFrom.refl _ _, KeepD.refl _ _ _, hst.out⟩
      | false =>
        have hlu := run_lookup_str (P := Try.prog) (t := MT) (k := CT) (e := ET) Try.underlying60 Try.underlying9 (Try.zeroValue61 W) hI.map v.d.nm
        rw [look_keys] at hlu
        cases hs : acc.any (fun s => s.toList == v.d.nm.toList) with
        | true =>
          rw [hs] at hlu
          have hlk : (Instr.lookup MT (.map (some (w.heap.size + 1 + 1))) (.string v.d.nm) false).run Try.prog W = .ok (.agg #[.bool true]) W := hlu
          have hst := Go.Lib.hid (HX.out W (HS0.out (by unfold nmStep plainB; rw [hs]; simp)))
          clear hI ho1 ho2 hbx hlu
          have hfd := run_field_is
          gi_wp2
          exact ⟨KeepsFrom.refl _ _, KeepD.refl _ _ _, hst.out⟩
        | false =>
          rw [hs] at hlu
          have hlk : (Instr.lookup MT (.map (some (w.heap.size + 1 + 1))) (.string v.d.nm) false).run Try.prog W = .ok (.agg #[.bool false]) W := hlu
          obtain ⟨o, hup0, hm2⟩ := run_update_str (P := Try.prog) (t := MT) (k := CT) (e := ET) Try.underlying60 Try.underlying9 hI.map v.d.nm isV
          have hup : (Instr.mapUpdate MT (.map (some (w.heap.size + 1 + 1))) (.string v.d.nm) (.agg #[.bool true])).run Try.prog W = .ok () (setB W (w.heap.size + 1 + 1) o) := hup0
          have hbx2 : Blk (setB W (w.heap.size + 1 + 1) o) Bx NT #[.int .i64 v.d.kind, .string v.d.nm, .int .u32 v.d.val, .bool v.d.mark, .slice v.A v.n v.c] := (setB_other _ _ _ _ (by omega)).trans hbx
          have ho12 : Blk (setB W (w.heap.size + 1 + 1) o) (w.heap.size + 1) ST #[vo] := (setB_other _ _ _ _ (by omega)).trans ho1
          obtain ⟨z0, z1, z2, z3, z4⟩ := blk5 hbx2 (Chg.refl _ _)
          have zo := ho12.cell 0
          simp only [List.getElem?_toArray, List.getElem?_cons_zero] at zo
          have hsz5 : w.heap.size + 5 ≤ (setB W (w.heap.size + 1 + 1) o).heap.size := by have := hbx2.lt; omega
          have HR : Hid (∀ tmp, ((setB W (w.heap.size + 1 + 1) o).alloc tmp).ownsRow (w.heap.size + 5) CT 1 vo acc.length (acc.map Value.string)) := Go.Lib.hid (fun tmp =>
            own_chg (F := fun q => q = w.heap.size + 1 + 1) ho2 ((setB_chg (Chg.refl (fun q => q = w.heap.size + 1 + 1) W) (w.heap.size + 1 + 1) (fun _ => rfl) o).alloc tmp) fun k hk e => by have := (own_at ho2 hk).1; omega)
          have HA : Hid (∀ (tmp : Obj) (v' : Value) (w1 : World), w1.ownsRow (w.heap.size + 5) CT 1 v' (acc.length + 1) (acc.map Value.string ++ [.string v.d.nm]) → ((setB W (w.heap.size + 1 + 1) o).alloc tmp).grownBy w1 vo.ownBlock → _) := Go.Lib.hid (fun tmp v' w1 h1 h2 => hI.add ho1 ho2 hs hm2 (by simp) h1 h2)
          have hns : nmStep acc v.d = acc ++ [v.d.nm] := by unfold nmStep plainB; rw [k1, k2, k3, hne, hs]; rfl
          rw [hns] at HX
          obtain ⟨i0, hi, hz0, hz1, hz2⟩ := info_parts str_info
          have Hi := Go.Lib.hid hi
          have Hz0 := Go.Lib.hid hz0
          have Hz1 := Go.Lib.hid hz1
          have Hz2 := Go.Lib.hid hz2
          clear hI ho1 ho2 hbx hlu hup0 hm2 hbx2 ho12 hns hi hz0 hz1 hz2 hs HS0
          have hfd := run_field_is
          gi_wp2_with (gi_at_builtin; refine wpListIn_append_own _ rfl _ _ ST rfl (w.heap.size + 5) CT i0 (.string ⟨#[]⟩) 1 16 Try.underlying41 Hi.out Hz0.out Hz1.out Hz2.out rfl (by decide) _ _ _ rfl (HR.out _) ⟨(setB W (w.heap.size + 1 + 1) o).heap.size, 0, none⟩ 1 1 [.string v.d.nm] rfl rfl (cell_one_new _ _ _) (by simp [Value.oneCell']) (by unfold maxLen; omega) (by omega) (by simp; omega) ?_; intro v' w1 hown' hgrow _; obtain ⟨h1, h2, h3, h4⟩ := HA.out _ _ _ hown' hgrow; have q1 := h4.cell 0; have q2 := h4.frozen 0; have HH1 := Go.Lib.hid h1; have HH2 := Go.Lib.hid h2; have HH3 := Go.Lib.hid h3; obtain ⟨g', cap', rfl⟩ := ownsRow_succ hown'; simp only [List.getElem?_toArray, List.getElem?_cons_zero] at q1; clear h1 h2 h3 h4 hown' hgrow)
          exact ⟨by rw [hsW]; exact HH1.out, HH2.out, HX.out _ HH3.out⟩
  case done =>
    rintro D ys W hD rfl hI hK
    have e1 : (List.finRange vl.length).map (fun x => (vget vl x).d) = vl.map (·.d) := by have := congrArg (List.map (fun v : Vis => v.d)) (map_fin vl); rw [List.map_map] at this; exact this
    have hI2 : NI (w.alloc (.cells #[.int .i64 d.kind, .string d.nm, .int .u32 d.val, .bool d.mark, .slice A n c] NT)) w.heap.size (nmsL (vl.map (·.d)) []) W := by have := hI; rw [e1] at this; exact this
    rw [Hvl.out] at hI2
    obtain ⟨vo, ho1, ho2⟩ := hI2.out
    have y1 := ho1.cell 0
    simp only [List.getElem?_toArray, List.getElem?_cons_zero] at y1
    have HI2 := Go.Lib.hid hI2
    have HO := Go.Lib.hid ho2
    have HK := Go.Lib.hid hK
    clear hI hI2 ho1 ho2 hK e1
    go_wp2_with fail
    refine ⟨by simp, .inl ⟨_, _, rfl, run_takeDeferred HK.out, ?_⟩⟩
    exact ⟨_, results_tmp rfl _ _ _, vo, rfl, ownsRow_putObj (own_base HO.out (by omega)) _ HK.out rfl, (((Chg.refl NoB w).alloc _).trans HI2.out.chg).grown (grownBy_putObj' _ D _) (fun k e hk => by cases e; omega)⟩
  case stop =>
    rintro D c pre W _ _ h _
    exact h.elim
end
end Go.Proofs.Ytnihjkcniddepaa

