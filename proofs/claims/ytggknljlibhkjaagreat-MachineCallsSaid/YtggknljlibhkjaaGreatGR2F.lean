import Derived.Test.YtggknljlibhkjaaGreatGR2E
import Derived.Test.YtggknljlibhkjaaGreatRmA
set_option linter.unusedSimpArgs false
set_option linter.unusedVariables false
namespace Go.Proofs.YtggknljlibhkjaaGreat
open Go Go.RowKit Go.Maps
theorem less_cons (a b : UInt8) (x y : List UInt8) : Op.bytesLess (a :: x) (b :: y) = true ↔ a.toNat < b.toNat ∨ (a.toNat = b.toNat ∧ Op.bytesLess x y = true) := by
 show (decide (a < b) || a == b && Op.bytesLess x y) = true ↔ _
 simp only [Bool.or_eq_true, Bool.and_eq_true, decide_eq_true_eq, beq_iff_eq, UInt8.lt_iff_toNat_lt, ← UInt8.toNat_inj]
theorem less_irrefl : ∀ x : List UInt8, Op.bytesLess x x = false
 | [] => rfl
 | a :: x => by
  have h := less_irrefl x
  rw [Bool.eq_false_iff]
  intro hc
  rcases (less_cons a a x x).1 hc with h1 | ⟨_, h1⟩
  ·omega
  ·rw [h] at h1; cases h1
theorem less_trans : ∀ x y z : List UInt8, Op.bytesLess x y = true → Op.bytesLess y z = true → Op.bytesLess x z = true
 | [], _, c :: z, _, _ => rfl
 | [], [], [], h, _ => h
 | [], b :: y, [], _, h => by cases h
 | a :: x, [], z, h, _ => by cases h
 | a :: x, b :: y, [], _, h => by cases h
 | a :: x, b :: y, c :: z, h1, h2 => by
  rw [less_cons] at h1 h2 ⊢
  rcases h1 with h1 | ⟨h1, h3⟩ <;> rcases h2 with h2 | ⟨h2, h4⟩
  ·exact .inl (by omega)
  ·exact .inl (by omega)
  ·exact .inl (by omega)
  ·exact .inr ⟨by omega, less_trans x y z h3 h4⟩
theorem less_total : ∀ x y : List UInt8, Op.bytesLess x y = false → Op.bytesLess y x = false → x = y
 | [], [], _, _ => rfl
 | [], _ :: _, h, _ => by cases h
 | _ :: _, [], _, h => by cases h
 | a :: x, b :: y, h1, h2 => by
  rw [Bool.eq_false_iff] at h1 h2
  rw [Ne, less_cons] at h1 h2
  have hab : a.toNat = b.toNat := by omega
  have hx := less_total x y (by rw [Bool.eq_false_iff]; intro e; exact h1 (.inr ⟨hab, e⟩)) (by rw [Bool.eq_false_iff]; intro e; exact h2 (.inr ⟨hab.symm, e⟩))
  rw [UInt8.toNat_inj.1 hab, hx]
theorem lessN_irrefl (a : ByteArray) : lessN a a = false := less_irrefl _
theorem lessN_trans {a b c : ByteArray} (h : lessN a b = true) (h2 : lessN b c = true) : lessN a c = true := less_trans _ _ _ h h2
theorem lessN_total {a b : ByteArray} (h : lessN a b = false) (h2 : lessN b a = false) : a = b := toList_ne (less_total _ _ h h2)
def Rise (l : List (ByteArray × Nat)) : Prop := l.Pairwise fun e e' => lessN e.1 e'.1 = true
theorem pos_of {nm : ByteArray} {g : Nat} {l1 l2 : List (ByteArray × Nat)} (h : Rise (l1 ++ (nm, g) :: l2)) : posD nm (l1 ++ (nm, g) :: l2) = l1.length := by
 unfold posD
 have h1 : ∀ e ∈ l1, lessN e.1 nm = true := fun e he => (List.pairwise_append.1 h).2.2 e he (nm, g) (by simp)
 rw [List.takeWhile_append_of_pos (by simpa using h1), List.takeWhile_cons, lessN_irrefl]
 simp
theorem part {nm : ByteArray} {l : List (ByteArray × Nat)} (h : Rise l) :
  (∃ g l1 l2, l = l1 ++ (nm, g) :: l2 ∧ posD nm l = l1.length ∧ isD nm l = true ∧ lookD nm l = some g ∧ l[posD nm l]? = some (nm, g)) ∨
  (∃ l1 l2, l = l1 ++ l2 ∧ posD nm l = l1.length ∧ isD nm l = false ∧ lookD nm l = none ∧ (∀ e ∈ l1, lessN e.1 nm = true) ∧ (∀ e ∈ l2, lessN nm e.1 = true) ∧ ∀ e, l[posD nm l]? = some e → (e.1 == nm) = false) := by
 have hnd : (l.map (·.1)).Nodup := by
  unfold Rise at h
  rw [List.nodup_iff_pairwise_ne, List.pairwise_map]
  exact h.imp fun {a b} hab e => by rw [e, lessN_irrefl] at hab; cases hab
 by_cases hm : ∃ g, (nm, g) ∈ l
 ·obtain ⟨g, hg⟩ := hm
  left
  obtain ⟨l1, l2, rfl⟩ := List.append_of_mem hg
  have hp := pos_of h
  have hat : (l1 ++ (nm, g) :: l2)[posD nm (l1 ++ (nm, g) :: l2)]? = some (nm, g) := by rw [hp]; simp
  refine ⟨g, l1, l2, rfl, hp, ?_, lookD_of hnd hg, hat⟩
  unfold isD
  rw [hat]
  exact (MapKept.bytes_beq _ _).2 rfl
 ·right
  have hl1 : ∀ e ∈ l.take (posD nm l), lessN e.1 nm = true := by
   intro e he
   obtain ⟨i, hi⟩ := List.mem_iff_getElem?.1 he
   have hlt := (List.getElem?_eq_some_iff.1 hi).1
   have hlt2 : i < posD nm l := by simp at hlt; omega
   obtain ⟨e', he', hq⟩ := posD_lt nm l i hlt2
   rw [List.getElem?_take_of_lt hlt2, he'] at hi
   obtain rfl := Option.some.inj hi
   exact hq
  have hne : ∀ e ∈ l, e.1 ≠ nm := fun e he e2 => hm ⟨e.2, by rw [← e2]; exact he⟩
  have hl2 : ∀ e ∈ l.drop (posD nm l), lessN nm e.1 = true := by
   intro e he
   have hlt : posD nm l < l.length := by
    rcases Nat.lt_or_ge (posD nm l) l.length with h1 | h1
    ·exact h1
    ·rw [List.drop_eq_nil_of_le h1] at he; cases he
   have h0 : lessN nm l[posD nm l].1 = true := by
    have h1 := posD_at nm l _ (List.getElem?_eq_getElem hlt)
    rcases hb : lessN nm l[posD nm l].1 with _ | _
    ·exact absurd (lessN_total h1 hb) (hne _ (List.getElem_mem hlt))
    ·rfl
   rw [List.drop_eq_getElem_cons hlt] at he
   rcases List.mem_cons.1 he with rfl | he
   ·exact h0
   ·have hpw : (l.drop (posD nm l)).Pairwise fun e e' => lessN e.1 e'.1 = true := List.Pairwise.sublist (List.drop_sublist _ _) h
    rw [List.drop_eq_getElem_cons hlt] at hpw
    exact lessN_trans h0 ((List.pairwise_cons.1 hpw).1 e he)
  have hat : ∀ e, l[posD nm l]? = some e → (e.1 == nm) = false := fun e he => by
   rw [Bool.eq_false_iff]
   intro hb
   exact hne e (List.mem_of_getElem? he) ((MapKept.bytes_beq _ _).1 hb)
  refine ⟨l.take (posD nm l), l.drop (posD nm l), (List.take_append_drop _ _).symm, ?_, ?_, ?_, hl1, hl2, hat⟩
  ·have := posD_le nm l; simp; omega
  ·unfold isD
   rcases hq : l[posD nm l]? with _ | e
   ·rfl
   ·exact hat e hq
  ·rw [lookD_none]
   intro hmem
   obtain ⟨e, he, he2⟩ := List.mem_map.1 hmem
   exact hne e he he2
theorem look_perm {l m : List (ByteArray × Nat)} (hp : l.Perm m) (hn : (m.map (·.1)).Nodup) (nm : ByteArray) : lookD nm l = lookD nm m := by
 have hn2 : (l.map (·.1)).Nodup := (hp.map (·.1)).nodup_iff.2 hn
 rcases h : lookD nm m with _ | g
 ·rw [lookD_none] at h ⊢
  rwa [(hp.map (·.1)).mem_iff]
 ·exact lookD_of hn2 (hp.mem_iff.2 (lookD_mem h))
theorem putD_perm (nm : ByteArray) (g : Nat) : ∀ l : List (ByteArray × Nat), (putD nm g l).Perm ((nm, g) :: delD nm l)
 | [] => List.Perm.refl _
 | e :: r => by
  unfold putD delD
  split
  ·exact List.Perm.refl _
  ·exact ((putD_perm nm g r).cons e).trans (List.Perm.swap _ _ _)
structure RS (v U : V) : Prop where
 cap : U.cap = v.cap
 F : U.F = v.F
 rd : U.rd = v.rd
 dir : U.dir.Perm v.dir
 rise : Rise U.dir
structure VOk (v : V) : Prop where
 keys : (v.dir.map (·.1)).Nodup
 dn : ∀ e ∈ v.dir, mayName e.1 = true
 fits : v.used ≤ v.cap
 db : ∀ e ∈ v.dir, e.2 < v.F.length
 rb : ∀ q ∈ v.rd, q.n < v.F.length
section
variable {v U : V}
theorem RS.rdAt (h : RS v U) (f : Int) : U.rdAt f = v.rdAt f := by unfold V.rdAt; rw [h.rd]
theorem RS.bytes (h : RS v U) (n : Nat) : U.bytes n = v.bytes n := by unfold V.bytes; rw [h.F]
theorem RS.setPos (h : RS v U) (f : Int) (p : Nat) : RS (v.setPos f p) (U.setPos f p) := by
 unfold V.setPos
 split
 ·exact ⟨h.cap, h.F, congrArg (fun l => List.modify l (f.toNat - 1) (fun r => { r with pos := p })) h.rd, h.dir, h.rise⟩
 ·exact h
theorem RS.setFile (h : RS v U) (n : Nat) (b : List UInt8) : RS (v.setFile n b) (U.setFile n b) := ⟨h.cap, by simp only [V.setFile, h.F], h.rd, h.dir, h.rise⟩
theorem RS.addFile (h : RS v U) (b : List UInt8) : RS (v.addFile b) (U.addFile b) := ⟨h.cap, by simp only [V.addFile, h.F], h.rd, h.dir, h.rise⟩
theorem RS.ride (h : RS v U) (n : Nat) (nm : ByteArray) : RS (v.ride n nm) (U.ride n nm) := ⟨h.cap, h.F, by simp only [V.ride, h.rd], h.dir, h.rise⟩
theorem RS.len (h : RS v U) : U.dir.length = v.dir.length := h.dir.length_eq
theorem RS.look (h : RS v U) (hk : (v.dir.map (·.1)).Nodup) (nm : ByteArray) : lookD nm U.dir = lookD nm v.dir := look_perm h.dir hk nm
theorem RS.del (h : RS v U) (hk : (v.dir.map (·.1)).Nodup) (nm : ByteArray) : RS (v.del nm) (delR U nm) := by
 rcases part (nm := nm) h.rise with ⟨g, l1, l2, hd, hp, _, hl, hat⟩ | ⟨l1, l2, hd, hp, _, hl, _, _, hat⟩
 ·have e : delR U nm = { U with dir := l1 ++ l2 } := by
   unfold delR
   rw [hat]
   simp only
   rw [if_pos ((MapKept.bytes_beq _ _).2 rfl), hp, hd]
   simp
  rw [e]
  have hp1 : ((nm, g) :: (l1 ++ l2)).Perm ((nm, g) :: delD nm v.dir) := by
   have h1 : ((nm, g) :: (l1 ++ l2)).Perm U.dir := by rw [hd]; exact List.perm_middle.symm
   exact (h1.trans h.dir).trans (delD_perm (by rw [← h.look hk]; exact hl)).symm
  refine ⟨h.cap, h.F, h.rd, hp1.cons_inv, ?_⟩
  have := h.rise
  unfold Rise at this ⊢
  rw [hd] at this
  exact this.sublist ((List.sublist_cons_self _ _).append_left l1)
 ·have e : delR U nm = U := by
   unfold delR
   rcases hq : U.dir[posD nm U.dir]? with _ | e
   ·rfl
   ·simp only
    rw [if_neg (by rw [hat e hq]; simp)]
  rw [e]
  refine ⟨h.cap, h.F, h.rd, ?_, h.rise⟩
  show U.dir.Perm (delD nm v.dir)
  rw [delD_gone (by rw [← h.look hk]; exact hl)]
  exact h.dir
theorem RS.enter (h : RS v U) (hk : (v.dir.map (·.1)).Nodup) (nm : ByteArray) (n : Nat) (hd200 : lookD nm v.dir ≠ none ∨ v.dir.length < 200) : ∃ U', enterR U nm n = (0, U') ∧ RS (v.enter nm n) U' := by
 rcases part (nm := nm) h.rise with ⟨g, l1, l2, hd, hp, hi, hl, hat⟩ | ⟨l1, l2, hd, hp, hi, hl, ha, hb, hat⟩
 ·refine ⟨{ U with dir := l1 ++ (nm, n) :: l2 }, ?_, ⟨h.cap, h.F, h.rd, ?_, ?_⟩⟩
  ·unfold enterR
   rw [if_pos hi, hp]
   conv => lhs; rw [hd]
   simp [hd]
  ·have hp1 : ((nm, g) :: (l1 ++ l2)).Perm ((nm, g) :: delD nm v.dir) := by
    have h1 : ((nm, g) :: (l1 ++ l2)).Perm U.dir := by rw [hd]; exact List.perm_middle.symm
    exact (h1.trans h.dir).trans (delD_perm (by rw [← h.look hk]; exact hl)).symm
   exact (List.perm_middle.trans (hp1.cons_inv.cons (nm, n))).trans (putD_perm nm n v.dir).symm
  ·have := h.rise
   unfold Rise at this ⊢
   rw [hd] at this
   obtain ⟨p1, p2, p3⟩ := List.pairwise_append.1 this
   obtain ⟨p4, p5⟩ := List.pairwise_cons.1 p2
   refine List.pairwise_append.2 ⟨p1, List.pairwise_cons.2 ⟨p4, p5⟩, fun a ha b hb => ?_⟩
   rcases List.mem_cons.1 hb with rfl | hb
   ·exact p3 a ha (nm, g) (by simp)
   ·exact p3 a ha b (by simp [hb])
 ·have hl2 : lookD nm v.dir = none := by rw [← h.look hk]; exact hl
  have hlt : U.dir.length < 200 := by
   rw [h.len]
   rcases hd200 with h1 | h1
   ·exact absurd hl2 h1
   ·exact h1
  refine ⟨{ U with dir := l1 ++ (nm, n) :: l2 }, ?_, ⟨h.cap, h.F, h.rd, ?_, ?_⟩⟩
  ·unfold enterR
   rw [if_neg (by rw [hi]; simp), if_pos hlt, hp]
   conv => lhs; rw [hd]
   simp [hd]
  ·have h1 : (l1 ++ (nm, n) :: l2).Perm ((nm, n) :: v.dir) := by
    refine List.perm_middle.trans (List.Perm.cons _ ?_)
    rw [← hd]; exact h.dir
   have h2 := putD_perm nm n v.dir
   rw [delD_gone hl2] at h2
   exact h1.trans h2.symm
  ·have := h.rise
   unfold Rise at this ⊢
   rw [hd] at this
   obtain ⟨p1, p2, p3⟩ := List.pairwise_append.1 this
   refine List.pairwise_append.2 ⟨p1, List.pairwise_cons.2 ⟨hb, p2⟩, fun a ha2 b hb2 => ?_⟩
   rcases List.mem_cons.1 hb2 with rfl | hb2
   ·exact ha a ha2
   ·exact p3 a ha2 b hb2
theorem RS.enter_full (h : RS v U) (hk : (v.dir.map (·.1)).Nodup) (nm : ByteArray) (n : Nat) (hd200 : ¬ (lookD nm v.dir ≠ none ∨ v.dir.length < 200)) : enterR U nm n = (5, U) := by
 rcases part (nm := nm) h.rise with ⟨g, l1, l2, hd, hp, hi, hl, hat⟩ | ⟨l1, l2, hd, hp, hi, hl, ha, hb, hat⟩
 ·exact absurd (.inl (by rw [← h.look hk, hl]; simp)) hd200
 ·unfold enterR
  rw [if_neg (by rw [hi]; simp), if_neg (by rw [h.len]; intro hc; exact hd200 (.inr hc))]
theorem RS.isd (h : RS v U) (hk : (v.dir.map (·.1)).Nodup) (nm : ByteArray) : isD nm U.dir = true ↔ lookD nm v.dir ≠ none := by
 rw [← h.look hk]
 rcases part (nm := nm) h.rise with ⟨g, l1, l2, hd, hp, hi, hl, hat⟩ | ⟨l1, l2, hd, hp, hi, hl, ha, hb, hat⟩
 ·rw [hi, hl]; simp
 ·rw [hi, hl]; simp
end
end Go.Proofs.YtggknljlibhkjaaGreat
set_option linter.unusedSimpArgs false
set_option linter.unusedVariables false
namespace Go.Proofs.YtggknljlibhkjaaGreat
open Go Go.RowKit Go.Maps
theorem heldB_iff (U : V) (i : Nat) : heldB U i = true ↔ i ∈ U.held := by
 unfold heldB V.held
 simp [List.any_eq_true]
theorem sumH_filter (U : V) : ∀ n, sumH U n = sumOf (fun i => (U.bytes i).length) ((List.range n).filter (heldB U))
 | 0 => rfl
 | n + 1 => by
  show sumH U n + (if heldB U n = true then (U.bytes n).length else 0) = _
  rw [sumH_filter U n, List.range_succ, List.filter_append, sumOf_append]
  by_cases h : heldB U n = true
  ·rw [if_pos h]; simp [h, sumOf]
  ·rw [if_neg h]; simp [h, sumOf]
theorem wr_eq {b : List UInt8} {p : Nat} {l : List UInt8} (hp : p ≤ b.length) : wrK b p l l.length = wr b p l := by
 unfold wrK wr over
 rw [List.take_length, List.take_append_of_le_length hp]
 congr 1
 by_cases h : p + l.length ≤ b.length
 ·rw [show p + l.length - b.length = 0 by omega]; simp
 ·rw [List.drop_eq_nil_of_le (by omega), List.drop_eq_nil_of_le (by simp; omega)]
structure VGood (v : V) : Prop extends VOk v where
 ps : ∀ q ∈ v.rd, q.pos ≤ (v.bytes q.n).length
section
variable {v U : V}
theorem RS.held (h : RS v U) (i : Nat) : i ∈ U.held ↔ i ∈ v.held := by
 unfold V.held
 rw [List.mem_append, List.mem_append, (h.dir.map (·.2)).mem_iff, h.rd]
theorem RS.sum (h : RS v U) (hv : VOk v) : sumH U U.F.length = v.used := by
 rw [sumH_filter]
 unfold V.used
 rw [sumOf_congr (g' := fun n => (v.bytes n).length) (fun x _ => by rw [h.bytes])]
 refine sumOf_same _ (List.nodup_range.filter _) (nodup_dedup _) (fun x => ?_)
 rw [List.mem_filter, mem_dedup, heldB_iff, h.held, List.mem_range, h.F]
 refine ⟨fun hx => hx.2, fun hx => ⟨?_, hx⟩⟩
 unfold V.held at hx
 rcases List.mem_append.1 hx with hx | hx
 ·obtain ⟨e, he, rfl⟩ := List.mem_map.1 hx; exact hv.db e he
 ·obtain ⟨q, hq, rfl⟩ := List.mem_map.1 hx; exact hv.rb q hq
theorem RS.room (h : RS v U) (hv : VOk v) : roomI U = (v.room : Int) := by
 unfold roomI V.room
 have h2 := hv.fits
 rw [h.sum hv, h.cap]
 omega
theorem RS.read (h : RS v U) (f : Int) : (U.read f).1 = (v.read f).1 ∧ RS (v.read f).2 (U.read f).2 := by
 unfold V.read
 rw [h.rdAt]
 rcases v.rdAt f with _ | q
 ·exact ⟨rfl, h⟩
 ·simp only [h.bytes]
  rcases (v.bytes q.n)[q.pos]? with _ | c
  ·exact ⟨rfl, h⟩
  ·exact ⟨rfl, h.setPos f _⟩
theorem RS.readWord (h : RS v U) (f : Int) : (U.readWord f).1 = (v.readWord f).1 ∧ RS (v.readWord f).2 (U.readWord f).2 := by
 obtain ⟨a1, h1⟩ := h.read f
 obtain ⟨a2, h2⟩ := h1.read f
 obtain ⟨a3, h3⟩ := h2.read f
 obtain ⟨a4, h4⟩ := h3.read f
 unfold V.readWord
 exact ⟨by simp only [a1, a2, a3, a4], h4⟩
theorem RS.old (h : RS v U) (hv : VGood v) (nm : ByteArray) : (oldR U nm).1 = (v.old nm).1 ∧ RS (v.old nm).2 (oldR U nm).2 := by
 rcases part (nm := nm) h.rise with ⟨g, l1, l2, hd, hp, hi, hl, hat⟩ | ⟨l1, l2, hd, hp, hi, hl, ha, hb, hat⟩
 ·have hl' : lookD nm v.dir = some g := by rw [← h.look hv.keys]; exact hl
  have hm : mayName nm = true := hv.dn _ (lookD_mem hl')
  unfold oldR V.old
  rw [hat]
  simp only [hm, h.rd, hl', (MapKept.bytes_beq nm nm).2 rfl, true_and]
  split
  ·exact ⟨rfl, h.ride g nm⟩
  ·exact ⟨rfl, h⟩
 ·have hl' : lookD nm v.dir = none := by rw [← h.look hv.keys]; exact hl
  have e1 : oldR U nm = (0, U) := by
   unfold oldR
   rcases hq : U.dir[posD nm U.dir]? with _ | e
   ·rfl
   ·simp only
    rw [if_neg (by rw [hat e hq]; simp)]
  rw [e1]
  unfold V.old
  rw [hl']
  split <;> exact ⟨rfl, h⟩
theorem RS.fresh (h : RS v U) (nm : ByteArray) : (U.fresh nm).1 = (v.fresh nm).1 ∧ RS (v.fresh nm).2 (U.fresh nm).2 := by
 unfold V.fresh
 rw [h.rd]
 split
 ·refine ⟨rfl, ?_⟩
  rw [h.F]
  exact (h.addFile []).ride _ nm
 ·exact ⟨rfl, h⟩
theorem rdAt_mem2 {f : Int} {q : VR} (h : v.rdAt f = some q) : q ∈ v.rd := by
 unfold V.rdAt at h
 split at h
 ·exact List.mem_of_getElem? h
 ·cases h
theorem RS.write (h : RS v U) (hv : VGood v) (f : Int) (l : List UInt8) : (writeR U f l).1 = (v.write f l).1 ∧ RS (v.write f l).2 (writeR U f l).2 := by
 unfold writeR V.write
 rw [h.rdAt]
 rcases hq : v.rdAt f with _ | q
 ·exact ⟨rfl, h⟩
 ·simp only [h.bytes, h.room hv.toVOk]
  by_cases hc : q.pos + l.length ≤ (v.bytes q.n).length + v.room
  ·rw [if_pos hc, if_neg (by omega)]
   refine ⟨rfl, ?_⟩
   rw [wr_eq (hv.ps q (rdAt_mem2 hq))]
   exact (h.setFile q.n _).setPos f _
  ·rw [if_neg hc, if_pos (by omega)]
   exact ⟨rfl, h⟩
theorem RS.seek (h : RS v U) (f : Int) (n : Nat) : RS (v.seek f n) (seekZ U f (sgn n)) := by
 rw [seekZ_sgn]
 unfold V.seek
 rw [h.rdAt]
 rcases v.rdAt f with _ | q
 ·exact h
 ·simp only [h.bytes]
  exact h.setPos f _
theorem RS.register (h : RS v U) (hv : VGood v) (f : Int) : (registerR U f).1 = (v.register f).1 ∧ RS (v.register f).2 (registerR U f).2 := by
 unfold registerR V.register
 rw [h.rdAt]
 rcases v.rdAt f with _ | q
 ·exact ⟨rfl, h⟩
 ·simp only
  by_cases hc : lookD q.name v.dir ≠ none ∨ v.dir.length < 200
  ·rw [if_pos hc]
   obtain ⟨U', h1, h2⟩ := h.enter hv.keys q.name q.n hc
   rw [h1]
   exact ⟨rfl, h2⟩
  ·rw [if_neg hc, h.enter_full hv.keys q.name q.n hc]
   exact ⟨rfl, h⟩
theorem delD_count (nm : ByteArray) (l : List (ByteArray × Nat)) : (delD nm l).length ≤ l.length := (delD_sub nm l).length_le
theorem delD_keys (nm : ByteArray) {l : List (ByteArray × Nat)} (h : (l.map (·.1)).Nodup) : ((delD nm l).map (·.1)).Nodup := h.sublist ((delD_sub nm l).map _)
theorem sumOf_sub (g : Nat → Nat) {l m : List Nat} (hl : l.Nodup) (hs : ∀ x ∈ l, x ∈ m) (hm : m.Nodup) : sumOf g l ≤ sumOf g m := by
 have h1 : sumOf g l = sumOf g (m.filter (fun x => decide (x ∈ l))) := by
  refine sumOf_same g hl (hm.filter _) (fun x => ?_)
  rw [List.mem_filter]
  simp only [decide_eq_true_eq]
  exact ⟨fun h => ⟨hs x h, h⟩, fun h => h.2⟩
 rw [h1]
 clear h1 hs hl hm
 induction m with
 | nil => simp [sumOf]
 | cons x r ih =>
  rw [List.filter_cons]
  split
  ·rw [sumOf_cons, sumOf_cons]; omega
  ·rw [sumOf_cons]; omega
theorem VOk.del (hv : VOk v) (nm : ByteArray) : VOk (v.del nm) where
 keys := delD_keys nm hv.keys
 dn := fun e he => hv.dn e ((delD_sub nm v.dir).subset he)
 fits := by
  refine Nat.le_trans ?_ hv.fits
  unfold V.used
  refine sumOf_sub _ (nodup_dedup _) (fun x hx => ?_) (nodup_dedup _)
  rw [mem_dedup] at hx ⊢
  unfold V.held V.del at hx
  unfold V.held
  simp only at hx
  rcases List.mem_append.1 hx with hx | hx
  ·obtain ⟨e, he, rfl⟩ := List.mem_map.1 hx
   exact List.mem_append.2 (.inl (List.mem_map.2 ⟨e, (delD_sub nm v.dir).subset he, rfl⟩))
  ·exact List.mem_append.2 (.inr hx)
 db := fun e he => hv.db e ((delD_sub nm v.dir).subset he)
 rb := hv.rb
theorem RS.put (h : RS v U) (hv : VGood v) (nm : ByteArray) (l : List UInt8) : (putR U nm l).1 = (v.put nm l).1 ∧ RS (v.put nm l).2 (putR U nm l).2 := by
 unfold putR V.put
 by_cases hm : mayName nm = true
 ·rw [if_pos hm, if_pos hm]
  have hi := h.isd hv.keys nm
  by_cases hc : lookD nm v.dir ≠ none ∨ v.dir.length < 200
  ·rw [if_pos hc, if_pos (by rw [hi, h.len]; exact hc)]
   rw [(h.del hv.keys nm).room (hv.toVOk.del nm)]
   by_cases hr : l.length ≤ (v.del nm).room
   ·rw [if_pos hr, if_neg (by omega)]
    have hke : ((v.addFile l).dir.map (·.1)).Nodup := hv.keys
    obtain ⟨U', h1, h2⟩ := (h.addFile l).enter hke nm U.F.length hc
    rw [h1]
    refine ⟨rfl, ?_⟩
    rw [h.F] at h2
    refine ⟨h2.cap, h2.F, h2.rd, h2.dir.trans ?_, h2.rise⟩
    show (putD nm v.F.length v.dir).Perm (putD nm v.F.length (delD nm v.dir))
    have hg : delD nm (delD nm v.dir) = delD nm v.dir := delD_gone (lookD_none.2 (delD_not hv.keys))
    have h3 := putD_perm nm v.F.length (delD nm v.dir)
    rw [hg] at h3
    exact (putD_perm nm _ v.dir).trans h3.symm
   ·rw [if_neg hr, if_pos (by omega)]
    refine ⟨rfl, ?_, ?_, ?_, ?_, h.rise⟩
    ·rw [h.cap]; split <;> rfl
    ·rw [h.F]; split <;> rfl
    ·rw [h.rd]; split <;> rfl
    ·rcases hl : lookD nm v.dir with _ | g
     ·simp only
      show U.dir.Perm (delD nm v.dir)
      rw [delD_gone hl]
      exact h.dir
     ·simp only
      show U.dir.Perm (putD nm g (delD nm v.dir))
      have hg : delD nm (delD nm v.dir) = delD nm v.dir := delD_gone (lookD_none.2 (delD_not hv.keys))
      have h3 := putD_perm nm g (delD nm v.dir)
      rw [hg] at h3
      exact (h.dir.trans (delD_perm hl).symm).trans h3.symm
  ·rw [if_neg hc, if_neg (by rw [hi, h.len]; exact hc)]
   exact ⟨rfl, h⟩
 ·rw [if_neg hm, if_neg hm]
  exact ⟨rfl, h⟩
theorem RS.drop (h : RS v U) (hv : VGood v) (nm : ByteArray) : dropR U nm = (v.drop nm).1 ∧ RS (v.drop nm).2 (delR U nm) := by
 have hi := h.isd hv.keys nm
 have hd := h.del hv.keys nm
 unfold dropR V.drop
 by_cases hm : mayName nm = true
 ·rw [if_pos hm, if_pos hm]
  rcases hl : lookD nm v.dir with _ | g
  ·have : ¬ isD nm U.dir = true := by rw [hi, hl]; simp
   rw [if_neg this]
   refine ⟨rfl, ?_⟩
   have e : v.del nm = v := by unfold V.del; rw [delD_gone hl]
   rw [e] at hd
   exact hd
  ·rw [if_pos (hi.2 (by rw [hl]; simp))]
   exact ⟨rfl, hd⟩
 ·rw [if_neg hm, if_neg hm]
  refine ⟨rfl, ?_⟩
  have hl : lookD nm v.dir = none := by
   rcases hl : lookD nm v.dir with _ | g
   ·rfl
   ·exact absurd (hv.dn _ (lookD_mem hl)) hm
  have e : v.del nm = v := by unfold V.del; rw [delD_gone hl]
  rw [e] at hd
  exact hd
theorem RS.step (h : RS v U) (hv : VGood v) (x : St) : (doR U x).1 = (v.doS x).1 ∧ RS (v.doS x).2 (doR U x).2 := by
 unfold doR V.doS
 by_cases h1 : x.kind = 1
 ·rw [if_pos h1, if_pos h1]
  exact h.old hv x.nm
 rw [if_neg h1, if_neg h1]
 by_cases h2 : x.kind = 2
 ·rw [if_pos h2, if_pos h2]
  exact h.fresh x.nm
 rw [if_neg h2, if_neg h2]
 by_cases h3 : x.kind = 3
 ·rw [if_pos h3, if_pos h3]
  exact ⟨by rw [(h.read x.f).1], (h.read x.f).2⟩
 rw [if_neg h3, if_neg h3]
 by_cases h4 : x.kind = 4
 ·rw [if_pos h4, if_pos h4]
  exact h.readWord x.f
 rw [if_neg h4, if_neg h4]
 by_cases h5 : x.kind = 5
 ·rw [if_pos h5, if_pos h5]
  exact h.write hv x.f _
 rw [if_neg h5, if_neg h5]
 by_cases h6 : x.kind = 6
 ·rw [if_pos h6, if_pos h6]
  exact h.write hv x.f _
 rw [if_neg h6, if_neg h6]
 by_cases h7 : x.kind = 7
 ·rw [if_pos h7, if_pos h7]
  exact ⟨rfl, h.seek x.f x.w⟩
 rw [if_neg h7, if_neg h7]
 by_cases h8 : x.kind = 8
 ·rw [if_pos h8, if_pos h8]
  exact h.register hv x.f
 rw [if_neg h8, if_neg h8]
 by_cases h9 : x.kind = 9
 ·rw [if_pos h9, if_pos h9]
  exact ⟨rfl, h.del hv.keys x.nm⟩
 rw [if_neg h9, if_neg h9]
 by_cases h10 : x.kind = 10
 ·rw [if_pos h10, if_pos h10]
  exact h.put hv x.nm x.b
 rw [if_neg h10, if_neg h10]
 by_cases h11 : x.kind = 11
 ·rw [if_pos h11, if_pos h11]
  exact h.drop hv x.nm
 rw [if_neg h11, if_neg h11]
 exact ⟨rfl, h⟩
end
section
variable {base : Nat} {w : World} {s : Nat} {v : V} {F : Nat → Prop}
theorem StoreV.good (h : StoreV base w s v F) : VGood v := by
 have hk := h.keys
 have hf := h.fits
 obtain ⟨S, φ, h1, h2, _⟩ := h
 refine ⟨⟨hk, fun e he => ?_, hf.1, fun e he => by rw [← h2.len]; exact h2.dirb e he, fun q hq => by rw [← h2.len]; exact h2.rdb q hq⟩, fun q hq => ?_⟩
 ·refine h1.dnames (e.1, φ.getD e.2 0) ?_
  rw [h2.dir]
  exact List.mem_map.2 ⟨e, he, rfl⟩
 ·obtain ⟨i, hi⟩ := List.mem_iff_getElem?.1 hq
  obtain ⟨r, A, c, hSr, hrf, _, hrp, _, hfl, _⟩ := h2.rdAt_some (f := (i : Int) + 1) (q := q) (by
   unfold V.rdAt
   rw [if_pos (by omega)]
   simpa using hi)
  have hr : ∃ r ∈ S.rd, r.pos = q.pos ∧ S.fl r.f = some ⟨A, c, v.bytes q.n⟩ := by
   refine ⟨r, ?_, hrp, hfl⟩
   unfold Sto.rdAt at hSr
   rw [if_pos (by omega)] at hSr
   exact List.mem_of_getElem? hSr
  obtain ⟨r, hr, hrp, hfl⟩ := hr
  obtain ⟨x, hx, hle⟩ := h1.rdf r hr
  rw [hfl] at hx
  obtain rfl := Option.some.inj hx
  rw [← hrp]
  exact hle
end
end Go.Proofs.YtggknljlibhkjaaGreat
