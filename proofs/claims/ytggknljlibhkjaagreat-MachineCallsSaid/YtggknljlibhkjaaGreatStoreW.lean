import Derived.Test.YtggknljlibhkjaaGreatStoreV
set_option linter.unusedSimpArgs false
set_option linter.unusedVariables false
namespace Go.Proofs.YtggknljlibhkjaaGreat
open Go.RowKit
namespace V
def read (v : V) (f : Int) : UInt8 × V :=
 match v.rdAt f with
 | none => (0, v)
 | some q => match (v.bytes q.n)[q.pos]? with
  | none => (0, v)
  | some c => (c, v.setPos f (q.pos + 1))
def readWord (v : V) (f : Int) : Nat × V :=
 (word4 (v.read f).1 ((v.read f).2.read f).1 (((v.read f).2.read f).2.read f).1 ((((v.read f).2.read f).2.read f).2.read f).1, ((((v.read f).2.read f).2.read f).2.read f).2)
def write (v : V) (f : Int) (l : List UInt8) : Nat × V :=
 match v.rdAt f with
 | none => (0, v)
 | some q => if q.pos + l.length ≤ (v.bytes q.n).length + v.room then (0, (v.setFile q.n (wr (v.bytes q.n) q.pos l)).setPos f (q.pos + l.length)) else (5, v)
def seek (v : V) (f : Int) (n : Nat) : V :=
 match v.rdAt f with
 | none => v
 | some q => v.setPos f (seekTo n (v.bytes q.n).length)
def old (v : V) (nm : ByteArray) : Nat × V :=
 if mayName nm = true ∧ v.rd.length < 255 then
  match lookD nm v.dir with
  | none => (0, v)
  | some n => (v.rd.length + 1, v.ride n nm)
 else (0, v)
def fresh (v : V) (nm : ByteArray) : Nat × V :=
 if mayName nm = true ∧ v.rd.length < 255 then (v.rd.length + 1, (v.addFile []).ride v.F.length nm) else (0, v)
def register (v : V) (f : Int) : Nat × V :=
 match v.rdAt f with
 | none => (0, v)
 | some q => if lookD q.name v.dir ≠ none ∨ v.dir.length < 200 then (0, v.enter q.name q.n) else (5, v)
def put (v : V) (nm : ByteArray) (l : List UInt8) : Nat × V :=
 if mayName nm = true then
  if lookD nm v.dir ≠ none ∨ v.dir.length < 200 then
   if l.length ≤ (v.del nm).room then (0, ((v.del nm).addFile l).enter nm v.F.length)
   else (5, match lookD nm v.dir with
    | none => v.del nm
    | some g => (v.del nm).enter nm g)
  else (5, v)
 else (2, v)
def eof (v : V) (f : Int) : Bool :=
 match v.rdAt f with
 | none => true
 | some q => decide (q.pos = (v.bytes q.n).length)
def length (v : V) (f : Int) : Nat :=
 match v.rdAt f with
 | none => 0
 | some q => (v.bytes q.n).length
def posOf (v : V) (f : Int) : Nat :=
 match v.rdAt f with
 | none => 0
 | some q => q.pos
end V
section
variable {base : Nat} {w : World} {s : Nat} {v : V} {F : Nat → Prop} {S : Sto}
theorem length_v (h : StoreV base w s v F) (f : Int) : Calls Tryz.prog 47 #[ptr s, .int .i64 f] w (VPost base s F (.int .i64 (v.length f)) v w) := by
 have h0 := h
 obtain ⟨S, φ, h1, h2, rfl⟩ := h
 cases hr : v.rdAt f with
 | none =>
  refine (length_none h1 (h2.rdAt_none hr)).mono fun e w' ⟨he, hw⟩ => ?_
  subst hw
  exact VPost.quiet h0 (by rw [he]; unfold V.length; rw [hr]; rfl) (Chg.refl _ _)
 | some q =>
  obtain ⟨r, A, c, a1, a2, a3, a4, a5, a6, _⟩ := h2.rdAt_some hr
  refine (length_some h1 a1 a6).mono fun e w' ⟨he, hw⟩ => ?_
  subst hw
  exact VPost.quiet h0 (by rw [he]; unfold V.length; rw [hr]) (Chg.refl _ _)
theorem eof_v (h : StoreV base w s v F) (f : Int) : Calls Tryz.prog 46 #[ptr s, .int .i64 f] w (VPost base s F (.bool (v.eof f)) v w) := by
 have h0 := h
 obtain ⟨S, φ, h1, h2, rfl⟩ := h
 cases hr : v.rdAt f with
 | none =>
  refine (eof_none h1 (h2.rdAt_none hr)).mono fun e w' ⟨he, n, hw⟩ => ?_
  subst hw
  exact VPost.quiet h0 (by rw [he]; unfold V.eof; rw [hr]) ((Chg.refl _ _).drewN n)
 | some q =>
  obtain ⟨r, A, c, a1, a2, a3, a4, a5, a6, _⟩ := h2.rdAt_some hr
  refine (eof_some h1 a1 a6).mono fun e w' ⟨he, n, hw⟩ => ?_
  subst hw
  exact VPost.quiet h0 (by rw [he]; unfold V.eof; rw [hr, a4]) ((Chg.refl _ _).drewN n)
theorem read_v (h : StoreV base w s v F) (f : Int) : Calls Tryz.prog 48 #[ptr s, .int .i64 f] w (VPost base s F (.int .u8 (v.read f).1.toNat) (v.read f).2 w) := by
 have h0 := h
 obtain ⟨S, φ, h1, h2, rfl⟩ := h
 cases hr : v.rdAt f with
 | none =>
  have e1 : v.read f = (0, v) := by unfold V.read; rw [hr]
  rw [e1]
  refine (read_none h1 (h2.rdAt_none hr)).mono fun e w' ⟨he, n, hw⟩ => ?_
  subst hw
  exact VPost.quiet h0 he ((Chg.refl _ _).drewN n)
 | some q =>
  obtain ⟨r, A, c, a1, a2, a3, a4, a5, a6, _⟩ := h2.rdAt_some hr
  by_cases hp : q.pos < (v.bytes q.n).length
  ·have e1 : v.read f = ((v.bytes q.n)[q.pos], v.setPos f (q.pos + 1)) := by unfold V.read; simp only [hr, List.getElem?_eq_getElem hp]
   rw [e1]
   refine (read_some h1 a1 a6 (by rw [a4]; exact hp)).mono fun e w' ⟨he, hs, hc⟩ => ?_
   refine ⟨by rw [he]; simp only [a4], foot s (S.setPos f (r.pos + 1)), ⟨_, φ, hs, by rw [a4]; exact h2.setPos f _, rfl⟩, hc.mono (fun k _ hk => .inr (.inr (.inr (.inl ⟨r, (rdAt_some a1).2.2.2, hk⟩)))), fun k hk _ => foot_setPos hk⟩
  ·have e1 : v.read f = (0, v) := by unfold V.read; simp only [hr, List.getElem?_eq_none (Nat.le_of_not_lt hp)]
   rw [e1]
   have hpos : q.pos = (v.bytes q.n).length := by
    obtain ⟨y, hy, hp'⟩ := h1.rdf r (rdAt_some a1).2.2.2
    rw [a6] at hy
    cases hy
    simp only at hp'
    omega
   refine (read_end h1 a1 a6 (by rw [a4]; exact hpos)).mono fun e w' ⟨he, n, hw⟩ => ?_
   subst hw
   exact VPost.quiet h0 he ((Chg.refl _ _).drewN n)
theorem seek_v (h : StoreV base w s v F) (f : Int) (n : Nat) (hn : n < 4294967296) : Calls Tryz.prog 52 #[ptr s, .int .i64 f, .int .u32 n] w (VPost base s F (.tuple #[]) (v.seek f n) w) := by
 have h0 := h
 obtain ⟨S, φ, h1, h2, rfl⟩ := h
 cases hr : v.rdAt f with
 | none =>
  have e1 : v.seek f n = v := by unfold V.seek; rw [hr]
  rw [e1]
  refine (seek_none h1 (h2.rdAt_none hr) n).mono fun e w' ⟨he, hw⟩ => ?_
  subst hw
  exact VPost.quiet h0 he (Chg.refl _ _)
 | some q =>
  obtain ⟨r, A, c, a1, a2, a3, a4, a5, a6, _⟩ := h2.rdAt_some hr
  have e1 : v.seek f n = v.setPos f (seekTo n (v.bytes q.n).length) := by unfold V.seek; rw [hr]
  rw [e1]
  refine (seek_some h1 a1 a6 n hn).mono fun e w' ⟨he, hs, hc⟩ => ?_
  exact ⟨he, _, ⟨_, φ, hs, h2.setPos f _, rfl⟩, hc.mono (fun k _ hk => .inr (.inr (.inr (.inl ⟨r, (rdAt_some a1).2.2.2, hk⟩)))), fun k hk _ => foot_setPos hk⟩
theorem old_v (h : StoreV base w s v F) (nm : ByteArray) (hsz : nm.size ≤ maxLen) : Calls Tryz.prog 44 #[ptr s, .string nm] w (VPost base s F (.int .i64 (v.old nm).1) (v.old nm).2 w) := by
 have h0 := h
 obtain ⟨S, φ, h1, h2, rfl⟩ := h
 have hno : (mayName nm = false ∨ lookD nm S.dir = none ∨ 255 ≤ S.rd.length) → v.old nm = (0, v) → Calls Tryz.prog 44 #[ptr s, .string nm] w (VPost base s (foot s S) (.int .i64 (v.old nm).1) (v.old nm).2 w) := fun hq e1 => by
  rw [e1]
  exact (old_no h1 hsz hq).mono fun e w' ⟨he, hc⟩ => VPost.quiet h0 he hc
 by_cases hc : mayName nm = true ∧ v.rd.length < 255
 ·cases hl : lookD nm v.dir with
  | none => exact hno (.inr (.inl (by rw [h2.look, hl]; rfl))) (by unfold V.old; rw [if_pos hc]; simp only [hl])
  | some n =>
   have e1 : v.old nm = (v.rd.length + 1, v.ride n nm) := by unfold V.old; rw [if_pos hc]; simp only [hl]
   rw [e1]
   refine (old_ok h1 (f := φ.getD n 0) hsz hc.1 (by rw [h2.look, hl]; rfl) (by rw [h2.rlen]; exact hc.2)).mono fun e w' hp => ?_
   obtain ⟨blk, rA, rc, he, hs, hch, hf⟩ := hp
   exact ⟨by rw [he, h2.rlen]; simp, _, ⟨_, φ, hs, h2.ride blk n nm rA rc (h2.look_lt hl), rfl⟩, hch, hf⟩
 ·refine hno ?_ (by unfold V.old; rw [if_neg hc])
  by_cases hm : mayName nm = true
  ·exact .inr (.inr (by rw [h2.rlen]; exact Nat.le_of_not_lt (fun h => hc ⟨hm, h⟩)))
  ·exact .inl (by simpa using hm)
theorem fresh_no (h : StoreAt base w s S) {nm : ByteArray} (hsz : nm.size ≤ maxLen) (hno : mayName nm = false ∨ 255 ≤ S.rd.length) :
  Calls Tryz.prog 45 #[ptr s, .string nm] w (Quiet (.int .i64 0) w) := by
 have Hth := Go.Lib.hid (there_c h)
 have H := Go.Lib.hid h
 have Hsz := Go.Lib.hid hsz
 cases hn : mayName nm with
 | false =>
  have Hn := Go.Lib.hid hn
  clear h hsz hno hn
  unfold ptr at Hth ⊢
  go_enter Tryz.func45, Tryz.ntmps45
  go_wp2_with fail
  refine Hth.out.mono ?_
  rintro e w' ⟨rfl, rfl⟩
  go_wp2_with fail
  refine (mayName_c nm Hsz.out w).mono ?_
  rw [Hn.out]
  rintro e w1 ⟨rfl, hc⟩
  have Hc := Go.Lib.hid hc
  clear hc
  go_wp2_with fail
  go_ret
  exact ⟨rfl, Hc.out⟩
 | true =>
  have h255 : 255 ≤ S.rd.length := hno.elim (fun h => by rw [hn] at h; cases h) id
  have d1 : decide (255 ≤ (S.rd.length : Int)) = true := by simp; omega
  have d2 : (255 ≤ (S.rd.length : Int)) := by omega
  have Hn := Go.Lib.hid hn
  clear h hsz hno hn h255
  unfold ptr at Hth ⊢
  go_enter Tryz.func45, Tryz.ntmps45
  go_wp2_with fail
  refine Hth.out.mono ?_
  rintro e w' ⟨rfl, rfl⟩
  go_wp2_with fail
  refine (mayName_c nm Hsz.out w).mono ?_
  rw [Hn.out]
  rintro e w1 ⟨rfl, hc⟩
  have h1 := H.out.chg hc (fun _ _ => id)
  have c1 := h1.cell1
  have Hc := Go.Lib.hid hc
  clear h1 hc
  go_wp2_with fail
  go_ret
  exact ⟨rfl, Hc.out⟩
theorem fresh_v (h : StoreV base w s v F) (nm : ByteArray) (hsz : nm.size ≤ maxLen) : Calls Tryz.prog 45 #[ptr s, .string nm] w (VPost base s F (.int .i64 (v.fresh nm).1) (v.fresh nm).2 w) := by
 have h0 := h
 obtain ⟨S, φ, h1, h2, rfl⟩ := h
 by_cases hc : mayName nm = true ∧ v.rd.length < 255
 ·have e1 : v.fresh nm = (v.rd.length + 1, (v.addFile []).ride v.F.length nm) := by unfold V.fresh; rw [if_pos hc]
  rw [e1]
  refine (fresh_ok h1 hsz hc.1 (by rw [h2.rlen]; exact hc.2)).mono fun e w' hp => ?_
  obtain ⟨f, blk, rA, rc, he, hnone, hs, hch, hf⟩ := hp
  have h3 := h2.addFile (x := ⟨none, 0, []⟩) hnone
  have h4 := h3.ride blk v.F.length nm rA rc (by simp [h2.len])
  have e2 : (φ ++ [f]).getD v.F.length 0 = f := by rw [← h2.len]; simp
  rw [e2] at h4
  exact ⟨by rw [he, h2.rlen]; simp, _, ⟨_, _, hs, h4, rfl⟩, hch, hf⟩
 ·have e1 : v.fresh nm = (0, v) := by unfold V.fresh; rw [if_neg hc]
  rw [e1]
  refine (fresh_no h1 hsz ?_).mono fun e w' ⟨he, hch⟩ => VPost.quiet h0 he hch
  by_cases hm : mayName nm = true
  ·exact .inr (by rw [h2.rlen]; exact Nat.le_of_not_lt (fun h => hc ⟨hm, h⟩))
  ·exact .inl (by simpa using hm)
theorem register_v (h : StoreV base w s v F) (f : Int) : Calls Tryz.prog 53 #[ptr s, .int .i64 f] w (VPost base s F (.int .i64 (v.register f).1) (v.register f).2 w) := by
 have h0 := h
 obtain ⟨S, φ, h1, h2, rfl⟩ := h
 cases hr : v.rdAt f with
 | none =>
  have e1 : v.register f = (0, v) := by unfold V.register; rw [hr]
  rw [e1]
  refine (register_none h1 (h2.rdAt_none hr)).mono fun e w' ⟨he, hw⟩ => ?_
  subst hw
  exact VPost.quiet h0 he (Chg.refl _ _)
 | some q =>
  obtain ⟨r, A, c, a1, a2, a3, a4, a5, a6, _⟩ := h2.rdAt_some hr
  have hlk : lookD r.name S.dir ≠ none ↔ lookD q.name v.dir ≠ none := by rw [h2.look, a3]; cases lookD q.name v.dir <;> simp
  by_cases hc : lookD q.name v.dir ≠ none ∨ v.dir.length < 200
  ·have e1 : v.register f = (0, v.enter q.name q.n) := by unfold V.register; simp only [hr]; rw [if_pos hc]
   rw [e1]
   refine (register_ok h1 a1 (hc.imp hlk.2 (fun h => by rw [h2.dlen]; exact h))).mono fun e w' ⟨he, hs, hch⟩ => ?_
   rw [a2, a3] at hs
   exact ⟨he, _, ⟨_, φ, hs, h2.enter q.name a5, rfl⟩, hch.mono (fun k _ hk => .inr (.inl hk)), fun k hk _ => hk⟩
  ·have e1 : v.register f = (5, v) := by unfold V.register; simp only [hr]; rw [if_neg hc]
   rw [e1]
   have hc1 : lookD r.name S.dir = none := by
    cases hh : lookD r.name S.dir with
    | none => rfl
    | some g => exact absurd (.inl (hlk.1 (by rw [hh]; simp))) hc
   refine (register_full h1 a1 hc1 (by rw [h2.dlen]; exact Nat.le_of_not_lt (fun h => hc (.inr h)))).mono fun e w' ⟨he, n, hw⟩ => ?_
   subst hw
   exact VPost.quiet h0 he ((Chg.refl _ _).drewN n)
theorem delete_v (h : StoreV base w s v F) (nm : ByteArray) : Calls Tryz.prog 54 #[ptr s, .string nm] w (VPost base s F (.tuple #[]) (v.del nm) w) := by
 obtain ⟨S, φ, h1, h2, rfl⟩ := h
 refine (delete_c h1 nm).mono fun e w' ⟨he, hs, hch⟩ => ?_
 exact ⟨he, _, ⟨_, φ, hs, h2.del nm, rfl⟩, hch.mono (fun k _ hk => .inr (.inl hk)), fun k hk _ => hk⟩
theorem put_v (h : StoreV base w s v F) (nm : ByteArray) (hsz : nm.size ≤ maxLen) {A : Option Addr} {c : Nat} {l : List UInt8} (hA : A = none → l = [] ∧ c = 0) (hcl : CellsAt w A (bv l)) :
  Calls Tryz.prog 79 #[ptr s, .string nm, .slice A l.length c] w (VPost base s F (.int .i64 (v.put nm l).1) (v.put nm l).2 w) := by
 have h0 := h
 obtain ⟨S, φ, h1, h2, rfl⟩ := h
 by_cases hn : mayName nm = true
 ·have hlk : lookD nm S.dir ≠ none ↔ lookD nm v.dir ≠ none := by rw [h2.look]; cases lookD nm v.dir <;> simp
  by_cases hd : lookD nm v.dir ≠ none ∨ v.dir.length < 200
  ·have hd' : lookD nm S.dir ≠ none ∨ S.dir.length < 200 := hd.imp hlk.2 (fun h => by rw [h2.dlen]; exact h)
   by_cases hfit : l.length ≤ (v.del nm).room
   ·have e1 : v.put nm l = (0, ((v.del nm).addFile l).enter nm v.F.length) := by unfold V.put; rw [if_pos hn, if_pos hd, if_pos hfit]
    rw [e1]
    refine (put_ok h1 hsz hn hd' hA hcl (by rw [(h2.del nm).room]; exact hfit)).mono fun e w' hp => ?_
    obtain ⟨f, A', c', he, hnone, hs, hch, hf⟩ := hp
    have h3 := (h2.del nm).addFile (x := ⟨A', c', l⟩) hnone
    have h4 := h3.enter nm (n := v.F.length) (by simp [h2.len])
    have e2 : (φ ++ [f]).getD v.F.length 0 = f := by rw [← h2.len]; simp
    rw [e2] at h4
    exact ⟨he, _, ⟨_, _, hs, h4, rfl⟩, hch, hf⟩
   ·cases hl : lookD nm v.dir with
    | none =>
     have e1 : v.put nm l = (5, v.del nm) := by unfold V.put; rw [if_pos hn, if_pos hd, if_neg hfit, hl]
     rw [e1]
     have hlt : v.dir.length < 200 := hd.elim (fun h => absurd hl h) id
     refine (put_full_none h1 hsz hn (by rw [h2.look, hl]; rfl) (by rw [h2.dlen]; exact hlt) (by rw [(h2.del nm).room]; exact Nat.lt_of_not_le hfit)).mono fun e w' ⟨he, hs, hch⟩ => ?_
     exact ⟨he, _, ⟨_, φ, hs, h2.del nm, rfl⟩, hch.mono (fun k _ hk => .inr (.inl hk)), fun k hk _ => hk⟩
    | some g =>
     have e1 : v.put nm l = (5, (v.del nm).enter nm g) := by unfold V.put; rw [if_pos hn, if_pos hd, if_neg hfit, hl]
     rw [e1]
     refine (put_full_some h1 (g := φ.getD g 0) hsz hn (by rw [h2.look, hl]; rfl) (by rw [(h2.del nm).room]; exact Nat.lt_of_not_le hfit)).mono fun e w' ⟨he, hs, hch⟩ => ?_
     exact ⟨he, _, ⟨_, φ, hs, (h2.del nm).enter nm (h2.look_lt hl), rfl⟩, hch.mono (fun k _ hk => .inr (.inl hk)), fun k hk _ => hk⟩
  ·have e1 : v.put nm l = (5, v) := by unfold V.put; rw [if_pos hn, if_neg hd]
   rw [e1]
   have hl : lookD nm S.dir = none := by
    cases hh : lookD nm S.dir with
    | none => rfl
    | some g => exact absurd (.inl (hlk.1 (by rw [hh]; simp))) hd
   refine (put_files h1 hsz hn hl (by rw [h2.dlen]; exact Nat.le_of_not_lt (fun h => hd (.inr h))) _).mono fun e w' ⟨he, hch⟩ => VPost.quiet h0 he hch
 ·have e1 : v.put nm l = (2, v) := by unfold V.put; rw [if_neg hn]
  rw [e1]
  refine (put_arg h1 hsz (by simpa using hn) _).mono fun e w' ⟨he, hch⟩ => VPost.quiet h0 he hch
theorem writePost_v {S : Sto} {φ : List Nat} (h2 : Rep S v φ) {f : Int} {q : VR} {r : Rd} {A : Option Addr} {c : Nat} {l : List UInt8} {e : Ending} {w' : World} (a2 : r.f = φ.getD q.n 0) (a4 : r.pos = q.pos) (a5 : q.n < φ.length)
  (hp : WritePost base s S f r ⟨A, c, v.bytes q.n⟩ l w e w') : VPost base s (foot s S) (.int .i64 0) ((v.setFile q.n (wr (v.bytes q.n) q.pos l)).setPos f (q.pos + l.length)) w e w' := by
 obtain ⟨A', c', he, hs, hch, hf⟩ := hp
 simp only at hs hf
 rw [a4, a2] at hs hf
 exact ⟨he, _, ⟨_, φ, hs, (h2.setFile (y := ⟨A', c', wr (v.bytes q.n) q.pos l⟩) a5).setPos f _, rfl⟩, hch, hf⟩
theorem write_v (h : StoreV base w s v F) (f : Int) (b : UInt8) : Calls Tryz.prog 50 #[ptr s, .int .i64 f, .int .u8 b.toNat] w (VPost base s F (.int .i64 (v.write f [b]).1) (v.write f [b]).2 w) := by
 have h0 := h
 obtain ⟨S, φ, h1, h2, rfl⟩ := h
 cases hr : v.rdAt f with
 | none =>
  have e1 : v.write f [b] = (0, v) := by unfold V.write; rw [hr]
  rw [e1]
  exact (write_none h1 (h2.rdAt_none hr) b).mono fun e w' ⟨he, hch⟩ => VPost.quiet h0 he hch
 | some q =>
  obtain ⟨r, A, c, a1, a2, a3, a4, a5, a6, _⟩ := h2.rdAt_some hr
  by_cases hc : q.pos + [b].length ≤ (v.bytes q.n).length + v.room
  ·have e1 : v.write f [b] = (0, (v.setFile q.n (wr (v.bytes q.n) q.pos [b])).setPos f (q.pos + [b].length)) := by unfold V.write; simp only [hr]; rw [if_pos hc]
   rw [e1]
   exact (write_ok h1 a1 a6 b (by rw [a4, h2.room]; exact hc)).mono fun e w' hp => writePost_v h2 a2 a4 a5 hp
  ·have e1 : v.write f [b] = (5, v) := by unfold V.write; simp only [hr]; rw [if_neg hc]
   rw [e1]
   exact (write_full h1 a1 a6 b (by rw [a4, h2.room]; exact Nat.lt_of_not_le hc)).mono fun e w' ⟨he, hch⟩ => VPost.quiet h0 he hch
theorem writeWord_v (h : StoreV base w s v F) (f : Int) (n : Nat) (hn : n < 4294967296) : Calls Tryz.prog 51 #[ptr s, .int .i64 f, .int .u32 n] w (VPost base s F (.int .i64 (v.write f (bytesOfWord n)).1) (v.write f (bytesOfWord n)).2 w) := by
 have h0 := h
 obtain ⟨S, φ, h1, h2, rfl⟩ := h
 cases hr : v.rdAt f with
 | none =>
  have e1 : v.write f (bytesOfWord n) = (0, v) := by unfold V.write; rw [hr]
  rw [e1]
  exact (writeWord_none h1 (h2.rdAt_none hr) n hn).mono fun e w' ⟨he, hch⟩ => VPost.quiet h0 he hch
 | some q =>
  obtain ⟨r, A, c, a1, a2, a3, a4, a5, a6, _⟩ := h2.rdAt_some hr
  by_cases hc : q.pos + (bytesOfWord n).length ≤ (v.bytes q.n).length + v.room
  ·have e1 : v.write f (bytesOfWord n) = (0, (v.setFile q.n (wr (v.bytes q.n) q.pos (bytesOfWord n))).setPos f (q.pos + (bytesOfWord n).length)) := by unfold V.write; simp only [hr]; rw [if_pos hc]
   rw [e1]
   exact (writeWord_ok h1 a1 a6 n hn (by rw [a4, h2.room]; exact hc)).mono fun e w' hp => writePost_v h2 a2 a4 a5 hp
  ·have e1 : v.write f (bytesOfWord n) = (5, v) := by unfold V.write; simp only [hr]; rw [if_neg hc]
   rw [e1]
   exact (writeWord_full h1 a1 a6 n hn (by rw [a4, h2.room]; exact Nat.lt_of_not_le hc)).mono fun e w' ⟨he, hch⟩ => VPost.quiet h0 he hch
theorem new_v (c : Nat) (hc : c ≤ 67108864) (w : World) : Calls Tryz.prog 20 #[.int .i64 c] w fun e w' => ∃ s F, e = .returned (.tuple #[ptr s, .int .i64 0]) ∧ StoreV w.heap.size w' s ⟨c, [], [], []⟩ F ∧ Chg NoB w w' := by
 refine (new_ok c hc w).mono fun e w' hp => ?_
 obtain ⟨s, mb, he, hs, hch⟩ := hp
 exact ⟨s, _, he, ⟨_, [], hs, ⟨rfl, rfl, List.nodup_nil, fun i hi => absurd hi (by simp), rfl, (fun e he => by cases he), rfl, (fun e he => by cases he)⟩, rfl⟩, hch⟩
def VGet (base s : Nat) (v : V) (F : Nat → Prop) (l : List UInt8) (w : World) (e : Ending) (w' : World) : Prop :=
 ∃ A c, e = .returned (.tuple #[.slice A l.length c, .int .i64 0]) ∧ w'.ownsRow w.heap.size 5 1 (.slice A l.length c) l.length (bv l) ∧ StoreV base w' s v F ∧ Chg NoB w w'
theorem readWord_v (h : StoreV base w s v F) (f : Int) : Calls Tryz.prog 49 #[ptr s, .int .i64 f] w (VPost base s F (.int .u32 (v.readWord f).1) (v.readWord f).2 w) := by
 unfold ptr
 go_enter Tryz.func49, Tryz.ntmps49
 go_wp2_with fail
 refine wp_loop_rounds 5 ?_
 rw [rounds_succ]
 go_wp2_with fail
 refine (read_v h f).mono ?_
 rintro e w1 ⟨rfl, F1, h1, hc1, hf1⟩
 generalize hq1 : v.read f = q1 at h1 ⊢
 have Hq1 := Go.Lib.hid hq1
 clear hq1
 go_wp2_with fail
 rw [rounds_succ]
 go_wp2_with fail
 refine (read_v h1 f).mono ?_
 rintro e w2 ⟨rfl, F2, h2, hc2, hf2⟩
 generalize hq2 : q1.2.read f = q2 at h2 ⊢
 have Hq2 := Go.Lib.hid hq2
 clear hq2
 go_wp2_with fail
 rw [rounds_succ]
 go_wp2_with fail
 refine (read_v h2 f).mono ?_
 rintro e w3 ⟨rfl, F3, h3, hc3, hf3⟩
 generalize hq3 : q2.2.read f = q3 at h3 ⊢
 have Hq3 := Go.Lib.hid hq3
 clear hq3
 go_wp2_with fail
 rw [rounds_succ]
 go_wp2_with fail
 refine (read_v h3 f).mono ?_
 rintro e w4 ⟨rfl, F4, h4, hc4, hf4⟩
 generalize hq4 : q3.2.read f = q4 at h4 ⊢
 have Hq4 := Go.Lib.hid hq4
 clear hq4
 go_wp2_with fail
 rw [rounds_succ]
 go_wp2_with fail
 go_ret
 have e1 : v.readWord f = (word4 q1.1 q2.1 q3.1 q4.1, q4.2) := by unfold V.readWord; simp only [Hq1.out, Hq2.out, Hq3.out, Hq4.out]
 rw [e1]
 have s1 : w.heap.size ≤ w1.heap.size := hc1.size
 have s2 : w1.heap.size ≤ w2.heap.size := hc2.size
 have s3 : w2.heap.size ≤ w3.heap.size := hc3.size
 refine ⟨congrArg (fun n => Ending.returned (.int .u32 n)) (or4 _ _ _ _), F4, h4, ?_, ?_⟩
 ·exact ((hc1.step hc2 fun k hk hf => hf1 k hf hk).step hc3 fun k hk hf => hf1 k (hf2 k hf (by omega)) hk).step hc4 fun k hk hf => hf1 k (hf2 k (hf3 k hf (by omega)) (by omega)) hk
 ·exact fun k hf hk => hf1 k (hf2 k (hf3 k (hf4 k hf (by omega)) (by omega)) (by omega)) hk
end
end Go.Proofs.YtggknljlibhkjaaGreat
