/- What is proved: what the functions of a store do, said of stores as plain data. Conditions: the memory holds a store. -/
import Derived.Test.YteleglkoagnmcaaStoreV
set_option linter.unusedSimpArgs false
set_option linter.unusedVariables false
namespace Go.Proofs.Yteleglkoagnmcaa
open Go.RowKit

namespace V
def read (v : V) (f : Int) : UInt8 × V :=
  match v.rdAt f with
  | none => (0, v)
  | some q => match (v.bytes q.n)[q.pos]? with
    | none => (0, v)
    | some c => (c, v.setPos f (q.pos + 1))
def readWord (v : V) (f : Int) : Nat × V :=
  (word4 (v.read f).1 ((v.read f).2.read f).1 (((v.read f).2.read f).2.read f).1 ((((v.read f).2.read f).2.read f).2.read f).1, ((((v.read f).2.read f).2.read f).2.read f).2)
def write (v : V) (f : Int) (l : List UInt8) : Nat × V :=
  match v.rdAt f with
  | none => (0, v)
  | some q => if q.pos + l.length ≤ (v.bytes q.n).length + v.room then (0, (v.setFile q.n (wr (v.bytes q.n) q.pos l)).setPos f (q.pos + l.length)) else (5, v)
def seek (v : V) (f : Int) (n : Nat) : V :=
  match v.rdAt f with
  | none => v
  | some q => v.setPos f (seekTo n (v.bytes q.n).length)
def old (v : V) (nm : ByteArray) : Nat × V :=
  if mayName nm = true ∧ v.rd.length < 255 then
    match lookD nm v.dir with
    | none => (0, v)
    | some n => (v.rd.length + 1, v.ride n nm)
  else (0, v)
def fresh (v : V) (nm : ByteArray) : Nat × V :=
  if mayName nm = true ∧ v.rd.length < 255 then (v.rd.length + 1, (v.addFile []).ride v.F.length nm) else (0, v)
def register (v : V) (f : Int) : Nat × V :=
  match v.rdAt f with
  | none => (0, v)
  | some q => if lookD q.name v.dir ≠ none ∨ v.dir.length < 200 then (0, v.enter q.name q.n) else (5, v)
def put (v : V) (nm : ByteArray) (l : List UInt8) : Nat × V :=
  if mayName nm = true then
    if lookD nm v.dir ≠ none ∨ v.dir.length < 200 then
      if l.length ≤ (v.del nm).room then (0, ((v.del nm).addFile l).enter nm v.F.length)
      else (5, match lookD nm v.dir with
        | none => v.del nm
        | some g => (v.del nm).enter nm g)
    else (5, v)
  else (2, v)
def eof (v : V) (f : Int) : Bool :=
  match v.rdAt f with
  | none => true
  | some q => decide (q.pos = (v.bytes q.n).length)
def length (v : V) (f : Int) : Nat :=
  match v.rdAt f with
  | none => 0
  | some q => (v.bytes q.n).length
def posOf (v : V) (f : Int) : Nat :=
  match v.rdAt f with
  | none => 0
  | some q => q.pos
end V

section
variable {base : Nat} {w : World} {s : Nat} {v : V} {F : Nat → Prop} {S : Sto}

theorem room_v (h : StoreV base w s v F) : Calls Try.prog 41 #[ptr s] w (VPost base s F (.int .i64 v.room) v w) := by
  have h0 := h
  obtain ⟨S, φ, h1, h2, rfl⟩ := h
  refine (room_c h1).mono fun e w' ⟨he, hch⟩ => VPost.quiet h0 (by rw [he, h2.room]) hch

theorem put_v (h : StoreV base w s v F) (nm : ByteArray) (hsz : nm.size ≤ maxLen) {A : Option Addr} {c : Nat} {l : List UInt8} (hA : A = none → l = [] ∧ c = 0) (hcl : CellsAt w A (bv l)) :
    Calls Try.prog 22 #[ptr s, .string nm, .slice A l.length c] w (VPost base s F (.int .i64 (v.put nm l).1) (v.put nm l).2 w) := by
  have h0 := h
  obtain ⟨S, φ, h1, h2, rfl⟩ := h
  by_cases hn : mayName nm = true
  · have hlk : lookD nm S.dir ≠ none ↔ lookD nm v.dir ≠ none := by rw [h2.look]; cases lookD nm v.dir <;> simp
    by_cases hd : lookD nm v.dir ≠ none ∨ v.dir.length < 200
    · have hd' : lookD nm S.dir ≠ none ∨ S.dir.length < 200 := hd.imp hlk.2 (fun h => by rw [h2.dlen]; exact h)
      by_cases hfit : l.length ≤ (v.del nm).room
      · have e1 : v.put nm l = (0, ((v.del nm).addFile l).enter nm v.F.length) := by unfold V.put; rw [if_pos hn, if_pos hd, if_pos hfit]
        rw [e1]
        refine (put_ok h1 hsz hn hd' hA hcl (by rw [(h2.del nm).room]; exact hfit)).mono fun e w' hp => ?_
        obtain ⟨f, A', c', he, hnone, hs, hch, hf⟩ := hp
        have h3 := (h2.del nm).addFile (x := ⟨A', c', l⟩) hnone
        have h4 := h3.enter nm (n := v.F.length) (by simp [h2.len])
        have e2 : (φ ++ [f]).getD v.F.length 0 = f := by rw [← h2.len]; simp
        rw [e2] at h4
        exact ⟨he, _, ⟨_, _, hs, h4, rfl⟩, hch, hf⟩
      · cases hl : lookD nm v.dir with
        | none =>
          have e1 : v.put nm l = (5, v.del nm) := by unfold V.put; rw [if_pos hn, if_pos hd, if_neg hfit, hl]
          rw [e1]
          have hlt : v.dir.length < 200 := hd.elim (fun h => absurd hl h) id
          refine (put_full_none h1 hsz hn (by rw [h2.look, hl]; rfl) (by rw [h2.dlen]; exact hlt) (by rw [(h2.del nm).room]; exact Nat.lt_of_not_le hfit)).mono fun e w' ⟨he, hs, hch⟩ => ?_
          exact ⟨he, _, ⟨_, φ, hs, h2.del nm, rfl⟩, hch.mono (fun k _ hk => .inr (.inl hk)), fun k hk _ => hk⟩
        | some g =>
          have e1 : v.put nm l = (5, (v.del nm).enter nm g) := by unfold V.put; rw [if_pos hn, if_pos hd, if_neg hfit, hl]
          rw [e1]
          refine (put_full_some h1 (g := φ.getD g 0) hsz hn (by rw [h2.look, hl]; rfl) (by rw [(h2.del nm).room]; exact Nat.lt_of_not_le hfit)).mono fun e w' ⟨he, hs, hch⟩ => ?_
          exact ⟨he, _, ⟨_, φ, hs, (h2.del nm).enter nm (h2.look_lt hl), rfl⟩, hch.mono (fun k _ hk => .inr (.inl hk)), fun k hk _ => hk⟩
    · have e1 : v.put nm l = (5, v) := by unfold V.put; rw [if_pos hn, if_neg hd]
      rw [e1]
      have hl : lookD nm S.dir = none := by
        cases hh : lookD nm S.dir with
        | none => rfl
        | some g => exact absurd (.inl (hlk.1 (by rw [hh]; simp))) hd
      refine (put_files h1 hsz hn hl (by rw [h2.dlen]; exact Nat.le_of_not_lt (fun h => hd (.inr h))) _).mono fun e w' ⟨he, hch⟩ => VPost.quiet h0 he hch
  · have e1 : v.put nm l = (2, v) := by unfold V.put; rw [if_neg hn]
    rw [e1]
    refine (put_arg h1 hsz (by simpa using hn) _).mono fun e w' ⟨he, hch⟩ => VPost.quiet h0 he hch

theorem writePost_v {S : Sto} {φ : List Nat} (h2 : Rep S v φ) {f : Int} {q : VR} {r : Rd} {A : Option Addr} {c : Nat} {l : List UInt8} {e : Ending} {w' : World} (a2 : r.f = φ.getD q.n 0) (a4 : r.pos = q.pos) (a5 : q.n < φ.length)
    (hp : WritePost base s S f r ⟨A, c, v.bytes q.n⟩ l w e w') : VPost base s (foot s S) (.int .i64 0) ((v.setFile q.n (wr (v.bytes q.n) q.pos l)).setPos f (q.pos + l.length)) w e w' := by
  obtain ⟨A', c', he, hs, hch, hf⟩ := hp
  simp only at hs hf
  rw [a4, a2] at hs hf
  exact ⟨he, _, ⟨_, φ, hs, (h2.setFile (y := ⟨A', c', wr (v.bytes q.n) q.pos l⟩) a5).setPos f _, rfl⟩, hch, hf⟩

theorem new_v (c : Nat) (hc : c ≤ 67108864) (w : World) : Calls Try.prog 27 #[.int .i64 c] w fun e w' => ∃ s F, e = .returned (.tuple #[ptr s, .int .i64 0]) ∧ StoreV w.heap.size w' s ⟨c, [], [], []⟩ F ∧ Chg NoB w w' := by
  refine (new_ok c hc w).mono fun e w' hp => ?_
  obtain ⟨s, mb, he, hs, hch⟩ := hp
  exact ⟨s, _, he, ⟨_, [], hs, ⟨rfl, rfl, List.nodup_nil, fun i hi => absurd hi (by simp), rfl, (fun e he => by cases he), rfl, (fun e he => by cases he)⟩, rfl⟩, hch⟩

/-- what Get tells -/
def VGet (base s : Nat) (v : V) (F : Nat → Prop) (l : List UInt8) (w : World) (e : Ending) (w' : World) : Prop :=
  ∃ A c, e = .returned (.tuple #[.slice A l.length c, .int .i64 0]) ∧ w'.ownsRow w.heap.size 5 1 (.slice A l.length c) l.length (bv l) ∧ StoreV base w' s v F ∧ Chg NoB w w'
theorem get_v (h : StoreV base w s v F) {nm : ByteArray} {n : Nat} (hsz : nm.size ≤ maxLen) (hn : mayName nm = true) (hl : lookD nm v.dir = some n) : Calls Try.prog 35 #[ptr s, .string nm] w (VGet base s v F (v.bytes n) w) := by
  have h0 := h
  obtain ⟨S, φ, h1, h2, rfl⟩ := h
  have hlt := h2.look_lt hl
  obtain ⟨A, c, hfl⟩ := h2.fl n hlt
  refine (get_ok h1 (f := φ.getD n 0) (x := ⟨A, c, v.bytes n⟩) hsz hn (by rw [h2.look, hl]; rfl) (by rw [getD_lt hlt]; exact hfl)).mono fun e w' hp => ?_
  obtain ⟨A', c', he, ho, hch⟩ := hp
  exact ⟨A', c', he, ho, h0.quiet hch, hch⟩
theorem getno_v (h : StoreV base w s v F) {nm : ByteArray} (hsz : nm.size ≤ maxLen) (n : Nat) (hn : mayName nm = false ∧ n = 2 ∨ mayName nm = true ∧ lookD nm v.dir = none ∧ n = 6) :
    Calls Try.prog 35 #[ptr s, .string nm] w (VPost base s F (.tuple #[.slice none 0 0, .int .i64 n]) v w) := by
  have h0 := h
  obtain ⟨S, φ, h1, h2, rfl⟩ := h
  refine (get_no h1 hsz (n := (n : Int)) ?_).mono fun e w' ⟨he, hch⟩ => VPost.quiet h0 he hch
  rcases hn with ⟨a, b⟩ | ⟨a, b, c⟩
  · exact .inl ⟨a, by omega⟩
  · exact .inr ⟨a, by rw [h2.look, b]; rfl, by omega⟩

end
end Go.Proofs.Yteleglkoagnmcaa
