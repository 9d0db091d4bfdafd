import Derived.Test.YtggknljlibhkjaaGreatGR2F
import Derived.Test.YtggknljlibhkjaaGreatGR2E
import Derived.Test.YtggknljlibhkjaaGreatGDo
set_option linter.unusedSimpArgs false
set_option linter.unusedVariables false
namespace Go.Proofs.YtggknljlibhkjaaGreat
open Go Go.RowKit
theorem modify_map_ {α β : Type} (m : α → β) (g : α → α) (g' : β → β) (hg : ∀ x, g' (m x) = m (g x)) : ∀ (l : List α) (i : Nat), (l.map m).modify i g' = (l.modify i g).map m
 | [], i => by cases i <;> rfl
 | x :: r, 0 => by simp [hg]
 | x :: r, i + 1 => by simp [modify_map_ m g g' hg r i]
theorem delD_perm2 {l m : List (ByteArray × Nat)} (hp : l.Perm m) (hk : (m.map (·.1)).Nodup) (nm : ByteArray) : (delD nm l).Perm (delD nm m) := by
 have hl := look_perm hp hk nm
 cases h : lookD nm m with
 | none =>
  rw [h] at hl
  rw [delD_gone h, delD_gone hl]
  exact hp
 | some g =>
  rw [h] at hl
  exact List.Perm.cons_inv (((delD_perm hl).trans hp).trans (delD_perm h).symm)
section
variable {v v' : V} {ρ : Nat → Nat}
theorem Sim.rdAt2 (h : Sim v v' ρ) (f : Int) : v'.rdAt f = (v.rdAt f).map fun r => ⟨ρ r.n, r.name, r.pos⟩ := by
 unfold V.rdAt
 rw [h.rd]
 by_cases h1 : 1 ≤ f
 ·simp only [if_pos h1, List.getElem?_map]
 ·simp only [if_neg h1, Option.map_none]
theorem rd_held {q : VR} (h : q ∈ v.rd) : q.n ∈ v.held := by
 unfold V.held
 exact List.mem_append.2 (.inr (List.mem_map.2 ⟨q, h, rfl⟩))
theorem dir_held {e : ByteArray × Nat} (h : e ∈ v.dir) : e.2 ∈ v.held := by
 unfold V.held
 exact List.mem_append.2 (.inl (List.mem_map.2 ⟨e, h, rfl⟩))
theorem VOk.held_lt (hv : VOk v) {n : Nat} (h : n ∈ v.held) : n < v.F.length := by
 unfold V.held at h
 rcases List.mem_append.1 h with h | h
 ·obtain ⟨e, he, rfl⟩ := List.mem_map.1 h; exact hv.db e he
 ·obtain ⟨e, he, rfl⟩ := List.mem_map.1 h; exact hv.rb e he
theorem Sim.held2 (h : Sim v v' ρ) {n : Nat} (hn : n ∈ v.held) : ρ n ∈ v'.held := (h.held _).2 ⟨n, hn, rfl⟩
theorem Sim.look (h : Sim v v' ρ) (nm : ByteArray) : lookD nm v'.dir = (lookD nm v.dir).map ρ := by
 rw [look_perm h.dir (by rw [List.map_map]; exact h.keys) nm, lookD_map]
theorem setPos_held (v : V) (f : Int) (p : Nat) : (v.setPos f p).held = v.held := by
 unfold V.setPos V.held
 split
 ·congr 1
  have : ∀ (l : List VR) (i : Nat), (l.modify i fun r => { r with pos := p }).map (·.n) = l.map (·.n) := fun l i => by
   have := modify_map_ (fun r : VR => r.n) (fun r => { r with pos := p }) id (fun _ => rfl) l i
   rw [List.modify_id] at this
   exact this.symm
  exact this _ _
 ·rfl
theorem setPos_F (v : V) (f : Int) (p : Nat) : (v.setPos f p).F = v.F ∧ (v.setPos f p).dir = v.dir ∧ (v.setPos f p).cap = v.cap := by
 unfold V.setPos
 split <;> exact ⟨rfl, rfl, rfl⟩
theorem Sim.setPos (h : Sim v v' ρ) (f : Int) (p : Nat) : Sim (v.setPos f p) (v'.setPos f p) ρ where
 cap := by rw [(setPos_F v f p).2.2, (setPos_F v' f p).2.2, h.cap]
 dir := by rw [(setPos_F v f p).2.1, (setPos_F v' f p).2.1]; exact h.dir
 rd := by
  unfold V.setPos
  split
  ·simp only
   rw [h.rd]
   exact modify_map_ (fun r : VR => (⟨ρ r.n, r.name, r.pos⟩ : VR)) (fun r : VR => { r with pos := p }) (fun r : VR => { r with pos := p }) (fun x => rfl) _ _
  ·exact h.rd
 bytes := fun n hn => by
  rw [setPos_held] at hn
  unfold V.bytes
  rw [(setPos_F v f p).1, (setPos_F v' f p).1]
  exact h.bytes n hn
 inj := fun a ha b hb => by
  rw [setPos_held] at ha hb
  exact h.inj a ha b hb
 keys := by rw [(setPos_F v f p).2.1]; exact h.keys
theorem Sim.setFile (h : Sim v v' ρ) (hv : VOk v) (hv' : VOk v') {n : Nat} (hn : n ∈ v.held) (b : List UInt8) : Sim (v.setFile n b) (v'.setFile (ρ n) b) ρ where
 cap := h.cap
 dir := h.dir
 rd := h.rd
 bytes := fun m hm => by
  have hm : m ∈ v.held := hm
  have h1 := hv.held_lt hn
  have h2 := hv'.held_lt (h.held2 hn)
  unfold V.bytes V.setFile
  simp only [List.getD_eq_getElem?_getD]
  rw [List.getElem?_set, List.getElem?_set]
  by_cases e : n = m
  ·subst e
   rw [if_pos rfl, if_pos rfl, if_pos h1, if_pos h2]
  ·rw [if_neg e, if_neg (fun e' => e (h.inj n hn m hm e'))]
   have := h.bytes m hm
   unfold V.bytes at this
   simpa only [List.getD_eq_getElem?_getD] using this
 inj := h.inj
 keys := h.keys
theorem Sim.ride (h : Sim v v' ρ) {n : Nat} (hn : n ∈ v.held) (nm : ByteArray) : Sim (v.ride n nm) (v'.ride (ρ n) nm) ρ where
 cap := h.cap
 dir := h.dir
 rd := by
  show v'.rd ++ _ = (v.rd ++ _).map _
  rw [List.map_append, h.rd]
  rfl
 bytes := fun m hm => by
  have hm : m ∈ v.held := by
   unfold V.held V.ride at hm
   simp only [List.map_append, List.map_cons, List.map_nil, List.mem_append, List.mem_cons, List.not_mem_nil, or_false] at hm
   unfold V.held
   rcases hm with h1 | h1 | rfl
   ·exact List.mem_append.2 (.inl h1)
   ·exact List.mem_append.2 (.inr h1)
   ·exact hn
  exact h.bytes m hm
 inj := by
  have key : ∀ m, m ∈ (v.ride n nm).held → m ∈ v.held := fun m hm => by
   unfold V.held V.ride at hm
   simp only [List.map_append, List.map_cons, List.map_nil, List.mem_append, List.mem_cons, List.not_mem_nil, or_false] at hm
   unfold V.held
   rcases hm with h1 | h1 | rfl
   ·exact List.mem_append.2 (.inl h1)
   ·exact List.mem_append.2 (.inr h1)
   ·exact hn
  exact fun a ha b hb => h.inj a (key a ha) b (key b hb)
 keys := h.keys
theorem Sim.fresh_ (h : Sim v v' ρ) (hv : VOk v) (hv' : VOk v') (nm : ByteArray) : ∃ ρ', Sim ((v.addFile []).ride v.F.length nm) ((v'.addFile []).ride v'.F.length nm) ρ' := by
 refine ⟨fun m => if m = v.F.length then v'.F.length else ρ m, ?_⟩
 have key : ∀ m, m ∈ ((v.addFile []).ride v.F.length nm).held → m = v.F.length ∨ m ∈ v.held ∧ m < v.F.length := fun m hm => by
  unfold V.held V.ride V.addFile at hm
  simp only [List.map_append, List.map_cons, List.map_nil, List.mem_append, List.mem_cons, List.not_mem_nil, or_false] at hm
  have h0 : m ∈ v.held → m < v.F.length := hv.held_lt
  rcases hm with h1 | h1 | rfl
  ·right; have : m ∈ v.held := by unfold V.held; exact List.mem_append.2 (.inl h1)
   exact ⟨this, h0 this⟩
  ·right; have : m ∈ v.held := by unfold V.held; exact List.mem_append.2 (.inr h1)
   exact ⟨this, h0 this⟩
  ·left; rfl
 have old : ∀ m, m ∈ v.held → (if m = v.F.length then v'.F.length else ρ m) = ρ m := fun m hm => if_neg (by have := hv.held_lt hm; omega)
 exact {
  cap := h.cap
  dir := by
   have e : (v.dir.map fun e => (e.1, if e.2 = v.F.length then v'.F.length else ρ e.2)) = v.dir.map fun e => (e.1, ρ e.2) :=
    List.map_congr_left fun e he => by rw [old e.2 (dir_held he)]
   show v'.dir.Perm (v.dir.map fun e => (e.1, if e.2 = v.F.length then v'.F.length else ρ e.2))
   rw [e]
   exact h.dir
  rd := by
   have e : (v.rd.map fun r : VR => (⟨if r.n = v.F.length then v'.F.length else ρ r.n, r.name, r.pos⟩ : VR)) = v.rd.map fun r : VR => (⟨ρ r.n, r.name, r.pos⟩ : VR) :=
    List.map_congr_left fun r hr => by rw [old r.n (rd_held hr)]
   show v'.rd ++ [(⟨v'.F.length, nm, 0⟩ : VR)] = (v.rd ++ [(⟨v.F.length, nm, 0⟩ : VR)]).map fun r : VR => (⟨if r.n = v.F.length then v'.F.length else ρ r.n, r.name, r.pos⟩ : VR)
   rw [List.map_append, e, h.rd]
   simp
  bytes := fun m hm => by
   rcases key m hm with rfl | ⟨h1, h2⟩
   ·simp [V.bytes, V.ride, V.addFile, List.getD_eq_getElem?_getD]
   ·simp only [old m h1]
    have h3 := hv'.held_lt (h.held2 h1)
    have := h.bytes m h1
    unfold V.bytes at this ⊢
    show (v'.F ++ [[]]).getD (ρ m) [] = (v.F ++ [[]]).getD m []
    rw [getD_app _ _ _ _ h2, getD_app _ _ _ _ h3]
    exact this
  inj := fun a ha b hb e => by
   rcases key a ha with rfl | ⟨ha1, ha2⟩
   ·rcases key b hb with rfl | ⟨hb1, hb2⟩
    ·rfl
    ·simp only [if_pos, old b hb1] at e
     have := hv'.held_lt (h.held2 hb1)
     omega
   ·rcases key b hb with rfl | ⟨hb1, hb2⟩
    ·simp only [if_pos, old a ha1] at e
     have := hv'.held_lt (h.held2 ha1)
     omega
    ·simp only [old a ha1, old b hb1] at e
     exact h.inj a ha1 b hb1 e
  keys := h.keys }
theorem Sim.del (h : Sim v v' ρ) (nm : ByteArray) : Sim (v.del nm) (v'.del nm) ρ := by
 have key : ∀ m, m ∈ (v.del nm).held → m ∈ v.held := fun m hm => by
  unfold V.held V.del at hm
  unfold V.held
  rcases List.mem_append.1 hm with h1 | h1
  ·exact List.mem_append.2 (.inl (((delD_sub nm v.dir).map (·.2)).subset h1))
  ·exact List.mem_append.2 (.inr h1)
 exact {
  cap := h.cap
  dir := by
   show (delD nm v'.dir).Perm ((delD nm v.dir).map fun e => (e.1, ρ e.2))
   rw [← delD_map]
   exact delD_perm2 h.dir (by rw [List.map_map]; exact h.keys) nm
  rd := h.rd
  bytes := fun m hm => h.bytes m (key m hm)
  inj := fun a ha b hb => h.inj a (key a ha) b (key b hb)
  keys := delD_keys nm h.keys }
theorem Sim.enter (h : Sim v v' ρ) {n : Nat} (hn : n ∈ v.held) (nm : ByteArray) : Sim (v.enter nm n) (v'.enter nm (ρ n)) ρ := by
 have hp := putD_perm nm n v.dir
 have key : ∀ m, m ∈ (v.enter nm n).held → m ∈ v.held := fun m hm => by
  unfold V.held V.enter at hm
  rcases List.mem_append.1 hm with h1 | h1
  ·have := (hp.map (·.2)).mem_iff.1 h1
   simp only [List.map_cons, List.mem_cons] at this
   rcases this with rfl | h2
   ·exact hn
   ·unfold V.held
    exact List.mem_append.2 (.inl (((delD_sub nm v.dir).map (·.2)).subset h2))
  ·unfold V.held
   exact List.mem_append.2 (.inr h1)
 exact {
  cap := h.cap
  dir := by
   show (putD nm (ρ n) v'.dir).Perm ((putD nm n v.dir).map fun e => (e.1, ρ e.2))
   have h1 := putD_perm nm (ρ n) v'.dir
   have h2 := hp.map fun e : ByteArray × Nat => (e.1, ρ e.2)
   refine h1.trans (List.Perm.trans ?_ h2.symm)
   simp only [List.map_cons]
   exact List.Perm.cons _ (h.del nm).dir
  rd := h.rd
  bytes := fun m hm => h.bytes m (key m hm)
  inj := fun a ha b hb => h.inj a (key a ha) b (key b hb)
  keys := by
   show ((putD nm n v.dir).map (·.1)).Nodup
   have h1 := hp.map (·.1)
   rw [h1.nodup_iff]
   simp only [List.map_cons]
   exact List.nodup_cons.2 ⟨delD_not h.keys, delD_keys nm h.keys⟩ }
theorem Sim.read (h : Sim v v' ρ) (f : Int) : (v'.read f).1 = (v.read f).1 ∧ Sim (v.read f).2 (v'.read f).2 ρ := by
 unfold V.read
 rw [h.rdAt2]
 cases hr : v.rdAt f with
 | none => exact ⟨rfl, h⟩
 | some q =>
  simp only [Option.map_some, h.bytes q.n (rd_held (rdAt_mem2 hr))]
  cases (v.bytes q.n)[q.pos]? with
  | none => exact ⟨rfl, h⟩
  | some c => exact ⟨rfl, h.setPos _ _⟩
theorem Sim.readWord (h : Sim v v' ρ) (f : Int) : (v'.readWord f).1 = (v.readWord f).1 ∧ Sim (v.readWord f).2 (v'.readWord f).2 ρ := by
 obtain ⟨a1, h1⟩ := h.read f
 obtain ⟨a2, h2⟩ := h1.read f
 obtain ⟨a3, h3⟩ := h2.read f
 obtain ⟨a4, h4⟩ := h3.read f
 unfold V.readWord
 simp only [a1, a2, a3, a4]
 exact ⟨trivial, h4⟩
theorem Sim.write (h : Sim v v' ρ) (hv : VOk v) (hv' : VOk v') (f : Int) (l : List UInt8) : (v'.write f l).1 = (v.write f l).1 ∧ Sim (v.write f l).2 (v'.write f l).2 ρ := by
 unfold V.write
 rw [h.rdAt2]
 cases hr : v.rdAt f with
 | none => exact ⟨rfl, h⟩
 | some q =>
  have hq := rd_held (rdAt_mem2 hr)
  simp only [Option.map_some, h.bytes q.n hq, h.room]
  split
  ·exact ⟨rfl, (h.setFile hv hv' hq _).setPos _ _⟩
  ·exact ⟨rfl, h⟩
theorem Sim.seek (h : Sim v v' ρ) (f : Int) (n : Nat) : Sim (v.seek f n) (v'.seek f n) ρ := by
 unfold V.seek
 rw [h.rdAt2]
 cases hr : v.rdAt f with
 | none => exact h
 | some q =>
  simp only [Option.map_some, h.bytes q.n (rd_held (rdAt_mem2 hr))]
  exact h.setPos _ _
theorem Sim.old (h : Sim v v' ρ) (nm : ByteArray) : (v'.old nm).1 = (v.old nm).1 ∧ Sim (v.old nm).2 (v'.old nm).2 ρ := by
 have hl : v'.rd.length = v.rd.length := by rw [h.rd, List.length_map]
 unfold V.old
 rw [hl, h.look]
 split
 ·cases hk : lookD nm v.dir with
  | none => exact ⟨rfl, h⟩
  | some n => exact ⟨rfl, h.ride (dir_held (lookD_mem hk)) nm⟩
 ·exact ⟨rfl, h⟩
theorem Sim.fresh (h : Sim v v' ρ) (hv : VOk v) (hv' : VOk v') (nm : ByteArray) : (v'.fresh nm).1 = (v.fresh nm).1 ∧ ∃ ρ', Sim (v.fresh nm).2 (v'.fresh nm).2 ρ' := by
 have hl : v'.rd.length = v.rd.length := by rw [h.rd, List.length_map]
 unfold V.fresh
 rw [hl]
 split
 ·exact ⟨rfl, h.fresh_ hv hv' nm⟩
 ·exact ⟨rfl, ρ, h⟩
theorem Sim.register (h : Sim v v' ρ) (f : Int) : (v'.register f).1 = (v.register f).1 ∧ Sim (v.register f).2 (v'.register f).2 ρ := by
 have hl : v'.dir.length = v.dir.length := by have := h.dir.length_eq; rwa [List.length_map] at this
 unfold V.register
 rw [h.rdAt2]
 cases hr : v.rdAt f with
 | none => exact ⟨rfl, h⟩
 | some q =>
  simp only [Option.map_some, h.look, hl]
  have e : ((lookD q.name v.dir).map ρ ≠ none ∨ v.dir.length < 200) ↔ (lookD q.name v.dir ≠ none ∨ v.dir.length < 200) := by simp
  by_cases hc : lookD q.name v.dir ≠ none ∨ v.dir.length < 200
  ·rw [if_pos hc, if_pos (e.2 hc)]
   exact ⟨rfl, h.enter (rd_held (rdAt_mem2 hr)) _⟩
  ·rw [if_neg hc, if_neg (fun h' => hc (e.1 h'))]
   exact ⟨rfl, h⟩
theorem Sim.eof (h : Sim v v' ρ) (f : Int) : v'.eof f = v.eof f := by
 unfold V.eof
 rw [h.rdAt2]
 cases hr : v.rdAt f with
 | none => rfl
 | some q => simp only [Option.map_some, h.bytes q.n (rd_held (rdAt_mem2 hr))]
theorem Sim.length (h : Sim v v' ρ) (f : Int) : v'.length f = v.length f := by
 unfold V.length
 rw [h.rdAt2]
 cases hr : v.rdAt f with
 | none => rfl
 | some q => simp only [Option.map_some, h.bytes q.n (rd_held (rdAt_mem2 hr))]
end
end Go.Proofs.YtggknljlibhkjaaGreat
set_option linter.unusedSimpArgs false
set_option linter.unusedVariables false
namespace Go.Proofs.YtggknljlibhkjaaGreat
open Go Go.RowKit
structure Sz (v : V) (k : Nat) : Prop where
 f : v.F.length ≤ k
 r : v.rd.length ≤ k
 d : v.dir.length ≤ k
 b : ∀ n, (v.bytes n).length ≤ 20000 * k
section
variable {v U : V} {k : Nat}
theorem Sz.more (h : Sz v k) {j : Nat} (hj : k ≤ j) : Sz v j := ⟨by have := h.f; omega, by have := h.r; omega, by have := h.d; omega, fun n => by have := h.b n; omega⟩
theorem Sz.rd_ (h : Sz v k) {rd : List VR} (hl : rd.length ≤ k + 1) : Sz { v with rd := rd } (k + 1) := ⟨by have := h.f; show v.F.length ≤ _; omega, hl, by have := h.d; show v.dir.length ≤ _; omega, fun n => by have := h.b n; show (v.bytes n).length ≤ _; omega⟩
theorem Sz.setPos (h : Sz v k) (f : Int) (p : Nat) : Sz (v.setPos f p) k := by
 unfold V.setPos
 split
 ·exact ⟨h.f, by simp only [List.length_modify]; exact h.r, h.d, h.b⟩
 ·exact h
theorem Sz.setFile (h : Sz v k) (n : Nat) {b : List UInt8} (hb : b.length ≤ 20000 * (k + 1)) : Sz (v.setFile n b) (k + 1) := by
 refine ⟨by simp only [V.setFile, List.length_set]; have := h.f; omega, by have := h.r; show v.rd.length ≤ _; omega, by have := h.d; show v.dir.length ≤ _; omega, fun m => ?_⟩
 unfold V.setFile V.bytes
 simp only [List.getD_eq_getElem?_getD]
 rw [List.getElem?_set]
 split
 ·split
  ·exact hb
  ·simp
 ·have := h.b m
  unfold V.bytes at this
  rw [List.getD_eq_getElem?_getD] at this
  omega
theorem Sz.addFile (h : Sz v k) {b : List UInt8} (hb : b.length ≤ 20000) : Sz (v.addFile b) (k + 1) := by
 refine ⟨by simp only [V.addFile, List.length_append, List.length_cons, List.length_nil]; have := h.f; omega, by have := h.r; show v.rd.length ≤ _; omega, by have := h.d; show v.dir.length ≤ _; omega, fun m => ?_⟩
 unfold V.addFile V.bytes
 simp only [List.getD_eq_getElem?_getD]
 by_cases hm : m < v.F.length
 ·rw [List.getElem?_append_left hm]
  have := h.b m
  unfold V.bytes at this
  rw [List.getD_eq_getElem?_getD] at this
  omega
 ·rw [List.getElem?_append_right (by omega)]
  cases hq : m - v.F.length with
  | zero => simp; omega
  | succ j => simp
theorem putD_len (nm : ByteArray) (g : Nat) (l : List (ByteArray × Nat)) : (putD nm g l).length ≤ l.length + 1 := by
 have := (putD_perm nm g l).length_eq
 have h2 := delD_count nm l
 simp only [List.length_cons] at this
 omega
theorem Sz.dir_ (h : Sz v k) {d : List (ByteArray × Nat)} (hd : d.length ≤ k + 1) : Sz { v with dir := d } (k + 1) :=
 ⟨by have := h.f; show v.F.length ≤ _; omega, by have := h.r; show v.rd.length ≤ _; omega, hd, fun n => by have := h.b n; show (v.bytes n).length ≤ _; omega⟩
theorem Sz.ride (h : Sz v k) (n : Nat) (nm : ByteArray) : Sz (v.ride n nm) (k + 1) := h.rd_ (by rw [List.length_append]; have := h.r; simp only [List.length_cons, List.length_nil]; omega)
theorem Sz.enter (h : Sz v k) (nm : ByteArray) (n : Nat) : Sz (v.enter nm n) (k + 1) := h.dir_ (by have := putD_len nm n v.dir; have := h.d; omega)
theorem Sz.del (h : Sz v k) (nm : ByteArray) : Sz (v.del nm) k := ⟨h.f, h.r, Nat.le_trans (delD_count nm v.dir) h.d, h.b⟩
theorem Sz.read (h : Sz v k) (f : Int) : Sz (v.read f).2 k := by
 unfold V.read
 cases v.rdAt f with
 | none => exact h
 | some q =>
  simp only
  cases (v.bytes q.n)[q.pos]? with
  | none => exact h
  | some c => exact h.setPos _ _
theorem Sz.write (h : Sz v k) (hv : VGood v) (f : Int) {l : List UInt8} (hl : l.length ≤ 20000) : Sz (v.write f l).2 (k + 1) := by
 unfold V.write
 cases hr : v.rdAt f with
 | none => exact h.more (by omega)
 | some q =>
  simp only
  split
  ·refine Sz.setPos (h.setFile _ ?_) _ _
   rw [wr_length]
   have h1 := hv.ps q (rdAt_mem2 hr)
   have h2 := h.b q.n
   omega
  ·exact h.more (by omega)
theorem Sz.put (h : Sz v k) (nm : ByteArray) {l : List UInt8} (hl : l.length ≤ 20000) : Sz (v.put nm l).2 (k + 1) := by
 unfold V.put
 split
 ·split
  ·split
   ·have h1 := (h.del nm).addFile hl
    refine ⟨h1.f, h1.r, ?_, h1.b⟩
    have h2 := putD_len nm v.F.length (delD nm v.dir)
    have h3 := delD_count nm v.dir
    have h4 := h.d
    show (putD nm v.F.length (delD nm v.dir)).length ≤ k + 1
    omega
   ·simp only
    split
    ·exact (h.del nm).more (by omega)
    ·exact (h.del nm).enter _ _
  ·exact h.more (by omega)
 ·exact h.more (by omega)
theorem Sz.step (h : Sz v k) (hv : VGood v) (x : St) (hx : x.b.length ≤ 20000) : Sz (v.doS x).2 (k + 1) := by
 unfold V.doS
 split
 ·unfold V.old
  split
  ·cases lookD x.nm v.dir with
   | none => exact h.more (by omega)
   | some n => exact h.ride _ _
  ·exact h.more (by omega)
 split
 ·unfold V.fresh
  split
  ·have h1 := h.addFile (b := []) (by simp)
   exact ⟨h1.f, by show (v.rd ++ [_]).length ≤ _; rw [List.length_append]; have := h.r; simp only [List.length_cons, List.length_nil]; omega, h1.d, h1.b⟩
  ·exact h.more (by omega)
 split
 ·exact (h.read _).more (by omega)
 split
 ·unfold V.readWord
  exact ((((h.read _).read _).read _).read _).more (by omega)
 split
 ·exact h.write hv _ (by simp)
 split
 ·exact h.write hv _ (by simp [bytesOfWord])
 split
 ·unfold V.seek
  cases v.rdAt x.f with
  | none => exact h.more (by omega)
  | some q => exact (h.setPos _ _).more (by omega)
 split
 ·unfold V.register
  cases v.rdAt x.f with
  | none => exact h.more (by omega)
  | some q =>
   simp only
   split
   ·exact h.enter _ _
   ·exact h.more (by omega)
 split
 ·exact (h.del _).more (by omega)
 split
 ·exact h.put _ hx
 split
 ·unfold V.drop
  split
  ·split
   ·exact h.more (by omega)
   ·exact (h.del _).more (by omega)
  ·exact h.more (by omega)
 ·exact h.more (by omega)
theorem RS.small (h : RS v U) (hz : Sz v k) (hk : k ≤ 1000) (hc : v.cap ≤ 67108864) : RSmall U where
 r := by rw [h.rd]; have := hz.r; omega
 d := by rw [h.len]; have := hz.d; omega
 f := by rw [h.F]; have := hz.f; omega
 b := fun n => by rw [h.bytes]; have := hz.b n; omega
 c := by rw [h.cap]; omega
theorem RS.start_ (c : Nat) : RS ⟨c, [], [], []⟩ ⟨c, [], [], []⟩ := ⟨rfl, rfl, rfl, List.Perm.refl _, List.Pairwise.nil⟩
end
end Go.Proofs.YtggknljlibhkjaaGreat
set_option linter.unusedSimpArgs false
set_option linter.unusedVariables false
namespace Go.Proofs.YtggknljlibhkjaaGreat
open Go Go.RowKit
theorem ref_start (W : World) (cap : Nat) (X : Nat → Prop) (hX : ∀ k, X k → k < W.heap.size) : RefAt (W.alloc (.cells #[.slice none 0 0, .slice none 0 0, .slice none 0 0, .int .i64 cap] RST)) W.heap.size ⟨cap, [], [], []⟩ X ⟨.slice none 0 0, .slice none 0 0, .slice none 0 0, []⟩ where
 blk := Blk.new _ _ _
 F := World.ownsRow_nil _ _ _ _
 f := fun i b h => by simp at h
 D := World.ownsRow_nil _ _ _ _
 R := World.ownsRow_nil _ _ _ _
 xF := fun k h => by simp [Value.ownBlock] at h
 xD := fun k h => by simp [Value.ownBlock] at h
 xR := fun k h => by simp [Value.ownBlock] at h
 xr := fun h => absurd (hX _ h) (by omega)
 db := fun e h => by simp at h
 rb := fun e h => by simp at h
section
variable {w0 W W' : World} {s r k : Nat} {v U : V}
def Two (w0 W : World) (s r : Nat) (v U : V) : Prop := ∃ base F a, StoreV base W s v F ∧ RefAt W r U F a ∧ (∀ j, F j → w0.heap.size ≤ j) ∧ w0.heap.size ≤ r ∧ Chg NoB w0 W
theorem Two.quiet (h : Two w0 W s r v U) (hc : Chg NoB W W') : Two w0 W' s r v U := by
 obtain ⟨base, F, a, h1, h2, h3, h4, h7⟩ := h
 exact ⟨base, F, a, h1.quiet hc, h2.quiet hc, h3, h4, h7.trans hc⟩
theorem Two.chg (h : Two w0 W s r v U) : Chg NoB w0 W := by
 obtain ⟨base, F, a, h1, h2, h3, h4, h7⟩ := h
 exact h7
theorem Two.good (h : Two w0 W s r v U) : VGood v ∧ v.cap ≤ 67108864 := by
 obtain ⟨base, F, a, h1, h2, h3⟩ := h
 exact ⟨h1.good, h1.fits.2⟩
theorem two_start {cap base : Nat} {F : Nat → Prop} (h : StoreV base W s ⟨cap, [], [], []⟩ F) (hb : w0.heap.size ≤ base) (hc : Chg NoB w0 W) : Two w0 (W.alloc (.cells #[.slice none 0 0, .slice none 0 0, .slice none 0 0, .int .i64 cap] RST)) s W.heap.size ⟨cap, [], [], []⟩ ⟨cap, [], [], []⟩ :=
 ⟨base, F, _, h.quiet ((Chg.refl _ _).alloc _), ref_start W cap F (fun k hk => h.lt hk), fun j hj => Nat.le_trans hb (h.low hj), hc.size, hc.alloc _⟩
theorem Two.do_ (h : Two w0 W s r v U) (x : St) (hx : StepOk W x) : Calls Tryz.prog 30 #[.agg #[], .pointer (some ⟨s, 0, none⟩), x.v] W fun e W' => e = .returned (.int .u32 (v.doS x).1) ∧ Two w0 W' s r (v.doS x).2 U := by
 obtain ⟨base, F, a, h1, h2, h5, h9, h10⟩ := h
 refine (do_c h1 x hx).mono fun e W' ⟨he, F1, g1, g2, g3⟩ => ?_
 have hc : Chg NoB w0 W' := h10.step g2 fun j hj hF => absurd (h5 j hF) (by omega)
 have hs := h10.size
 refine ⟨he, base, F1, a, g1, ?_, ?_, h9, hc⟩
 ·have e1 := h2.apart (X' := fun j => F j ∨ F1 j) (fun j hj => hj.elim .inl fun h => by
   rcases Nat.lt_or_ge j W.heap.size with hl | hl
   ·exact .inl (g3 j h hl)
   ·exact .inr hl)
  exact (e1.chg g2 fun j hj => .inl hj).apart (X' := F1) fun j hj => .inl (.inr hj)
 ·intro j hj
  rcases Nat.lt_or_ge j W.heap.size with hl | hl
  ·exact h5 j (g3 j hj hl)
  ·omega
theorem Two.rdo (h : Two w0 W s r v U) (hs : RSmall U) (hpos : ∀ p ∈ U.rd, p.pos ≤ (U.bytes p.n).length) (x : St) (hx : StepOk W x) : Calls Tryz.prog 31 #[.pointer (some ⟨r, 0, none⟩), x.v] W fun e W' => e = .returned (.int .u32 (doR U x).1) ∧ Two w0 W' s r v (doR U x).2 := by
 obtain ⟨base, F, a, h1, h2, h5, h9, h10⟩ := h
 refine (rdo_c h2 (fun k hk => h1.lt hk) hs hpos x hx).mono fun e W' ⟨he, ⟨a', g1⟩, g2⟩ => ?_
 have hc : Chg NoB w0 W' := h10.step g2 fun j hj hF => by omega
 exact ⟨he, base, F, a', h1.chg g2 (fun j hj e => h2.xr (e ▸ hj)), g1, h5, h9, hc⟩
end
end Go.Proofs.YtggknljlibhkjaaGreat
