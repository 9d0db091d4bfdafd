/- What is proved: the plain law of StoreRooms: what is refused changes nothing; each file is under one name; copies look alike; a store carried through the law, with its copy. Conditions: none. -/
import Derived.Test.YtlglnebnldmceaaSteps
import Derived.Test.YtlglnebnldmceaaGCp
import Derived.Test.YtlglnebnldmceaaSmB
import Derived.Test.YtlglnebnldmceaaFiR
set_option linter.unusedSimpArgs false
set_option linter.unusedVariables false
namespace Go.Proofs.Ytlglnebnldmceaa
open Go.RowKit Go.Maps Go.Sort
/-- each file is under one name -/
structure VI (v : V) : Prop where
  one : ∀ e ∈ v.dir, ∀ e' ∈ v.dir, e.2 = e'.2 → e.1 = e'.1
  dr : ∀ e ∈ v.dir, ∀ r ∈ v.rd, e.2 = r.n → e.1 = r.name
  rr : ∀ r ∈ v.rd, ∀ r' ∈ v.rd, r.n = r'.n → r.name = r'.name
  db : ∀ e ∈ v.dir, e.2 < v.F.length
  rb : ∀ r ∈ v.rd, r.n < v.F.length
section
variable {v v' : V}
theorem VI.sub (h : VI v) (hd : ∀ e ∈ v'.dir, e ∈ v.dir) (hr : ∀ r ∈ v'.rd, ∃ q ∈ v.rd, r.n = q.n ∧ r.name = q.name) (hF : v.F.length ≤ v'.F.length) : VI v' := by
  refine ⟨fun e he e' he' => h.one e (hd e he) e' (hd e' he'), fun e he r hr' hn => ?_, fun r hr1 r' hr2 hn => ?_, fun e he => Nat.lt_of_lt_of_le (h.db e (hd e he)) hF, fun r hr' => ?_⟩
  · obtain ⟨q, hq, h1, h2⟩ := hr r hr'
    rw [h2]; exact h.dr e (hd e he) q hq (by rw [hn, h1])
  · obtain ⟨q, hq, h1, h2⟩ := hr r hr1
    obtain ⟨q', hq', h3, h4⟩ := hr r' hr2
    rw [h2, h4]; exact h.rr q hq q' hq' (by rw [← h1, ← h3, hn])
  · obtain ⟨q, hq, h1, _⟩ := hr r hr'
    rw [h1]; exact Nat.lt_of_lt_of_le (h.rb q hq) hF
theorem VI.setPos (h : VI v) (f : Int) (p : Nat) : VI (v.setPos f p) := by
  unfold V.setPos
  split
  · refine h.sub (fun _ he => he) (fun r hr => ?_) (Nat.le_refl _)
    rcases mem_modify hr with hr | ⟨y, hy, rfl⟩
    · exact ⟨r, hr, rfl, rfl⟩
    · exact ⟨y, List.mem_of_getElem? hy, rfl, rfl⟩
  · exact h
theorem VI.setFile (h : VI v) (n : Nat) (b : List UInt8) : VI (v.setFile n b) := h.sub (fun _ he => he) (fun r hr => ⟨r, hr, rfl, rfl⟩) (by simp [V.setFile])
theorem VI.addFile (h : VI v) (b : List UInt8) : VI (v.addFile b) := h.sub (fun _ he => he) (fun r hr => ⟨r, hr, rfl, rfl⟩) (by simp [V.addFile])
theorem VI.del (h : VI v) (nm : ByteArray) : VI (v.del nm) := h.sub (fun e he => (delD_sub nm v.dir).subset he) (fun r hr => ⟨r, hr, rfl, rfl⟩) (Nat.le_refl _)
theorem VI.ride (h : VI v) {n : Nat} {nm : ByteArray} (hn : n < v.F.length) (hd : ∀ e ∈ v.dir, e.2 = n → e.1 = nm) (hr : ∀ r ∈ v.rd, r.n = n → r.name = nm) : VI (v.ride n nm) := by
  have hm : ∀ r ∈ (v.ride n nm).rd, r ∈ v.rd ∨ r = ⟨n, nm, 0⟩ := fun r hr => by
    unfold V.ride at hr
    simpa using hr
  refine ⟨h.one, fun e he r hr' hne => ?_, fun r h1 r' h2 hne => ?_, h.db, fun r hr' => ?_⟩
  · rcases hm r hr' with h1 | rfl
    · exact h.dr e he r h1 hne
    · exact hd e he hne
  · rcases hm r h1 with h3 | rfl <;> rcases hm r' h2 with h4 | rfl
    · exact h.rr r h3 r' h4 hne
    · exact hr r h3 hne
    · exact (hr r' h4 hne.symm).symm
    · rfl
  · rcases hm r hr' with h1 | rfl
    · exact h.rb r h1
    · exact hn
theorem VI.enter (h : VI v) {n : Nat} {nm : ByteArray} (hn : n < v.F.length) (hd : ∀ e ∈ v.dir, e.2 = n → e.1 = nm) (hr : ∀ r ∈ v.rd, r.n = n → r.name = nm) : VI (v.enter nm n) := by
  have hm : ∀ e ∈ (v.enter nm n).dir, e = (nm, n) ∨ e ∈ v.dir := fun e he => mem_putD he
  refine ⟨fun e h1 e' h2 hne => ?_, fun e he r hr' hne => ?_, h.rr, fun e he => ?_, h.rb⟩
  · rcases hm e h1 with rfl | h3 <;> rcases hm e' h2 with rfl | h4
    · rfl
    · exact (hd e' h4 hne.symm).symm
    · exact hd e h3 hne
    · exact h.one e h3 e' h4 hne
  · rcases hm e he with rfl | h3
    · exact (hr r hr' hne.symm).symm
    · exact h.dr e h3 r hr' hne
  · rcases hm e he with rfl | h3
    · exact hn
    · exact h.db e h3
theorem rdAt_mem {f : Int} {q : VR} (h : v.rdAt f = some q) : q ∈ v.rd := by
  unfold V.rdAt at h
  split at h
  · exact List.mem_of_getElem? h
  · cases h
theorem VI.read (h : VI v) (f : Int) : VI (v.read f).2 := by
  unfold V.read
  split
  · exact h
  · split
    · exact h
    · exact h.setPos _ _
theorem VI.write (h : VI v) (f : Int) (l : List UInt8) : VI (v.write f l).2 := by
  unfold V.write
  split
  · exact h
  · split
    · exact (h.setFile _ _).setPos _ _
    · exact h
theorem VI.seek (h : VI v) (f : Int) (n : Nat) : VI (v.seek f n) := by
  unfold V.seek
  split
  · exact h
  · exact h.setPos _ _
theorem VI.old (h : VI v) (nm : ByteArray) : VI (v.old nm).2 := by
  unfold V.old
  split
  · split
    · exact h
    · rename_i n hl
      have hm := lookD_mem hl
      exact h.ride (h.db _ hm) (fun e he hn => h.one e he _ hm hn) (fun r hr hn => (h.dr _ hm r hr hn.symm).symm)
  · exact h
theorem VI.fresh (h : VI v) (nm : ByteArray) : VI (v.fresh nm).2 := by
  unfold V.fresh
  split
  · refine (h.addFile []).ride (by simp [V.addFile]) (fun e he hn => ?_) (fun r hr hn => ?_)
    · exact absurd (h.db e he) (by omega)
    · exact absurd (h.rb r hr) (by omega)
  · exact h
theorem VI.register (h : VI v) (f : Int) : VI (v.register f).2 := by
  unfold V.register
  split
  · exact h
  · rename_i q hq
    have hm := rdAt_mem hq
    split
    · exact h.enter (h.rb q hm) (fun e he hn => h.dr e he q hm hn) (fun r hr hn => h.rr r hr q hm hn)
    · exact h
theorem VI.drop (h : VI v) (nm : ByteArray) : VI (v.drop nm).2 := by
  unfold V.drop
  split
  · split
    · exact h
    · exact h.del nm
  · exact h
theorem VI.put (h : VI v) (nm : ByteArray) (l : List UInt8) : VI (v.put nm l).2 := by
  unfold V.put
  split
  · split
    · split
      · refine ((h.del nm).addFile l).enter (by simp [V.addFile, V.del]) (fun e he hn => ?_) (fun r hr hn => ?_)
        · exact absurd ((h.del nm).db e he) (by simp only [V.del]; omega)
        · exact absurd (h.rb r hr) (by omega)
      · cases hl : lookD nm v.dir with
        | none => exact h.del nm
        | some g =>
          have hm := lookD_mem hl
          exact (h.del nm).enter (h.db _ hm) (fun e he hn => h.one e ((delD_sub nm v.dir).subset he) _ hm hn) (fun r hr hn => (h.dr _ hm r hr hn.symm).symm)
    · exact h
  · exact h
theorem VI.doS (h : VI v) (x : St) : VI (v.doS x).2 := by
  unfold V.doS
  (repeat' split) <;> first
    | exact h | exact h.old _ | exact h.fresh _ | exact h.read _ | exact h.write _ _ | exact h.seek _ _ | exact h.register _ | exact h.del _ | exact h.put _ _ | exact h.drop _
    | exact (((h.read _).read _).read _).read _
theorem VI.empty (c : Nat) : VI ⟨c, [], [], []⟩ := ⟨(fun e he => by cases he), (fun e he => by cases he), (fun e he => by cases he), (fun e he => by cases he), (fun e he => by cases he)⟩
/-- the same but for the directory's order -/
structure Eqv (v v' : V) : Prop where
  cap : v'.cap = v.cap
  F : v'.F = v.F
  rd : v'.rd = v.rd
  dir : v'.dir.Perm v.dir
theorem Eqv.refl (v : V) : Eqv v v := ⟨rfl, rfl, rfl, List.Perm.refl _⟩
theorem delD_perm {nm : ByteArray} {g : Nat} : ∀ {l : List (ByteArray × Nat)}, lookD nm l = some g → ((nm, g) :: delD nm l).Perm l
  | [], h => by cases h
  | e :: r, h => by
    unfold lookD at h
    unfold delD
    split at h
    · rename_i hb
      obtain rfl := (MapKept.bytes_beq _ _).1 hb
      rw [if_pos hb]
      injection h with h
      subst h
      exact List.Perm.refl _
    · rename_i hb
      rw [if_neg hb]
      exact (List.Perm.swap _ _ _).trans ((delD_perm h).cons e)
theorem delD_not {nm : ByteArray} : ∀ {l : List (ByteArray × Nat)}, (l.map (·.1)).Nodup → nm ∉ (delD nm l).map (·.1)
  | [], _ => by simp [delD]
  | e :: r, h => by
    obtain ⟨h1, h2⟩ := List.nodup_cons.1 h
    unfold delD
    split
    · rename_i hb
      obtain rfl := (MapKept.bytes_beq _ _).1 hb
      exact h1
    · rename_i hb
      intro hm
      rcases List.mem_cons.1 hm with h3 | h3
      · exact hb ((MapKept.bytes_beq _ _).2 h3)
      · exact delD_not h2 h3
theorem delD_gone {nm : ByteArray} : ∀ {l : List (ByteArray × Nat)}, lookD nm l = none → delD nm l = l
  | [], _ => rfl
  | e :: r, h => by
    unfold lookD at h
    unfold delD
    split at h
    · cases h
    · rename_i hb
      rw [if_neg hb, delD_gone h]
theorem Eqv.put (hk : (v.dir.map (·.1)).Nodup) (nm : ByteArray) (l : List UInt8) (hn : (v.put nm l).1 ≠ 0) : Eqv v (v.put nm l).2 := by
  unfold V.put at hn ⊢
  split at hn
  · rename_i h1
    rw [if_pos h1]
    split at hn
    · rename_i h2
      rw [if_pos h2]
      split at hn
      · exact absurd rfl hn
      · rename_i h3
        rw [if_neg h3]
        cases hl : lookD nm v.dir with
        | none => exact ⟨rfl, rfl, rfl, by show (delD nm v.dir).Perm _; rw [delD_gone hl]⟩
        | some g =>
          refine ⟨rfl, rfl, rfl, ?_⟩
          show (putD nm g (delD nm v.dir)).Perm _
          rw [putD_new (delD_not hk)]
          exact (List.perm_append_comm.trans (List.Perm.refl _)).trans (delD_perm hl)
    · rename_i h2
      rw [if_neg h2]
      exact Eqv.refl v
  · rename_i h1
    rw [if_neg h1]
    exact Eqv.refl v
theorem Eqv.write (f : Int) (l : List UInt8) (hn : (v.write f l).1 ≠ 0) : Eqv v (v.write f l).2 := by
  unfold V.write at hn ⊢
  cases h : v.rdAt f with
  | none => exact Eqv.refl v
  | some q =>
    rw [h] at hn
    simp only at hn ⊢
    split at hn
    · exact absurd rfl hn
    · rename_i h1; rw [if_neg h1]; exact Eqv.refl v
theorem Eqv.register (f : Int) (hn : (v.register f).1 ≠ 0) : Eqv v (v.register f).2 := by
  unfold V.register at hn ⊢
  cases h : v.rdAt f with
  | none => exact Eqv.refl v
  | some q =>
    rw [h] at hn
    simp only at hn ⊢
    split at hn
    · exact absurd rfl hn
    · rename_i h1; rw [if_neg h1]; exact Eqv.refl v
theorem Eqv.drop (nm : ByteArray) (hn : (v.drop nm).1 ≠ 0) : Eqv v (v.drop nm).2 := by
  unfold V.drop at hn ⊢
  split at hn
  · rename_i h1
    rw [if_pos h1]
    cases h : lookD nm v.dir with
    | none => exact Eqv.refl v
    | some q => rw [h] at hn; exact absurd rfl hn
  · rename_i h1; rw [if_neg h1]; exact Eqv.refl v
/-- may a step be refused? -/
def kindR (k : Int) : Bool := k == 5 || k == 6 || k == 8 || k == 10 || k == 11
theorem Eqv.doS (hk : (v.dir.map (·.1)).Nodup) (x : St) (hr : kindR x.kind = true) (hn : (v.doS x).1 ≠ 0) : Eqv v (v.doS x).2 := by
  unfold kindR at hr
  simp only [Bool.or_eq_true, beq_iff_eq] at hr
  unfold V.doS at hn ⊢
  rcases hr with (((h | h) | h) | h) | h <;> rw [h] at hn ⊢ <;> simp only [show ¬ (5 : Int) = 1 by decide, show ¬ (5 : Int) = 2 by decide, show ¬ (5 : Int) = 3 by decide, show ¬ (5 : Int) = 4 by decide, show ¬ (6 : Int) = 1 by decide, show ¬ (6 : Int) = 2 by decide, show ¬ (6 : Int) = 3 by decide, show ¬ (6 : Int) = 4 by decide, show ¬ (6 : Int) = 5 by decide,
    show ¬ (8 : Int) = 1 by decide, show ¬ (8 : Int) = 2 by decide, show ¬ (8 : Int) = 3 by decide, show ¬ (8 : Int) = 4 by decide, show ¬ (8 : Int) = 5 by decide, show ¬ (8 : Int) = 6 by decide, show ¬ (8 : Int) = 7 by decide, show ¬ (10 : Int) = 1 by decide, show ¬ (10 : Int) = 2 by decide, show ¬ (10 : Int) = 3 by decide, show ¬ (10 : Int) = 4 by decide, show ¬ (10 : Int) = 5 by decide, show ¬ (10 : Int) = 6 by decide, show ¬ (10 : Int) = 7 by decide, show ¬ (10 : Int) = 8 by decide, show ¬ (10 : Int) = 9 by decide,
    show ¬ (11 : Int) = 1 by decide, show ¬ (11 : Int) = 2 by decide, show ¬ (11 : Int) = 3 by decide, show ¬ (11 : Int) = 4 by decide, show ¬ (11 : Int) = 5 by decide, show ¬ (11 : Int) = 6 by decide, show ¬ (11 : Int) = 7 by decide, show ¬ (11 : Int) = 8 by decide, show ¬ (11 : Int) = 9 by decide, show ¬ (11 : Int) = 10 by decide, if_false, if_true] at hn ⊢
  · exact Eqv.write _ _ hn
  · exact Eqv.write _ _ hn
  · exact Eqv.register _ hn
  · exact Eqv.put hk _ _ hn
  · exact Eqv.drop _ hn
theorem used_mem {v v' : V} {ρ : Nat → Nat} (hm : ∀ x, x ∈ v'.held ↔ ∃ n ∈ v.held, ρ n = x) (hb : ∀ n ∈ v.held, v'.bytes (ρ n) = v.bytes n) (hi : ∀ a ∈ v.held, ∀ b ∈ v.held, ρ a = ρ b → a = b) : v'.used = v.used := by
  unfold V.used
  have h1 : sumOf (fun n => (v'.bytes n).length) (dedup v'.held) = sumOf (fun n => (v'.bytes n).length) ((dedup v.held).map ρ) := by
    refine sumOf_same _ (nodup_dedup _) ?_ fun x => ?_
    · rw [List.nodup_iff_pairwise_ne, List.pairwise_map]
      exact (nodup_dedup v.held).imp_of_mem fun ha hb hne e => hne (hi _ (mem_dedup.1 ha) _ (mem_dedup.1 hb) e)
    · rw [mem_dedup, hm]
      simp only [List.mem_map, mem_dedup]
  rw [h1]
  unfold sumOf
  rw [List.map_map]
  congr 1
  apply List.map_congr_left
  intro x hx
  simp only [Function.comp_def, hb x (mem_dedup.1 hx)]
theorem Sim.held {v v' : V} {ρ : Nat → Nat} (h : Sim v v' ρ) (x : Nat) : x ∈ v'.held ↔ ∃ n ∈ v.held, ρ n = x := by
  have hp := h.dir.map (·.2)
  rw [List.map_map] at hp
  unfold V.held
  rw [List.mem_append, hp.mem_iff, h.rd]
  simp only [List.map_map, List.mem_map, List.mem_append, Function.comp_def]
  constructor
  · rintro (⟨e, he, rfl⟩ | ⟨r, hr, rfl⟩)
    · exact ⟨e.2, .inl ⟨e, he, rfl⟩, rfl⟩
    · exact ⟨r.n, .inr ⟨r, hr, rfl⟩, rfl⟩
  · rintro ⟨n, ⟨e, he, rfl⟩ | ⟨r, hr, rfl⟩, rfl⟩
    · exact .inl ⟨e, he, rfl⟩
    · exact .inr ⟨r, hr, rfl⟩
theorem Sim.room {v v' : V} {ρ : Nat → Nat} (h : Sim v v' ρ) : v'.room = v.room := by
  unfold V.room
  rw [h.cap, used_mem h.held h.bytes h.inj]
theorem Sim.pos {v v' : V} {ρ : Nat → Nat} (h : Sim v v' ρ) (f : Int) : v'.posOf f = v.posOf f := by
  unfold V.posOf V.rdAt
  rw [h.rd]
  by_cases h1 : 1 ≤ f
  · simp only [if_pos h1, List.getElem?_map]
    cases v.rd[f.toNat - 1]? <;> rfl
  · simp only [if_neg h1]
theorem Eqv.room {v v' : V} (h : Eqv v v') : v'.room = v.room := by
  have hm : ∀ x, x ∈ v'.held ↔ ∃ n ∈ v.held, id n = x := fun x => by
    have hp := h.dir.map (·.2)
    unfold V.held
    rw [List.mem_append, hp.mem_iff, h.rd]
    simp
  unfold V.room
  rw [h.cap, used_mem (ρ := id) hm (fun n _ => by unfold V.bytes; rw [h.F]; rfl) (fun a _ b _ h => h)]
theorem Eqv.pos {v v' : V} (h : Eqv v v') (f : Int) : v'.posOf f = v.posOf f := by
  unfold V.posOf V.rdAt
  rw [h.rd]
theorem lookD_of {n : ByteArray} {f : Nat} : ∀ {l : List (ByteArray × Nat)}, (l.map (·.1)).Nodup → (n, f) ∈ l → lookD n l = some f
  | [], _, h => by cases h
  | e :: r, hn, h => by
    obtain ⟨h1, h2⟩ := List.nodup_cons.1 hn
    unfold lookD
    rcases List.mem_cons.1 h with rfl | h3
    · rw [if_pos ((MapKept.bytes_beq _ _).2 rfl)]
    · split
      · rename_i hb
        obtain rfl := (MapKept.bytes_beq _ _).1 hb
        exact absurd (List.mem_map.2 ⟨_, h3, rfl⟩) h1
      · exact lookD_of h2 h3
end
section
variable {b1 b2 : Nat} {w : World} {s o : Nat} {v v2 v' : V} {F F' : Nat → Prop} {ρ : Nat → Nat}
theorem Rep.bytesOf {S : Sto} {φ : List Nat} (h : Rep S v φ) {n : Nat} (hn : n < φ.length) : S.bytesOf (φ.getD n 0) = v.bytes n := by
  obtain ⟨A, c, hf⟩ := h.fl n hn
  unfold Sto.bytesOf
  rw [getD_lt hn, hf]
  rfl
theorem StoreV.keys (h : StoreV b1 w s v F) : (v.dir.map (·.1)).Nodup := by
  obtain ⟨S, φ, h1, h2, _⟩ := h
  have := h1.keys
  rw [h2.dir, List.map_map] at this
  exact this
/-- the store against its copy: the same -/
theorem same_v (h : StoreV b1 w s v2 F) (he : Eqv v v2) (h' : StoreV b2 w o v' F') (hs : Sim v v' ρ) : Calls Try.prog 13 #[ptr s, ptr o] w (Quiet (.bool true) w) := by
  have hk := h'.keys
  obtain ⟨S, φ, h1, h2, _⟩ := h
  obtain ⟨T, ψ, h3, h4, _⟩ := h'
  have hT : S.same T = true := by
    refine Sto.same_of ?_ fun e hm => ?_
    · rw [h2.dlen, h4.dlen, hs.dir.length_eq, he.dir.length_eq, List.length_map]
    · rw [h2.dir] at hm
      obtain ⟨d, hd, rfl⟩ := List.mem_map.1 hm
      have hdv : d ∈ v.dir := he.dir.subset hd
      have hm' : (d.1, ρ d.2) ∈ v'.dir := hs.dir.symm.subset (List.mem_map.2 ⟨d, hdv, rfl⟩)
      have hl := lookD_of hk hm'
      unfold Sto.has
      rw [h4.look, hl]
      simp only [Option.map_some, decide_eq_true_eq]
      rw [h2.bytesOf (h2.dirb d hd), h4.bytesOf (h4.dirb _ hm'), hs.bytes d.2 (by unfold V.held; exact List.mem_append.2 (.inl (List.mem_map.2 ⟨d, hdv, rfl⟩)))]
      unfold V.bytes
      rw [he.F]
  have := same_c h1 h3
  rw [hT] at this
  exact this
/-- what Files tells of a store -/
structure Tells (v : V) (L : List (ByteArray × Nat)) : Prop where
  few : L.length ≤ 200
  each : ∀ e ∈ L, mayName e.1 = true ∧ ∃ n, lookD e.1 v.dir = some n ∧ e.2 = (v.bytes n).length
  rise : L.Pairwise fun a b => Op.bytesLess b.1.toList a.1.toList = false ∧ a.1 ≠ b.1
  sum : (L.map (·.2)).sum ≤ v.used
theorem toList_data (a : ByteArray) : a.toList = a.data.toList := by
  exact ByteArray.toList_eq a
theorem not_less : ∀ {x y : List UInt8}, x ≤ y → Op.bytesLess y x = false
  | [], y, _ => by cases y <;> rfl
  | a :: x, [], h => by
    exact absurd h (by simp)
  | a :: x, b :: y, h => by
    unfold Op.bytesLess
    rcases List.cons_le_cons_iff.1 h with h1 | ⟨h1, h2⟩
    · have h3 : ¬ b < a := UInt8.not_lt.2 (UInt8.le_of_lt h1)
      have h4 : (b == a) = false := by
        apply beq_eq_false_iff_ne.2
        intro e
        subst e
        exact absurd h1 (UInt8.lt_irrefl _)
      simp [h3, h4]
    · subst h1
      simp [UInt8.lt_irrefl, not_less h2]
theorem names_tell {S : Sto} {φ : List Nat} (h1 : StoreAt b1 w s S) (h2 : Rep S v φ) (hv : VI v) : Tells v S.files := by
  have hkS := h1.keys
  have hkv : (v.dir.map (·.1)).Nodup := by
    have := h1.keys
    rw [h2.dir, List.map_map] at this
    exact this
  obtain ⟨N, hN⟩ : ∃ N, N = sortN (S.dir.map fun e => e.1.data.toList) := ⟨_, rfl⟩
  have hperm : N.Perm (v.dir.map (·.1)) := by
    rw [hN]
    unfold sortN
    have := (List.mergeSort_perm (S.dir.map fun e => e.1.data.toList) leB).map fun x : List UInt8 => (⟨x.toArray⟩ : ByteArray)
    refine this.trans ?_
    rw [h2.dir, List.map_map, List.map_map]
    exact List.Perm.refl _
  have hfiles : S.files = N.map fun n => (n, ((lookD n S.dir).map S.len).getD 0) := by rw [hN]; rfl
  have hlen : ∀ e ∈ v.dir, ((lookD e.1 S.dir).map S.len).getD 0 = (v.bytes e.2).length := fun e he => by
    have hl := lookD_of hkv he
    have hb := h2.dirb e he
    obtain ⟨A, c, hf⟩ := h2.fl e.2 hb
    rw [h2.look, hl]
    simp only [Option.map_some, Option.getD_some]
    unfold Sto.len
    rw [getD_lt hb, hf]
    rfl
  refine ⟨?_, ?_, ?_, ?_⟩
  · rw [hfiles, List.length_map, hperm.length_eq, List.length_map, ← h2.dlen]
    exact h1.ndir
  · intro e he
    rw [hfiles] at he
    obtain ⟨n, hn, rfl⟩ := List.mem_map.1 he
    obtain ⟨d, hd, rfl⟩ := List.mem_map.1 (hperm.subset hn)
    refine ⟨?_, d.2, lookD_of hkv hd, hlen d hd⟩
    have := h1.dnames (d.1, φ.getD d.2 0) (by rw [h2.dir]; exact List.mem_map.2 ⟨d, hd, rfl⟩)
    exact this
  · rw [hfiles, List.pairwise_map]
    have hnd : N.Nodup := hperm.nodup_iff.2 hkv
    have hs : N.Pairwise fun a b => a.data.toList ≤ b.data.toList := by
      rw [hN]
      unfold sortN
      rw [List.pairwise_map]
      have tr : ∀ a b c : List UInt8, leB a b = true → leB b c = true → leB a c = true := fun a b c h1 h2 => by
        simp only [leB, decide_eq_true_eq] at *
        exact List.le_trans h1 h2
      have to : ∀ a b : List UInt8, (leB a b || leB b a) = true := fun a b => by
        simp only [leB, Bool.or_eq_true, decide_eq_true_eq]
        exact List.le_total a b
      refine (List.pairwise_mergeSort tr to _).imp fun {a b} h => ?_
      simpa [leB] using h
    refine (hs.and hnd).imp fun {a b} h => ⟨?_, h.2⟩
    rw [toList_data, toList_data]
    exact not_less h.1
  · rw [hfiles, List.map_map]
    have e1 : (N.map ((fun x => x.2) ∘ fun n => (n, ((lookD n S.dir).map S.len).getD 0))).sum = ((v.dir.map (·.1)).map fun n => ((lookD n S.dir).map S.len).getD 0).sum := (hperm.map _).sum_nat
    rw [e1, List.map_map]
    have e2 : (v.dir.map ((fun n => ((lookD n S.dir).map S.len).getD 0) ∘ fun x => x.1)) = (v.dir.map (·.2)).map fun n => (v.bytes n).length := by
      rw [List.map_map]
      apply List.map_congr_left
      intro e he
      exact hlen e he
    rw [e2]
    show sumOf (fun n => (v.bytes n).length) (v.dir.map (·.2)) ≤ _
    unfold V.used
    refine sumOf_le_sub ?_ fun x hx => mem_dedup.2 ?_
    · rw [List.nodup_iff_pairwise_ne, List.pairwise_map]
      have h3 : v.dir.Pairwise fun a b => a.1 ≠ b.1 := by
        rw [List.nodup_iff_pairwise_ne, List.pairwise_map] at hkv
        exact hkv
      exact h3.imp_of_mem fun ha hb hne e => hne (hv.one _ ha _ hb e)
    · unfold V.held
      exact List.mem_append.2 (.inl hx)
theorem files_v (h : StoreV b1 w s v F) (hv : VI v) : Calls Try.prog 67 #[ptr s] w fun e w' => ∃ L, Tells v L ∧ FilesPost w.heap.size L w e w' := by
  obtain ⟨S, φ, h1, h2, _⟩ := h
  exact (files_c h1).mono fun e w' hp => ⟨S.files, names_tell h1 h2 hv, hp⟩
theorem StoreV.fits (h : StoreV b1 w s v F) : v.used ≤ v.cap ∧ v.cap ≤ 67108864 := by
  obtain ⟨S, φ, h1, h2, _⟩ := h
  have := h1.fits
  rw [h2.used, h2.cap] at this
  exact ⟨this, by rw [← h2.cap]; exact h1.small⟩
end
abbrev BoT : TypeId := 4
abbrev SpT : TypeId := 23
/-- the store of the law, and blocks that it does not reach -/
structure RI (w0 : World) (X : List (Nat × Obj)) (s : Nat) (v : V) (W : World) : Prop where
  st : ∃ base F, StoreV base W s v F ∧ ∀ k, F k → w0.heap.size ≤ k ∧ ∀ e ∈ X, e.1 ≠ k
  ch : Chg NoB w0 W
  xo : ∀ e ∈ X, W.heap[e.1]? = some e.2 ∧ w0.heap.size ≤ e.1
  vi : VI v
theorem obj_lt {W : World} {k : Nat} {o : Obj} (h : W.heap[k]? = some o) : k < W.heap.size := (Array.getElem?_eq_some_iff.1 h).1
theorem own_cells {W : World} {base : Nat} {e : TypeId} {size n : Nat} {v : Value} {xs : List Value} (h : W.ownsRow base e size v n xs) {k : Nat} (hk : v.ownBlock = some k) : ∃ cs t x, W.heap[k]? = some (.cells cs t x) := by
  rcases h.2 with hn | ⟨g, cap, cur, hv, hbb, hgg, rest⟩
  · rw [hn.1] at hk
    cases hk
  · rw [hv] at hk
    simp [Value.ownBlock] at hk
    subst hk
    exact ⟨_, _, _, hgg⟩
section
variable {w0 W W' : World} {X : List (Nat × Obj)} {s c : Nat} {v v2 v' : V} {ρ : Nat → Nat}
theorem foot_obj {base : Nat} {F : Nat → Prop} (h : StoreV base W s v F) {k : Nat} (hk : F k) {o : Obj} (ho : W.heap[k]? = some o) : o ≠ .deferred (some []) := by
  obtain ⟨S, φ, h1, _, rfl⟩ := h
  have hcell : (∃ cs t x, W.heap[k]? = some (.cells cs t x)) → o ≠ .deferred (some []) := fun ⟨cs, t, x, hx⟩ => by
    rw [hx] at ho
    cases ho
    intro h
    cases h
  rcases hk with rfl | rfl | hk | ⟨r, hr, rfl⟩ | ⟨f, x, hf, rfl | hk⟩
  · exact hcell ⟨_, _, _, h1.blk⟩
  · obtain ⟨es, clock, hm, _⟩ := h1.map
    rw [hm] at ho
    cases ho
    intro h
    cases h
  · exact hcell (own_cells h1.row hk)
  · exact hcell ⟨_, _, _, h1.rdb r hr⟩
  · exact hcell ⟨_, _, _, h1.flb _ _ hf⟩
  · exact hcell (own_cells (h1.flo _ _ hf) hk)
theorem RI.quiet (h : RI w0 X s v W) (hc : Chg NoB W W') : RI w0 X s v W' := by
  obtain ⟨base, F, h1, h2⟩ := h.st
  exact ⟨⟨base, F, h1.quiet hc, h2⟩, h.ch.trans hc, fun e he => ⟨(hc.block _ (obj_lt (h.xo e he).1) id).trans (h.xo e he).1, (h.xo e he).2⟩, h.vi⟩
theorem RI.mark (h : RI w0 X s v W) {D : Nat} (hD : W.heap[D]? = some (.deferred (some []))) (hlo : w0.heap.size ≤ D) : RI w0 ((D, .deferred (some [])) :: X) s v W := by
  obtain ⟨base, F, h1, h2⟩ := h.st
  refine ⟨⟨base, F, h1, fun k hk => ⟨(h2 k hk).1, fun e he => ?_⟩⟩, h.ch, fun e he => ?_, h.vi⟩
  · rcases List.mem_cons.1 he with rfl | he
    · rintro rfl
      exact foot_obj h1 hk hD rfl
    · exact (h2 k hk).2 e he
  · rcases List.mem_cons.1 he with rfl | he
    · exact ⟨hD, hlo⟩
    · exact h.xo e he
theorem RI.alloc (h : RI w0 X s v W) (o : Obj) : RI w0 ((W.heap.size, o) :: X) s v (W.alloc o) := by
  have hq := h.quiet ((Chg.refl NoB W).alloc o)
  obtain ⟨base, F, h1, h2⟩ := h.st
  refine ⟨⟨base, F, h1.quiet ((Chg.refl NoB W).alloc o), fun k hk => ⟨(h2 k hk).1, fun e he => ?_⟩⟩, hq.ch, fun e he => ?_, h.vi⟩
  · rcases List.mem_cons.1 he with rfl | he
    · have := h1.lt hk
      simp only
      omega
    · exact (h2 k hk).2 e he
  · rcases List.mem_cons.1 he with rfl | he
    · exact ⟨heap_alloc_new W _, h.ch.size⟩
    · exact hq.xo e he
/-- with a copy, that reads as the store did at v -/
structure RC (w0 : World) (X : List (Nat × Obj)) (s c : Nat) (v v2 : V) (W : World) : Prop where
  st : ∃ base F b' F' v' ρ, StoreV base W s v2 F ∧ StoreV b' W c v' F' ∧ Sim v v' ρ ∧ (∀ k, F k → w0.heap.size ≤ k ∧ (∀ e ∈ X, e.1 ≠ k) ∧ ¬ F' k)
  ch : Chg NoB w0 W
  xo : ∀ e ∈ X, W.heap[e.1]? = some e.2 ∧ w0.heap.size ≤ e.1
  vi : VI v2
theorem RC.ri (h : RC w0 X s c v v2 W) : RI w0 X s v2 W := by
  obtain ⟨base, F, b', F', v', ρ, h1, h2, h3, h4⟩ := h.st
  exact ⟨⟨base, F, h1, fun k hk => ⟨(h4 k hk).1, (h4 k hk).2.1⟩⟩, h.ch, h.xo, h.vi⟩
theorem RC.quiet (h : RC w0 X s c v v2 W) (hc : Chg NoB W W') : RC w0 X s c v v2 W' := by
  obtain ⟨base, F, b', F', v', ρ, h1, h2, h3, h4⟩ := h.st
  exact ⟨⟨base, F, b', F', v', ρ, h1.quiet hc, h2.quiet hc, h3, h4⟩, h.ch.trans hc, (h.ri.quiet hc).xo, h.vi⟩
theorem RI.copy (h : RI w0 X s v W) : Calls Try.prog 9 #[ptr s] W fun e W' => ∃ c, e = .returned (ptr c) ∧ RC w0 X s c v v W' ∧ Chg NoB W W' := by
  have h0 := h
  obtain ⟨base, F, h1, h2⟩ := h.st
  refine (copy_v h1).mono fun e W' hp => ?_
  obtain ⟨c, v', F', ρ, he, h3, h4, h5, h6⟩ := hp
  exact ⟨c, he, ⟨⟨base, F, _, F', v', ρ, h5, h3, h4, fun k hk => ⟨(h2 k hk).1, (h2 k hk).2, fun hF => absurd (h3.low hF) (by have := h1.lt hk; omega)⟩⟩, h.ch.trans h6, (h0.quiet h6).xo, h.vi⟩, h6⟩
theorem RC.do_ (h : RC w0 X s c v v W) (x : St) (hx : StepOk W x) : Calls Try.prog 11 #[.agg #[], ptr s, x.v] W fun e W' => e = .returned (.int .u32 (v.doS x).1) ∧ RC w0 X s c v (v.doS x).2 W' := by
  obtain ⟨base, F, b', F', v', ρ, h1, h2, h3, h4⟩ := h.st
  refine (do_c h1 x hx).mono fun e W' hp => ?_
  obtain ⟨he, F2, h5, h6, h7⟩ := hp
  have h0 := h.ch.size
  refine ⟨he, ⟨base, F2, b', F', v', ρ, h5, h2.chg h6 (fun k hk hF => (h4 k hF).2.2 hk), h3, fun k hk => ?_⟩, h.ch.step h6 fun k hk hF => absurd (h4 k hF).1 (by omega), fun e he => ⟨(h6.block _ (obj_lt (h.xo e he).1) fun hF => (h4 _ hF).2.1 e he rfl).trans (h.xo e he).1, (h.xo e he).2⟩, h.vi.doS x⟩
  rcases Nat.lt_or_ge k W.heap.size with hlt | hge
  · exact h4 k (h7 k hk hlt)
  · exact ⟨by omega, fun e he => by have := obj_lt (h.xo e he).1; omega, fun hF => by have := h2.lt hF; omega⟩
theorem RC.same (h : RC w0 X s c v v2 W) (he : Eqv v v2) : Calls Try.prog 13 #[ptr s, ptr c] W (Quiet (.bool true) W) := by
  obtain ⟨base, F, b', F', v', ρ, h1, h2, h3, h4⟩ := h.st
  exact same_v h1 he h2 h3
theorem room_q {base : Nat} {F : Nat → Prop} (h : StoreV base W s v F) : Calls Try.prog 32 #[ptr s] W (Quiet (.int .i64 (v.room : Nat)) W) := by
  obtain ⟨S, φ, h1, h2, _⟩ := h
  rw [← h2.room]
  exact room_c h1
theorem riders_q {base : Nat} {F : Nat → Prop} (h : StoreV base W s v F) : Calls Try.prog 31 #[ptr s] W (Quiet (.int .i64 (v.rd.length : Nat)) W) := by
  obtain ⟨S, φ, h1, h2, _⟩ := h
  rw [← h2.rlen]
  exact (riders_c h1).mono fun e w' ⟨he, hw⟩ => ⟨he, by rw [← hw]; exact Chg.refl _ _⟩
theorem at_q {base : Nat} {F : Nat → Prop} (h : StoreV base W s v F) (f : Int) : Calls Try.prog 29 #[ptr s, .int .i64 f] W (Quiet (.int .i64 (v.posOf f : Nat)) W) := by
  obtain ⟨S, φ, h1, h2, _⟩ := h
  cases hr : v.rdAt f with
  | none =>
    refine (at_none h1 (h2.rdAt_none hr)).mono fun e w' ⟨he, hw⟩ => ?_
    subst hw
    exact ⟨by rw [he]; unfold V.posOf; rw [hr]; rfl, Chg.refl _ _⟩
  | some q =>
    obtain ⟨r, A, c, a1, a2, a3, a4, a5, a6, _⟩ := h2.rdAt_some hr
    refine (at_some h1 a1).mono fun e w' ⟨he, hw⟩ => ?_
    subst hw
    exact ⟨by rw [he]; unfold V.posOf; rw [hr, a4], Chg.refl _ _⟩
theorem RI.room (h : RI w0 X s v W) : Calls Try.prog 32 #[ptr s] W (Quiet (.int .i64 (v.room : Nat)) W) := by
  obtain ⟨base, F, h1, _⟩ := h.st
  exact room_q h1
theorem RC.room (h : RC w0 X s c v v2 W) (he : Eqv v v2) : Calls Try.prog 32 #[ptr c] W (Quiet (.int .i64 (v2.room : Nat)) W) := by
  obtain ⟨base, F, b', F', v', ρ, h1, h2, h3, h4⟩ := h.st
  rw [he.room, ← h3.room]
  exact room_q h2
theorem RI.riders (h : RI w0 X s v W) : Calls Try.prog 31 #[ptr s] W (Quiet (.int .i64 (v.rd.length : Nat)) W) := by
  obtain ⟨base, F, h1, _⟩ := h.st
  exact riders_q h1
theorem RC.riders (h : RC w0 X s c v v2 W) (he : Eqv v v2) : Calls Try.prog 31 #[ptr c] W (Quiet (.int .i64 (v2.rd.length : Nat)) W) := by
  obtain ⟨base, F, b', F', v', ρ, h1, h2, h3, h4⟩ := h.st
  have := riders_q h2
  rw [h3.rd, List.length_map] at this
  rw [he.rd]
  exact this
theorem RI.at_ (h : RI w0 X s v W) (f : Int) : Calls Try.prog 29 #[ptr s, .int .i64 f] W (Quiet (.int .i64 (v.posOf f : Nat)) W) := by
  obtain ⟨base, F, h1, _⟩ := h.st
  exact at_q h1 f
theorem RC.at_ (h : RC w0 X s c v v2 W) (he : Eqv v v2) (f : Int) : Calls Try.prog 29 #[ptr c, .int .i64 f] W (Quiet (.int .i64 (v2.posOf f : Nat)) W) := by
  obtain ⟨base, F, b', F', v', ρ, h1, h2, h3, h4⟩ := h.st
  rw [he.pos, ← h3.pos]
  exact at_q h2 f
theorem RI.files (h : RI w0 X s v W) : Calls Try.prog 67 #[ptr s] W fun e W' => ∃ L, Tells v L ∧ FilesPost W.heap.size L W e W' := by
  obtain ⟨base, F, h1, _⟩ := h.st
  exact files_v h1 h.vi
theorem RI.get (h : RI w0 X s v W) {nm : ByteArray} {n : Nat} (hn : mayName nm = true) (hl : lookD nm v.dir = some n) : Calls Try.prog 25 #[ptr s, .string nm] W fun e W' => ∃ A c, e = .returned (.tuple #[.slice A (v.bytes n).length c, .int .i64 0]) ∧ RI w0 X s v W' ∧ Chg NoB W W' := by
  obtain ⟨base, F, h1, _⟩ := h.st
  have hsz : nm.size ≤ maxLen := by
    unfold mayName at hn
    simp at hn
    unfold maxLen
    omega
  exact (get_v h1 hsz hn hl).mono fun e W' ⟨A, c, he, _, _, hc⟩ => ⟨A, c, he, h.quiet hc, hc⟩
end
end Go.Proofs.Ytlglnebnldmceaa
