import Derived.Test.YtggknljlibhkjaaGreatSteps
import Derived.Test.YtggknljlibhkjaaGreatGCp
import Derived.Test.YtggknljlibhkjaaGreatGSm
import Derived.Test.YtggknljlibhkjaaGreatFiR
set_option linter.unusedSimpArgs false
set_option linter.unusedVariables false
namespace Go.Proofs.YtggknljlibhkjaaGreat
open Go.RowKit Go.Maps Go.Sort
structure VI (v : V) : Prop where
 one : ∀ e ∈ v.dir, ∀ e' ∈ v.dir, e.2 = e'.2 → e.1 = e'.1
 dr : ∀ e ∈ v.dir, ∀ r ∈ v.rd, e.2 = r.n → e.1 = r.name
 rr : ∀ r ∈ v.rd, ∀ r' ∈ v.rd, r.n = r'.n → r.name = r'.name
 db : ∀ e ∈ v.dir, e.2 < v.F.length
 rb : ∀ r ∈ v.rd, r.n < v.F.length
section
variable {v v' : V}
structure Eqv (v v' : V) : Prop where
 cap : v'.cap = v.cap
 F : v'.F = v.F
 rd : v'.rd = v.rd
 dir : v'.dir.Perm v.dir
theorem Eqv.refl (v : V) : Eqv v v := ⟨rfl, rfl, rfl, List.Perm.refl _⟩
theorem delD_perm {nm : ByteArray} {g : Nat} : ∀ {l : List (ByteArray × Nat)}, lookD nm l = some g → ((nm, g) :: delD nm l).Perm l
 | [], h => by cases h
 | e :: r, h => by
  unfold lookD at h
  unfold delD
  split at h
  ·rename_i hb
   obtain rfl := (MapKept.bytes_beq _ _).1 hb
   rw [if_pos hb]
   injection h with h
   subst h
   exact List.Perm.refl _
  ·rename_i hb
   rw [if_neg hb]
   exact (List.Perm.swap _ _ _).trans ((delD_perm h).cons e)
theorem delD_not {nm : ByteArray} : ∀ {l : List (ByteArray × Nat)}, (l.map (·.1)).Nodup → nm ∉ (delD nm l).map (·.1)
 | [], _ => by simp [delD]
 | e :: r, h => by
  obtain ⟨h1, h2⟩ := List.nodup_cons.1 h
  unfold delD
  split
  ·rename_i hb
   obtain rfl := (MapKept.bytes_beq _ _).1 hb
   exact h1
  ·rename_i hb
   intro hm
   rcases List.mem_cons.1 hm with h3 | h3
   ·exact hb ((MapKept.bytes_beq _ _).2 h3)
   ·exact delD_not h2 h3
theorem delD_gone {nm : ByteArray} : ∀ {l : List (ByteArray × Nat)}, lookD nm l = none → delD nm l = l
 | [], _ => rfl
 | e :: r, h => by
  unfold lookD at h
  unfold delD
  split at h
  ·cases h
  ·rename_i hb
   rw [if_neg hb, delD_gone h]
def kindR (k : Int) : Bool := k == 5 || k == 6 || k == 8 || k == 10 || k == 11
theorem used_mem {v v' : V} {ρ : Nat → Nat} (hm : ∀ x, x ∈ v'.held ↔ ∃ n ∈ v.held, ρ n = x) (hb : ∀ n ∈ v.held, v'.bytes (ρ n) = v.bytes n) (hi : ∀ a ∈ v.held, ∀ b ∈ v.held, ρ a = ρ b → a = b) : v'.used = v.used := by
 unfold V.used
 have h1 : sumOf (fun n => (v'.bytes n).length) (dedup v'.held) = sumOf (fun n => (v'.bytes n).length) ((dedup v.held).map ρ) := by
  refine sumOf_same _ (nodup_dedup _) ?_ fun x => ?_
  ·rw [List.nodup_iff_pairwise_ne, List.pairwise_map]
   exact (nodup_dedup v.held).imp_of_mem fun ha hb hne e => hne (hi _ (mem_dedup.1 ha) _ (mem_dedup.1 hb) e)
  ·rw [mem_dedup, hm]
   simp only [List.mem_map, mem_dedup]
 rw [h1]
 unfold sumOf
 rw [List.map_map]
 congr 1
 apply List.map_congr_left
 intro x hx
 simp only [Function.comp_def, hb x (mem_dedup.1 hx)]
theorem Sim.held {v v' : V} {ρ : Nat → Nat} (h : Sim v v' ρ) (x : Nat) : x ∈ v'.held ↔ ∃ n ∈ v.held, ρ n = x := by
 have hp := h.dir.map (·.2)
 rw [List.map_map] at hp
 unfold V.held
 rw [List.mem_append, hp.mem_iff, h.rd]
 simp only [List.map_map, List.mem_map, List.mem_append, Function.comp_def]
 constructor
 ·rintro (⟨e, he, rfl⟩ | ⟨r, hr, rfl⟩)
  ·exact ⟨e.2, .inl ⟨e, he, rfl⟩, rfl⟩
  ·exact ⟨r.n, .inr ⟨r, hr, rfl⟩, rfl⟩
 ·rintro ⟨n, ⟨e, he, rfl⟩ | ⟨r, hr, rfl⟩, rfl⟩
  ·exact .inl ⟨e, he, rfl⟩
  ·exact .inr ⟨r, hr, rfl⟩
theorem Sim.room {v v' : V} {ρ : Nat → Nat} (h : Sim v v' ρ) : v'.room = v.room := by
 unfold V.room
 rw [h.cap, used_mem h.held h.bytes h.inj]
theorem lookD_of {n : ByteArray} {f : Nat} : ∀ {l : List (ByteArray × Nat)}, (l.map (·.1)).Nodup → (n, f) ∈ l → lookD n l = some f
 | [], _, h => by cases h
 | e :: r, hn, h => by
  obtain ⟨h1, h2⟩ := List.nodup_cons.1 hn
  unfold lookD
  rcases List.mem_cons.1 h with rfl | h3
  ·rw [if_pos ((MapKept.bytes_beq _ _).2 rfl)]
  ·split
   ·rename_i hb
    obtain rfl := (MapKept.bytes_beq _ _).1 hb
    exact absurd (List.mem_map.2 ⟨_, h3, rfl⟩) h1
   ·exact lookD_of h2 h3
end
section
variable {b1 b2 : Nat} {w : World} {s o : Nat} {v v2 v' : V} {F F' : Nat → Prop} {ρ : Nat → Nat}
theorem Rep.bytesOf {S : Sto} {φ : List Nat} (h : Rep S v φ) {n : Nat} (hn : n < φ.length) : S.bytesOf (φ.getD n 0) = v.bytes n := by
 obtain ⟨A, c, hf⟩ := h.fl n hn
 unfold Sto.bytesOf
 rw [getD_lt hn, hf]
 rfl
theorem StoreV.keys (h : StoreV b1 w s v F) : (v.dir.map (·.1)).Nodup := by
 obtain ⟨S, φ, h1, h2, _⟩ := h
 have := h1.keys
 rw [h2.dir, List.map_map] at this
 exact this
theorem same_v (h : StoreV b1 w s v2 F) (he : Eqv v v2) (h' : StoreV b2 w o v' F') (hs : Sim v v' ρ) : Calls Tryz.prog 18 #[ptr s, ptr o] w (Quiet (.bool true) w) := by
 have hk := h'.keys
 obtain ⟨S, φ, h1, h2, _⟩ := h
 obtain ⟨T, ψ, h3, h4, _⟩ := h'
 have hT : S.same T = true := by
  refine Sto.same_of ?_ fun e hm => ?_
  ·rw [h2.dlen, h4.dlen, hs.dir.length_eq, he.dir.length_eq, List.length_map]
  ·rw [h2.dir] at hm
   obtain ⟨d, hd, rfl⟩ := List.mem_map.1 hm
   have hdv : d ∈ v.dir := he.dir.subset hd
   have hm' : (d.1, ρ d.2) ∈ v'.dir := hs.dir.symm.subset (List.mem_map.2 ⟨d, hdv, rfl⟩)
   have hl := lookD_of hk hm'
   unfold Sto.has
   rw [h4.look, hl]
   simp only [Option.map_some, decide_eq_true_eq]
   rw [h2.bytesOf (h2.dirb d hd), h4.bytesOf (h4.dirb _ hm'), hs.bytes d.2 (by unfold V.held; exact List.mem_append.2 (.inl (List.mem_map.2 ⟨d, hdv, rfl⟩)))]
   unfold V.bytes
   rw [he.F]
 have := same_c h1 h3
 rw [hT] at this
 exact this
structure Tells (v : V) (L : List (ByteArray × Nat)) : Prop where
 few : L.length ≤ 200
 each : ∀ e ∈ L, mayName e.1 = true ∧ ∃ n, lookD e.1 v.dir = some n ∧ e.2 = (v.bytes n).length
 rise : L.Pairwise fun a b => Op.bytesLess b.1.toList a.1.toList = false ∧ a.1 ≠ b.1
 sum : (L.map (·.2)).sum ≤ v.used
theorem StoreV.fits (h : StoreV b1 w s v F) : v.used ≤ v.cap ∧ v.cap ≤ 67108864 := by
 obtain ⟨S, φ, h1, h2, _⟩ := h
 have := h1.fits
 rw [h2.used, h2.cap] at this
 exact ⟨this, by rw [← h2.cap]; exact h1.small⟩
end
abbrev BoT : TypeId := 4
abbrev SpT : TypeId := 34
structure RI (w0 : World) (X : List (Nat × Obj)) (s : Nat) (v : V) (W : World) : Prop where
 st : ∃ base F, StoreV base W s v F ∧ ∀ k, F k → w0.heap.size ≤ k ∧ ∀ e ∈ X, e.1 ≠ k
 ch : Chg NoB w0 W
 xo : ∀ e ∈ X, W.heap[e.1]? = some e.2 ∧ w0.heap.size ≤ e.1
 vi : VI v
section
variable {w0 W W' : World} {X : List (Nat × Obj)} {s c : Nat} {v v2 v' : V} {ρ : Nat → Nat}
structure RC (w0 : World) (X : List (Nat × Obj)) (s c : Nat) (v v2 : V) (W : World) : Prop where
 st : ∃ base F b' F' v' ρ, StoreV base W s v2 F ∧ StoreV b' W c v' F' ∧ Sim v v' ρ ∧ (∀ k, F k → w0.heap.size ≤ k ∧ (∀ e ∈ X, e.1 ≠ k) ∧ ¬ F' k)
 ch : Chg NoB w0 W
 xo : ∀ e ∈ X, W.heap[e.1]? = some e.2 ∧ w0.heap.size ≤ e.1
 vi : VI v2
theorem riders_q {base : Nat} {F : Nat → Prop} (h : StoreV base W s v F) : Calls Tryz.prog 19 #[ptr s] W (Quiet (.int .i64 (v.rd.length : Nat)) W) := by
 obtain ⟨S, φ, h1, h2, _⟩ := h
 rw [← h2.rlen]
 exact (riders_c h1).mono fun e w' ⟨he, hw⟩ => ⟨he, by rw [← hw]; exact Chg.refl _ _⟩
end
end Go.Proofs.YtggknljlibhkjaaGreat
