/- What is proved: the contracts of Seek, Delete, New. Conditions: the memory holds a store. -/
import Derived.Test.YtggknljlibhkjaaStoreJ
namespace Go.Proofs.Ytggknljlibhkjaa
open Go.RowKit
section
variable {base : Nat} {w : World} {s : Nat} {S : Sto}

/-- a word's signed number -/
def sgn (n : Nat) : Int := if n < 2147483648 then n else (n : Int) - 4294967296
/-- where a rider stands behind Seek -/
def seekTo (n len : Nat) : Nat := min (sgn n).toNat len

theorem wrap_sgn (n : Nat) (h : n < 4294967296) : wrap64 (wrap32 n) = sgn n := by
  unfold wrap64 wrap32 sgn
  split <;> omega

theorem seek_none (h : StoreAt base w s S) {f : Int} (hr : S.rdAt f = none) (n : Nat) :
    Calls Try.prog 63 #[ptr s, .int .i64 f, .int .u32 n] w fun e w' => e = .returned (.tuple #[]) ∧ w = w' := by
  have Hr := Go.Lib.hid (rider_none h hr)
  clear h hr
  unfold ptr at Hr ⊢
  go_enter Try.func63, Try.ntmps63
  go_wp2_with fail
  refine Hr.out.mono ?_
  rintro e w' ⟨rfl, rfl⟩
  go_wp2_with fail
  go_end0
  exact ⟨rfl, rfl⟩

theorem seek_some (h : StoreAt base w s S) {f : Int} {r : Rd} {x : Fl} (hr : S.rdAt f = some r) (hx : S.fl r.f = some x) (n : Nat) (hn : n < 4294967296) :
    Calls Try.prog 63 #[ptr s, .int .i64 f, .int .u32 n] w fun e w' => e = .returned (.tuple #[]) ∧ StoreAt base w' s (S.setPos f (seekTo n x.b.length)) ∧ Chg (· = r.blk) w w' := by
  obtain ⟨x', hx', hp, hl, c0, c1, c2, z2, cf⟩ := h.rfacts hr
  obtain rfl : x' = x := by rw [hx] at hx'; exact (Option.some.inj hx').symm
  have Hr := Go.Lib.hid (rider_some h hr)
  have Hset := Go.Lib.hid (h.setPos hr hx (p := seekTo n x'.b.length) (Nat.min_le_right _ _))
  have Hn := Go.Lib.hid hn
  have hn0 : (0 : Int) ≤ n := by omega
  clear h hr hx hx' c1 hp hn
  generalize S.setPos f (seekTo n x'.b.length) = S' at *
  generalize x'.b.length = m at *
  generalize x'.A = A at *
  generalize x'.c = cap at *
  generalize r.pos = p at *
  generalize r.blk = rb at *
  generalize r.f = rf at *
  unfold ptr at Hr c0 ⊢
  go_enter Try.func63, Try.ntmps63
  go_wp2_with fail
  refine Hr.out.mono ?_
  rintro e w' ⟨rfl, rfl⟩
  go_wp2_with fail
  · have hw := wrap_sgn n Hn.out
    have hv : ((seekTo n m : Nat) : Int) = 0 := by unfold seekTo; omega
    have := Hset.out
    rw [hv] at this
    go_end0
    exact ⟨rfl, this⟩
  · have hw := wrap_sgn n Hn.out
    have hv : ((seekTo n m : Nat) : Int) = m := by unfold seekTo; omega
    have := Hset.out
    rw [hv] at this
    go_end0
    exact ⟨rfl, this⟩
  · have hw := wrap_sgn n Hn.out
    have hv : ((seekTo n m : Nat) : Int) = wrap64 (wrap32 n) := by unfold seekTo; omega
    have := Hset.out
    rw [hv] at this
    go_end0
    exact ⟨rfl, this⟩

/-! ### the directory as a list -/
def delD (n : ByteArray) : List (ByteArray × Nat) → List (ByteArray × Nat)
  | [] => []
  | e :: r => if n == e.1 then r else e :: delD n r
def putD (n : ByteArray) (f : Nat) : List (ByteArray × Nat) → List (ByteArray × Nat)
  | [] => [(n, f)]
  | e :: r => if n == e.1 then (n, f) :: r else e :: putD n f r
theorem delS_dir (n : ByteArray) : ∀ l : List (ByteArray × Nat), delS n (l.map fun e => (e.1, ptr e.2)) = (delD n l).map fun e => (e.1, ptr e.2)
  | [] => rfl
  | e :: r => by
    simp only [List.map_cons, delS, delD]
    split
    · rfl
    · rw [delS_dir n r]; rfl
theorem putS_dir (n : ByteArray) (f : Nat) : ∀ l : List (ByteArray × Nat), putS n (ptr f) (l.map fun e => (e.1, ptr e.2)) = (putD n f l).map fun e => (e.1, ptr e.2)
  | [] => rfl
  | e :: r => by
    simp only [List.map_cons, putS, putD]
    split
    · rfl
    · rw [putS_dir n f r]; rfl
theorem delD_sub (n : ByteArray) : ∀ l : List (ByteArray × Nat), (delD n l).Sublist l
  | [] => List.Sublist.refl _
  | e :: r => by
    unfold delD
    split
    · exact List.sublist_cons_self _ _
    · exact (delD_sub n r).cons_cons _
theorem mem_putD {n : ByteArray} {f : Nat} {x : ByteArray × Nat} : ∀ {l : List (ByteArray × Nat)}, x ∈ putD n f l → x = (n, f) ∨ x ∈ l
  | [], h => by simp [putD] at h; exact .inl h
  | e :: r, h => by
    unfold putD at h
    split at h
    · rcases List.mem_cons.1 h with h | h
      · exact .inl h
      · exact .inr (List.mem_cons_of_mem _ h)
    · rcases List.mem_cons.1 h with h | h
      · exact .inr (by simp [h])
      · rcases mem_putD h with h | h
        · exact .inl h
        · exact .inr (List.mem_cons_of_mem _ h)
theorem lookD_none {n : ByteArray} : ∀ {l : List (ByteArray × Nat)}, lookD n l = none ↔ n ∉ l.map (·.1)
  | [] => by simp [lookD]
  | e :: r => by
    unfold lookD
    by_cases h : n = e.1
    · have hb : (n == e.1) = true := (MapKept.bytes_beq n e.1).2 h
      rw [if_pos hb]
      simp [h]
    · have hb : ¬ (n == e.1) = true := fun hb => h ((MapKept.bytes_beq n e.1).1 hb)
      rw [if_neg hb, lookD_none (l := r)]
      simp [h]
theorem keys_putD (n : ByteArray) (f : Nat) : ∀ l : List (ByteArray × Nat), (putD n f l).map (·.1) = if lookD n l = none then l.map (·.1) ++ [n] else l.map (·.1)
  | [] => rfl
  | e :: r => by
    unfold putD lookD
    by_cases h : (n == e.1) = true
    · rw [if_pos h, if_pos h]
      have := (MapKept.bytes_beq n e.1).1 h
      simp [this]
    · rw [if_neg h, if_neg h]
      simp only [List.map_cons, keys_putD n f r]
      split <;> rfl
theorem length_putD (n : ByteArray) (f : Nat) (l : List (ByteArray × Nat)) : (putD n f l).length = if lookD n l = none then l.length + 1 else l.length := by
  have h := congrArg List.length (keys_putD n f l)
  rw [List.length_map] at h
  rw [h]
  split <;> simp
theorem nodup_putD {n : ByteArray} {f : Nat} {l : List (ByteArray × Nat)} (h : (l.map (·.1)).Nodup) : ((putD n f l).map (·.1)).Nodup := by
  rw [keys_putD]
  split
  · rename_i hn
    have hn := lookD_none.1 hn
    rw [List.nodup_append]
    refine ⟨h, by simp, ?_⟩
    intro a ha b hb hab
    simp at hb
    subst hb hab
    exact hn ha
  · exact h

/-! ### a store with another directory -/
theorem StoreAt.setDir (h : StoreAt base w s S) {w1 : World} {d : List (ByteArray × Nat)} (hm : MapIs w1 S.mb (strs (d.map fun e => (e.1, ptr e.2)))) (hc : Chg (fun k => k = S.mb) w w1)
    (hd : ∀ e ∈ d, (∃ x, S.fl e.2 = some x) ∧ mayName e.1 = true) (hk : (d.map (·.1)).Nodup) (hl : d.length ≤ 200) (hu : sumOf S.len (dedup (d.map (·.2) ++ S.rd.map (·.f))) ≤ S.cap) :
    StoreAt base w1 s { S with dir := d } where
  blk := h.blk.chg hc (Ne.symm (h.map.blk_ne h.blk))
  map := hm
  row := own_chg h.row hc (fun _ hk e => by subst e; exact h.map.own_ne h.row hk)
  rdb := fun r hr => (h.rdb r hr).chg hc (Ne.symm (h.map.blk_ne (h.rdb r hr)))
  rdn := h.rdn
  rdf := h.rdf
  dirf := fun e he => (hd e he).1
  flb := fun f x hf => (h.flb f x hf).chg hc (Ne.symm (h.map.blk_ne (h.flb f x hf)))
  flo := fun f x hf => own_chg (h.flo f x hf) hc (fun _ hk e => by subst e; exact h.map.own_ne (h.flo f x hf) hk)
  sep := h.sep
  low := h.low
  keys := hk
  dnames := fun e he => (hd e he).2
  rnames := h.rnames
  small := h.small
  fits := hu
  nrd := h.nrd
  ndir := hl

def Sto.del (S : Sto) (n : ByteArray) : Sto := { S with dir := delD n S.dir }
theorem StoreAt.del (h : StoreAt base w s S) {w1 : World} {n : ByteArray} (hm : MapIs w1 S.mb (strs ((delD n S.dir).map fun e => (e.1, ptr e.2)))) (hc : Chg (fun k => k = S.mb) w w1) : StoreAt base w1 s (S.del n) := by
  have hs := delD_sub n S.dir
  refine h.setDir hm hc (fun e he => ⟨h.dirf e (hs.subset he), h.dnames e (hs.subset he)⟩) ((hs.map _).nodup h.keys) (Nat.le_trans hs.length_le h.ndir) (Nat.le_trans ?_ h.fits)
  refine sumOf_le_sub (nodup_dedup _) (fun x hx => mem_dedup.2 ?_)
  have hx := mem_dedup.1 hx
  unfold Sto.held
  rcases List.mem_append.1 hx with hx | hx
  · exact List.mem_append.2 (.inl ((hs.map _).subset hx))
  · exact List.mem_append.2 (.inr hx)

theorem delete_c (h : StoreAt base w s S) (nm : ByteArray) :
    Calls Try.prog 65 #[ptr s, .string nm] w fun e w' => e = .returned (.tuple #[]) ∧ StoreAt base w' s (S.del nm) ∧ Chg (fun k => k = S.mb) w w' := by
  have Hth := Go.Lib.hid (there_c h)
  have c0 := h.cell0
  have H := Go.Lib.hid h
  clear h
  unfold ptr at Hth ⊢
  go_enter Try.func65, Try.ntmps65
  go_wp2_with fail
  refine Hth.out.mono ?_
  rintro e w' ⟨rfl, rfl⟩
  go_wp2_with (at_delete; go_must (refine wpList_delete_str _ rfl _ _ _ _ rfl 89 Try.underlying56 Try.underlying9 S.mb _ nm rfl rfl H.out.map ?_); intro w1 hm1 hc1 hz1)
  rw [delS_dir] at hm1
  have Hp := Go.Lib.hid (And.intro (H.out.del hm1 hc1) hc1)
  clear hm1 hc1 hz1
  go_wp2_with fail
  go_end0
  exact ⟨rfl, Hp.out⟩
end
end Go.Proofs.Ytggknljlibhkjaa
