/- What is proved: the contracts of find, Get, Seek, Delete. Conditions: the memory holds a store. · What is proved: the contracts of Seek, Delete, New. Conditions: the memory holds a store. · What is proved: the contracts of New and Register. Conditions: the memory holds a store. · What is proved: the contract of Put. Conditions: the memory holds a store, and the bytes that are handed in. · What is proved: the contract of Put where there is no room. Conditions: the memory holds a store, and the bytes that are handed in. -/
import Derived.Test.YteleglkoagnmcaaGStB
import Derived.Deep.RegionHeld3
import Derived.Deep.DrawnRows
set_option linter.unusedSimpArgs false
set_option linter.unusedVariables false
namespace Go.Proofs.Yteleglkoagnmcaa
open Go.RowKit
section
variable {base : Nat} {w : World} {s : Nat} {S : Sto}

theorem find_arg (h : StoreAt base w s S) {nm : ByteArray} (hsz : nm.size ≤ maxLen) (hn : mayName nm = false) :
    Calls Try.prog 66 #[ptr s, .string nm] w (Quiet (.tuple #[.pointer none, .int .i64 2]) w) := by
  have Hth := Go.Lib.hid (there_c h)
  have H := Go.Lib.hid h
  have Hsz := Go.Lib.hid hsz
  have Hn := Go.Lib.hid hn
  clear h hsz hn
  unfold ptr at Hth ⊢
  go_enter Try.func66, Try.ntmps66
  go_wp2_with fail
  refine Hth.out.mono ?_
  rintro e w' ⟨rfl, rfl⟩
  go_wp2_with fail
  refine (mayName_c nm Hsz.out w).mono ?_
  rw [Hn.out]
  rintro e w1 ⟨rfl, hc⟩
  have Hc := Go.Lib.hid hc
  clear hc
  go_wp2_with fail
  go_ret2
  exact ⟨rfl, Hc.out⟩

theorem find_none (h : StoreAt base w s S) {nm : ByteArray} (hsz : nm.size ≤ maxLen) (hn : mayName nm = true) (hl : lookD nm S.dir = none) :
    Calls Try.prog 66 #[ptr s, .string nm] w (Quiet (.tuple #[.pointer none, .int .i64 6]) w) := by
  have Hth := Go.Lib.hid (there_c h)
  have H := Go.Lib.hid h
  have Hsz := Go.Lib.hid hsz
  have Hn := Go.Lib.hid hn
  have Hl := Go.Lib.hid hl
  clear h hsz hn hl
  unfold ptr at Hth ⊢
  go_enter Try.func66, Try.ntmps66
  go_wp2_with fail
  refine Hth.out.mono ?_
  rintro e w' ⟨rfl, rfl⟩
  go_wp2_with fail
  refine (mayName_c nm Hsz.out w).mono ?_
  rw [Hn.out]
  rintro e w1 ⟨rfl, hc⟩
  have h1 := H.out.chg hc (fun _ _ => id)
  have hlk := h1.lookup nm
  rw [Hl.out] at hlk
  simp only [Option.map_none, Option.getD_none] at hlk
  have c0 := h1.cell0
  have Hc := Go.Lib.hid hc
  clear h1 hc
  go_wp2_with fail
  go_ret2
  exact ⟨rfl, Hc.out⟩

theorem find_ok (h : StoreAt base w s S) {f : Nat} {nm : ByteArray} (hsz : nm.size ≤ maxLen) (hn : mayName nm = true) (hl : lookD nm S.dir = some f) :
    Calls Try.prog 66 #[ptr s, .string nm] w (Quiet (.tuple #[ptr f, .int .i64 0]) w) := by
  have Hth := Go.Lib.hid (there_c h)
  have H := Go.Lib.hid h
  have Hsz := Go.Lib.hid hsz
  have Hn := Go.Lib.hid hn
  have Hl := Go.Lib.hid hl
  clear h hsz hn hl
  unfold ptr at Hth ⊢
  go_enter Try.func66, Try.ntmps66
  go_wp2_with fail
  refine Hth.out.mono ?_
  rintro e w' ⟨rfl, rfl⟩
  go_wp2_with fail
  refine (mayName_c nm Hsz.out w).mono ?_
  rw [Hn.out]
  rintro e w1 ⟨rfl, hc⟩
  have h1 := H.out.chg hc (fun _ _ => id)
  have hlk := h1.lookup nm
  rw [Hl.out] at hlk
  simp only [Option.map_some, Option.getD_some] at hlk
  have c0 := h1.cell0
  have Hc := Go.Lib.hid hc
  clear h1 hc
  unfold ptr at hlk
  go_wp2_with fail
  go_ret2
  exact ⟨rfl, Hc.out⟩

def GetPost (l : List UInt8) (w : World) (e : Ending) (w' : World) : Prop :=
  ∃ A c, e = .returned (.tuple #[.slice A l.length c, .int .i64 0]) ∧ w'.ownsRow w.heap.size 5 1 (.slice A l.length c) l.length (bv l) ∧ Chg NoB w w'

theorem get_ok (h : StoreAt base w s S) {f : Nat} {x : Fl} {nm : ByteArray} (hsz : nm.size ≤ maxLen) (hn : mayName nm = true) (hl : lookD nm S.dir = some f) (hx : S.fl f = some x) :
    Calls Try.prog 35 #[ptr s, .string nm] w (GetPost x.b w) := by
  have Hf := Go.Lib.hid (find_ok h hsz hn hl)
  have H := Go.Lib.hid h
  have Hx := Go.Lib.hid hx
  have hle : x.b.length ≤ 67108864 := by
    have := h.len_le (f := f) (by unfold Sto.held; exact List.mem_append.2 (.inl (List.mem_map.2 ⟨_, lookD_mem hl, rfl⟩)))
    simpa [Sto.len, hx] using this
  clear h hsz hn hl hx
  unfold ptr at Hf ⊢
  go_enter Try.func35, Try.ntmps35
  go_wp2_with fail
  refine Hf.out.mono ?_
  rintro e w1 ⟨rfl, hc⟩
  have h1 := H.out.chg hc (fun _ _ => id)
  have cf : w1.cell? ⟨f, 0, none⟩ = some (.slice x.A x.b.length x.c) := (h1.flb _ _ Hx.out).cell 0
  have Hcl := Go.Lib.hid (clone_c w1 x.A x.c x.b (by omega) (fun hA => by
    rcases (h1.flo _ _ Hx.out).2 with ⟨hv, h0⟩ | ⟨g, cap, cur, hv, _⟩
    · unfold Fl.v at hv; injection hv with _ _ hc; exact ⟨List.eq_nil_of_length_eq_zero h0, hc⟩
    · unfold Fl.v at hv; rw [hA] at hv; cases hv) (CellsAt.of_own (h1.flo _ _ Hx.out)))
  have Hc := Go.Lib.hid hc
  clear h1 hc
  go_wp2_with fail
  refine Hcl.out.mono ?_
  rintro e w2 ⟨v, rfl, ho, hc2⟩
  obtain ⟨A, c, rfl⟩ := own_slice ho
  have Hp : Hid (GetPost x.b w (.returned (.tuple #[.slice A x.b.length c, .int .i64 0])) w2) :=
    Go.Lib.hid ⟨A, c, rfl, ⟨ho.1, by
      rcases ho.2 with h | ⟨g, cap, cur, h1, h2, h3⟩
      · exact .inl h
      · exact .inr ⟨g, cap, cur, h1, Nat.le_trans Hc.out.size h2, h3⟩⟩, Hc.out.trans hc2⟩
  clear ho hc2
  go_wp2_with fail
  go_ret2
  exact Hp.out

theorem get_no (h : StoreAt base w s S) {nm : ByteArray} (hsz : nm.size ≤ maxLen) {n : Int} (hn : mayName nm = false ∧ n = 2 ∨ mayName nm = true ∧ lookD nm S.dir = none ∧ n = 6) :
    Calls Try.prog 35 #[ptr s, .string nm] w (Quiet (.tuple #[.slice none 0 0, .int .i64 n]) w) := by
  have hf : Calls Try.prog 66 #[ptr s, .string nm] w (Quiet (.tuple #[.pointer none, .int .i64 n]) w) := by
    rcases hn with ⟨hn, rfl⟩ | ⟨hn, hl, rfl⟩
    · exact find_arg h hsz hn
    · exact find_none h hsz hn hl
  have Hf := Go.Lib.hid hf
  have d : (n != 0) = true := by rcases hn with ⟨_, rfl⟩ | ⟨_, _, rfl⟩ <;> rfl
  clear h hsz hn hf
  unfold ptr at Hf ⊢
  go_enter Try.func35, Try.ntmps35
  go_wp2_with fail
  refine Hf.out.mono ?_
  rintro e w1 ⟨rfl, hc⟩
  have Hc := Go.Lib.hid hc
  clear hc
  go_wp2_with fail
  go_ret2
  exact ⟨rfl, Hc.out⟩
end
end Go.Proofs.Yteleglkoagnmcaa
set_option linter.unusedSimpArgs false
set_option linter.unusedVariables false
namespace Go.Proofs.Yteleglkoagnmcaa
open Go.RowKit
section
variable {base : Nat} {w : World} {s : Nat} {S : Sto}

/-- a word's signed number -/
def sgn (n : Nat) : Int := if n < 2147483648 then n else (n : Int) - 4294967296
/-- where a rider stands behind Seek -/
def seekTo (n len : Nat) : Nat := min (sgn n).toNat len

theorem wrap_sgn (n : Nat) (h : n < 4294967296) : wrap64 (wrap32 n) = sgn n := by
  unfold wrap64 wrap32 sgn
  split <;> omega

def delD (n : ByteArray) : List (ByteArray × Nat) → List (ByteArray × Nat)
  | [] => []
  | e :: r => if n == e.1 then r else e :: delD n r
def putD (n : ByteArray) (f : Nat) : List (ByteArray × Nat) → List (ByteArray × Nat)
  | [] => [(n, f)]
  | e :: r => if n == e.1 then (n, f) :: r else e :: putD n f r
theorem delS_dir (n : ByteArray) : ∀ l : List (ByteArray × Nat), delS n (l.map fun e => (e.1, ptr e.2)) = (delD n l).map fun e => (e.1, ptr e.2)
  | [] => rfl
  | e :: r => by
    simp only [List.map_cons, delS, delD]
    split
    · rfl
    · rw [delS_dir n r]; rfl
theorem putS_dir (n : ByteArray) (f : Nat) : ∀ l : List (ByteArray × Nat), putS n (ptr f) (l.map fun e => (e.1, ptr e.2)) = (putD n f l).map fun e => (e.1, ptr e.2)
  | [] => rfl
  | e :: r => by
    simp only [List.map_cons, putS, putD]
    split
    · rfl
    · rw [putS_dir n f r]; rfl
theorem delD_sub (n : ByteArray) : ∀ l : List (ByteArray × Nat), (delD n l).Sublist l
  | [] => List.Sublist.refl _
  | e :: r => by
    unfold delD
    split
    · exact List.sublist_cons_self _ _
    · exact (delD_sub n r).cons_cons _
theorem mem_putD {n : ByteArray} {f : Nat} {x : ByteArray × Nat} : ∀ {l : List (ByteArray × Nat)}, x ∈ putD n f l → x = (n, f) ∨ x ∈ l
  | [], h => by simp [putD] at h; exact .inl h
  | e :: r, h => by
    unfold putD at h
    split at h
    · rcases List.mem_cons.1 h with h | h
      · exact .inl h
      · exact .inr (List.mem_cons_of_mem _ h)
    · rcases List.mem_cons.1 h with h | h
      · exact .inr (by simp [h])
      · rcases mem_putD h with h | h
        · exact .inl h
        · exact .inr (List.mem_cons_of_mem _ h)
theorem lookD_none {n : ByteArray} : ∀ {l : List (ByteArray × Nat)}, lookD n l = none ↔ n ∉ l.map (·.1)
  | [] => by simp [lookD]
  | e :: r => by
    unfold lookD
    by_cases h : n = e.1
    · have hb : (n == e.1) = true := (MapKept.bytes_beq n e.1).2 h
      rw [if_pos hb]
      simp [h]
    · have hb : ¬ (n == e.1) = true := fun hb => h ((MapKept.bytes_beq n e.1).1 hb)
      rw [if_neg hb, lookD_none (l := r)]
      simp [h]
theorem keys_putD (n : ByteArray) (f : Nat) : ∀ l : List (ByteArray × Nat), (putD n f l).map (·.1) = if lookD n l = none then l.map (·.1) ++ [n] else l.map (·.1)
  | [] => rfl
  | e :: r => by
    unfold putD lookD
    by_cases h : (n == e.1) = true
    · rw [if_pos h, if_pos h]
      have := (MapKept.bytes_beq n e.1).1 h
      simp [this]
    · rw [if_neg h, if_neg h]
      simp only [List.map_cons, keys_putD n f r]
      split <;> rfl
theorem length_putD (n : ByteArray) (f : Nat) (l : List (ByteArray × Nat)) : (putD n f l).length = if lookD n l = none then l.length + 1 else l.length := by
  have h := congrArg List.length (keys_putD n f l)
  rw [List.length_map] at h
  rw [h]
  split <;> simp
theorem nodup_putD {n : ByteArray} {f : Nat} {l : List (ByteArray × Nat)} (h : (l.map (·.1)).Nodup) : ((putD n f l).map (·.1)).Nodup := by
  rw [keys_putD]
  split
  · rename_i hn
    have hn := lookD_none.1 hn
    rw [List.nodup_append]
    refine ⟨h, by simp, ?_⟩
    intro a ha b hb hab
    simp at hb
    subst hb hab
    exact hn ha
  · exact h

/-! ### a store with another directory -/
theorem StoreAt.setDir (h : StoreAt base w s S) {w1 : World} {d : List (ByteArray × Nat)} (hm : MapIs w1 S.mb (strs (d.map fun e => (e.1, ptr e.2)))) (hc : Chg (fun k => k = S.mb) w w1)
    (hd : ∀ e ∈ d, (∃ x, S.fl e.2 = some x) ∧ mayName e.1 = true) (hk : (d.map (·.1)).Nodup) (hl : d.length ≤ 200) (hu : sumOf S.len (dedup (d.map (·.2) ++ S.rd.map (·.f))) ≤ S.cap) :
    StoreAt base w1 s { S with dir := d } where
  blk := h.blk.chg hc (Ne.symm (h.map.blk_ne h.blk))
  map := hm
  row := own_chg h.row hc (fun _ hk e => by subst e; exact h.map.own_ne h.row hk)
  rdb := fun r hr => (h.rdb r hr).chg hc (Ne.symm (h.map.blk_ne (h.rdb r hr)))
  rdn := h.rdn
  rdf := h.rdf
  dirf := fun e he => (hd e he).1
  flb := fun f x hf => (h.flb f x hf).chg hc (Ne.symm (h.map.blk_ne (h.flb f x hf)))
  flo := fun f x hf => own_chg (h.flo f x hf) hc (fun _ hk e => by subst e; exact h.map.own_ne (h.flo f x hf) hk)
  sep := h.sep
  low := h.low
  keys := hk
  dnames := fun e he => (hd e he).2
  rnames := h.rnames
  small := h.small
  fits := hu
  nrd := h.nrd
  ndir := hl

def Sto.del (S : Sto) (n : ByteArray) : Sto := { S with dir := delD n S.dir }
theorem StoreAt.del (h : StoreAt base w s S) {w1 : World} {n : ByteArray} (hm : MapIs w1 S.mb (strs ((delD n S.dir).map fun e => (e.1, ptr e.2)))) (hc : Chg (fun k => k = S.mb) w w1) : StoreAt base w1 s (S.del n) := by
  have hs := delD_sub n S.dir
  refine h.setDir hm hc (fun e he => ⟨h.dirf e (hs.subset he), h.dnames e (hs.subset he)⟩) ((hs.map _).nodup h.keys) (Nat.le_trans hs.length_le h.ndir) (Nat.le_trans ?_ h.fits)
  refine sumOf_le_sub (nodup_dedup _) (fun x hx => mem_dedup.2 ?_)
  have hx := mem_dedup.1 hx
  unfold Sto.held
  rcases List.mem_append.1 hx with hx | hx
  · exact List.mem_append.2 (.inl ((hs.map _).subset hx))
  · exact List.mem_append.2 (.inr hx)

end
end Go.Proofs.Yteleglkoagnmcaa
set_option linter.unusedSimpArgs false
set_option linter.unusedVariables false
namespace Go.Proofs.Yteleglkoagnmcaa
open Go.RowKit
section
variable {base : Nat} {w : World} {s : Nat} {S : Sto}

def emptySto (mb cap : Nat) : Sto := { cap := cap, mb := mb, rA := none, rc := 0, dir := [], rd := [], fl := fun _ => none }
theorem emptySto_ok {w : World} {s mb cap : Nat} (hb : Blk w s 67 #[.map (some mb), .slice none 0 0, .int .i64 cap]) (hm : MapIs w mb []) (h1 : base ≤ s) (h2 : base ≤ mb) (hc : cap ≤ 67108864) : StoreAt base w s (emptySto mb cap) where
  blk := hb
  map := hm
  row := World.ownsRow_nil _ _ _ _
  rdb := fun r hr => by cases hr
  rdn := List.nodup_nil
  rdf := fun r hr => by cases hr
  dirf := fun r hr => by cases hr
  flb := fun f x hf => by cases hf
  flo := fun f x hf => by cases hf
  sep := fun f g x y k hf => by cases hf
  low := fun k hk => by
    rcases hk with rfl | rfl | hk | ⟨r, hr, _⟩ | ⟨f, x, hf, _⟩
    · exact h1
    · exact h2
    · simp [Sto.rv, emptySto, Value.ownBlock] at hk
    · cases hr
    · cases hf
  keys := List.nodup_nil
  dnames := fun r hr => by cases hr
  rnames := fun r hr => by cases hr
  small := hc
  fits := by simp [Sto.used, Sto.held, emptySto, dedup, sumOf]
  nrd := Nat.zero_le _
  ndir := Nat.zero_le _

def NewPost (c : Nat) (w : World) (e : Ending) (w' : World) : Prop :=
  ∃ s mb, e = .returned (.tuple #[ptr s, .int .i64 0]) ∧ StoreAt w.heap.size w' s (emptySto mb c) ∧ Chg NoB w w'

theorem new_ok (c : Nat) (hc : c ≤ 67108864) (w : World) : Calls Try.prog 27 #[.int .i64 c] w (NewPost c w) := by
  have d1 : decide ((c : Int) < 0) = false := by simp
  have d2 : decide (67108864 < (c : Int)) = false := by simp; omega
  have Hc := Go.Lib.hid hc
  have hmm := @run_makeMap Try.prog
  clear hc
  go_enter Try.func27, Try.ntmps27
  go_wp2_with fail
  go_ret2
  refine ⟨w.heap.size + 1, w.heap.size, rfl, emptySto_ok ?_ ?_ (by omega) (Nat.le_refl _) Hc.out, ((Chg.refl _ _).alloc _).alloc _⟩
  · exact Blk.new1 _ _ _ _
  · exact (MapIs.new w).alloc _

theorem new_arg (c : Int) (hc : c < 0 ∨ 67108864 < c) (w : World) : Calls Try.prog 27 #[.int .i64 c] w fun e w' => e = .returned (.tuple #[.pointer none, .int .i64 2]) ∧ w = w' := by
  by_cases h0 : c < 0
  · have d1 : decide (c < 0) = true := by simpa using h0
    clear hc
    go_enter Try.func27, Try.ntmps27
    go_wp2_with fail
    go_ret2
    exact ⟨rfl, rfl⟩
  · have d1 : decide (c < 0) = false := by simpa using h0
    have d2 : decide (67108864 < c) = true := by simp; omega
    clear hc
    go_enter Try.func27, Try.ntmps27
    go_wp2_with fail
    go_ret2
    exact ⟨rfl, rfl⟩

theorem run_len_files (h : StoreAt base w s S) (ty : TypeId) : (Builtin.len_ #[64] ty #[.map (some S.mb)]).run Try.prog w = .ok (.int .i64 S.dir.length) w := by
  obtain ⟨es, clock, hm, hkv, _⟩ := h.map
  have hl : es.size = S.dir.length := by
    have := congrArg List.length hkv
    simpa [strs] using this
  simp [Builtin.len_, run_underlying Try.underlying64, MapKept.run_getObj_map hm, Result.andThen, goInt, hl]

def Sto.enter (S : Sto) (n : ByteArray) (f : Nat) : Sto := { S with dir := putD n f S.dir }

end
end Go.Proofs.Yteleglkoagnmcaa
set_option linter.unusedSimpArgs false
set_option linter.unusedVariables false
namespace Go.Proofs.Yteleglkoagnmcaa
open Go.RowKit
section
variable {base : Nat} {w w1 : World} {s : Nat} {S : Sto}

theorem own_base {w : World} {b b' : Nat} {e : TypeId} {size n : Nat} {v : Value} {xs : List Value} (h : w.ownsRow b' e size v n xs) (hb : b ≤ b') : w.ownsRow b e size v n xs :=
  ⟨h.1, h.2.imp id fun ⟨g, cap, cur, h1, h2, h3⟩ => ⟨g, cap, cur, h1, Nat.le_trans hb h2, h3⟩⟩

theorem sum_more (g : Nat → Nat) {l : List Nat} {f : Nat} {m : List Nat} (hm : ∀ x ∈ m, x = f ∨ x ∈ l) : sumOf g (dedup m) ≤ g f + sumOf g (dedup l) := by
  rw [← sumOf_cons]
  exact sumOf_le_sub (nodup_dedup _) (fun x hx => by
    rcases hm x (mem_dedup.1 hx) with h | h
    · simp [h]
    · simp [mem_dedup, h])

theorem StoreAt.enter (h : StoreAt base w s S) {w1 : World} {nm : ByteArray} {f : Nat} {x : Fl} (hx : S.fl f = some x) (hn : mayName nm = true) (hd : lookD nm S.dir ≠ none ∨ S.dir.length < 200)
    (hm : MapIs w1 S.mb (strs (putS nm (ptr f) (S.dir.map fun e => (e.1, ptr e.2))))) (hc : Chg (fun k => k = S.mb) w w1) (hu : S.used + x.b.length ≤ S.cap) : StoreAt base w1 s (S.enter nm f) := by
  rw [putS_dir] at hm
  refine h.setDir hm hc (fun e he => ?_) (nodup_putD h.keys) ?_ ?_
  · rcases mem_putD he with rfl | he
    · exact ⟨⟨x, hx⟩, hn⟩
    · exact ⟨h.dirf e he, h.dnames e he⟩
  · rw [length_putD]
    have := h.ndir
    split
    · rename_i hn
      rcases hd with hd | hd
      · exact absurd hn hd
      · omega
    · omega
  · have := sum_more S.len (l := S.held) (f := f) (m := (putD nm f S.dir).map (·.2) ++ S.rd.map (·.f)) (fun y hy => by
      unfold Sto.held
      rcases List.mem_append.1 hy with hy | hy
      · obtain ⟨e, he, rfl⟩ := List.mem_map.1 hy
        rcases mem_putD he with rfl | he
        · exact .inl rfl
        · exact .inr (List.mem_append.2 (.inl (List.mem_map.2 ⟨e, he, rfl⟩)))
      · exact .inr (List.mem_append.2 (.inr hy)))
    have e : S.len f = x.b.length := by simp [Sto.len, hx]
    rw [e] at this
    unfold Sto.used at hu
    omega

theorem put_arg (h : StoreAt base w s S) {nm : ByteArray} (hsz : nm.size ≤ maxLen) (hn : mayName nm = false) (v : Value) :
    Calls Try.prog 22 #[ptr s, .string nm, v] w (Quiet (.int .i64 2) w) := by
  have Hth := Go.Lib.hid (there_c h)
  have Hsz := Go.Lib.hid hsz
  have Hn := Go.Lib.hid hn
  clear h hsz hn
  unfold ptr at Hth ⊢
  go_enter Try.func22, Try.ntmps22
  go_wp2_with fail
  refine Hth.out.mono ?_
  rintro e w' ⟨rfl, rfl⟩
  go_wp2_with fail
  refine (mayName_c nm Hsz.out w).mono ?_
  rw [Hn.out]
  rintro e w1 ⟨rfl, hc⟩
  have Hc := Go.Lib.hid hc
  clear hc
  go_wp2_with fail
  go_ret
  exact ⟨rfl, Hc.out⟩

theorem put_files (h : StoreAt base w s S) {nm : ByteArray} (hsz : nm.size ≤ maxLen) (hn : mayName nm = true) (hl : lookD nm S.dir = none) (hd : 200 ≤ S.dir.length) (v : Value) :
    Calls Try.prog 22 #[ptr s, .string nm, v] w (Quiet (.int .i64 5) w) := by
  have Hth := Go.Lib.hid (there_c h)
  have H := Go.Lib.hid h
  have Hsz := Go.Lib.hid hsz
  have Hn := Go.Lib.hid hn
  have Hl := Go.Lib.hid hl
  have d1 : decide (200 ≤ (S.dir.length : Int)) = true := by simp; omega
  have hnd : (S.dir.length : Int) ≤ 200 := by have := h.ndir; omega
  clear h hsz hn hl hd
  unfold ptr at Hth ⊢
  go_enter Try.func22, Try.ntmps22
  go_wp2_with fail
  refine Hth.out.mono ?_
  rintro e w' ⟨rfl, rfl⟩
  go_wp2_with fail
  refine (mayName_c nm Hsz.out w).mono ?_
  rw [Hn.out]
  rintro e w1 ⟨rfl, hc⟩
  have h1 := H.out.chg hc (fun _ _ => id)
  have hlk := h1.lookup nm
  rw [Hl.out] at hlk
  simp only [Option.map_none, Option.getD_none] at hlk
  have hln := run_len_files h1
  have c0 := h1.cell0
  have Hc := Go.Lib.hid hc
  clear h1 hc
  go_wp2_with fail
  go_ret
  exact ⟨rfl, Hc.out⟩

def PutPost (base s : Nat) (S : Sto) (nm : ByteArray) (l : List UInt8) (w : World) (e : Ending) (w' : World) : Prop :=
  ∃ f A c, e = .returned (.int .i64 0) ∧ S.fl f = none ∧ StoreAt base w' s (((S.del nm).addFile f ⟨A, c, l⟩).enter nm f) ∧ Chg (foot s S) w w' ∧ ∀ k, foot s (((S.del nm).addFile f ⟨A, c, l⟩).enter nm f) k → k < w.heap.size → foot s S k

def Sto.was (S : Sto) (nm : ByteArray) : Value := ((lookD nm S.dir).map ptr).getD (.pointer none)
theorem was_cases (S : Sto) (nm : ByteArray) (hd : lookD nm S.dir ≠ none ∨ S.dir.length < 200) : (∃ g, S.was nm = ptr g) ∨ (S.was nm = .pointer none ∧ (S.dir.length : Int) < 200) := by
  unfold Sto.was
  cases hl : lookD nm S.dir with
  | some g => exact .inl ⟨g, rfl⟩
  | none =>
    rcases hd with hd | hd
    · exact absurd hl hd
    · exact .inr ⟨rfl, by omega⟩
theorem StoreAt.lookWas (h : StoreAt base w s S) (n : ByteArray) : (Instr.lookup 64 (.map (some S.mb)) (.string n) false).run Try.prog w = .ok (S.was n) w := h.lookup n

theorem delD_length (n : ByteArray) : ∀ l : List (ByteArray × Nat), (delD n l).length + (if lookD n l = none then 0 else 1) = l.length
  | [] => rfl
  | e :: r => by
    unfold delD lookD
    split
    · simp
    · have := delD_length n r
      simp only [List.length_cons]
      omega
theorem src_keep (h : StoreAt base w1 s S) {A : Option Addr} {xs : List Value} {w w2 w3 : World} (hcl : CellsAt w A xs) (h1 : Chg NoB w w1) (h2 : Chg (fun k => k = S.mb) w1 w2) (h3 : Chg NoB w2 w3) : CellsAt w3 A xs := by
  have a1 := hcl.chg h1 (fun _ _ => id)
  have a2 : CellsAt w2 A xs := by
    intro hl
    obtain ⟨ad, hA, hc⟩ := a1 hl
    refine (a1.chg h2 (fun ad' hA' e => ?_)) hl
    rw [hA] at hA'
    cases hA'
    have h0 := hc 0 _ (List.getElem?_eq_getElem hl)
    obtain ⟨es, clock, hm, _⟩ := h.map
    unfold World.cell? at h0
    rw [block_of_add, e, hm] at h0
    cases h0
  exact a2.chg h3 (fun _ _ => id)
theorem put_keep {nm : ByteArray} (h : StoreAt base w s (S.del nm)) : w.cell? ⟨s, 0, none⟩ = some (.map (some S.mb)) ∧ MapIs w S.mb (strs ((delD nm S.dir).map fun e => (e.1, ptr e.2))) := ⟨h.cell0, h.map⟩
theorem put_keep_set {m : Nat} {o : Obj} {v : Value} (hne : s ≠ m) (h : w.cell? ⟨s, 0, none⟩ = some v) : (setB w m o).cell? ⟨s, 0, none⟩ = some v :=
  (World.cell?_of_block (setB_other w m o s hne)).trans h
theorem put_final {base : Nat} {w w1 w2 w3 w4 : World} {s : Nat} {S : Sto} {nm : ByteArray} {A : Option Addr} {c : Nat} {l : List UInt8} (h : StoreAt base w s S) (hn : mayName nm = true) (hd : lookD nm S.dir ≠ none ∨ S.dir.length < 200) (hfit : l.length ≤ (S.del nm).room)
    (hc1 : Chg NoB w w1) (hc2 : Chg (fun k => k = S.mb) w1 w2) (hc3 : Chg NoB w2 w3) (h3 : StoreAt base w3 s (S.del nm)) (hc4 : Chg NoB w3.drew w4) (ho : w4.ownsRow w3.drew.heap.size 5 1 (.slice A l.length c) l.length (bv l)) :
    PutPost base s S nm l w (.returned (.int .i64 0)) (setB (w4.alloc (Obj.cells #[Value.slice A l.length c] 99)) S.mb
      (updO Try.prog (w4.alloc (Obj.cells #[Value.slice A l.length c] 99)) 64 S.mb ((delD nm S.dir).map fun e => (e.1, ptr e.2)) nm (ptr w4.heap.size))) := by
  have hc5 : Chg NoB w3 (w4.alloc (Obj.cells #[Value.slice A l.length c] 99)) := ((((Chg.refl NoB w3).drew).trans hc4)).alloc _
  have hs3 : w3.heap.size ≤ w4.heap.size := hc4.size
  have hbase : base ≤ w3.heap.size := by have := h3.low s (.inl rfl); have := h3.blk.lt; omega
  obtain ⟨h5, hf5⟩ := h3.addFile (f := w4.heap.size) (x := ⟨A, c, l⟩) hc5 hs3 (Blk.new w4 _ _) ((own_base ho hbase).alloc _) (fun k hk => (ho.lt k hk).1)
  have hm5 : MapIs (w4.alloc (Obj.cells #[Value.slice A l.length c] 99)) S.mb (strs ((delD nm S.dir).map fun e => (e.1, ptr e.2))) := h5.map
  obtain ⟨_, hm6⟩ := updO_spec _ Try.underlying64 Try.underlying9 hm5 nm (ptr w4.heap.size)
  have hc6 : Chg (fun k => k = S.mb) (w4.alloc (Obj.cells #[Value.slice A l.length c] 99)) (setB (w4.alloc (Obj.cells #[Value.slice A l.length c] 99)) S.mb
      (updO Try.prog (w4.alloc (Obj.cells #[Value.slice A l.length c] 99)) 64 S.mb ((delD nm S.dir).map fun e => (e.1, ptr e.2)) nm (ptr w4.heap.size))) :=
    setB_chg (F := fun k => k = S.mb) (Chg.refl _ _) S.mb (fun _ => rfl) _
  have hx : ((S.del nm).addFile w4.heap.size ⟨A, c, l⟩).fl w4.heap.size = some ⟨A, c, l⟩ := by simp [Sto.addFile]
  have hnone : S.fl w4.heap.size = none := by
    cases hy : S.fl w4.heap.size with
    | none => rfl
    | some y => have := (h3.flb _ y hy).lt; omega
  have hd' : lookD nm (delD nm S.dir) ≠ none ∨ (delD nm S.dir).length < 200 := by
    right
    have h1 := h.ndir
    have h2 := delD_length nm S.dir
    rcases hd with hd | hd
    · rw [if_neg hd] at h2; omega
    · have := (delD_sub nm S.dir).length_le; omega
  have hu : ((S.del nm).addFile w4.heap.size ⟨A, c, l⟩).used + l.length ≤ S.cap := by
    have e : ((S.del nm).addFile w4.heap.size ⟨A, c, l⟩).used = (S.del nm).used := by
      unfold Sto.used
      refine sumOf_congr (fun g hg => ?_)
      obtain ⟨y, hy⟩ := held_file h3 (mem_dedup.1 hg)
      unfold Sto.len Sto.addFile
      simp only
      rw [if_neg]
      rintro rfl
      have := (h3.flb _ y hy).lt
      omega
    have h1 : (S.del nm).used ≤ S.cap := h3.fits
    have h2 : (S.del nm).room = S.cap - (S.del nm).used := rfl
    omega
  have h6 := h5.enter hx hn hd' hm6 hc6 hu
  have hz1 := hc1.size
  have hz2 := hc2.size
  have hz3 := hc3.size
  have hz5 := hc5.size
  refine ⟨_, A, c, rfl, hnone, h6, ?_, ?_⟩
  · have a1 : Chg (foot s S) w w1 := hc1.mono (fun _ _ h => h.elim)
    have a2 := a1.step hc2 (fun k _ hk => .inr (.inl hk))
    have a3 := a2.step hc3 (fun k _ hk => hk.elim)
    have a5 := a3.step hc5 (fun k _ hk => hk.elim)
    exact a5.step hc6 (fun k _ hk => .inr (.inl hk))
  · intro k hk hlt
    rcases hf5 k hk with h | h
    · exact h
    · omega
theorem room_small (h : StoreAt base w s S) : S.room ≤ 67108864 := by
  have := h.small
  unfold Sto.room
  omega

attribute [local go_sem ↓] Go.wp_at_zero Go.wp_at_succ

set_option maxHeartbeats 1000000 in
theorem put_ok (h : StoreAt base w s S) {nm : ByteArray} (hsz : nm.size ≤ maxLen) (hn : mayName nm = true) (hd : lookD nm S.dir ≠ none ∨ S.dir.length < 200)
    {A : Option Addr} {c : Nat} {l : List UInt8} (hA : A = none → l = [] ∧ c = 0) (hcl : CellsAt w A (bv l)) (hfit : l.length ≤ (S.del nm).room) :
    Calls Try.prog 22 #[ptr s, .string nm, .slice A l.length c] w (PutPost base s S nm l w) := by
  have Hth := Go.Lib.hid (there_c h)
  have H := Go.Lib.hid h
  have Hsz := Go.Lib.hid hsz
  have Hn := Go.Lib.hid hn
  have hnd : (S.dir.length : Int) ≤ 200 := by have := h.ndir; omega
  have hcase := was_cases S nm hd
  have Hd := Go.Lib.hid hd
  have HA := Go.Lib.hid hA
  have Hcl := Go.Lib.hid hcl
  have Hfit := Go.Lib.hid hfit
  have d2 : decide ((S.del nm).room < l.length) = false := by simp; omega
  have d3 : (S.dir.length : Int) < 200 → decide (200 ≤ (S.dir.length : Int)) = false := fun h => by simp; omega
  clear h hsz hn hd hA hcl hfit
  unfold ptr at Hth hcase ⊢
  go_enter Try.func22, Try.ntmps22
  go_wp2_with fail
  refine Hth.out.mono ?_
  rintro e w' ⟨rfl, rfl⟩
  go_wp2_with fail
  refine (mayName_c nm Hsz.out w).mono ?_
  rw [Hn.out]
  rintro e w1 ⟨rfl, hc1⟩
  have h1 := H.out.chg hc1 (fun _ _ => id)
  have hlk := h1.lookWas nm
  have hln := run_len_files h1
  have c0 := h1.cell0
  have Hc1 := Go.Lib.hid hc1
  have H1 := Go.Lib.hid h1
  clear h1 hc1
  generalize S.was nm = V at *
  rcases hcase with ⟨g, rfl⟩ | ⟨rfl, hlt⟩
  all_goals
    go_wp2_with (at_delete; go_must (refine wpList_delete_str _ rfl _ _ _ _ rfl 95 Try.underlying64 Try.underlying9 S.mb _ nm rfl rfl H1.out.map ?_); intro w2 hm2 hc2 hz2)
    rw [delS_dir] at hm2
    have h2 := H1.out.del hm2 hc2
    have Hr := Go.Lib.hid (room_c h2)
    have H2 := Go.Lib.hid h2
    have Hc2 := Go.Lib.hid hc2
    clear hm2 hc2 hz2 h2 hlk hln c0
    unfold ptr at Hr
    go_wp2_with fail
    refine Hr.out.mono ?_
    rintro e w3 ⟨rfl, hc3⟩
    have H3 := Go.Lib.hid (H2.out.chg hc3 (fun _ _ => id))
    have Hc3 := Go.Lib.hid hc3
    clear hc3
    have Hcl3 := Go.Lib.hid (src_keep H1.out Hcl.out Hc1.out Hc2.out Hc3.out)
    have c0 := H3.out.cell0
    simp only [Sto.del] at c0
    go_wp2_with fail
    have Hup : Hid (∀ (W : World) (v : Value), MapIs W S.mb (strs ((delD nm S.dir).map fun e => (e.1, ptr e.2))) → (Instr.mapUpdate 64 (.map (some S.mb)) (.string nm) v).run Try.prog W = .ok () (setB W S.mb (updO Try.prog W 64 S.mb ((delD nm S.dir).map fun e => (e.1, ptr e.2)) nm v))) := Go.Lib.hid
      (fun W v hm => (updO_spec W Try.underlying64 Try.underlying9 hm nm v).1)
    have Hne : Hid (s ≠ S.mb) := Go.Lib.hid (Ne.symm (H.out.map.blk_ne H.out.blk))
    set_option maxRecDepth 100000 in
    go_region_held3 (fun w' => w'.cell? ⟨s, 0, none⟩ = some (.map (some S.mb)))
      (first
        | exact (put_keep (H3.out.chg ((Chg.refl NoB w3).drew) (fun _ _ => id))).1
        | exact (put_keep (H3.out.chg (((Chg.refl NoB w3).drew).trans hc4) (fun _ _ => id))).1
        | exact (put_keep (H3.out.chg ((((Chg.refl NoB w3).drew).trans hc4).alloc _) (fun _ _ => id))).1
        | exact put_keep_set Hne.out (put_keep (H3.out.chg ((((Chg.refl NoB w3).drew).trans hc4).alloc _) (fun _ _ => id))).1)
      (first
        | (go_at_call 42; refine (clone_c w3.drew A c l ?_ HA.out (Hcl3.out.chg ((Chg.refl NoB w3).drew) (fun _ _ => id))).mono ?_; (have := Hfit.out; have := room_small H2.out; omega); rintro e w4 ⟨v, rfl, ho, hc4⟩; obtain ⟨A', c', rfl⟩ := own_slice ho; have hup4 := Hup.out _ (.pointer (some ⟨w4.heap.size, 0, none⟩)) (put_keep (H3.out.chg ((((Chg.refl NoB w3).drew).trans hc4).alloc (Obj.cells #[Value.slice A' l.length c'] 99)) (fun _ _ => id))).2))
    have Hp := Go.Lib.hid (put_final H.out Hn.out Hd.out Hfit.out Hc1.out Hc2.out Hc3.out H3.out hc4 ho)
    clear hc4 ho hup4
    go_wp2_with fail
    go_ret
    exact Hp.out
end
end Go.Proofs.Yteleglkoagnmcaa
set_option linter.unusedSimpArgs false
set_option linter.unusedVariables false
namespace Go.Proofs.Yteleglkoagnmcaa
open Go.RowKit
section
variable {base : Nat} {w w1 : World} {s : Nat} {S : Sto}

def FullPost (base s : Nat) (S S' : Sto) (w : World) (e : Ending) (w' : World) : Prop :=
  e = .returned (.int .i64 5) ∧ StoreAt base w' s S' ∧ Chg (fun k => k = S.mb) w w'

theorem put_full_none (h : StoreAt base w s S) {nm : ByteArray} (hsz : nm.size ≤ maxLen) (hn : mayName nm = true) (hl : lookD nm S.dir = none) (hlt : S.dir.length < 200)
    {A : Option Addr} {c m : Nat} (hfull : (S.del nm).room < m) :
    Calls Try.prog 22 #[ptr s, .string nm, .slice A m c] w (FullPost base s S (S.del nm) w) := by
  have Hth := Go.Lib.hid (there_c h)
  have H := Go.Lib.hid h
  have Hsz := Go.Lib.hid hsz
  have Hn := Go.Lib.hid hn
  have Hl := Go.Lib.hid hl
  have d2 : decide ((S.del nm).room < m) = true := by simpa using hfull
  have d3 : decide (200 ≤ (S.dir.length : Int)) = false := by simp; omega
  have hlt' : (S.dir.length : Int) < 200 := by omega
  clear h hsz hn hl hlt hfull
  unfold ptr at Hth ⊢
  go_enter Try.func22, Try.ntmps22
  go_wp2_with fail
  refine Hth.out.mono ?_
  rintro e w' ⟨rfl, rfl⟩
  go_wp2_with fail
  refine (mayName_c nm Hsz.out w).mono ?_
  rw [Hn.out]
  rintro e w1 ⟨rfl, hc1⟩
  have h1 := H.out.chg hc1 (fun _ _ => id)
  have hlk := h1.lookup nm
  rw [Hl.out] at hlk
  simp only [Option.map_none, Option.getD_none] at hlk
  have hln := run_len_files h1
  have c0 := h1.cell0
  have Hc1 := Go.Lib.hid hc1
  have H1 := Go.Lib.hid h1
  clear h1 hc1
  go_wp2_with (at_delete; go_must (refine wpList_delete_str _ rfl _ _ _ _ rfl 95 Try.underlying64 Try.underlying9 S.mb _ nm rfl rfl H1.out.map ?_); intro w2 hm2 hc2 hz2)
  rw [delS_dir] at hm2
  have h2 := H1.out.del hm2 hc2
  have Hr := Go.Lib.hid (room_c h2)
  have H2 := Go.Lib.hid h2
  have Hc2 := Go.Lib.hid hc2
  clear hm2 hc2 hz2 h2 hlk hln c0
  unfold ptr at Hr
  go_wp2_with fail
  refine Hr.out.mono ?_
  rintro e w3 ⟨rfl, hc3⟩
  have H3 := Go.Lib.hid (H2.out.chg hc3 (fun _ _ => id))
  have Hc3 := Go.Lib.hid hc3
  clear hc3
  go_wp2_with fail
  go_ret
  exact ⟨rfl, H3.out, ((Hc1.out.mono (fun _ _ h => h.elim)).trans Hc2.out).trans (Hc3.out.mono (fun _ _ h => h.elim))⟩

theorem put_full_some (h : StoreAt base w s S) {nm : ByteArray} {g : Nat} (hsz : nm.size ≤ maxLen) (hn : mayName nm = true) (hl : lookD nm S.dir = some g)
    {A : Option Addr} {c m : Nat} (hfull : (S.del nm).room < m) :
    Calls Try.prog 22 #[ptr s, .string nm, .slice A m c] w (FullPost base s S ((S.del nm).enter nm g) w) := by
  have Hth := Go.Lib.hid (there_c h)
  have H := Go.Lib.hid h
  have Hsz := Go.Lib.hid hsz
  have Hn := Go.Lib.hid hn
  have Hl := Go.Lib.hid hl
  have d2 : decide ((S.del nm).room < m) = true := by simpa using hfull
  clear h hsz hn hl hfull
  unfold ptr at Hth ⊢
  go_enter Try.func22, Try.ntmps22
  go_wp2_with fail
  refine Hth.out.mono ?_
  rintro e w' ⟨rfl, rfl⟩
  go_wp2_with fail
  refine (mayName_c nm Hsz.out w).mono ?_
  rw [Hn.out]
  rintro e w1 ⟨rfl, hc1⟩
  have h1 := H.out.chg hc1 (fun _ _ => id)
  have hlk := h1.lookup nm
  rw [Hl.out] at hlk
  simp only [Option.map_some, Option.getD_some] at hlk
  have c0 := h1.cell0
  have Hc1 := Go.Lib.hid hc1
  have H1 := Go.Lib.hid h1
  clear h1 hc1
  unfold ptr at hlk
  go_wp2_with (at_delete; go_must (refine wpList_delete_str _ rfl _ _ _ _ rfl 95 Try.underlying64 Try.underlying9 S.mb _ nm rfl rfl H1.out.map ?_); intro w2 hm2 hc2 hz2)
  rw [delS_dir] at hm2
  have h2 := H1.out.del hm2 hc2
  have Hr := Go.Lib.hid (room_c h2)
  have H2 := Go.Lib.hid h2
  have Hc2 := Go.Lib.hid hc2
  clear hm2 hc2 hz2 h2 hlk c0
  unfold ptr at Hr
  go_wp2_with fail
  refine Hr.out.mono ?_
  rintro e w3 ⟨rfl, hc3⟩
  have h3 := H2.out.chg hc3 (fun _ _ => id)
  have c0 := h3.cell0
  simp only [Sto.del] at c0
  have H3 := Go.Lib.hid h3
  have Hc3 := Go.Lib.hid hc3
  clear hc3 h3
  go_wp2_with (at_mapUpdate; go_must (refine wpList_update_str _ rfl _ _ _ _ rfl 9 95 Try.underlying64 Try.underlying9 S.mb _ nm (ptr g) rfl rfl rfl H3.out.map ?_); intro w4 hm4 hc4 hz4)
  have Hp : Hid (StoreAt base w4 s ((S.del nm).enter nm g) ∧ Chg (fun k => k = S.mb) w w4) := Go.Lib.hid (by
    refine ⟨?_, (((Hc1.out.mono (fun _ _ h => h.elim)).trans Hc2.out).trans (Hc3.out.mono (fun _ _ h => h.elim))).trans hc4⟩
    rw [putS_dir] at hm4
    refine H3.out.setDir hm4 hc4 (fun e he => ?_) (nodup_putD H3.out.keys) ?_ ?_
    · rcases mem_putD he with rfl | he
      · exact ⟨H.out.dirf _ (lookD_mem Hl.out), Hn.out⟩
      · exact ⟨H3.out.dirf e he, H3.out.dnames e he⟩
    · rw [length_putD]
      have h1 := H.out.ndir
      have h2 := delD_length nm S.dir
      rw [Hl.out, if_neg (by simp)] at h2
      have h3 : (S.del nm).dir.length = (delD nm S.dir).length := rfl
      split <;> omega
    · refine Nat.le_trans (sumOf_le_sub (nodup_dedup _) (fun x hx => mem_dedup.2 ?_)) H.out.fits
      have hx := mem_dedup.1 hx
      unfold Sto.held
      rcases List.mem_append.1 hx with hx | hx
      · obtain ⟨e, he, rfl⟩ := List.mem_map.1 hx
        rcases mem_putD he with rfl | he
        · exact List.mem_append.2 (.inl (List.mem_map.2 ⟨_, lookD_mem Hl.out, rfl⟩))
        · exact List.mem_append.2 (.inl (List.mem_map.2 ⟨e, (delD_sub nm S.dir).subset he, rfl⟩))
      · exact List.mem_append.2 (.inr hx))
  clear hm4 hc4 hz4
  go_wp2_with fail
  go_ret
  exact ⟨rfl, Hp.out⟩
end
end Go.Proofs.Yteleglkoagnmcaa
