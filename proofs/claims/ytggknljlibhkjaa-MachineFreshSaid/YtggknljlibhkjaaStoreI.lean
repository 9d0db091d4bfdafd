/- What is proved: the contracts of Old, Fresh, find, Get, Delete. Conditions: the memory holds a store. -/
import Derived.Test.YtggknljlibhkjaaStoreH
namespace Go.Proofs.Ytggknljlibhkjaa
open Go.RowKit

def lookD (n : ByteArray) : List (ByteArray × Nat) → Option Nat
  | [] => none
  | e :: r => if n == e.1 then some e.2 else lookD n r
theorem lookS_dir (n : ByteArray) : ∀ l : List (ByteArray × Nat), lookS n (l.map fun e => (e.1, ptr e.2)) = (lookD n l).map ptr
  | [] => rfl
  | e :: r => by
    simp only [List.map_cons, lookS, lookD]
    split
    · rfl
    · exact lookS_dir n r
theorem lookD_mem {n : ByteArray} {f : Nat} : ∀ {l : List (ByteArray × Nat)}, lookD n l = some f → (n, f) ∈ l
  | [], h => by cases h
  | e :: r, h => by
    unfold lookD at h
    split at h
    · rename_i hc
      have := (MapKept.bytes_beq n e.1).1 hc
      injection h with h
      subst this h
      simp
    · exact List.mem_cons_of_mem _ (lookD_mem h)
theorem filezero (w : World) : (zeroValue 89).run Try.prog w = .ok (.pointer none) w := by kernel_rfl

section
variable {base : Nat} {w : World} {s : Nat} {S : Sto}

theorem StoreAt.lookup (h : StoreAt base w s S) (n : ByteArray) : (Instr.lookup 56 (.map (some S.mb)) (.string n) false).run Try.prog w = .ok (((lookD n S.dir).map ptr).getD (.pointer none)) w := by
  have := run_lookup_str (P := Try.prog) Try.underlying56 Try.underlying9 (filezero w) h.map n
  rw [lookS_dir] at this
  exact this

def Quiet (r : Value) (w : World) (e : Ending) (w' : World) : Prop := e = .returned r ∧ Chg NoB w w'

theorem old_ok (h : StoreAt base w s S) {f : Nat} {nm : ByteArray} (hsz : nm.size ≤ maxLen) (hn : mayName nm = true) (hl : lookD nm S.dir = some f) (hlt : S.rd.length < 255) :
    Calls Try.prog 53 #[ptr s, .string nm] w (RidePost base s S f nm w) := by
  have Hth := Go.Lib.hid (there_c h)
  have Hn := Go.Lib.hid hn
  have Hlt := Go.Lib.hid hlt
  have H := Go.Lib.hid h
  have Hl := Go.Lib.hid hl
  have Hsz := Go.Lib.hid hsz
  have d1 : decide (255 ≤ (S.rd.length : Int)) = false := by simp; omega
  have d2 : ((S.rd.length : Int) < 255) := by omega
  clear h hn hl hlt hsz
  unfold ptr at Hth ⊢
  go_enter Try.func53, Try.ntmps53
  go_wp2_with fail
  refine Hth.out.mono ?_
  rintro e w' ⟨rfl, rfl⟩
  go_wp2_with fail
  refine (mayName_c nm Hsz.out w).mono ?_
  rw [Hn.out]
  rintro e w1 ⟨rfl, hc⟩
  have h1 := H.out.chg hc (fun _ _ => id)
  have hlk := h1.lookup nm
  rw [Hl.out] at hlk
  simp only [Option.map_some, Option.getD_some] at hlk
  have c0 := h1.cell0
  have c1 := h1.cell1
  obtain ⟨x, hx⟩ := h1.dirf _ (lookD_mem Hl.out)
  have Hr := Go.Lib.hid (ride_c h1 hx Hn.out Hlt.out (.inl (by unfold Sto.held; exact List.mem_append.2 (.inl (List.mem_map.2 ⟨_, lookD_mem Hl.out, rfl⟩)))))
  have Hc := Go.Lib.hid hc
  clear h1 hx hc
  unfold ptr at hlk Hr
  go_wp2_with fail
  refine Hr.out.mono ?_
  rintro e w2 ⟨blk, rA, rc, rfl, h2, hc2, hf2⟩
  have Hp : Hid (RidePost base s S f nm w (.returned (.int .i64 ((S.rd.length : Int) + 1))) w2) :=
    Go.Lib.hid ⟨blk, rA, rc, rfl, h2, (Hc.out.mono (fun _ _ h => h.elim)).trans hc2, fun k hk hlt => hf2 k hk (by have := Hc.out.size; omega)⟩
  clear h2 hc2 hf2
  go_wp2_with fail
  go_ret
  exact Hp.out

theorem old_no (h : StoreAt base w s S) {nm : ByteArray} (hsz : nm.size ≤ maxLen) (hno : mayName nm = false ∨ lookD nm S.dir = none ∨ 255 ≤ S.rd.length) :
    Calls Try.prog 53 #[ptr s, .string nm] w (Quiet (.int .i64 0) w) := by
  have Hth := Go.Lib.hid (there_c h)
  have H := Go.Lib.hid h
  have Hsz := Go.Lib.hid hsz
  cases hn : mayName nm with
  | false =>
    have Hn := Go.Lib.hid hn
    clear h hsz hno hn
    unfold ptr at Hth ⊢
    go_enter Try.func53, Try.ntmps53
    go_wp2_with fail
    refine Hth.out.mono ?_
    rintro e w' ⟨rfl, rfl⟩
    go_wp2_with fail
    refine (mayName_c nm Hsz.out w).mono ?_
    rw [Hn.out]
    rintro e w1 ⟨rfl, hc⟩
    have Hc := Go.Lib.hid hc
    clear hc
    go_wp2_with fail
    go_ret
    exact ⟨rfl, Hc.out⟩
  | true =>
    rw [hn] at hno
    have Hn := Go.Lib.hid hn
    cases hl : lookD nm S.dir with
    | none =>
      have Hl := Go.Lib.hid hl
      clear h hsz hno hn hl
      unfold ptr at Hth ⊢
      go_enter Try.func53, Try.ntmps53
      go_wp2_with fail
      refine Hth.out.mono ?_
      rintro e w' ⟨rfl, rfl⟩
      go_wp2_with fail
      refine (mayName_c nm Hsz.out w).mono ?_
      rw [Hn.out]
      rintro e w1 ⟨rfl, hc⟩
      have h1 := H.out.chg hc (fun _ _ => id)
      have hlk := h1.lookup nm
      rw [Hl.out] at hlk
      simp only [Option.map_none, Option.getD_none] at hlk
      have c0 := h1.cell0
      have Hc := Go.Lib.hid hc
      clear h1 hc
      go_wp2_with fail
      go_ret
      exact ⟨rfl, Hc.out⟩
    | some f =>
      have h255 : 255 ≤ S.rd.length := by
        rcases hno with h0 | h0 | h0
        · cases h0
        · rw [hl] at h0; cases h0
        · exact h0
      have Hl := Go.Lib.hid hl
      have d1 : decide (255 ≤ (S.rd.length : Int)) = true := by simp; omega
      have d2 : (255 ≤ (S.rd.length : Int)) := by omega
      clear h hsz hno hn hl h255
      unfold ptr at Hth ⊢
      go_enter Try.func53, Try.ntmps53
      go_wp2_with fail
      refine Hth.out.mono ?_
      rintro e w' ⟨rfl, rfl⟩
      go_wp2_with fail
      refine (mayName_c nm Hsz.out w).mono ?_
      rw [Hn.out]
      rintro e w1 ⟨rfl, hc⟩
      have h1 := H.out.chg hc (fun _ _ => id)
      have hlk := h1.lookup nm
      rw [Hl.out] at hlk
      simp only [Option.map_some, Option.getD_some] at hlk
      have c0 := h1.cell0
      have c1 := h1.cell1
      have Hc := Go.Lib.hid hc
      clear h1 hc
      unfold ptr at hlk
      go_wp2_with fail
      go_ret
      exact ⟨rfl, Hc.out⟩

/-! ### a new file -/
def Sto.addFile (S : Sto) (f : Nat) (x : Fl) : Sto := { S with fl := fun g => if g = f then some x else S.fl g }

theorem StoreAt.addFile (h : StoreAt base w s S) {w1 : World} {f : Nat} {x : Fl} (hc : Chg NoB w w1) (hf : w.heap.size ≤ f) (hb : Blk w1 f 118 #[x.v]) (ho : w1.ownsRow base 5 1 x.v x.b.length (bv x.b))
    (hn : ∀ k, x.v.ownBlock = some k → w.heap.size ≤ k) : StoreAt base w1 s (S.addFile f x) ∧ ∀ k, foot s (S.addFile f x) k → foot s S k ∨ w.heap.size ≤ k := by
  have h1 := h.chg hc (fun _ _ => id)
  have hnone : S.fl f = none := by
    cases hx : S.fl f with
    | none => rfl
    | some y => have := (h.flb f y hx).lt; omega
  have hold : ∀ g y, (S.addFile f x).fl g = some y → (g = f ∧ y = x) ∨ (g ≠ f ∧ S.fl g = some y) := fun g y hg => by
    unfold Sto.addFile at hg
    simp only at hg
    split at hg
    · rename_i e; injection hg with hg; exact .inl ⟨e, hg.symm⟩
    · rename_i e; exact .inr ⟨e, hg⟩
  have hft : ∀ k, foot s (S.addFile f x) k → foot s S k ∨ w.heap.size ≤ k := by
    intro k hk
    rcases hk with hk | hk | hk | hk | ⟨g, y, hg, hk⟩
    · exact .inl (.inl hk)
    · exact .inl (.inr (.inl hk))
    · exact .inl (.inr (.inr (.inl hk)))
    · exact .inl (.inr (.inr (.inr (.inl hk))))
    · rcases hold g y hg with ⟨rfl, rfl⟩ | ⟨_, hg'⟩
      · rcases hk with rfl | hk
        · exact .inr hf
        · exact .inr (hn k hk)
      · exact .inl (.inr (.inr (.inr (.inr ⟨g, y, hg', hk⟩))))
  have hbase : base ≤ w.heap.size := by have := h.low s (.inl rfl); have := h.blk.lt; omega
  have hkeep : ∀ g y, S.fl g = some y → (S.addFile f x).fl g = some y := fun g y hg => by
    unfold Sto.addFile
    simp only
    rw [if_neg]
    · exact hg
    · rintro rfl; rw [hnone] at hg; cases hg
  have hlen : ∀ g ∈ S.held, (S.addFile f x).len g = S.len g := fun g hg => by
    obtain ⟨y, hy⟩ := held_file h hg
    unfold Sto.len
    rw [hkeep g y hy, hy]
  refine ⟨?_, hft⟩
  exact {
    blk := h1.blk
    map := h1.map
    row := h1.row
    rdb := h1.rdb
    rdn := h1.rdn
    rdf := fun r hr => by
      obtain ⟨y, hy, hp⟩ := h.rdf r hr
      exact ⟨y, hkeep _ _ hy, hp⟩
    dirf := fun e he => by
      obtain ⟨y, hy⟩ := h.dirf e he
      exact ⟨y, hkeep _ _ hy⟩
    flb := fun g y hg => by
      rcases hold g y hg with ⟨rfl, rfl⟩ | ⟨_, hg'⟩
      · exact hb
      · exact h1.flb g y hg'
    flo := fun g y hg => by
      rcases hold g y hg with ⟨rfl, rfl⟩ | ⟨_, hg'⟩
      · exact ho
      · exact h1.flo g y hg'
    sep := fun a b y z k ha hb' hab hk hk' => by
      rcases hold a y ha with ⟨rfl, rfl⟩ | ⟨ha1, ha'⟩ <;> rcases hold b z hb' with ⟨rfl, rfl⟩ | ⟨hb1, hb''⟩
      · exact hab rfl
      · have := ((h.flo _ _ hb'').lt k hk').2; have := hn k hk; omega
      · have := ((h.flo _ _ ha').lt k hk).2; have := hn k hk'; omega
      · exact h.sep a b y z k ha' hb'' hab hk hk'
    low := fun k hk => by
      rcases hft k hk with h' | h'
      · exact h.low k h'
      · omega
    keys := h.keys
    dnames := h.dnames
    rnames := h.rnames
    small := h.small
    fits := by
      have e : (S.addFile f x).used = S.used := by
        unfold Sto.used
        exact sumOf_congr (fun g hg => hlen g (mem_dedup.1 hg))
      rw [e]; exact h.fits
    nrd := h.nrd
    ndir := h.ndir }

def FreshPost (base s : Nat) (S : Sto) (nm : ByteArray) (w : World) (e : Ending) (w' : World) : Prop :=
  ∃ f blk rA rc, e = .returned (.int .i64 ((S.rd.length : Int) + 1)) ∧ S.fl f = none ∧ StoreAt base w' s ((S.addFile f ⟨none, 0, []⟩).ride blk f nm rA rc) ∧ Chg (foot s S) w w' ∧
    ∀ k, foot s ((S.addFile f ⟨none, 0, []⟩).ride blk f nm rA rc) k → k < w.heap.size → foot s S k

theorem fresh_ok (h : StoreAt base w s S) {nm : ByteArray} (hsz : nm.size ≤ maxLen) (hn : mayName nm = true) (hlt : S.rd.length < 255) :
    Calls Try.prog 54 #[ptr s, .string nm] w (FreshPost base s S nm w) := by
  have Hth := Go.Lib.hid (there_c h)
  have Hn := Go.Lib.hid hn
  have Hlt := Go.Lib.hid hlt
  have H := Go.Lib.hid h
  have Hsz := Go.Lib.hid hsz
  have d1 : decide (255 ≤ (S.rd.length : Int)) = false := by simp; omega
  have d2 : ((S.rd.length : Int) < 255) := by omega
  clear h hn hlt hsz
  unfold ptr at Hth ⊢
  go_enter Try.func54, Try.ntmps54
  go_wp2_with fail
  refine Hth.out.mono ?_
  rintro e w' ⟨rfl, rfl⟩
  go_wp2_with fail
  refine (mayName_c nm Hsz.out w).mono ?_
  rw [Hn.out]
  rintro e w1 ⟨rfl, hc⟩
  have h1 := H.out.chg hc (fun _ _ => id)
  have c1 := h1.cell1
  have H1 := Go.Lib.hid h1
  have Hc := Go.Lib.hid hc
  clear h1 hc
  go_wp2_with fail
  have hca : Chg NoB w1 (w1.alloc (Obj.cells #[Value.slice none 0 0] 118)) := (Chg.refl _ _).alloc _
  obtain ⟨h2, hf2⟩ := H1.out.addFile (f := w1.heap.size) (x := ⟨none, 0, []⟩) hca (Nat.le_refl _) (Blk.new _ _ _) (World.ownsRow_nil _ _ _ _) (by simp [Fl.v, Value.ownBlock])
  have hx : (S.addFile w1.heap.size ⟨none, 0, []⟩).fl w1.heap.size = some ⟨none, 0, []⟩ := by simp [Sto.addFile]
  have hnone : S.fl w1.heap.size = none := by
    cases hy : S.fl w1.heap.size with
    | none => rfl
    | some y => have := (H1.out.flb _ y hy).lt; omega
  refine (ride_c h2 hx Hn.out Hlt.out (.inr rfl)).mono ?_
  rintro e w2 ⟨blk, rA, rc, rfl, h3, hc3, hf3⟩
  have Hp : Hid (FreshPost base s S nm w (.returned (.int .i64 ((S.rd.length : Int) + 1))) w2) :=
    Go.Lib.hid ⟨_, blk, rA, rc, rfl, hnone, h3, ((Hc.out.mono (fun _ _ h => h.elim)).trans (hca.mono (fun _ _ h => h.elim))).step hc3 (fun k hk hf => (hf2 k hf).elim id (fun h => by have := Hc.out.size; omega)),
      fun k hk hlt => (hf2 k (hf3 k hk (by have := Hc.out.size; have := hca.size; omega))).elim id (fun h => by have := Hc.out.size; omega)⟩
  clear h2 hx hnone h3 hc3 hf3 hf2 hca
  have e1 : ((S.addFile w1.heap.size ⟨none, 0, []⟩).rd.length : Int) = S.rd.length := rfl
  rw [e1]
  clear e1
  go_wp2_with fail
  go_ret
  exact Hp.out
end
end Go.Proofs.Ytggknljlibhkjaa
