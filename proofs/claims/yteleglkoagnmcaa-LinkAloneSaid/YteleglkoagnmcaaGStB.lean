/- What is proved: the contracts of word.Bytes of one word and slices.Clone of bytes. Conditions: the memory holds what is handed in. · What is proved: the contract of the function within Room that counts a file. Conditions: the memory holds its captured variables. · What is proved: the contract of Room. Conditions: the memory holds a store. · What is proved: the contracts of ride, Old, Fresh. Conditions: the memory holds a store. · What is proved: the contracts of Old, Fresh, find, Get, Delete. Conditions: the memory holds a store. -/
import Derived.Test.YteleglkoagnmcaaGStA
import Derived.Test.YteleglkoagnmcaaOps
import Derived.OwnWalk
import Derived.Deep.DeepMust
import Derived.Deep.DeepFit
import Derived.StillTailTactics
import Derived.Maps.RangeWalk
import Derived.Carry
set_option linter.unusedSimpArgs false
set_option linter.unusedVariables false
namespace Go.Proofs.Yteleglkoagnmcaa
open Go.RowKit
theorem eql_bytes (W : World) (A : Option Addr) (n c : Nat) : (binOp .eql 22 (.slice A n c) (.slice none 0 0)).run Try.prog W = .ok (.bool A.isNone) W :=
  Lib.run_eql_slice_nil (P := Try.prog) W _ _ A n c 0 0 Try.underlying22
section
variable {base : Nat} {w : World} {s : Nat} {S : Sto}

theorem u8info : (Try.prog.info? 5).map (fun i => (i.zero, i.size, i.bytes)) = some (some (.int .u8 0), 1, 1) := by kernel_rfl
theorem bv_one (l : List UInt8) : ∀ u ∈ bv l, u.oneCell' = true := by
  intro u hu
  obtain ⟨c, _, rfl⟩ := List.mem_map.1 hu
  rfl
theorem bv_length (l : List UInt8) : (bv l).length = l.length := by simp [bv]
theorem bv_append (l m : List UInt8) : bv (l ++ m) = bv l ++ bv m := by simp [bv]

def bytesOfWord (n : Nat) : List UInt8 := [UInt8.ofNat (n % 256), UInt8.ofNat (n / 256 % 256), UInt8.ofNat (n / 65536 % 256), UInt8.ofNat (n / 16777216 % 256)]

theorem bytesOfWord_vals (n : Nat) : bv (bytesOfWord n) = [.int .u8 ((n : Int) % 256), .int .u8 ((n : Int) / 256 % 256), .int .u8 ((n : Int) / 65536 % 256), .int .u8 ((n : Int) / 16777216 % 256)] := by
  have e : ∀ k : Nat, k < 256 → ((UInt8.ofNat k).toNat : Int) = k := fun k hk => by simp; omega
  simp only [bv, bytesOfWord, List.map_cons, List.map_nil]
  rw [e _ (by omega), e _ (by omega), e _ (by omega), e _ (by omega)]
  simp

theorem own_slice {w : World} {base : Nat} {e : TypeId} {size n : Nat} {v : Value} {xs : List Value} (h : w.ownsRow base e size v n xs) : ∃ A c, v = .slice A n c := by
  rcases h.2 with ⟨rfl, rfl⟩ | ⟨g, cap, cur, rfl, _⟩
  · exact ⟨none, 0, rfl⟩
  · exact ⟨_, _, rfl⟩

theorem clone_c (w : World) (A : Option Addr) (c : Nat) (l : List UInt8) (hl : l.length ≤ 140737488355328) (hA : A = none → l = [] ∧ c = 0) (hc : CellsAt w A (bv l)) :
    Calls Try.prog 42 #[.slice A l.length c] w fun e w' => ∃ v, e = .returned v ∧ w'.ownsRow w.heap.size 5 1 v l.length (bv l) ∧ Chg NoB w w' := by
  obtain ⟨i0, hi0, hz0, hz1, hz2⟩ := info_parts u8info
  have Hi := Go.Lib.hid (And.intro hi0 (And.intro hz0 (And.intro hz1 hz2)))
  clear hi0 hz0 hz1 hz2
  rcases A with _ | ad
  · obtain ⟨rfl, rfl⟩ := hA rfl
    have hsl := eql_bytes
    clear hc hl hA
    simp only [List.length_nil]
    go_enter Try.func42, Try.ntmps42
    go_wp2_with fail
    go_ret
    exact ⟨_, rfl, World.ownsRow_nil _ _ _ _, Chg.refl _ _⟩
  · have Hc : Hid (∀ o, CellsAt (w.alloc o) (some ad) (bv l)) := Go.Lib.hid (fun o => hc.chg ((Chg.refl NoB w).alloc o) (fun _ _ => id))
    have Hl := Go.Lib.hid hl
    have hsl := eql_bytes
    clear hc hA hl
    go_enter Try.func42, Try.ntmps42
    go_wp2_with (at_builtin; go_must (refine wpList_app _ rfl (.tmp 5) (.tmp 6) _ rfl w.heap.size 5 i0 _ 1 Try.underlying22 Hi.out.1 Hi.out.2.1 Hi.out.2.2.1 Hi.out.2.2.2 rfl (.slice (some ⟨w.heap.size, 0, none⟩) 0 0) 0 [] rfl (World.ownsRow_made w #[] 0 (Nat.le_refl _) (by unfold maxLen; omega) rfl) (some ad) l.length c (bv l) rfl (bv_length l) (Hc.out _) (bv_one _) (by have := Hl.out; unfold maxLen; omega) (by have := Hl.out; omega) (by simp) ?_); intro v1 w1 hown1 hg1 hat1)
    go_ret
    refine ⟨v1, rfl, by simpa using hown1, ((Chg.refl NoB w).alloc _).grown hg1 fun k hk hlt => ?_⟩
    simp only [Value.ownBlock, Option.some.injEq] at hk
    omega
end
end Go.Proofs.Yteleglkoagnmcaa
set_option linter.unusedSimpArgs false
set_option linter.unusedVariables false
namespace Go.Proofs.Yteleglkoagnmcaa
open Go.RowKit

def yes : Value := .agg #[.bool true]
theorem zero_is (w : World) : (zeroValue 142).run Try.prog w = .ok (.agg #[.bool false]) w := by kernel_rfl
theorem field_is (b : Bool) (w : World) : (Instr.field 142 (.agg #[.bool b]) 0).run Try.prog w = .ok (.bool b) w := by cases b <;> kernel_rfl
theorem fileinfo : ∃ j, Try.prog.info? 99 = some j ∧ j.size ≠ 0 := by
  have h : (Try.prog.info? 99).map (fun i => i.size) = some 1 := by kernel_rfl
  cases hj : Try.prog.info? 99 with
  | none => rw [hj] at h; cases h
  | some j => rw [hj] at h; exact ⟨j, rfl, by simp at h; omega⟩

theorem lookS_none {f : Nat} : ∀ {l : List Nat}, f ∉ l → lookS f (l.map fun x => (x, yes)) = none
  | [], _ => rfl
  | y :: l, h => by
    have h1 : (f == y) = false := by simp; intro e; exact h (by simp [e])
    simp only [List.map_cons, lookS, h1]
    exact lookS_none (fun hm => h (by simp [hm]))
theorem lookS_some {f : Nat} : ∀ {l : List Nat}, f ∈ l → lookS f (l.map fun x => (x, yes)) = some yes
  | [], h => by simp at h
  | y :: l, h => by
    by_cases h1 : f = y
    · subst h1; simp [lookS]
    · have h2 : (f == y) = false := by simpa using h1
      simp only [List.map_cons, lookS, h2]
      exact lookS_some (by simpa [h1] using h)
theorem putS_new {f : Nat} {v : Value} : ∀ {l : List Nat}, f ∉ l → putS f v (l.map fun x => (x, yes)) = (l.map fun x => (x, yes)) ++ [(f, v)]
  | [], _ => rfl
  | y :: l, h => by
    have h1 : (f == y) = false := by simp; intro e; exact h (by simp [e])
    have hm' : f ∉ l := fun hm => h (List.mem_cons_of_mem _ hm)
    have := putS_new (v := v) hm'
    simp only [List.map_cons, putS, h1, List.cons_append, this]
    rfl

/-- what the counting function's captured variables hold: the files seen, and a number -/
structure Counted (w : World) (sv nv sm : Nat) (seen : List Nat) (n : Int) : Prop where
  sv : Blk w sv 141 #[.map (some sm)]
  nv : Blk w nv 3 #[.int .i64 n]
  sm : MapIs w sm (ptrs (seen.map fun x => (x, yes)))
  all : ∀ x ∈ seen, ∃ t cs, Blk w x t cs

section
variable {w : World} {sv nv sm f : Nat} {seen : List Nat} {n : Int} {A : Option Addr} {m c : Nat}

theorem count_old (h : Counted w sv nv sm seen n) (hf : f ∈ seen) :
    Calls Try.prog 79 #[ptr f, ptr sv, ptr nv] w fun e w' => e = .returned (.tuple #[]) ∧ w = w' := by
  obtain ⟨j, hj, hsz⟩ := fileinfo
  have hlk := run_lookup_ptr (P := Try.prog) Try.underlying141 Try.underlying95 hj hsz (zero_is w) h.sm (fun x hx => by
    obtain ⟨y, hy, rfl⟩ := List.mem_map.1 hx; exact h.all y hy) (h.all f hf)
  rw [lookS_some hf] at hlk
  simp only [Option.getD_some, yes] at hlk
  have c0 : w.cell? ⟨sv, 0, none⟩ = some (.map (some sm)) := h.sv.cell 0
  have hfd := field_is
  clear h hj hsz hf
  unfold ptr at hlk ⊢
  go_enter Try.func79, Try.ntmps79
  go_wp2_with fail
  go_end0
  exact ⟨rfl, rfl⟩

theorem count_new (h : Counted w sv nv sm seen n) (hf : f ∉ seen) (hfb : Blk w f 99 #[.slice A m c]) (hm : m ≤ 67108864) (hn0 : 0 ≤ n) (hn1 : n ≤ 67108864) :
    Calls Try.prog 79 #[ptr f, ptr sv, ptr nv] w fun e w' => e = .returned (.tuple #[]) ∧ Counted w' sv nv sm (seen ++ [f]) (n - m) ∧ Chg (fun k => k = sm ∨ k = nv) w w' := by
  obtain ⟨j, hj, hsz⟩ := fileinfo
  have hall : ∀ x ∈ (seen.map fun x => (x, yes)), ∃ t cs, Blk w x.1 t cs := fun x hx => by
    obtain ⟨y, hy, rfl⟩ := List.mem_map.1 hx; exact h.all y hy
  have hlk := run_lookup_ptr (P := Try.prog) Try.underlying141 Try.underlying95 hj hsz (zero_is w) h.sm hall ⟨_, _, hfb⟩
  rw [lookS_none hf] at hlk
  simp only [Option.getD_none] at hlk
  obtain ⟨o, hup, hmap⟩ := run_update_ptr (P := Try.prog) Try.underlying141 Try.underlying95 hj hsz h.sm hall ⟨_, _, hfb⟩ yes
  rw [putS_new hf] at hmap
  have hc1 : Chg (fun k => k = sm ∨ k = nv) w (setB w sm o) := setB_chg (F := fun k => k = sm ∨ k = nv) (Chg.refl _ _) sm (fun _ => .inl rfl) o
  have hc1' : Chg (fun k => k = sm) w (setB w sm o) := setB_chg (F := fun k => k = sm) (Chg.refl _ _) sm (fun _ => rfl) o
  have c0 : w.cell? ⟨sv, 0, none⟩ = some (.map (some sm)) := h.sv.cell 0
  have b1 : Blk (setB w sm o) nv 3 #[.int .i64 n] := h.nv.chg hc1' (Ne.symm (h.sm.blk_ne h.nv))
  have b2 : Blk (setB w sm o) sv 141 #[.map (some sm)] := h.sv.chg hc1' (Ne.symm (h.sm.blk_ne h.sv))
  have b3 : Blk (setB w sm o) f 99 #[.slice A m c] := hfb.chg hc1' (Ne.symm (h.sm.blk_ne hfb))
  have ball : ∀ x ∈ seen, ∃ t cs, Blk (setB w sm o) x t cs := fun x hx => by
    obtain ⟨t, cs, hb⟩ := h.all x hx
    exact ⟨t, cs, hb.chg hc1' (Ne.symm (h.sm.blk_ne hb))⟩
  have hfd := field_is
  clear h hj hsz hf hall
  generalize setB w sm o = W at *
  have hne : ¬ f = nv := b3.ne_ b1 (by decide)
  have c1 : W.cell? ⟨nv, 0, none⟩ = some (.int .i64 n) := b1.cell 0
  have z1 : W.frozen? ⟨nv, 0, none⟩ = false := b1.frozen 0
  have c2 : W.cell? ⟨f, 0, none⟩ = some (.slice A m c) := b3.cell 0
  have Hpost : Hid (∀ k, Counted ((W.drewN k).setCell ⟨nv, 0, none⟩ (.int .i64 (n - m))) sv nv sm (seen ++ [f]) (n - m) ∧ Chg (fun k => k = sm ∨ k = nv) w ((W.drewN k).setCell ⟨nv, 0, none⟩ (.int .i64 (n - m)))) := Go.Lib.hid (fun k => by
    have hch : Chg (fun k => k = nv) W ((W.drewN k).setCell ⟨nv, 0, none⟩ (.int .i64 (n - m))) := ((Chg.refl (fun k => k = nv) W).drewN k).setCell (p := ⟨nv, 0, none⟩) (fun _ => rfl) _
    refine ⟨⟨b2.chg hch (b2.ne_ b1 (by decide)), b1.set_ 0 _, ?_, ?_⟩, hc1.step hch (fun i _ hi => .inr hi)⟩
    · rw [List.map_append]
      exact hmap.chg hch (hmap.blk_ne b1)
    · intro x hx
      rcases List.mem_append.1 hx with hx | hx
      · obtain ⟨t, cs, hb⟩ := ball x hx
        by_cases hxn : x = nv
        · subst hxn; exact ⟨_, _, b1.set_ 0 _⟩
        · exact ⟨t, cs, hb.chg hch hxn⟩
      · simp at hx
        subst hx
        exact ⟨_, _, b3.chg hch hne⟩)
  clear hmap hc1 hc1' b1 b2 b3 ball
  have hsub : IntKind.i64.wrap (n - m) = n - m := by rw [IntKind.wrap_i64]; omega
  have Hsub := Go.Lib.hid hsub
  clear hsub
  unfold yes at hup
  unfold ptr at hlk hup ⊢
  go_enter Try.func79, Try.ntmps79
  go_wp2_with fail
  set_option maxRecDepth 100000 in go_still_tail 7, (by kernel_rfl)
  rw [Hsub.out]
  go_wp2_with fail
  go_end0
  exact ⟨rfl, Hpost.out 1⟩
end
end Go.Proofs.Yteleglkoagnmcaa
set_option linter.unusedSimpArgs false
set_option linter.unusedVariables false
namespace Go.Proofs.Yteleglkoagnmcaa
open Go.RowKit
theorem Counted.chg {F : Nat → Prop} {w w' : World} {sv nv sm : Nat} {seen : List Nat} {n : Int} (h : Counted w sv nv sm seen n) (hc : Chg F w w') (hF : ∀ k, k < w.heap.size → ¬ F k) : Counted w' sv nv sm seen n :=
  ⟨h.sv.chg hc (hF _ h.sv.lt), h.nv.chg hc (hF _ h.nv.lt), h.sm.chg hc (hF _ h.sm.lt), fun x hx => by
    obtain ⟨t, cs, hb⟩ := h.all x hx
    exact ⟨t, cs, hb.chg hc (hF _ hb.lt)⟩⟩
theorem counted_start (w : World) (cap : Nat) : Counted (((w.alloc (Obj.cells #[Value.int IntKind.i64 ↑cap] 3)).alloc (Obj.map #[] 0)).alloc (Obj.cells #[Value.map (some (w.heap.size + 1))] 141))
    (w.heap.size + 1 + 1) w.heap.size (w.heap.size + 1) [] cap := by
  refine ⟨?_, ?_, ?_, by simp⟩
  · have := Blk.new ((w.alloc (Obj.cells #[Value.int IntKind.i64 ↑cap] 3)).alloc (Obj.map #[] 0)) 141 #[Value.map (some (w.heap.size + 1))]
    simpa using this
  · exact ((Blk.new w 3 #[Value.int IntKind.i64 ↑cap]).alloc _).alloc _
  · have := MapIs.new (w.alloc (Obj.cells #[Value.int IntKind.i64 ↑cap] 3))
    have e : (w.alloc (Obj.cells #[Value.int IntKind.i64 ↑cap] 3)).heap.size = w.heap.size + 1 := by simp
    rw [e] at this
    exact this.alloc _

/-- what holds ahead of each round of the loop over the directory -/
def CountRel (w wr : World) (dir : List (ByteArray × Nat)) (len : Nat → Nat) (mb sv nv sm it cap : Nat) : Prop :=
  ∃ left seen, IterIs wr it mb (strs (dir.map fun e => (e.1, ptr e.2))) left ∧ Counted wr sv nv sm seen ((cap : Int) - sumOf len seen) ∧ seen.Nodup ∧ (∀ x ∈ seen, x ∈ dir.map (·.2)) ∧
    (∀ e ∈ dir, e.2 ∈ seen ∨ (.string e.1, ptr e.2) ∈ left) ∧ Chg NoB w wr
theorem countRel_start {w wr : World} {dir : List (ByteArray × Nat)} {len : Nat → Nat} {mb sv nv sm it cap : Nat} (h : IterIs wr it mb (strs (dir.map fun e => (e.1, ptr e.2))) (strs (dir.map fun e => (e.1, ptr e.2))))
    (hc : Counted wr sv nv sm [] cap) (hw : Chg NoB w wr) : CountRel w wr dir len mb sv nv sm it cap :=
  ⟨_, [], h, by simpa [sumOf] using hc, by simp, by simp, fun e he => .inr (List.mem_map.2 ⟨(e.1, ptr e.2), List.mem_map.2 ⟨e, he, rfl⟩, rfl⟩), hw⟩
theorem StoreAt.rA_cases {base : Nat} {w : World} {s : Nat} {S : Sto} (h : StoreAt base w s S) : S.rd = [] ∨ ∃ g, S.rA = some ⟨g, 0, none⟩ := by
  rcases Nat.eq_zero_or_pos S.rd.length with h0 | h0
  · exact .inl (List.eq_nil_of_length_eq_zero h0)
  · obtain ⟨g, cap, hv, _⟩ := h.row.form h0
    exact .inr ⟨g, by unfold Sto.rv at hv; injection hv⟩

def addS (seen : List Nat) (f : Nat) : List Nat := if f ∈ seen then seen else seen ++ [f]
theorem mem_addS {seen : List Nat} {f x : Nat} : x ∈ addS seen f ↔ x ∈ seen ∨ x = f := by
  unfold addS
  split
  · rename_i h
    exact ⟨.inl, fun h' => h'.elim id (fun e => by subst e; exact h)⟩
  · simp
theorem nodup_addS {seen : List Nat} {f : Nat} (h : seen.Nodup) : (addS seen f).Nodup := by
  unfold addS
  split
  · exact h
  · rename_i hf
    rw [List.nodup_append]
    refine ⟨h, by simp, ?_⟩
    intro a ha b hb hab
    simp at hb
    subst hb hab
    exact hf ha

theorem sum_seen_le {base : Nat} {w : World} {s : Nat} {S : Sto} (h : StoreAt base w s S) {seen : List Nat} (hn : seen.Nodup) (hs : ∀ x ∈ seen, x ∈ S.held) : sumOf S.len seen ≤ S.cap := by
  have h1 : sumOf S.len seen ≤ S.used := sumOf_le_sub hn (fun x hx => mem_dedup.2 (hs x hx))
  exact Nat.le_trans h1 h.fits

theorem held_file {base : Nat} {w : World} {s : Nat} {S : Sto} (h : StoreAt base w s S) {f : Nat} (hf : f ∈ S.held) : ∃ x, S.fl f = some x := by
  unfold Sto.held at hf
  rcases List.mem_append.1 hf with hf | hf
  · obtain ⟨e, he, rfl⟩ := List.mem_map.1 hf
    exact h.dirf e he
  · obtain ⟨r, hr, rfl⟩ := List.mem_map.1 hf
    obtain ⟨x, hx, _⟩ := h.rdf r hr
    exact ⟨x, hx⟩

theorem count_any {base : Nat} {w : World} {s : Nat} {S : Sto} (h : StoreAt base w s S) {sv nv sm : Nat} {seen : List Nat} (hc : Counted w sv nv sm seen ((S.cap : Int) - sumOf S.len seen)) (hn : seen.Nodup) (hs : ∀ x ∈ seen, x ∈ S.held) {f : Nat} (hf : f ∈ S.held) :
    Calls Try.prog 79 #[ptr f, ptr sv, ptr nv] w fun e w' => e = .returned (.tuple #[]) ∧ Counted w' sv nv sm (addS seen f) ((S.cap : Int) - sumOf S.len (addS seen f)) ∧ Chg (fun k => k = sm ∨ k = nv) w w' := by
  by_cases hfs : f ∈ seen
  · refine (count_old hc hfs).mono fun e w' ⟨he, hw⟩ => ?_
    subst hw
    have e1 : addS seen f = seen := by unfold addS; rw [if_pos hfs]
    rw [e1]
    exact ⟨he, hc, Chg.refl _ _⟩
  · obtain ⟨x, hx⟩ := held_file h hf
    have hlen : S.len f = x.b.length := by simp [Sto.len, hx]
    have hle := h.len_le hf
    have h1 := sum_seen_le h hn hs
    have h2 := h.small
    refine (count_new hc hfs (h.flb _ _ hx) (by omega) (by omega) (by omega)).mono fun e w' ⟨he, hc', hch⟩ => ?_
    have e1 : addS seen f = seen ++ [f] := by unfold addS; rw [if_neg hfs]
    have e2 : (S.cap : Int) - sumOf S.len (seen ++ [f]) = (S.cap : Int) - sumOf S.len seen - x.b.length := by
      rw [sumOf_append, sumOf_cons, hlen]
      simp [sumOf]
      omega
    rw [e1, e2]
    exact ⟨he, hc', hch⟩
/-- what holds ahead of each round of the loop over the riders -/
def CountRel2 (S : Sto) (w wr : World) (k sv nv sm : Nat) : Prop :=
  ∃ seen, Counted wr sv nv sm seen ((S.cap : Int) - sumOf S.len seen) ∧ seen.Nodup ∧ (∀ x ∈ seen, x ∈ S.held) ∧ (∀ e ∈ S.dir, e.2 ∈ seen) ∧ (∀ j r, j < k → S.rd[j]? = some r → r.f ∈ seen) ∧ Chg NoB w wr
theorem countRel2_start {S : Sto} {w wr : World} {sv nv sm : Nat} {seen : List Nat} (h : Counted wr sv nv sm seen ((S.cap : Int) - sumOf S.len seen)) (hn : seen.Nodup) (hs : ∀ x ∈ seen, x ∈ S.held) (hd : ∀ e ∈ S.dir, e.2 ∈ seen) (hc : Chg NoB w wr) :
    CountRel2 S w wr 0 sv nv sm := ⟨seen, h, hn, hs, hd, fun _ _ h => absurd h (by omega), hc⟩
theorem IterIs.map_ne {w : World} {r m m' : Nat} {l left l' : List (Value × Value)} (h : IterIs w r m l left) (hm : MapIs w m' l') : r ≠ m' := by
  rintro rfl
  obtain ⟨es, clock, seen, c0, h1, h2, h3, h4, h5, h6, h7⟩ := h
  obtain ⟨es', clock', h', _⟩ := hm
  rw [h5] at h'
  cases h'
theorem Counted.chg_it {w w' : World} {sv nv sm it m : Nat} {seen : List Nat} {n : Int} {l left : List (Value × Value)} (h : Counted w sv nv sm seen n) (hi : IterIs w it m l left) (hc : Chg (fun k => k = it) w w') : Counted w' sv nv sm seen n :=
  ⟨h.sv.chg hc (Ne.symm (hi.blk_ne h.sv)), h.nv.chg hc (Ne.symm (hi.blk_ne h.nv)), h.sm.chg hc (Ne.symm (hi.map_ne h.sm)), fun x hx => by
    obtain ⟨t, cs, hb⟩ := h.all x hx
    exact ⟨t, cs, hb.chg hc (Ne.symm (hi.blk_ne hb))⟩⟩
section
variable {base : Nat} {w : World} {s : Nat} {S : Sto}

set_option maxHeartbeats 1000000 in
theorem room_c (h : StoreAt base w s S) :
    Calls Try.prog 41 #[ptr s] w fun e w' => e = .returned (.int .i64 (S.room : Int)) ∧ Chg NoB w w' := by
  have Hth := Go.Lib.hid (there_c h)
  have Hm := Go.Lib.hid h.map
  have c0 := h.cell0
  have c1 := h.cell1
  have c2 := h.cell2
  have hs := h.blk.lt
  have H := Go.Lib.hid h
  clear h
  have e3 : ∀ o1 o2 o3 i, (((w.alloc o1).alloc o2).alloc o3).cell? ⟨s, i, none⟩ = w.cell? ⟨s, i, none⟩ := fun o1 o2 o3 i =>
    World.cell?_of_block (((((Chg.refl NoB w).alloc o1).alloc o2).alloc o3).block s hs id)
  have hmm := @run_makeMap Try.prog
  unfold ptr at Hth ⊢
  go_enter Try.func41, Try.ntmps41
  go_wp2_with fail
  refine Hth.out.mono ?_
  rintro e w' ⟨rfl, rfl⟩
  go_wp2_with (at_range; refine wpList_range_is _ rfl _ _ rfl 9 95 Try.underlying64 S.mb _ rfl (by repeat (first | exact Hm.out | apply MapIs.alloc)) ?_; intro w1 hit1 hch1 hsz1)
  have esz : (((w.alloc (Obj.cells #[Value.int IntKind.i64 ↑S.cap] 3)).alloc (Obj.map #[] 0)).alloc (Obj.cells #[Value.map (some (w.heap.size + 1))] 141)).heap.size = w.heap.size + 1 + 1 + 1 := by simp
  have hcnt := counted_start w S.cap
  have hca := ((((Chg.refl NoB w).alloc (Obj.cells #[Value.int IntKind.i64 ↑S.cap] 3)).alloc (Obj.map #[] 0)).alloc (Obj.cells #[Value.map (some (w.heap.size + 1))] 141)).trans hch1
  have hcnt1 := hcnt.chg hch1 (fun _ _ => id)
  rw [esz] at hit1 ⊢
  clear hcnt hch1 hsz1 esz e3
  have Hs0 := Go.Lib.hid hs
  clear hs
  have Hc1 := Go.Lib.hid c1
  clear c1 c0 c2
  go_frame
  go_loopw [7] (fun _ wr => CountRel w wr S.dir S.len S.mb (w.heap.size + 1 + 1) w.heap.size (w.heap.size + 1) (w.heap.size + 1 + 1 + 1) S.cap) (fun _ wr => leftN wr (w.heap.size + 1 + 1 + 1))
  case atStart => exact countRel_start hit1 hcnt1 hca
  case round =>
    obtain ⟨left, seen, hit, hcnt, hnd, hsub, hall, hcw⟩ := hrel
    have Hcnt := Go.Lib.hid hcnt
    have Hsub := Go.Lib.hid hsub
    have Hall := Go.Lib.hid hall
    have Hcw := Go.Lib.hid hcw
    have Hnd := Go.Lib.hid hnd
    have Hit := Go.Lib.hid hit
    clear hcnt hsub hall hcw hnd hit
    go_wp2_with (at_next; refine wpList_next_is _ rfl _ rfl _ _ _ _ rfl Hit.out ?_ ?_)
    · intro h0
      have Hdone : Hid (∀ e ∈ S.dir, e.2 ∈ seen) := Go.Lib.hid (fun e he => (Hall.out e he).elim id (fun h => by subst h0; simp at h))
      have Hst := Go.Lib.hid (H.out.chg Hcw.out (fun _ _ => id))
      clear h0
      have c1 := Hst.out.cell1
      have c0 := Hst.out.cell0
      rcases Hst.out.rA_cases with hrd | ⟨g, hA⟩
      · have Hsum : Hid (sumOf S.len seen = S.used) := Go.Lib.hid (sumOf_same _ Hnd.out (nodup_dedup _) (fun x => by
          rw [mem_dedup]; unfold Sto.held; rw [hrd, List.map_nil, List.append_nil]
          exact ⟨Hsub.out x, fun hx => by obtain ⟨e, he, rfl⟩ := List.mem_map.1 hx; exact Hdone.out e he⟩))
        have cn : wr.cell? ⟨w.heap.size, 0, none⟩ = some (.int .i64 ((S.cap : Int) - sumOf S.len seen)) := Hcnt.out.nv.cell 0
        rw [hrd] at c1
        simp only [List.length_nil] at c1
        clear hrd
        go_wp2_with fail
        refine wp_loop_rounds 1 ?_
        rw [rounds_succ]
        go_wp2_with fail
        go_ret
        refine ⟨congrArg (fun n => Ending.returned (.int .i64 n)) ?_, Hcw.out⟩
        show ((S.cap : Int) - sumOf S.len seen) = S.room
        rw [Hsum.out]
        have := H.out.fits
        unfold Sto.room
        omega
      · rw [hA] at c1
        have hn := Hst.out.nrd
        have hcnt2 := Hcnt.out
        have hnd2 := Hnd.out
        have hseen : ∀ x ∈ seen, x ∈ S.held := fun x hx => by unfold Sto.held; exact List.mem_append.2 (.inl (Hsub.out x hx))
        have hrel2 := countRel2_start (S := S) (w := w) hcnt2 hnd2 hseen Hdone.out Hcw.out
        clear hcnt2 hnd2 hseen Hsub Hall Hdone Hst Hcw Hcnt Hit Hnd hit1 hca hcnt1
        go_wp2_with fail
        have HA := Go.Lib.hid hA
        clear hA c0 c1 Hth Hc1
        obtain ⟨wo, rfl⟩ : ∃ wo : World, wo = wr := ⟨_, rfl⟩
        go_loopw [36] (fun i wr => ∃ k : Nat, k ≤ S.rd.length ∧ i = .int .i64 k ∧ CountRel2 S w wr k (w.heap.size + 1 + 1) w.heap.size (w.heap.size + 1)) (fun i _ => S.rd.length - (intOf i).toNat)
        case atStart => exact ⟨0, Nat.zero_le _, rfl, hrel2⟩
        case round =>
          clear hrel2
          obtain ⟨k, hk, rfl, seen2, hcnt, hnd, hsub, hdir, hall, hcw⟩ := hrel
          have Hst := Go.Lib.hid (H.out.chg hcw (fun _ _ => id))
          by_cases hlt : k < S.rd.length
          · have hr : S.rdAt ((k : Int) + 1) = some S.rd[k] := by
              unfold Sto.rdAt
              rw [if_pos (by omega), show ((k : Int) + 1).toNat - 1 = k from by omega]
              exact List.getElem?_eq_getElem hlt
            obtain ⟨g', hA', hcell⟩ := Hst.out.rcell hr
            obtain rfl : g' = g := by rw [HA.out] at hA'; injection hA' with e; injection e with e; exact e.symm
            rw [show ((k : Int) + 1).toNat - 1 = k from by omega] at hcell
            obtain ⟨_, _, _, hm⟩ := rdAt_some hr
            have hb0 : wr.cell? ⟨S.rd[k].blk, 0, none⟩ = some (ptr S.rd[k].f) := (Hst.out.rdb _ hm).cell 0
            have Hcount := Go.Lib.hid (count_any Hst.out hcnt hnd hsub (StoreAt.rd_held hm))
            have Hstep : Hid (∀ w3, Counted w3 (w.heap.size + 1 + 1) w.heap.size (w.heap.size + 1) (addS seen2 S.rd[k].f) ((S.cap : Int) - sumOf S.len (addS seen2 S.rd[k].f)) → Chg (fun k => k = w.heap.size + 1 ∨ k = w.heap.size) wr w3 →
                CountRel2 S w w3 (k + 1) (w.heap.size + 1 + 1) w.heap.size (w.heap.size + 1)) := Go.Lib.hid (fun w3 h3 h4 => by
              refine ⟨_, h3, nodup_addS hnd, ?_, fun e he => mem_addS.2 (.inl (hdir e he)), ?_, hcw.step h4 (fun k hk hr => by omega)⟩
              · intro x hx
                rcases mem_addS.1 hx with hx | rfl
                · exact hsub x hx
                · exact StoreAt.rd_held hm
              · intro j r hj hr'
                rcases Nat.lt_or_ge j k with h | h
                · exact mem_addS.2 (.inl (hall j r h hr'))
                · obtain rfl : j = k := by omega
                  rw [List.getElem?_eq_getElem hlt] at hr'
                  cases hr'
                  exact mem_addS.2 (.inr rfl))
            clear hr hA' hm hcnt hnd hsub hdir hall hcw Hst
            generalize S.rd[k].blk = rb at *
            generalize S.rd[k].f = f at *
            unfold ptr at hcell hb0 Hcount
            go_wp2_with fail
            refine Hcount.out.mono ?_
            rintro e w3 ⟨rfl, hc3, hch3⟩
            have Hr := Go.Lib.hid (Hstep.out w3 hc3 hch3)
            clear hc3 hch3
            go_wp2_with fail
            go_roundw
            case rel => exact ⟨k + 1, by omega, by go_num, Hr.out⟩
            case measure => simp [intOf]; omega
          · obtain rfl : k = S.rd.length := by omega
            have Hsum : Hid (sumOf S.len seen2 = S.used) := Go.Lib.hid (sumOf_same _ hnd (nodup_dedup _) (fun x => by
              rw [mem_dedup]
              refine ⟨hsub x, fun hx => ?_⟩
              unfold Sto.held at hx
              rcases List.mem_append.1 hx with hx | hx
              · obtain ⟨e, he, rfl⟩ := List.mem_map.1 hx
                exact hdir e he
              · obtain ⟨r, hr, rfl⟩ := List.mem_map.1 hx
                obtain ⟨j, hj⟩ := List.mem_iff_getElem?.1 hr
                exact hall j r (List.getElem?_eq_some_iff.1 hj).1 hj))
            have cn : wr.cell? ⟨w.heap.size, 0, none⟩ = some (.int .i64 ((S.cap : Int) - sumOf S.len seen2)) := hcnt.nv.cell 0
            have Hcw := Go.Lib.hid hcw
            clear hcnt hnd hsub hdir hall hcw Hst
            go_wp2_with fail
            go_ret
            refine ⟨congrArg (fun n => Ending.returned (.int .i64 n)) ?_, Hcw.out⟩
            show ((S.cap : Int) - sumOf S.len seen2) = S.room
            rw [Hsum.out]
            have := H.out.fits
            unfold Sto.room
            omega
    · intro x y left' w2 hxl hp hit' hch hsz hen
      obtain ⟨e, he, hx, hy⟩ : ∃ e ∈ S.dir, x = .string e.1 ∧ y = ptr e.2 := by
        obtain ⟨z, hz, hzz⟩ := List.mem_map.1 hxl
        obtain ⟨e, he, rfl⟩ := List.mem_map.1 hz
        injection hzz with h1 h2
        exact ⟨e, he, h1.symm, h2.symm⟩
      subst hx hy
      have hfh : e.2 ∈ S.held := by unfold Sto.held; exact List.mem_append.2 (.inl (List.mem_map.2 ⟨e, he, rfl⟩))
      have hseen : ∀ x ∈ seen, x ∈ S.held := fun x hx => by unfold Sto.held; exact List.mem_append.2 (.inl (Hsub.out x hx))
      have hcw2 : Chg NoB w w2 := Hcw.out.step hch (fun k hk (hr : k = _) => by omega)
      have hcnt2 := Hcnt.out.chg_it Hit.out hch
      have hst2 := H.out.chg hcw2 (fun _ _ => id)
      have Hcount := Go.Lib.hid (count_any hst2 hcnt2 Hnd.out hseen hfh)
      have Hstep : Hid (∀ w3, Counted w3 (w.heap.size + 1 + 1) w.heap.size (w.heap.size + 1) (addS seen e.2) ((S.cap : Int) - sumOf S.len (addS seen e.2)) → Chg (fun k => k = w.heap.size + 1 ∨ k = w.heap.size) w2 w3 →
          CountRel w w3 S.dir S.len S.mb (w.heap.size + 1 + 1) w.heap.size (w.heap.size + 1) (w.heap.size + 1 + 1 + 1) S.cap ∧ leftN w3 (w.heap.size + 1 + 1 + 1) < leftN wr (w.heap.size + 1 + 1 + 1)) := Go.Lib.hid (fun w3 h3 h4 => by
        have hmlt := Hm.out.lt
        have hit3 := hit'.chg h4 (by omega) (by omega)
        refine ⟨⟨left', addS seen e.2, hit3, h3, nodup_addS Hnd.out, ?_, ?_, hcw2.step h4 (fun k hk hr => by omega)⟩, ?_⟩
        · intro x hx
          rcases mem_addS.1 hx with hx | rfl
          · exact Hsub.out x hx
          · exact List.mem_map.2 ⟨e, he, rfl⟩
        · intro e' he'
          rcases Hall.out e' he' with h | h
          · exact .inl (mem_addS.2 (.inl h))
          · rcases List.mem_cons.1 (hp.subset h) with h | h
            · injection h with _ h
              injection h with h
              injection h with h
              injection h with h
              exact .inl (mem_addS.2 (.inr h))
            · exact .inr h
        · rw [hit3.leftN, Hit.out.leftN, hp.length_eq]
          simp)
      clear hxl hp hit' hch hsz hfh hseen hcw2 hcnt2 hst2 he
      generalize e.2 = f at *
      unfold ptr at hen Hcount ⊢
      go_wp2_with fail
      refine Hcount.out.mono ?_
      rintro e w3 ⟨rfl, hc3, hch3⟩
      have Hr := Go.Lib.hid (Hstep.out w3 hc3 hch3)
      clear hc3 hch3
      go_wp2_with fail
      exact ⟨⟨_, _, _, _, _, _, _, _, Hr.out.1, rfl⟩, Hr.out.2⟩
end
end Go.Proofs.Yteleglkoagnmcaa
set_option linter.unusedSimpArgs false
set_option linter.unusedVariables false
namespace Go.Proofs.Yteleglkoagnmcaa
open Go.RowKit

theorem ptrinfo : (Try.prog.info? 144).map (fun i => (i.zero, i.size, i.bytes)) = some (some (.pointer none), 1, 8) := by kernel_rfl

theorem used_add (g : Nat → Nat) (l : List Nat) (f : Nat) (h : f ∈ l ∨ g f = 0) : sumOf g (dedup (l ++ [f])) = sumOf g (dedup l) := by
  by_cases hf : f ∈ l
  · exact sumOf_same g (nodup_dedup _) (nodup_dedup _) (fun x => by simp [mem_dedup]; exact fun e => by subst e; exact hf)
  · have h0 : g f = 0 := h.elim (fun h => absurd h hf) id
    have hn : (f :: dedup l).Nodup := List.nodup_cons.2 ⟨fun h => hf (mem_dedup.1 h), nodup_dedup l⟩
    have := sumOf_same g (nodup_dedup (l ++ [f])) hn (fun x => by simp [mem_dedup]; exact Or.comm)
    rw [this, sumOf_cons, h0]
    omega

theorem Blk.new1 (w : World) (o : Obj) (t : TypeId) (cs : Array Value) : Blk ((w.alloc o).alloc (.cells cs t)) (w.heap.size + 1) t cs := by
  simpa using Blk.new (w.alloc o) t cs
theorem cells_of_blk {w : World} {g : Nat} {t : TypeId} {cs : Array Value} (h : Blk w g t cs) : CellsAt w (some ⟨g, 0, none⟩) cs.toList := fun _ => ⟨_, rfl, World.news_of_block h⟩

section
variable {base : Nat} {w : World} {s : Nat} {S : Sto}

def Sto.ride (S : Sto) (blk f : Nat) (nm : ByteArray) (rA : Option Addr) (rc : Nat) : Sto := { S with rd := S.rd ++ [⟨blk, f, nm, 0⟩], rA := rA, rc := rc }
def RidePost (base s : Nat) (S : Sto) (f : Nat) (nm : ByteArray) (w : World) (e : Ending) (w' : World) : Prop :=
  ∃ blk rA rc, e = .returned (.int .i64 ((S.rd.length : Int) + 1)) ∧ StoreAt base w' s (S.ride blk f nm rA rc) ∧ Chg (foot s S) w w' ∧ ∀ k, foot s (S.ride blk f nm rA rc) k → k < w.heap.size → foot s S k

/-- the store behind a new rider -/
theorem StoreAt.ride (h : StoreAt base w s S) {f : Nat} {x : Fl} {nm : ByteArray} (hx : S.fl f = some x) (hn : mayName nm = true) (hlt : S.rd.length < 255) (hu : f ∈ S.held ∨ x.b.length = 0)
    {w1 : World} {blk : Nat} {rA : Option Addr} {rc : Nat} (hch : Chg (fun k => S.rv.ownBlock = some k) w w1) (hb : Blk w1 blk 146 #[ptr f, .string nm, .int .i64 0]) (hbn : w.heap.size ≤ blk)
    (hrow : w1.ownsRow base 144 1 (.slice rA (S.rd.length + 1) rc) (S.rd.length + 1) ((S.rd.map fun r => ptr r.blk) ++ [ptr blk]))
    (hrb : ∀ k, (Value.slice rA (S.rd.length + 1) rc).ownBlock = some k → S.rv.ownBlock = some k ∨ w.heap.size ≤ k) :
    StoreAt base (w1.setCell ⟨s, 1, none⟩ (.slice rA (S.rd.length + 1) rc)) s (S.ride blk f nm rA rc) ∧ Chg (foot s S) w (w1.setCell ⟨s, 1, none⟩ (.slice rA (S.rd.length + 1) rc)) ∧
      ∀ k, foot s (S.ride blk f nm rA rc) k → k < w.heap.size → foot s S k := by
  have hbase : base ≤ w.heap.size := by have := h.low s (.inl rfl); have := h.blk.lt; omega
  have hlts := h.blk.lt
  have hc2 : Chg (fun k => S.rv.ownBlock = some k ∨ k = s) w (w1.setCell ⟨s, 1, none⟩ (.slice rA (S.rd.length + 1) rc)) :=
    (hch.mono (fun _ _ h => .inl h)).setCell (p := ⟨s, 1, none⟩) (fun _ => .inr rfl) _
  have hc3 : Chg (fun k => k = s) w1 (w1.setCell ⟨s, 1, none⟩ (.slice rA (S.rd.length + 1) rc)) := (Chg.refl (fun k => k = s) _).setCell (p := ⟨s, 1, none⟩) (fun _ => rfl) _
  have nrow : ∀ {t : TypeId} {cs : Array Value} {g : Nat}, Blk w g t cs → 144 ≠ t → ¬ S.rv.ownBlock = some g := fun hg hne => own_blk_ne h.row hg hne
  have nS : ∀ {t : TypeId} {cs : Array Value} {g : Nat}, Blk w g t cs → t ≠ 67 → g ≠ s := fun hg hne => hg.ne_ h.blk hne
  have b0 : Blk w1 s 67 #[.map (some S.mb), S.rv, .int .i64 S.cap] := h.blk.chg hch (nrow h.blk (by decide))
  have hrv : (S.ride blk f nm rA rc).rv = .slice rA (S.rd.length + 1) rc := by unfold Sto.ride Sto.rv; simp
  have hheld : (S.ride blk f nm rA rc).held = S.held ++ [f] := by unfold Sto.ride Sto.held; simp
  have hlen : (S.ride blk f nm rA rc).len = S.len := rfl
  have hmem : ∀ r ∈ (S.ride blk f nm rA rc).rd, r ∈ S.rd ∨ r = ⟨blk, f, nm, 0⟩ := fun r hr => by
    unfold Sto.ride at hr
    simpa using hr
  have hft : ∀ k, foot s (S.ride blk f nm rA rc) k → k < w.heap.size → foot s S k := by
    intro k hk hlt
    rcases hk with rfl | rfl | hk | ⟨r, hr, rfl⟩ | hk
    · exact .inl rfl
    · exact .inr (.inl rfl)
    · rw [hrv] at hk
      rcases hrb k hk with h1 | h1
      · exact .inr (.inr (.inl h1))
      · omega
    · rcases hmem r hr with hr | rfl
      · exact .inr (.inr (.inr (.inl ⟨r, hr, rfl⟩)))
      · simp only at hlt
        omega
    · exact .inr (.inr (.inr (.inr hk)))
  refine ⟨?_, hc2.mono (fun k _ hk => hk.elim (fun h => .inr (.inr (.inl h))) (fun h => .inl h)), hft⟩
  exact {
    blk := by rw [hrv]; exact b0.set_ 1 _
    map := h.map.chg hc2 (fun hk => hk.elim (fun hk => h.map.own_ne h.row hk) (fun e => h.map.blk_ne h.blk e))
    row := by
      rw [hrv]
      have e : (S.ride blk f nm rA rc).rd.map (fun r => ptr r.blk) = (S.rd.map fun r => ptr r.blk) ++ [ptr blk] := by unfold Sto.ride; simp
      have e2 : (S.ride blk f nm rA rc).rd.length = S.rd.length + 1 := by unfold Sto.ride; simp
      rw [e, e2]
      exact own_chg hrow hc3 (fun k hk e => by subst e; exact own_blk_ne hrow b0 (by decide) hk)
    rdb := fun r hr => by
      rcases hmem r hr with hr | rfl
      · exact (h.rdb r hr).chg hc2 (fun hk => hk.elim (nrow (h.rdb r hr) (by decide)) (nS (h.rdb r hr) (by decide)))
      · exact hb.chg hc3 (fun (e : blk = s) => by omega)
    rdn := by
      have e : (S.ride blk f nm rA rc).rd.map (·.blk) = S.rd.map (·.blk) ++ [blk] := by unfold Sto.ride; simp
      rw [e, List.nodup_append]
      refine ⟨h.rdn, by simp, ?_⟩
      intro a ha b hb' hab
      simp at hb'
      obtain ⟨r, hr, rfl⟩ := List.mem_map.1 ha
      have := (h.rdb r hr).lt
      omega
    rdf := fun r hr => by
      rcases hmem r hr with hr | rfl
      · exact h.rdf r hr
      · exact ⟨x, hx, Nat.zero_le _⟩
    dirf := h.dirf
    flb := fun g y hg => (h.flb g y hg).chg hc2 (fun hk => hk.elim (nrow (h.flb g y hg) (by decide)) (nS (h.flb g y hg) (by decide)))
    flo := fun g y hg => own_chg (h.flo g y hg) hc2 (fun k hk hk' => hk'.elim (fun hr => own_own_ne (h.flo g y hg) h.row (by decide) hk hr) (fun e => by subst e; exact own_blk_ne (h.flo g y hg) h.blk (by decide) hk))
    sep := h.sep
    low := fun k hk => by
      rcases Nat.lt_or_ge k w.heap.size with hlt | hge
      · exact h.low k (hft k hk hlt)
      · omega
    keys := h.keys
    dnames := h.dnames
    rnames := fun r hr => by
      rcases hmem r hr with hr | rfl
      · exact h.rnames r hr
      · exact hn
    small := h.small
    fits := by
      have e : (S.ride blk f nm rA rc).used = S.used := by
        unfold Sto.used
        rw [hheld, hlen]
        exact used_add _ _ _ (hu.imp id (fun h0 => by simp [Sto.len, hx, h0]))
      rw [e]; exact h.fits
    nrd := by unfold Sto.ride; simp; omega
    ndir := h.ndir }

end
end Go.Proofs.Yteleglkoagnmcaa
set_option linter.unusedSimpArgs false
set_option linter.unusedVariables false
namespace Go.Proofs.Yteleglkoagnmcaa
open Go.RowKit

def lookD (n : ByteArray) : List (ByteArray × Nat) → Option Nat
  | [] => none
  | e :: r => if n == e.1 then some e.2 else lookD n r
theorem lookS_dir (n : ByteArray) : ∀ l : List (ByteArray × Nat), lookS n (l.map fun e => (e.1, ptr e.2)) = (lookD n l).map ptr
  | [] => rfl
  | e :: r => by
    simp only [List.map_cons, lookS, lookD]
    split
    · rfl
    · exact lookS_dir n r
theorem lookD_mem {n : ByteArray} {f : Nat} : ∀ {l : List (ByteArray × Nat)}, lookD n l = some f → (n, f) ∈ l
  | [], h => by cases h
  | e :: r, h => by
    unfold lookD at h
    split at h
    · rename_i hc
      have := (MapKept.bytes_beq n e.1).1 hc
      injection h with h
      subst this h
      simp
    · exact List.mem_cons_of_mem _ (lookD_mem h)
theorem filezero (w : World) : (zeroValue 95).run Try.prog w = .ok (.pointer none) w := by kernel_rfl

section
variable {base : Nat} {w : World} {s : Nat} {S : Sto}

theorem StoreAt.lookup (h : StoreAt base w s S) (n : ByteArray) : (Instr.lookup 64 (.map (some S.mb)) (.string n) false).run Try.prog w = .ok (((lookD n S.dir).map ptr).getD (.pointer none)) w := by
  have := run_lookup_str (P := Try.prog) Try.underlying64 Try.underlying9 (filezero w) h.map n
  rw [lookS_dir] at this
  exact this

def Quiet (r : Value) (w : World) (e : Ending) (w' : World) : Prop := e = .returned r ∧ Chg NoB w w'

def Sto.addFile (S : Sto) (f : Nat) (x : Fl) : Sto := { S with fl := fun g => if g = f then some x else S.fl g }

theorem StoreAt.addFile (h : StoreAt base w s S) {w1 : World} {f : Nat} {x : Fl} (hc : Chg NoB w w1) (hf : w.heap.size ≤ f) (hb : Blk w1 f 99 #[x.v]) (ho : w1.ownsRow base 5 1 x.v x.b.length (bv x.b))
    (hn : ∀ k, x.v.ownBlock = some k → w.heap.size ≤ k) : StoreAt base w1 s (S.addFile f x) ∧ ∀ k, foot s (S.addFile f x) k → foot s S k ∨ w.heap.size ≤ k := by
  have h1 := h.chg hc (fun _ _ => id)
  have hnone : S.fl f = none := by
    cases hx : S.fl f with
    | none => rfl
    | some y => have := (h.flb f y hx).lt; omega
  have hold : ∀ g y, (S.addFile f x).fl g = some y → (g = f ∧ y = x) ∨ (g ≠ f ∧ S.fl g = some y) := fun g y hg => by
    unfold Sto.addFile at hg
    simp only at hg
    split at hg
    · rename_i e; injection hg with hg; exact .inl ⟨e, hg.symm⟩
    · rename_i e; exact .inr ⟨e, hg⟩
  have hft : ∀ k, foot s (S.addFile f x) k → foot s S k ∨ w.heap.size ≤ k := by
    intro k hk
    rcases hk with hk | hk | hk | hk | ⟨g, y, hg, hk⟩
    · exact .inl (.inl hk)
    · exact .inl (.inr (.inl hk))
    · exact .inl (.inr (.inr (.inl hk)))
    · exact .inl (.inr (.inr (.inr (.inl hk))))
    · rcases hold g y hg with ⟨rfl, rfl⟩ | ⟨_, hg'⟩
      · rcases hk with rfl | hk
        · exact .inr hf
        · exact .inr (hn k hk)
      · exact .inl (.inr (.inr (.inr (.inr ⟨g, y, hg', hk⟩))))
  have hbase : base ≤ w.heap.size := by have := h.low s (.inl rfl); have := h.blk.lt; omega
  have hkeep : ∀ g y, S.fl g = some y → (S.addFile f x).fl g = some y := fun g y hg => by
    unfold Sto.addFile
    simp only
    rw [if_neg]
    · exact hg
    · rintro rfl; rw [hnone] at hg; cases hg
  have hlen : ∀ g ∈ S.held, (S.addFile f x).len g = S.len g := fun g hg => by
    obtain ⟨y, hy⟩ := held_file h hg
    unfold Sto.len
    rw [hkeep g y hy, hy]
  refine ⟨?_, hft⟩
  exact {
    blk := h1.blk
    map := h1.map
    row := h1.row
    rdb := h1.rdb
    rdn := h1.rdn
    rdf := fun r hr => by
      obtain ⟨y, hy, hp⟩ := h.rdf r hr
      exact ⟨y, hkeep _ _ hy, hp⟩
    dirf := fun e he => by
      obtain ⟨y, hy⟩ := h.dirf e he
      exact ⟨y, hkeep _ _ hy⟩
    flb := fun g y hg => by
      rcases hold g y hg with ⟨rfl, rfl⟩ | ⟨_, hg'⟩
      · exact hb
      · exact h1.flb g y hg'
    flo := fun g y hg => by
      rcases hold g y hg with ⟨rfl, rfl⟩ | ⟨_, hg'⟩
      · exact ho
      · exact h1.flo g y hg'
    sep := fun a b y z k ha hb' hab hk hk' => by
      rcases hold a y ha with ⟨rfl, rfl⟩ | ⟨ha1, ha'⟩ <;> rcases hold b z hb' with ⟨rfl, rfl⟩ | ⟨hb1, hb''⟩
      · exact hab rfl
      · have := ((h.flo _ _ hb'').lt k hk').2; have := hn k hk; omega
      · have := ((h.flo _ _ ha').lt k hk).2; have := hn k hk'; omega
      · exact h.sep a b y z k ha' hb'' hab hk hk'
    low := fun k hk => by
      rcases hft k hk with h' | h'
      · exact h.low k h'
      · omega
    keys := h.keys
    dnames := h.dnames
    rnames := h.rnames
    small := h.small
    fits := by
      have e : (S.addFile f x).used = S.used := by
        unfold Sto.used
        exact sumOf_congr (fun g hg => hlen g (mem_dedup.1 hg))
      rw [e]; exact h.fits
    nrd := h.nrd
    ndir := h.ndir }

def FreshPost (base s : Nat) (S : Sto) (nm : ByteArray) (w : World) (e : Ending) (w' : World) : Prop :=
  ∃ f blk rA rc, e = .returned (.int .i64 ((S.rd.length : Int) + 1)) ∧ S.fl f = none ∧ StoreAt base w' s ((S.addFile f ⟨none, 0, []⟩).ride blk f nm rA rc) ∧ Chg (foot s S) w w' ∧
    ∀ k, foot s ((S.addFile f ⟨none, 0, []⟩).ride blk f nm rA rc) k → k < w.heap.size → foot s S k

end
end Go.Proofs.Yteleglkoagnmcaa
