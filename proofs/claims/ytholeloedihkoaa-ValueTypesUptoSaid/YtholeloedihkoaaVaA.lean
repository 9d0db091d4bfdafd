/- What is proved: types in memory; the contracts of value's small functions. Conditions: the memory holds the types. -/
import Derived.Test.YtholeloedihkoaaRows
import Derived.Test.YtholeloedihkoaaMaps
import Derived.Test.YtholeloedihkoaaOps
import Derived.WalkKit
import Derived.WalkSpells
import Derived.BigQuiet
import Derived.Deep.QuietTactic
import Derived.Outline
import Derived.IntWalk
set_option linter.unusedSimpArgs false
set_option linter.unusedVariables false
namespace Go.Proofs.Ytholeloedihkoaa
open Go.RowKit
abbrev TT : TypeId := 72
abbrev FT : TypeId := 87
theorem Blk.at_ (w : World) (g : Nat) (t : TypeId) (cs : Array Value) (hg : w.heap.size = g) : Blk (w.alloc (.cells cs t)) g t cs := by subst hg; exact Blk.new _ _ _
def optP (b : Option Nat) : Value := .pointer (b.map fun k => ⟨k, 0, none⟩)
/-- a field -/
structure Fd where
  name : ByteArray
  base : Nat
  off : Nat
def Fd.cells (f : Fd) : List Value := [.string f.name, ptr f.base, .int .i64 f.off]
/-- a type's block -/
structure Ti where
  kind : Nat
  n : Nat
  base : Option Nat
  fA : Option Addr
  fc : Nat
  fs : List Fd
  mb : Option Nat
  size : Nat
def places (fs : List Fd) : List (ByteArray × Value) := fs.zipIdx.map fun p => (p.1.name, .int .i64 p.2)
structure TiAt (lo : Nat) (w : World) (b : Nat) (T : Ti) : Prop where
  blk : Blk w b TT #[.int .i64 T.kind, .int .i64 T.n, optP T.base, .slice T.fA T.fs.length T.fc, .map T.mb, .int .i64 T.size]
  row : w.ownsRow lo FT 3 (.slice T.fA T.fs.length T.fc) T.fs.length (T.fs.flatMap Fd.cells)
  mbn : T.mb = none → T.fs = []
  map : ∀ m, T.mb = some m → MapIs w m (strs (places T.fs))
  lo : lo ≤ b ∧ ∀ m, T.mb = some m → lo ≤ m
  sz : 1 ≤ T.size ∧ T.size ≤ 262144
  nn : T.n ≤ 65535
  nf : T.fs.length ≤ 262144
section
variable {lo : Nat} {w w' : World} {b : Nat} {T : Ti} {F : Nat → Prop}
theorem TiAt.chg (h : TiAt lo w b T) (hc : Chg F w w') (hF : ∀ k, lo ≤ k → k < w.heap.size → ¬ F k) : TiAt lo w' b T :=
  ⟨h.blk.chg hc (hF _ h.lo.1 h.blk.lt), own_chg h.row hc fun k hk => hF k (h.row.lt k hk).1 (h.row.lt k hk).2, h.mbn, fun m hm => (h.map m hm).chg hc (hF m (h.lo.2 m hm) (h.map m hm).lt), h.lo, h.sz, h.nn, h.nf⟩
theorem TiAt.quiet (h : TiAt lo w b T) (hc : Chg NoB w w') : TiAt lo w' b T := h.chg hc fun _ _ _ => id
theorem TiAt.cells (h : TiAt lo w b T) : w.cell? ⟨b, 0, none⟩ = some (.int .i64 T.kind) ∧ w.cell? ⟨b, 1, none⟩ = some (.int .i64 T.n) ∧ w.cell? ⟨b, 2, none⟩ = some (optP T.base) ∧ w.cell? ⟨b, 3, none⟩ = some (.slice T.fA T.fs.length T.fc) ∧ w.cell? ⟨b, 4, none⟩ = some (.map T.mb) ∧ w.cell? ⟨b, 5, none⟩ = some (.int .i64 T.size) :=
  ⟨h.blk.cell 0, h.blk.cell 1, h.blk.cell 2, h.blk.cell 3, h.blk.cell 4, h.blk.cell 5⟩
/-- a type that is not there -/
def NoT (w : World) (v : Value) : Prop := v = .pointer none ∨ ∃ b, v = ptr b ∧ Blk w b TT #[.int .i64 0, .int .i64 0, .pointer none, .slice none 0 0, .map none, .int .i64 0]
theorem NoT.quiet {v : Value} (h : NoT w v) (hc : Chg NoB w w') : NoT w' v := by
  rcases h with rfl | ⟨b, rfl, hb⟩
  · exact .inl rfl
  · exact .inr ⟨b, rfl, hb.chg hc id⟩
def Quiet (r : Value) (w : World) (e : Ending) (w' : World) : Prop := e = .returned r ∧ Chg NoB w w'
theorem there_c (h : TiAt lo w b T) (hk : T.kind ≠ 0) : Calls Try.prog 44 #[ptr b] w fun e w' => e = .returned (.bool true) ∧ w = w' := by
  obtain ⟨c0, _⟩ := h.cells
  have hz : ((T.kind : Int) != 0) = true := by simp; omega
  clear h
  unfold ptr
  go_enter Try.func44, Try.ntmps44
  go_wp2
  go_ret
  exact ⟨rfl, rfl⟩
theorem there_no {v : Value} (h : NoT w v) : Calls Try.prog 44 #[v] w fun e w' => e = .returned (.bool false) ∧ w = w' := by
  rcases h with rfl | ⟨b, rfl, hb⟩
  · go_enter Try.func44, Try.ntmps44
    go_wp2
    go_ret
    exact ⟨rfl, rfl⟩
  · have c0 : w.cell? ⟨b, 0, none⟩ = some (.int .i64 0) := hb.cell 0
    clear hb
    unfold ptr
    go_enter Try.func44, Try.ntmps44
    go_wp2
    go_ret
    exact ⟨rfl, rfl⟩
theorem up_c (n : Nat) (hn : n ≤ 20000000000) : Calls Try.prog 46 #[.int .i64 n] w fun e w' => e = .returned (.int .i64 (((n + 3) / 4 * 4 : Nat) : Int)) ∧ w = w' := by
  go_enter Try.func46, Try.ntmps46
  go_wp2
  go_ret
  exact ⟨by first | rfl | (congr 2; omega), rfl⟩
/-- the size of a basic type -/
def basicSize (n : Nat) : Nat := if n = 1 ∨ n = 5 then 4 else 1
def basicT (n : Nat) : Ti := ⟨n, 0, none, none, 0, [], none, basicSize n⟩
theorem TiAt.plain (w : World) (k n s : Nat) (ob : Option Nat) (hs : 1 ≤ s ∧ s ≤ 262144) (hn : n ≤ 65535) {w' : World} {b : Nat} (hl : lo ≤ b) (hb : Blk w' b TT #[.int .i64 k, .int .i64 n, optP ob, .slice none 0 0, .map none, .int .i64 s]) : TiAt lo w' b ⟨k, n, ob, none, 0, [], none, s⟩ :=
  ⟨hb, World.ownsRow_nil _ _ _ _, fun _ => rfl, fun m h => (by cases h), ⟨hl, fun m h => (by cases h)⟩, hs, hn, Nat.zero_le _⟩
/-- what makes a type -/
def Made (T : Ti) (w : World) (e : Ending) (w' : World) : Prop := ∃ b, e = .returned (.tuple #[ptr b, .int .i64 0]) ∧ TiAt w.heap.size w' b T ∧ Chg NoB w w'
theorem basic_c (n : Nat) (h1 : 1 ≤ n) (h5 : n ≤ 5) : Calls Try.prog 12 #[.int .i64 n] w (Made (basicT n) w) := by
  have hn : n = 1 ∨ n = 2 ∨ n = 3 ∨ n = 4 ∨ n = 5 := by omega
  rcases hn with rfl | rfl | rfl | rfl | rfl
  all_goals
    go_enter Try.func12, Try.ntmps12
    go_wp2
    go_ret2
    exact ⟨_, rfl, TiAt.plain w _ 0 _ none (by decide) (by decide) (by simp) (Blk.at_ _ _ _ _ (by simp)), ((Chg.refl NoB w).alloc _).alloc _⟩
theorem basic_no (n : Int) (h : n < 1 ∨ 5 < n) : Calls Try.prog 12 #[.int .i64 n] w (Quiet (.tuple #[.pointer none, .int .i64 2]) w) := by
  rcases h with h | h
  · go_enter Try.func12, Try.ntmps12
    go_wp2
    go_ret2
    exact ⟨rfl, (Chg.refl NoB w).alloc _⟩
  · have d : decide (n < 1) = false := by simp; omega
    go_enter Try.func12, Try.ntmps12
    go_wp2
    go_ret2
    exact ⟨rfl, (Chg.refl NoB w).alloc _⟩
end
end Go.Proofs.Ytholeloedihkoaa
