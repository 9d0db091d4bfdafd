/- What is proved: the iterator that Files hands back gives the names and sizes in their order, or as many as are asked for. Conditions: a round that goes on keeps them. -/
import Derived.Test.YtlglnebnldmceaaFiB
import Derived.RangeFuncNested
import Derived.RangeFuncBound
import Derived.RangeFuncCalls
import Derived.RangeFuncLeaves
import Derived.RangeFuncKeeps
import Derived.Shelf.Abstract
import Derived.Shelf.RegionOpen
import Derived.WalkKit
import Derived.OwnWalkIn
import Derived.TacticsInMore
import Derived.LoopNIn
import Derived.LoopIn
import Derived.Laws.EntriesVeiled
set_option linter.unusedSimpArgs false
set_option linter.unusedVariables false
namespace Go.Proofs.Ytlglnebnldmceaa
open Go.RowKit Go.Shelf
attribute [local go_sem] Oper.semAt_some
theorem room_of_none {F : Fence} (hd : F.depth = none) (n : Nat) : F.room n := fun d h => by rw [hd] at h; cases h
theorem RoundIn.anyDepth {F : Fence} (hd : F.depth = none) {m m' : Nat} {P : Program} {l : Nat} {f : FuncId} {tmps : Array Value} {assign body : Code} {w : World} {R : Ending → World → Prop}
    (h : RoundIn F m P l f tmps assign body w R) : RoundIn F m' P l f tmps assign body w R := ⟨h.1, fun c cs _ => h.2 c cs (room_of_none hd _)⟩
theorem YieldAt.anyDepth {F : Fence} (hd : F.depth = none) {m : Nat} (m' : Nat) {P : Program} {l : Nat} {args : Array Value} {W : World} {R : Ending → World → Prop} (h : YieldAt F m P l args W R) : YieldAt F m' P l args W R := by
  obtain ⟨fn, tmps, assign, body, hy, hR⟩ := h
  exact ⟨fn, tmps, assign, body, hy, RoundIn.anyDepth hd hR⟩
theorem take_fin {N k : Nat} (hk : k < N) : (List.finRange N).take k ++ [⟨k, hk⟩] = (List.finRange N).take (k + 1) := by
  rw [List.take_add_one]
  congr 1
  simp [hk]
/-- two variables that hold rows of names and sizes, at these very places -/
structure FilesX (base : Nat) (A : Option Addr) (c : Nat) (B : Option Addr) (d : Nat) (a b : Nat) (L : List (ByteArray × Nat)) (w : World) : Prop where
  ba : Blk w a 113 #[.slice A L.length c]
  na : w.ownsRow base 9 1 (.slice A L.length c) L.length (L.map fun e => .string e.1)
  bb : Blk w b 114 #[.slice B L.length d]
  nb : w.ownsRow base 3 1 (.slice B L.length d) L.length (L.map fun e => .int .i64 e.2)
  lo : base ≤ a ∧ base ≤ b
theorem FilesX.chg {base : Nat} {w w' : World} {a b c d : Nat} {A B : Option Addr} {L : List (ByteArray × Nat)} {F : Nat → Prop} (h : FilesX base A c B d a b L w) (hc : Chg F w w') (hF : ∀ k, base ≤ k → k < w.heap.size → ¬ F k) : FilesX base A c B d a b L w' :=
  ⟨h.ba.chg hc (hF _ h.lo.1 h.ba.lt), own_chg h.na hc fun k hk => hF k (h.na.lt k hk).1 (h.na.lt k hk).2, h.bb.chg hc (hF _ h.lo.2 h.bb.lt), own_chg h.nb hc fun k hk => hF k (h.nb.lt k hk).1 (h.nb.lt k hk).2, h.lo⟩
theorem FilesAt.x {base : Nat} {w : World} {a b : Nat} {L : List (ByteArray × Nat)} (h : FilesAt base w a b L) : ∃ A c B d, FilesX base A c B d a b L w := by
  obtain ⟨⟨A, c, h1, h2⟩, ⟨B, d, h3, h4⟩, h5⟩ := h
  exact ⟨A, c, B, d, h1, h2, h3, h4, h5⟩
@[reducible] def encF (e : ByteArray × Nat) : Array Value := #[.string e.1, .int .i64 e.2]
set_option maxRecDepth 100000 in
set_option maxHeartbeats 2000000 in
theorem files_stops {base : Nat} {w : World} {a b c d : Nat} {A B : Option Addr} {L : List (ByteArray × Nat)} (m : Nat) (h : FilesX base A c B d a b L w) (hL : L.length ≤ 200) :
    SeqStopsK Fence.wide m Try.prog 72 #[ptr a, ptr b] (fun x : Fin L.length => encF L[x]) (fun W W' => FilesX base A c B d a b L W → FilesX base A c B d a b L W')
      (fun ys => ys = List.finRange L.length) (fun pre => pre <+: List.finRange L.length) L.length w := by
  intro l J Jx W hW hJ hJx hY h0
  have hX : FilesX base A c B d a b L W := h.chg (F := NoB) (Chg.of_below hW (Nat.le_refl _)) fun _ _ _ => id
  have Hask : Hid (∀ (k : Nat) (hk : k < L.length) (W1 : World), J ((List.finRange L.length).take k) W1 → YieldAt Fence.wide (m - 1) Try.prog l (encF L[k]) W1 fun r W' =>
      (r = .returned (.bool true) ∧ J ((List.finRange L.length).take (k + 1)) W' ∧ (FilesX base A c B d a b L W1 → FilesX base A c B d a b L W')) ∨ (r = .returned (.bool false) ∧ Jx ((List.finRange L.length).take (k + 1)) W')) := Go.Lib.hid fun k hk W1 hJ1 => by
    have := hY ((List.finRange L.length).take k) ⟨k, hk⟩ W1 hJ1 (by simp; omega)
    rw [take_fin hk] at this
    exact this
  have HX := Go.Lib.hid hX
  have H0 := Go.Lib.hid h0
  have c1 := hX.ba.cell 0
  have hLN := hL
  clear hY hJ hJx h0 hW hX h
  unfold ptr
  refine callsIn_of_wp Try.func72 rfl trivial ?_ rfl
  simp only [Try.ntmps72, List.size_toArray, List.length_cons, List.length_nil, Nat.reduceAdd, Nat.reduceSub, Array.replicate_succ, Array.replicate_zero, List.push_toArray, List.append_toArray, List.nil_append, List.cons_append]
  gi_wp2
  gi_loopw [8] (fun v8 wr => ∃ i : Nat, i ≤ L.length ∧ v8 = .int .i64 i ∧ J ((List.finRange L.length).take i) wr ∧ FilesX base A c B d a b L wr) (fun v8 _ => L.length - (intOf v8).toNat)
  case atStart => exact ⟨0, Nat.zero_le _, rfl, H0.out, HX.out⟩
  case round =>
    clear c1
    obtain ⟨i, hi, rfl, hJ, hX⟩ := hrel
    by_cases hlt : i < L.length
    · obtain ⟨ad, rfl, hcA⟩ := CellsAt.of_own hX.na (by rw [List.length_map]; omega)
      obtain ⟨bd, rfl, hcB⟩ := CellsAt.of_own hX.nb (by rw [List.length_map]; omega)
      have g1 : wr.cell? (ad.add i) = some (.string L[i].1) := hcA i _ (by rw [List.getElem?_map, List.getElem?_eq_getElem hlt]; rfl)
      have g2 : wr.cell? (bd.add i) = some (.int .i64 L[i].2) := hcB i _ (by rw [List.getElem?_map, List.getElem?_eq_getElem hlt]; rfl)
      have cb := hX.bb.cell 0
      obtain ⟨fn, tmps, assign, body, hy, hR⟩ := Hask.out i hlt _ hJ
      have HXr := Go.Lib.hid hX
      clear hX hJ hcA hcB
      unfold encF at hy
      try dsimp only at hy
      gi_wp2
      refine ⟨fun h => by simp [Fence.wide] at h, hR.mono ?_⟩
      clear hR hy g1 g2 cb
      rintro r W2 (⟨rfl, hJ2, hK2⟩ | ⟨rfl, hx⟩)
      · have HJ2 := Go.Lib.hid hJ2
        have HX2 := Go.Lib.hid (hK2 HXr.out)
        clear hJ2 hK2
        gi_wp2
        go_roundw
        case rel => exact ⟨i + 1, by omega, by go_num, HJ2.out, HX2.out⟩
        case measure => simp [intOf]; omega
      · have HXx := Go.Lib.hid hx
        clear hx
        gi_wp2
        refine bodyPost_ret (results_none rfl _ _ _) rfl ?_
        exact ⟨⟨_, rfl⟩, .inr ⟨_, List.take_prefix _ _, HXx.out⟩⟩
    · obtain rfl : i = L.length := by omega
      have HJ := Go.Lib.hid hJ
      clear hJ hX
      gi_wp2
      go_end0
      exact ⟨⟨_, rfl⟩, .inl ⟨_, rfl, by have := HJ.out; rwa [List.take_of_length_le (by simp)] at this⟩⟩
end Go.Proofs.Ytlglnebnldmceaa
