/- What is proved: words' bytes; an append of no bytes; a row of the call's own read. Conditions: as each theorem says. -/
import Derived.Test.YtholeloedihkoaaVaV
import Derived.Test.YtholeloedihkoaaOps2
import Derived.Laws.MakeOwn
set_option linter.unusedSimpArgs false
set_option linter.unusedVariables false
namespace Go.Proofs.Ytholeloedihkoaa
open Go Go.RowKit
abbrev U8 : TypeId := 5
theorem u8info : (Try.prog.info? U8).map (fun i => (i.zero, i.size, i.bytes)) = some (some (.int .u8 0), 1, 1) := by kernel_rfl
def u8s (l : List Int) : List Value := l.map fun x => .int .u8 x
theorem u8s_len (l : List Int) : (u8s l).length = l.length := by simp [u8s]
def wordB (x : Int) : List Int := [x % 256, x / 256 % 256, x / 65536 % 256, x / 16777216]
/-- bytes, in a row of the call's own -/
def BysPost (l : List Int) (w : World) (e : Ending) (w' : World) : Prop := ∃ v, e = .returned v ∧ w'.ownsRow w.heap.size U8 1 v l.length (u8s l) ∧ Chg NoB w w'
section
variable {P : Program} (w : World)
theorem run_app_zero0 (base : Nat) (t tn ty e : TypeId) (i : TypeInfo) (z : Value) (kn kq : IntKind) (ht : P.underlying t = some (.slice e)) (htn : P.underlying tn = some (.int kn)) (hi : P.info? e = some i) (hz : i.zero = some z)
    (v : Value) (n : Nat) (xs : List Value) (hown : w.ownsRow base e 1 v n xs) : (Builtin.append_ #[t, tn] ty #[v, .int kq 0]).run P w = .ok v w := by
  rcases hown.2 with ⟨rfl, rfl⟩ | ⟨g, cap, cur, rfl, hbg, hg, hnc, hcm, hcs, htake⟩
  · simp [Builtin.append_, run_underlying ht, run_underlying htn, sizeOf, typeInfo, zeroValue, hi, hz, asInt, asIntOf, IntKind.wrap_i64, Builtin.zeroCells, storeCells]
  · simp [Builtin.append_, run_underlying ht, run_underlying htn, sizeOf, typeInfo, zeroValue, hi, hz, asInt, asIntOf, IntKind.wrap_i64, Builtin.zeroCells, storeCells, hnc]
end
theorem own_cells {w : World} {base : Nat} {e : TypeId} {n c : Nat} {A : Option Addr} {xs : List Value} (h : w.ownsRow base e 1 (.slice A n c) n xs) : CellsAt w A xs := by
  intro hx
  have hl : xs.length = n := by
    have := h.1
    omega
  obtain ⟨g, hg, hc⟩ := row_cells h (by omega)
  exact ⟨_, hg, fun j u hu => by rw [add_none, Nat.zero_add]; exact hc j u hu⟩
section
variable {w : World}
theorem word_c (w : World) (g : Nat) (x : Int) (hx : 0 ≤ x ∧ x < 4294967296) (h : w.cell? ⟨g, 0, none⟩ = some (.int .u32 x)) : Calls Try.prog 51 #[.slice (some ⟨g, 0, none⟩) 1 1] w (BysPost (wordB x) w) := by
  obtain ⟨i0, hi0, hz0, hz1, hz2⟩ := info_parts3 u8info
  have Hi := Go.Lib.hid (And.intro hi0 (And.intro hz0 (And.intro hz1 hz2)))
  clear hi0 hz0 hz1 hz2
  go_enter Try.func51, Try.ntmps51
  go_wp2_with fail
  go_loopw [3, 5, 8] (fun v3 _ v8 wr => (v8 = .int .i64 0 ∧ v3 = .slice none 0 0 ∧ wr = w) ∨ (∃ rv, rv = v3 ∧ v8 = .int .i64 1 ∧ wr.ownsRow w.heap.size U8 1 v3 4 (u8s (wordB x)) ∧ Chg NoB w wr)) (fun _ _ v8 _ => 1 - (intOf v8).toNat)
  case atStart => exact .inl ⟨rfl, rfl, rfl⟩
  case round =>
    rcases hrel with ⟨rfl, rfl, rfl⟩ | ⟨rv, rfl, rfl, hown, hc⟩
    · have hHx := Go.Lib.hid hx
      go_wp2_with (at_builtin; go_must (refine wpList_app _ rfl (.tmp 12) (.tmp 24) _ rfl wr.heap.size U8 i0 _ 1 Try.underlying51 Hi.out.1 Hi.out.2.1 Hi.out.2.2.1 Hi.out.2.2.2 rfl (.slice none 0 0) 0 [] rfl (World.ownsRow_nil _ _ _ _) (some ⟨wr.heap.size, 0, none⟩) 4 4 [.int .u8 (x % 256), .int .u8 (x / 256 % 256), .int .u8 (x / 65536 % 256), .int .u8 (x / 16777216)] rfl rfl (cells_of_blk (Blk.new wr _ _)) (by simp [Value.oneCell']) (by unfold maxLen; omega) (by omega) (by simp) ?_); intro v1 w1 own1 gr1 at1)
      refine ⟨.inr ⟨_, rfl, by simp, ?_, ((Chg.refl NoB wr).alloc _).grown gr1 fun j hj hlt => by simp [Value.ownBlock] at hj⟩, ?_⟩
      · exact own1
      · simp only [intOf]
        omega
    · have HO := Go.Lib.hid (And.intro hown hc)
      clear hown hc
      go_wp2_with fail
      go_ret
      exact ⟨_, rfl, HO.out.1, HO.out.2⟩
theorem set_state {b tb n c : Nat} {x : Int} {p A : Option Addr} {T : Ti} {bs : List Nat} {lo : Nat} (h : VC w b tb x p A n c bs) (hT : TiAt lo w tb T) (hk0 : T.kind ≠ 0) (hk : ¬ (T.kind ≠ 7 ∧ T.kind ≠ 8)) {x' : Int} {p' : Option Addr} :
    Calls Try.prog 18 #[ptr b, .agg #[.int .u32 x', .pointer p']] w (Quiet (.int .i64 7) w) := by
  have HG := Go.Lib.hid (fun W (hW : Chg NoB w W) => get_state (⟨h.blk.chg hW id, own_chg h.row hW fun _ _ => id⟩ : VC W b tb x p A n c bs) (hT.quiet hW) hk0 hk)
  clear h hT hk0 hk
  unfold ptr at *
  go_enter Try.func18, Try.ntmps18
  go_wp2_with fail
  refine (HG.out _ ((Chg.refl NoB w).alloc _)).mono ?_
  rintro e w1 ⟨rfl, hc⟩
  have HC := Go.Lib.hid hc
  clear hc
  go_wp2_with fail
  go_ret
  exact ⟨rfl, (((Chg.refl NoB w).alloc _).trans HC.out).alloc _⟩
end
end Go.Proofs.Ytholeloedihkoaa
