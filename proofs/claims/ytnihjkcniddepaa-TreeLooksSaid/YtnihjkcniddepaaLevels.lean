/- What is proved: the contract of tree's levels (a map of operators), and the look-up in it. Conditions: none. -/
import Derived.Test.YtnihjkcniddepaaFac
import Derived.Test.YtnihjkcniddepaaOps
namespace Go.Proofs.Ytnihjkcniddepaa
open Go.RowKit
section
variable {P : Program} (w : World)
theorem wpList_insert_str {ops : Array Oper} {rest : List Oper} {o : Oper} {a : Act} {Q : Exit → Act → World → Prop} (hgd : o.guard = none) (m x v : Operand) (t : TypeId)
    (ho : o.op = .insert t m x v) (k e : TypeId) (ht : P.underlying t = some (.map k e)) (hk : P.underlying k = some .string)
    (mb : Nat) (l : List (ByteArray × Value)) (s : ByteArray) (u : Value) (hm : a.eval m = .map (some mb)) (hx : a.eval x = .string s) (hv : a.eval v = u) (h : MapIs w mb (strs l))
    (hK : ∀ w', MapIs w' mb (strs (putS s u l)) → Chg (fun k => k = mb) w w' → w'.heap.size = w.heap.size → wpList P ops Q rest (a.put o.dst undef) w') : wpList P ops Q (o :: rest) a w := by
  obtain ⟨ob, hrun, hmap⟩ := run_update_str (P := P) ht hk h s u
  refine wpList_plain hgd fun K hK' => ?_
  unfold Oper.wp
  simp [execOp, ho, hm, hx, hv, hrun, Result.andThen]
  exact hK' _ _ (hK _ hmap (setB_chg (F := fun k => k = mb) (Chg.refl _ _) mb (fun _ => rfl) ob) (by simp [setB]))
end
def levL : List (ByteArray × Value) := [(⟨#[42]⟩, .int .i64 1), (⟨#[47]⟩, .int .i64 1), (⟨#[68, 73, 86]⟩, .int .i64 1), (⟨#[77, 79, 68]⟩, .int .i64 1), (⟨#[38]⟩, .int .i64 1), (⟨#[43]⟩, .int .i64 2), (⟨#[45]⟩, .int .i64 2), (⟨#[79, 82]⟩, .int .i64 2), (⟨#[61]⟩, .int .i64 3), (⟨#[35]⟩, .int .i64 3), (⟨#[60]⟩, .int .i64 3), (⟨#[60, 61]⟩, .int .i64 3), (⟨#[62]⟩, .int .i64 3), (⟨#[62, 61]⟩, .int .i64 3), (⟨#[73, 78]⟩, .int .i64 3)]
def LevW (w w' : World) : Prop := MapIs w' w.heap.size (strs levL) ∧ Chg NoB w w'
theorem opL_look (s : ByteArray) : (lookS s levL).getD (.int .i64 0) = .int .i64 (opL s) := by
  have hb : ∀ a b : ByteArray, (a == b) = (b.data.toList == a.data.toList) := fun a b => by
    rw [Bool.eq_iff_iff, MapKept.bytes_beq, beq_iff_eq]
    constructor
    · rintro rfl; rfl
    · intro h; cases a; cases b; simp_all
  have key : ∀ l : List (List UInt8 × Int), (lookS s (l.map fun p => (⟨p.1.toArray⟩, Value.int .i64 p.2))).getD (.int .i64 0) = .int .i64 (((l.find? fun p => p.1 == s.data.toList).map (·.2)).getD 0) := by
    intro l
    induction l with
    | nil => rfl
    | cons p l ih =>
      simp only [List.map_cons, lookS, List.find?_cons, hb]
      cases h : (p.1 == s.data.toList) with
      | true => simp
      | false => simpa using ih
  exact key opKeys
theorem opL_range (s : ByteArray) : opL s = 0 ∨ opL s = 1 ∨ opL s = 2 ∨ opL s = 3 := by
  unfold opL
  cases h : opKeys.find? fun p => p.1 == s.data.toList with
  | none => exact .inl rfl
  | some p =>
    have hm := List.mem_of_find?_eq_some h
    have : ∀ p ∈ opKeys, p.2 = 0 ∨ p.2 = 1 ∨ p.2 = 2 ∨ p.2 = 3 := by decide
    exact this p hm
set_option maxHeartbeats 400000 in
theorem levels_c (w : World) : Calls Try.prog 40 #[] w fun e w' => e = .returned (.map (some w.heap.size)) ∧ LevW w w' := by
  have hmm := @run_makeMap Try.prog
  have H0 : Hid (MapIs (w.alloc (.map #[] 0)) w.heap.size (strs [])) := Go.Lib.hid (MapIs.new w)
  have HC : Hid (Chg (fun k => k = w.heap.size) (w.alloc (.map #[] 0)) (w.alloc (.map #[] 0))) := Go.Lib.hid (Chg.refl _ _)
  go_enter Try.func40, Try.ntmps40
  go_wp2_with (refine wpList_insert_str _ rfl _ _ _ 58 rfl 9 3 Try.underlying58 Try.underlying9 w.heap.size _ _ _ rfl rfl rfl H0.out ?_; intro w1 h1 hc1 hs1; clear hs1; have HC := Go.Lib.hid (HC.out.trans hc1); have H0 := Go.Lib.hid h1; clear h1 hc1)
  go_ret
  refine ⟨rfl, H0.out, ?_⟩
  exact ((Chg.refl NoB w).alloc _).step HC.out (fun i hi hg => by subst hg; omega)
end Go.Proofs.Ytnihjkcniddepaa
