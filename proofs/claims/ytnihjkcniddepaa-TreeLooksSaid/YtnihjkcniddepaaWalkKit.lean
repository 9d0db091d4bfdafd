/- What is proved: what walks over the nodes that Walk gives use: its call, a bool that is told by a cell, a call within a round. Conditions: as each theorem says. -/
import Derived.Test.YtnihjkcniddepaaIter
import Derived.Test.YtnihjkcniddepaaCopies
import Derived.Test.YtnihjkcniddepaaOpen
import Derived.Deep.RegionHeld3
namespace Go.Proofs.Ytnihjkcniddepaa
open Go.RowKit Go.Shelf
theorem Walk_c (d : Own) (A : Option Addr) (n c : Nat) (w : World) :
    Calls Try.prog 31 #[nodeV d A n c] w fun e w' => e = .returned (.func (.func 48) #[] #[.pointer (some ⟨w.heap.size, 0, none⟩)]) ∧ w' = w.alloc (.cells #[.int .i64 d.kind, .string d.nm, .int .u32 d.val, .bool d.mark, .slice A n c] NT) := by
  unfold nodeV
  go_enter Try.func31, Try.ntmps31
  go_wp2_with fail
  go_ret
  exact ⟨rfl, rfl⟩
theorem results_bool {fn : Func} {p : Tmp} (h : fn.results = #[.cell p 4]) (tmps : Array Value) {w : World} {g : Nat} {b : Bool} (hp : tmps.getD p undef = .pointer (some ⟨g, 0, none⟩)) (hc : w.cell? ⟨g, 0, none⟩ = some (.bool b)) : (results fn tmps).run Try.prog w = .ok (.bool b) w := by
  have hp' : tmps[p]?.getD undef = .pointer (some ⟨g, 0, none⟩) := by simpa using hp
  simp [results, h, hp', asAddr, go_sem, hc, Try.underlying4]
theorem set_bool {w : World} {g : Nat} {b b' : Bool} (hc : w.cell? ⟨g, 0, none⟩ = some (.bool b)) : (w.setCell ⟨g, 0, none⟩ (.bool b')).cell? ⟨g, 0, none⟩ = some (.bool b') := World.cell?_setCell_same' _ _ _ (by rw [hc]; rfl)
abbrev IT : TypeId := 3
theorem run_equalIn_func_nil (d : Nat) (f : Fn) (x c : Array Value) (w : World) : (Op.equalIn (d + 1) 48 (.func f x c) .nilFunc).run Try.prog w = .ok false w := by simp [Op.equalIn, run_underlying Try.underlying48]
theorem run_eql_func_nil (f : Fn) (x c : Array Value) (w : World) : (binOp .eql 48 (.func f x c) .nilFunc).run Try.prog w = .ok (.bool false) w := by
  simp only [binOp]
  simp [show Op.equal 48 (.func f x c) .nilFunc = Op.equalIn (9999 + 1) 48 (.func f x c) .nilFunc from rfl, run_equalIn_func_nil 9999 f x c w]
def vget (vl : List Vis) (x : Fin vl.length) : Vis := vl[x]
theorem keepsFrom_chg {X : Nat → Prop} {W W' : World} {B : Nat} (h : Chg X W W') (hX : ∀ b, X b → b < B) : KeepsFrom B W W' := ⟨h.size, fun k o hk ho _ => (h.block k (Array.getElem?_eq_some_iff.1 ho).1 (fun hx => by have := hX k hx; omega)).trans ho⟩
theorem keepC_chg {X : Nat → Prop} {W W' : World} (h : Chg X W W') : KeepC X W W' := ⟨h.size, fun k o hk ho _ => (h.block k (Array.getElem?_eq_some_iff.1 ho).1 hk).trans ho⟩
theorem round_call {P : Program} {f : FuncId} {args : Array Value} {w : World} {R R' : Ending → World → Prop} {m l : Nat} (h : Calls P f args w R) (hR : ∀ e w', R e w' → R' e w') :
    Fence.wide.fn f ∧ CallsIn (Fence.wide.inRound l) m P f args w R' := ⟨trivial, (CallsIn.inRound l (callsIn_wide.2 h)).mono hR⟩
theorem visN_isN {w : World} {d : Own} {ks : F} {A : Option Addr} {n c : Nat} (h : IsN w d ks A n c) : ∀ v ∈ visN w d ks A n c, IsN w v.d v.ks v.A v.n v.c := by
  intro v hv
  rcases List.mem_cons.1 hv with rfl | hv
  · exact h
  · exact visL_isN h.kids v hv
theorem visN_e {w : World} {d : Own} {ks : F} {A : Option Addr} {n c : Nat} : ∀ v ∈ visN w d ks A n c, 0 ≤ v.e ∧ v.e ≤ ks.size := by
  intro v hv
  rcases List.mem_cons.1 hv with rfl | hv
  · exact ⟨Int.le_refl _, by show (0 : Int) ≤ _; omega⟩
  · have := visL_depth w ks A 1 v hv; omega
theorem visN_max {w : World} {d : Own} {ks : F} {A : Option Addr} {n c : Nat} : maxE (visN w d ks A n c) 0 = ks.deep := by
  have := visL_max w ks A 1 0 (by omega)
  unfold maxE at this
  simp only [visN, maxE, List.foldl_cons]
  rw [show max (0 : Int) 0 = 0 from rfl, this]
  omega
theorem map_fin (l : List Vis) : (List.finRange l.length).map (fun x => vget l x) = l := by
  apply List.ext_getElem
  · simp
  · intro i h1 h2; simp [vget]
end Go.Proofs.Ytnihjkcniddepaa
