/- What is proved: what the system does by itself: halt, make. Conditions: the memory holds the machine. -/
import Derived.Test.YtggknljlibhkjaaMcK
import Derived.Lib.SliceRun
namespace Go.Proofs.Ytggknljlibhkjaa
open Go Go.RowKit
section
variable {P : Program}
theorem run_clear_any (w : World) (t e ty : TypeId) (z : Value) (ht : P.underlying t = some (.slice e)) (hv : ∀ w, (zeroValue e).run P w = .ok z w) (hz : z.cells = #[z]) (h1 : z.oneCell' = true) (b o n c : Nat)
    (hc : ∀ j, j < n → (w.cell? ⟨b, o + j, none⟩).isSome = true) (hf : ∀ j, j < n → w.frozen? ⟨b, o + j, none⟩ = false) :
    (Builtin.clear_ #[t] ty #[.slice (some ⟨b, o, none⟩) n c]).run P w = .ok (.tuple #[]) (w.setCells b o (List.replicate n z)) := by
  rcases Nat.eq_zero_or_pos n with h0 | h0
  · subst h0
    simp [Builtin.clear_, run_underlying ht, World.setCells]
  · exact Go.Lib.run_clear_slice w t e ty z ht hv hz h1 b o n c h0 hc hf
theorem exec_clear {o : Oper} {a : Act} {w : World} (x : Operand) (t e : TypeId) (z : Value) (ho : o.op = .call { callee := .builtin .clear, args := #[x], argTypes := #[t] }) (ht : P.underlying t = some (.slice e)) (hv : ∀ w, (zeroValue e).run P w = .ok z w) (hz : z.cells = #[z]) (h1 : z.oneCell' = true) (b f n c : Nat) (hx : a.eval x = .slice (some ⟨b, f, none⟩) n c)
    (hc : ∀ j, j < n → (w.cell? ⟨b, f + j, none⟩).isSome = true) (hf : ∀ j, j < n → w.frozen? ⟨b, f + j, none⟩ = false) : (execOp a.eval o).run P w = .ok (.value (.tuple #[])) (w.setCells b f (List.replicate n z)) := by
  unfold execOp
  simp only [ho, resolve, invoke, builtin, Sem.run_bind, Sem.run_pure, Result.andThen_ok, List.map_toArray, List.map_cons, List.map_nil, hx, run_clear_any w t e o.type z ht hv hz h1 b f n c hc hf]
end
/-- a memory with a part cleared -/
def clr (M : Nat → Int) (a t : Nat) : Nat → Int := fun i => if a ≤ i ∧ i < t then 0 else M i
theorem memArr_clr {n : Nat} (M : Nat → Int) {a t : Nat} (h : a ≤ t) (ht : t ≤ n) : ((memArr n M).toList.take a ++ List.replicate (t - a) (Value.int .u8 0) ++ (memArr n M).toList.drop (a + (List.replicate (t - a) (Value.int .u8 0)).length)).toArray = memArr n (clr M a t) := by
  apply Array.ext_getElem?
  intro j
  simp only [List.getElem?_toArray, List.length_replicate]
  rcases Nat.lt_or_ge j n with hj | hj
  · rw [memArr_get _ hj]
    have hg : (memArr n M).toList[j]? = some (.int .u8 (M j)) := by rw [Array.getElem?_toList, memArr_get _ hj]
    have hl : (memArr n M).toList.length = n := by rw [Array.length_toList, memArr_size]
    rcases Nat.lt_or_ge j a with h1 | h1
    · rw [List.getElem?_append_left (by simp [hl]; omega), List.getElem?_append_left (by simp [hl]; omega), List.getElem?_take, if_pos h1, hg]
      simp [clr, show ¬ a ≤ j by omega]
    · rcases Nat.lt_or_ge j t with h2 | h2
      · rw [List.getElem?_append_left (by simp [hl]; omega), List.getElem?_append_right (by simp [hl]; omega), List.getElem?_replicate, if_pos (by simp [hl]; omega)]
        simp [clr, h1, h2]
      · rw [List.getElem?_append_right (by simp [hl]; omega), List.getElem?_drop]
        simp only [List.length_append, List.length_take, List.length_replicate, hl]
        rw [show a + (t - a) + (j - (min a n + (t - a))) = j by omega, hg]
        simp [clr, show ¬ j < t by omega]
  · rw [Array.getElem?_eq_none (by rw [memArr_size]; omega), List.getElem?_eq_none]
    simp [memArr_size]
    omega
section
variable {W W' : World} {p mb s mm : Nat} {d : Mc}
theorem MAt.clear (h : MAt W p mb s mm d) {a t : Nat} (h1 : a ≤ t) (h2 : t ≤ d.n) : MAt (W.setCells mb a (List.replicate (t - a) (Value.int .u8 0))) p mb s mm { d with M := clr d.M a t } :=
  ⟨(setCells_far h.ne.1 _ _ _).trans h.m, by
    have := setCells_blk (List.replicate (t - a) (Value.int .u8 0)) a W _ h.b (by rw [memArr_size, List.length_replicate]; omega)
    rw [memArr_clr d.M h1 h2] at this
    exact this, (setCells_far h.ne.2.2 _ _ _).trans h.code⟩
theorem halt_c (h : MAt W p mb s mm d) (a b : Int) : Calls Try.prog 25 #[.pointer (some ⟨p, 0, none⟩), .int .u32 a, .int .u32 b] W (MPost p mb s mm (.tuple #[.int .u32 0, .bool false]) { d with kind := 1, code := a } W) := by
  have HE := Go.Lib.hid (mend_c h 1 a)
  clear h
  go_enter Try.func25, Try.ntmps25
  go_wp2_with fail
  refine HE.out.mono ?_
  rintro e w1 ⟨rfl, h1, h2⟩
  have H := Go.Lib.hid (And.intro h1 h2)
  clear h1 h2
  go_wp2_with fail
  go_ret2
  exact ⟨rfl, H.out.1, H.out.2⟩
/-- what NEW does: the heap's new end -/
def topOf (d : Mc) (a : Nat) : Nat := d.heap + (a + 3) / 4 * 4
def makeRes (d : Mc) (a : Nat) : Value := if d.c.R 14 < (topOf d a : Nat) ∨ d.n < topOf d a then .tuple #[.int .u32 0, .bool false] else .tuple #[.int .u32 d.heap, .bool true]
def makeF (d : Mc) (a : Nat) : Mc := if d.c.R 14 < (topOf d a : Nat) ∨ d.n < topOf d a then { d with kind := 4, code := 0 } else { d with heap := topOf d a, M := clr d.M d.heap (topOf d a) }
set_option maxRecDepth 100000 in
theorem make_c (h : MAt W p mb s mm d) (hd : d.Ok) (hh : d.heap ≤ d.n) (a : Nat) (ha : a < 4294967296) (b : Int) : Calls Try.prog 26 #[.pointer (some ⟨p, 0, none⟩), .int .u32 a, .int .u32 b] W (MPost p mb s mm (makeRes d a) (makeF d a) W) := by
  have HE := Go.Lib.hid (mend_c h 4 0)
  obtain ⟨_, k22, k23, _⟩ := h.cells
  have k14 := h.reg (i := 14) (by decide)
  have f23 := h.m.frozen 23
  have hr := hd.c.r 14
  have hn := hd.n.2.1
  have HH := Go.Lib.hid h
  unfold makeRes makeF
  clear h hd
  by_cases hc : d.c.R 14 < (topOf d a : Nat) ∨ d.n < topOf d a
  · rw [if_pos hc, if_pos hc]
    unfold topOf at hc
    generalize d.c.R 14 = r at *
    generalize d.heap = hp at *
    generalize d.n = n at *
    have FIN : ∀ e w1, e = Ending.returned (.tuple #[.int .u32 0, .bool false]) ∧ MAt w1 p mb s mm { c := d.c, n := n, M := d.M, heap := hp, kind := 4, code := 0 } ∧ Chg (memF p mb) W w1 → MPost p mb s mm (.tuple #[.int .u32 0, .bool false]) { c := d.c, n := n, M := d.M, heap := hp, kind := 4, code := 0 } W e w1 := fun _ _ h => h
    have FIN' := Go.Lib.hid FIN
    clear FIN
    by_cases hc1 : r < ((hp + (a + 3) / 4 * 4 : Nat) : Int)
    · clear hc
      go_enter Try.func26, Try.ntmps26
      go_wp2_with fail
      refine HE.out.mono ?_
      rintro e w1 ⟨rfl, h1, h2⟩
      have H := Go.Lib.hid (And.intro h1 h2)
      clear h1 h2
      go_wp2_with fail
      go_ret2
      exact FIN'.out _ _ ⟨rfl, H.out.1, H.out.2⟩
    · have hc2 : n < hp + (a + 3) / 4 * 4 := by omega
      clear hc
      go_enter Try.func26, Try.ntmps26
      go_wp2_with fail
      refine HE.out.mono ?_
      rintro e w1 ⟨rfl, h1, h2⟩
      have H := Go.Lib.hid (And.intro h1 h2)
      clear h1 h2
      go_wp2_with fail
      go_ret2
      exact FIN'.out _ _ ⟨rfl, H.out.1, H.out.2⟩
  · rw [if_neg hc, if_neg hc]
    have hc1 : ((topOf d a : Nat) : Int) ≤ d.c.R 14 := by omega
    have hc2 : topOf d a ≤ d.n := by omega
    have hle : d.heap ≤ topOf d a := by unfold topOf; omega
    clear hc HE
    have H1 := (HH.out.clear hle hc2).setHeap (topOf d a)
    have HC := (setCells_chg (F := memF p mb) (g := mb) (.inr rfl) (List.replicate (topOf d a - d.heap) (Value.int .u8 0)) d.heap W (Chg.refl _ W)).setCell (p := ⟨p, 23, none⟩) (fun _ => .inl rfl) (.int .u32 (topOf d a : Nat))
    have HB := HH.out.b
    have HP1 := (HH.out.clear hle hc2).m
    have hFin := Go.Lib.hid (And.intro H1 HC)
    have HCl : ∀ j, j < topOf d a - d.heap → (W.cell? ⟨mb, d.heap + j, none⟩).isSome = true := fun j hj => by rw [HH.out.byte (by omega)]; rfl
    have HFr : ∀ j, j < topOf d a - d.heap → W.frozen? ⟨mb, d.heap + j, none⟩ = false := fun j hj => HB.frozen _
    have HCF := Go.Lib.hid (And.intro HCl HFr)
    have HP := Go.Lib.hid HP1
    have ht : topOf d a = d.heap + (a + 3) / 4 * 4 := rfl
    clear H1 HC HB HP1 HCl HFr f23
    have c23 := HP.out.cell 23
    have f23 := HP.out.frozen 23
    rw [show (({ d with M := clr d.M d.heap (topOf d a) } : Mc).arr mb s mm)[23]? = some (.int .u32 d.heap) from rfl] at c23
    have hq0 : topOf d a - d.heap = (a + 3) / 4 * 4 := by omega
    have heq : ((a : Int) + 3) / 4 * 4 = (((a + 3) / 4 * 4 : Nat) : Int) := by omega
    rw [hq0] at c23 f23 hFin HP
    have HCF2 : Hid ((∀ j, j < (a + 3) / 4 * 4 → (W.cell? ⟨mb, d.heap + j, none⟩).isSome = true) ∧ ∀ j, j < (a + 3) / 4 * 4 → W.frozen? ⟨mb, d.heap + j, none⟩ = false) := by rw [← hq0]; exact HCF
    have hqb : (a + 3) / 4 * 4 ≤ 4294967298 := by omega
    clear HCF hq0
    generalize clr d.M d.heap (topOf d a) = M' at *
    generalize topOf d a = t at *
    generalize d.c.R 14 = r at *
    generalize d.heap = hp at *
    generalize d.n = n at *
    generalize (a + 3) / 4 * 4 = q at *
    subst ht
    have hc1' : (hp : Int) + (q : Int) ≤ r := by omega
    have HZ := Go.Lib.hid (show ∀ w, (zeroValue 5).run Try.prog w = .ok (.int .u8 0) w from fun w => by kernel_rfl)
    clear hle hc1
    by_cases hcap : hp = n
    · have h0 : q = 0 := by omega
      subst h0 hcap
      go_enter Try.func26, Try.ntmps26
      simp only [List.replicate, World.setCells] at c23 f23 hFin
      go_wp2_with ((refine wpList_val _ rfl (.tuple #[]) W ?hxd ?_); (case hxd => ((refine exec_clear (.tmp 56) 62 5 (.int .u8 0) ?_ Try.underlying62 HZ.out rfl rfl mb 0 0 0 ?_ (fun j h => absurd h (by omega)) (fun j h => absurd h (by omega))) <;> rfl)))
      exact bodyPost_ret (v := .tuple #[.int .u32 hp, .bool true]) (by simp [results, Try.results26, go_sem]) rfl ⟨rfl, hFin.out.1, hFin.out.2⟩
    · have hlt : hp < n := by omega
      have HCX : Hid (∀ (o : Oper) (a : Act), o.op = .call { callee := .builtin .clear, args := #[.tmp 56], argTypes := #[62] } → a.eval (.tmp 56) = .slice (some ⟨mb, hp, none⟩) (hp + q - hp) (n - hp) → (execOp a.eval o).run Try.prog W = .ok (.value (.tuple #[])) (W.setCells mb hp (List.replicate q (Value.int .u8 0)))) := Go.Lib.hid fun o a ho hx => by
        rw [show hp + q - hp = q by omega] at hx
        exact exec_clear (.tmp 56) 62 5 (.int .u8 0) ho Try.underlying62 HZ.out rfl rfl mb hp q (n - hp) hx HCF2.out.1 HCF2.out.2
      go_enter Try.func26, Try.ntmps26
      go_wp2_with ((refine wpList_val _ rfl (.tuple #[]) (W.setCells mb hp (List.replicate q (Value.int .u8 0))) ?hxc ?_); (case hxc => ((refine HCX.out _ _ ?_ ?_) <;> rfl)))
      go_ret2
      exact ⟨rfl, hFin.out.1, hFin.out.2⟩
end
end Go.Proofs.Ytggknljlibhkjaa
