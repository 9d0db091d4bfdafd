/- What is proved: the law's known rows. Conditions: none. -/
import Derived.Test.YtggknljlibhkjaaMcW
import Derived.Test.YtggknljlibhkjaaStoreX0
set_option linter.unusedSimpArgs false
set_option linter.unusedVariables false
namespace Go.Proofs.Ytggknljlibhkjaa
open Go Go.RowKit
def m1 : Mc := Mc.new 64 [1073741831, 3607101708]
def m2 : Mc := Mc.new 64 [2700083196, 2699034624]
theorem m1_0 : (m1.iter 0).kind = 0 := by decide +kernel
theorem m1_1 : (m1.iter 1).kind = 0 := by decide +kernel
theorem m1_2 : (m1.iter 2).kind = 1 ∧ (m1.iter 2).code = 7 := by decide +kernel
theorem m2_1 : (m2.iter 1).kind = 0 := by decide +kernel
theorem m2_2 : (m2.iter 2).kind = 3 ∧ (m2.iter 2).code = 0 := by decide +kernel
theorem next_stop {d : Mc} (h : d.kind ≠ 0) : d.next = d := by unfold Mc.next; rw [if_pos h]
theorem iter_stop {d : Mc} {k : Nat} (h : (d.iter k).kind ≠ 0) : ∀ j, d.iter (k + j) = d.iter k
  | 0 => rfl
  | j + 1 => by show (d.iter (k + j)).next = _; rw [iter_stop h j, next_stop h]
theorem alone_of {d : Mc} {k n : Nat} (h : (d.iter k).kind ≠ 0) (h' : ∀ j < k, (d.iter j).alone) : ∀ j < n, (d.iter j).alone := fun j _ => by
  by_cases hj : j < k
  · exact h' j hj
  · obtain ⟨i, rfl⟩ : ∃ i, j = k + i := ⟨j - k, by omega⟩
    rw [iter_stop h i]
    exact fun h0 => absurd h0 h
theorem m1_alone : ∀ j < 9, (m1.iter j).alone := alone_of (k := 2) (by rw [m1_2.1]; decide) fun j hj => by
  have : j = 0 ∨ j = 1 := by omega
  rcases this with rfl | rfl
  · intro _ _ h; exact absurd h (by decide +kernel)
  · intro _ _ _; exact .inl (by decide +kernel)
theorem m2_alone : ∀ j < 9, (m2.iter j).alone := alone_of (k := 2) (by rw [m2_2.1]; decide) fun j hj => by
  have : j = 0 ∨ j = 1 := by omega
  rcases this with rfl | rfl
  · intro _ _ h; exact absurd h (by decide +kernel)
  · intro _ _ h; exact absurd h (by decide +kernel)
theorem wb_bd : ∀ (l : List Int), (∀ x ∈ l, 0 ≤ x ∧ x < 4294967296) → ∀ y ∈ wb l, 0 ≤ y ∧ y < 256
  | [], _, y, hy => by cases hy
  | x :: r, h, y, hy => by
    have hx := h x (by simp)
    simp only [wb, List.mem_cons] at hy
    rcases hy with rfl | rfl | rfl | rfl | hy
    · omega
    · omega
    · omega
    · omega
    · exact wb_bd r (fun z hz => h z (by simp [hz])) y hy
theorem mnew_ok (n : Nat) (l : List Int) (hn : 64 ≤ n ∧ n ≤ 16777216 ∧ n % 4 = 0) (hl : l.length ≤ n / 4) (hb : ∀ x ∈ l, 0 ≤ x ∧ x < 4294967296) : (Mc.new n l).Ok ∧ (Mc.new n l).heap ≤ (Mc.new n l).n := by
  refine ⟨⟨⟨fun i => ?_, (show (0:Int) ≤ 0 ∧ (0:Int) < 4294967296 by decide), (show (0:Int) ≤ 0 ∧ (0:Int) < 4294967296 by decide)⟩, fun i => ?_, hn, by show 4 * l.length < 4294967296; omega⟩, by show 4 * l.length ≤ n; omega⟩
  · show 0 ≤ upd zeroR 14 n i ∧ upd zeroR 14 n i < 4294967296
    unfold upd zeroR
    split <;> omega
  · show 0 ≤ (wb l).getD i 0 ∧ (wb l).getD i 0 < 256
    by_cases hi : i < (wb l).length
    · rw [List.getD_eq_getElem?_getD, List.getElem?_eq_getElem hi]
      exact wb_bd l hb _ (List.getElem_mem hi)
    · rw [List.getD_eq_getElem?_getD, List.getElem?_eq_none (by omega)]
      exact ⟨by decide, by decide⟩

def newW : Int := 3607101724
theorem wordAt_put_same (M : Nat → Int) (p : Nat) {x : Int} (hx : 0 ≤ x ∧ x < 4294967296) : wordAt (putWord M p x) p = x := by
  simp [wordAt, putWord, upd]
  omega
theorem wordAt_put_far (M : Nat → Int) {p q : Nat} (h : p + 4 ≤ q ∨ q + 4 ≤ p) (x : Int) : wordAt (putWord M p x) q = wordAt M q := by
  simp only [wordAt, putWord, upd]
  rw [if_neg (by omega), if_neg (by omega), if_neg (by omega), if_neg (by omega), if_neg (by omega), if_neg (by omega), if_neg (by omega), if_neg (by omega), if_neg (by omega), if_neg (by omega), if_neg (by omega), if_neg (by omega), if_neg (by omega), if_neg (by omega), if_neg (by omega), if_neg (by omega)]
theorem wordAt_clr (M : Nat → Int) {a t j : Nat} (ha : a % 4 = 0) (ht : t % 4 = 0) : wordAt (clr M a t) (4 * j) = if a ≤ 4 * j ∧ 4 * j < t then 0 else wordAt M (4 * j) := by
  by_cases h : a ≤ 4 * j ∧ 4 * j < t
  · rw [if_pos h]
    simp only [wordAt, clr]
    rw [if_pos (by omega), if_pos (by omega), if_pos (by omega), if_pos (by omega)]
    rfl
  · rw [if_neg h]
    simp only [wordAt, clr]
    rw [if_neg (by omega), if_neg (by omega), if_neg (by omega), if_neg (by omega)]
theorem putWord_bd {M : Nat → Int} (h : ∀ i, 0 ≤ M i ∧ M i < 256) (p : Nat) {x : Int} (hx : 0 ≤ x ∧ x < 4294967296) : ∀ i, 0 ≤ putWord M p x i ∧ putWord M p x i < 256 := by
  unfold putWord
  exact upd_bd (upd_bd (upd_bd (upd_bd h _ (by omega)) _ (by omega)) _ (by omega)) _ (by omega)
/-- the machine between two calls -/
structure FI (n : Nat) (f : Int) (d : Mc) : Prop where
  ok : d.Ok
  nn : d.n = n
  kind : d.kind = 0
  code : d.code = 0
  r14 : d.c.R 14 = n
  lo : 4 ≤ d.heap
  hi : d.heap ≤ n
  al : d.heap % 4 = 0
  w0 : wordAt d.M 0 = newW
  ws : ∀ j, 1 ≤ j → 4 * j < n → wordAt d.M (4 * j) = if 4 * j < d.heap then 0 else f
/-- the call's registers -/
def call1 (d : Mc) (z : Nat) : Mc := { d with c := { d.c with R := upd d.c.R 0 z, pc := 0 } }
section
variable {n : Nat} {f : Int} {d : Mc} {z : Nat}
theorem stepNew (c : Cp) (h : c.pc = 0) : stepF c newW = ({ c with pc := 1 }, ⟨4, 0, false, 0, 0, 17⟩) := by
  have e : ofW newW = some in_new := by kernel_rfl
  unfold stepF
  rw [e]
  show insF c.next in_new = _
  unfold insF
  rw [if_neg (by decide), if_neg (by decide), if_neg (by decide), if_pos (by decide)]
  have hh : ∀ c' : Cp, holds c' in_new.co = true := fun c' => by simp [holds, in_new]
  rw [if_pos (hh _)]
  unfold Cp.next
  rw [h]
  rfl
theorem FI.callOk (h : FI n f d) (hz : z < 4294967296) : (call1 d z).Ok ∧ (call1 d z).heap ≤ (call1 d z).n := by
  refine ⟨⟨⟨fun i => ?_, h.ok.c.h, (show (0:Int) ≤ 0 ∧ (0:Int) < 4294967296 by decide)⟩, h.ok.m, h.ok.n, h.ok.heap⟩, by show d.heap ≤ d.n; rw [h.nn]; exact h.hi⟩
  show 0 ≤ upd d.c.R 0 z i ∧ upd d.c.R 0 z i < 4294967296
  have := h.ok.c.r i
  unfold upd
  split <;> omega
theorem FI.ev (h : FI n f d) : (call1 d z).ev = ({ (call1 d z).c with pc := 1 }, ⟨4, 0, false, 0, 0, 17⟩) := by
  have e : wordAt (call1 d z).M (4 * (call1 d z).c.pc.toNat) = newW := h.w0
  unfold Mc.ev
  rw [e]
  exact stepNew _ rfl
theorem FI.alone (h : FI n f d) : (call1 d z).alone := fun _ _ _ => by rw [h.ev]; exact .inl (show (17 : Int) < 18 by decide)
theorem FI.next (h : FI n f d) : (call1 d z).next = newF { call1 d z with c := { (call1 d z).c with pc := 1 } } z := by
  unfold Mc.next
  have h1 : ¬ (call1 d z).kind ≠ 0 := fun e => e h.kind
  have h2 : ¬ (call1 d z).n ≤ 4 * (call1 d z).c.pc.toNat := by
    show ¬ d.n ≤ 4 * (0 : Int).toNat
    have := h.ok.n; simp; omega
  rw [if_neg h1, if_neg h2, h.ev]
  unfold Mc.act
  simp only
  rw [if_neg (by decide), if_neg (by decide), if_neg (by decide), if_pos trivial, if_neg (by decide), if_pos trivial]
  congr 1
def newTop (d : Mc) (z : Nat) : Nat := d.heap + (z + 3) / 4 * 4
theorem FI.full (h : FI n f d) (ht : n < newTop d z) : (call1 d z).next.kind = 4 ∧ (call1 d z).next.code = 0 ∧ (call1 d z).next.heap = d.heap := by
  rw [h.next]
  unfold newF
  have : n < d.heap + (z + 3) / 4 * 4 := ht
  rw [if_pos (.inr (by show d.n < d.heap + (z + 3) / 4 * 4; rw [h.nn]; exact ht))]
  exact ⟨rfl, rfl, rfl⟩
theorem FI.fits (h : FI n f d) (hz : z < 4294967296) (ht : newTop d z ≤ n) : FI n f (call1 d z).next ∧ (call1 d z).next.heap = newTop d z ∧ (call1 d z).next.c.R 0 = d.heap := by
  have ho := (next_ok (h.callOk hz).1 (h.callOk hz).2).1
  have e : (call1 d z).next = { call1 d z with heap := newTop d z, M := clr d.M d.heap (newTop d z), c := { (call1 d z).c with pc := 1, R := upd (upd d.c.R 0 z) 0 d.heap } } := by
    rw [h.next]
    unfold newF
    rw [if_neg ?_]
    · rfl
    · have h14 : upd d.c.R 0 z 14 = n := by
        show (if 14 = 0 then (z : Int) else d.c.R 14) = n
        rw [if_neg (by decide)]; exact h.r14
      show ¬ (upd d.c.R 0 z 14 < ((d.heap + (z + 3) / 4 * 4 : Nat) : Int) ∨ d.n < d.heap + (z + 3) / 4 * 4)
      have : d.heap + (z + 3) / 4 * 4 ≤ n := ht
      rw [h14, h.nn]
      omega
  have hal := h.al
  have hta : newTop d z % 4 = 0 := by unfold newTop; omega
  have hlo := h.lo
  have htl : d.heap ≤ newTop d z := by unfold newTop; omega
  rw [e] at ho ⊢
  refine ⟨⟨ho, h.nn, h.kind, h.code, ?_, ?_, ht, hta, ?_, ?_⟩, rfl, rfl⟩
  · show (if 14 = 0 then (d.heap : Int) else if 14 = 0 then (z : Int) else d.c.R 14) = n
    rw [if_neg (by decide), if_neg (by decide)]; exact h.r14
  · show 4 ≤ newTop d z
    omega
  · show wordAt (clr d.M d.heap (newTop d z)) (4 * 0) = newW
    rw [wordAt_clr _ hal hta, if_neg (by omega)]
    exact h.w0
  · intro j h1 h2
    show wordAt (clr d.M d.heap (newTop d z)) (4 * j) = if 4 * j < newTop d z then 0 else f
    rw [wordAt_clr _ hal hta, h.ws j h1 h2]
    by_cases a : 4 * j < d.heap
    · rw [if_pos a, if_neg (by omega), if_pos (by omega)]
    · by_cases b : 4 * j < newTop d z
      · rw [if_pos (by omega), if_pos b]
      · rw [if_neg (by omega), if_neg b, if_neg a]
end
/-- the memory as it is filled -/
def fillM (M : Nat → Int) (f : Int) : Nat → Nat → Int
  | 0 => M
  | k + 1 => putWord (fillM M f k) (4 * (k + 1)) f
theorem fillM_bd {M : Nat → Int} (h : ∀ i, 0 ≤ M i ∧ M i < 256) {f : Int} (hf : 0 ≤ f ∧ f < 4294967296) : ∀ k i, 0 ≤ fillM M f k i ∧ fillM M f k i < 256
  | 0 => h
  | k + 1 => putWord_bd (fillM_bd h hf k) _ hf
theorem fillM_at (M : Nat → Int) {f : Int} (hf : 0 ≤ f ∧ f < 4294967296) : ∀ k j, wordAt (fillM M f k) (4 * j) = if 1 ≤ j ∧ j ≤ k then f else wordAt M (4 * j)
  | 0, j => by rw [if_neg (by omega)]; rfl
  | k + 1, j => by
    show wordAt (putWord (fillM M f k) (4 * (k + 1)) f) (4 * j) = _
    by_cases e : j = k + 1
    · subst e
      rw [wordAt_put_same _ _ hf, if_pos (by omega)]
    · rw [wordAt_put_far _ (by omega), fillM_at M hf k j]
      by_cases a : 1 ≤ j ∧ j ≤ k
      · rw [if_pos a, if_pos (by omega)]
      · rw [if_neg a, if_neg (by omega)]
/-- the machine, filled so far -/
def fillD (n : Nat) (f : Int) (k : Nat) : Mc := { Mc.new n [newW] with M := fillM (Mc.new n [newW]).M f k }
theorem fillD_ok {n : Nat} (hn : 64 ≤ n ∧ n ≤ 16777216 ∧ n % 4 = 0) {f : Int} (hf : 0 ≤ f ∧ f < 4294967296) (k : Nat) : (fillD n f k).Ok := by
  have h := (mnew_ok n [newW] hn (by show 1 ≤ n / 4; omega) (by decide)).1
  exact ⟨h.c, fillM_bd h.m hf k, h.n, h.heap⟩
theorem fillD_FI {n : Nat} (hn : 64 ≤ n ∧ n ≤ 16777216 ∧ n % 4 = 0) {f : Int} (hf : 0 ≤ f ∧ f < 4294967296) {k : Nat} (hk : n ≤ 4 + 4 * k) : FI n f (fillD n f k) := by
  refine ⟨fillD_ok hn hf k, rfl, rfl, rfl, rfl, by show 4 ≤ 4 * 1; omega, by show 4 * 1 ≤ n; omega, by show 4 * 1 % 4 = 0; decide, ?_, ?_⟩
  · show wordAt (fillM (Mc.new n [newW]).M f k) (4 * 0) = newW
    rw [fillM_at _ hf, if_neg (by omega)]
    show wordAt (fun i => (wb [newW]).getD i 0) 0 = newW
    decide +kernel
  · intro j h1 h2
    show wordAt (fillM (Mc.new n [newW]).M f k) (4 * j) = if 4 * j < 4 * 1 then 0 else f
    rw [fillM_at _ hf, if_pos (by omega), if_neg (by omega)]
end Go.Proofs.Ytggknljlibhkjaa
