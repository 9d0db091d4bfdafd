/- What is proved: what a store and a load make of a machine: the plain law of MachineStores. Conditions: as each theorem says. -/
import Derived.Test.YtggknljlibhkjaaGMcC
set_option linter.unusedSimpArgs false
set_option linter.unusedVariables false
namespace Go.Proofs.Ytggknljlibhkjaa
open Go Go.RowKit
def stW (one : Bool) : Int := if one then 2989490176 else 2721054720
def ldW (one : Bool) : Int := if one then 2486173696 else 2217738240
theorem stepSt (c : Cp) (one : Bool) : stepF c (stW one) = (c.next, ⟨2, (c.R 3 + 0) % 4294967296, one, 3, if one = true then bits .and .u32 (c.R 2) 255 else c.R 2, 0⟩) := by
  cases one
  · unfold stepF
    rw [show ofW (stW false) = some in_stw from by kernel_rfl]
    rfl
  · unfold stepF
    rw [show ofW (stW true) = some in_stb from by kernel_rfl]
    rfl
theorem stepLd (c : Cp) (one : Bool) : stepF c (ldW one) = (c.next, ⟨1, (c.R 3 + 0) % 4294967296, one, 4, 0, 0⟩) := by
  cases one
  · unfold stepF
    rw [show ofW (ldW false) = some in_ldw from by kernel_rfl]
    rfl
  · unfold stepF
    rw [show ofW (ldW true) = some in_ldb from by kernel_rfl]
    rfl
section
variable {d : Mc} {one : Bool} {w pl : Nat}
def stM (M : Nat → Int) (one : Bool) (pl w : Nat) : Nat → Int := if one = true then upd M pl ((w : Int) % 256) else putWord M pl w
theorem st_ev (hpc : d.c.pc = 0) (h0 : wordAt d.M 0 = stW one) (h2 : d.c.R 2 = w) (h3 : d.c.R 3 = pl) (hw : w < 4294967296) (hp : pl < 4294967296) : d.ev = (d.c.next, ⟨2, pl, one, 3, if one = true then (w : Int) % 256 else w, 0⟩) := by
  unfold Mc.ev
  rw [hpc]
  have e : wordAt d.M (4 * (0 : Int).toNat) = stW one := h0
  rw [e, stepSt, h2, h3, show ((pl : Int) + 0) % 4294967296 = pl by omega, show bits .and .u32 (w : Int) 255 = (w : Int) % 256 from u32_and 8 (by decide) w (by omega) (by omega)]
theorem st_next (hk : d.kind = 0) (hpc : d.c.pc = 0) (hn : 64 ≤ d.n) (h0 : wordAt d.M 0 = stW one) (h2 : d.c.R 2 = w) (h3 : d.c.R 3 = pl) (hw : w < 4294967296) (hp : pl < d.n) (hpb : pl < 4294967296) (ho : one = true ∨ pl % 4 = 0) :
    d.next = { d with c := d.c.next, M := stM d.M one pl w } := by
  unfold Mc.next
  rw [if_neg (by simpa using hk), if_neg (by rw [hpc]; show ¬ d.n ≤ 4 * 0; omega), st_ev hpc h0 h2 h3 hw hpb]
  unfold Mc.act
  simp only
  rw [if_neg (by decide), if_pos trivial, if_neg (by rintro ⟨h, _⟩; exact absurd h (by decide)), if_pos ⟨by simpa using hp, by simpa using ho⟩]
  cases one
  · rfl
  · have e : (((w : Int) % 256).toNat : Int) % 256 = (w : Int) % 256 := by omega
    simp only [stM, if_pos, Int.toNat_natCast]
    rw [e]
theorem ld_ev (hpc : d.c.pc = 1) (h0 : wordAt d.M 4 = ldW one) (h3 : d.c.R 3 = pl) (hp : pl < 4294967296) : d.ev = (d.c.next, ⟨1, pl, one, 4, 0, 0⟩) := by
  unfold Mc.ev
  rw [hpc]
  have e : wordAt d.M (4 * (1 : Int).toNat) = ldW one := h0
  rw [e, stepLd, h3, show ((pl : Int) + 0) % 4294967296 = pl by omega]
theorem ld_next (hk : d.kind = 0) (hpc : d.c.pc = 1) (hn : 64 ≤ d.n) (h0 : wordAt d.M 4 = ldW one) (h3 : d.c.R 3 = pl) (hp : pl < d.n) (hpb : pl < 4294967296) (ho : one = true ∨ pl % 4 = 0) :
    d.next = { d with c := d.c.next.set 4 (if one = true then d.M pl else wordAt d.M pl) } := by
  unfold Mc.next
  rw [if_neg (by simpa using hk), if_neg (by rw [hpc]; show ¬ d.n ≤ 4 * 1; omega), ld_ev hpc h0 h3 hpb]
  unfold Mc.act
  simp only
  rw [if_pos trivial, if_pos ⟨by simpa using hp, by simpa using ho⟩]
  simp only [Int.toNat_natCast]
  rfl
/-- the machine ahead of the store -/
def stD (n : Nat) (l : List Int) (one : Bool) : Mc := { Mc.new n l with M := putWord (putWord (Mc.new n l).M 0 (stW one)) 4 (ldW one) }
def stC (n : Nat) (l : List Int) (one : Bool) (w pl : Nat) : Mc := { stD n l one with c := { (stD n l one).c with R := upd (upd (stD n l one).c.R 2 w) 3 pl } }
theorem stW_bd (one : Bool) : 0 ≤ stW one ∧ stW one < 4294967296 := by cases one <;> decide
theorem ldW_bd (one : Bool) : 0 ≤ ldW one ∧ ldW one < 4294967296 := by cases one <;> decide
variable {n : Nat} {l : List Int}
theorem stD_ok (hn : 64 ≤ n ∧ n ≤ 16777216 ∧ n % 4 = 0) (hl : l.length ≤ n / 4) (hb : ∀ x ∈ l, 0 ≤ x ∧ x < 4294967296) : (stD n l one).Ok := by
  have h := (mnew_ok n l hn hl hb).1
  exact ⟨h.c, putWord_bd (putWord_bd h.m 0 (stW_bd one)) 4 (ldW_bd one), h.n, h.heap⟩
theorem stC_ok (hn : 64 ≤ n ∧ n ≤ 16777216 ∧ n % 4 = 0) (hl : l.length ≤ n / 4) (hb : ∀ x ∈ l, 0 ≤ x ∧ x < 4294967296) (hw : w < 4294967296) (hp : pl < 4294967296) : (stC n l one w pl).Ok ∧ (stC n l one w pl).heap ≤ (stC n l one w pl).n := by
  have h := stD_ok (one := one) hn hl hb
  refine ⟨⟨⟨fun i => ?_, h.c.h, h.c.pc⟩, h.m, h.n, h.heap⟩, (mnew_ok n l hn hl hb).2⟩
  show 0 ≤ upd (upd (stD n l one).c.R 2 w) 3 pl i ∧ upd (upd (stD n l one).c.R 2 w) 3 pl i < 4294967296
  have := h.c.r i
  unfold upd
  split
  · omega
  · split <;> omega
theorem stC_0 : wordAt (stC n l one w pl).M 0 = stW one := by
  show wordAt (putWord (putWord (Mc.new n l).M 0 (stW one)) 4 (ldW one)) 0 = _
  rw [wordAt_put_far _ (by omega), wordAt_put_same _ _ (stW_bd one)]
theorem stC_4 : wordAt (stC n l one w pl).M 4 = ldW one := by
  show wordAt (putWord (putWord (Mc.new n l).M 0 (stW one)) 4 (ldW one)) 4 = _
  rw [wordAt_put_same _ _ (ldW_bd one)]
theorem stM_far (M : Nat → Int) (one : Bool) (pl w : Nat) {q : Nat} (h : q + 4 ≤ pl) : wordAt (stM M one pl w) q = wordAt M q := by
  cases one
  · exact wordAt_put_far M (.inr h) w
  · show wordAt (upd M pl ((w : Int) % 256)) q = _
    simp only [wordAt, upd]
    rw [if_neg (by omega), if_neg (by omega), if_neg (by omega), if_neg (by omega)]
/-- behind the store -/
def stE (n : Nat) (l : List Int) (one : Bool) (w pl : Nat) : Mc := { stC n l one w pl with c := (stC n l one w pl).c.next, M := stM (stD n l one).M one pl w }
theorem stC_next (hn : 64 ≤ n ∧ n ≤ 4096) (hw : w < 4294967296) (hp : pl < n) (ho : one = true ∨ pl % 4 = 0) : (stC n l one w pl).next = stE n l one w pl :=
  st_next (d := stC n l one w pl) (one := one) (w := w) (pl := pl) rfl rfl (show 64 ≤ n from hn.1) stC_0 rfl rfl hw hp (by omega) ho
theorem stC_alone (hw : w < 4294967296) (hp : pl < 4294967296) : (stC n l one w pl).alone := fun _ _ h => by
  rw [st_ev (d := stC n l one w pl) (one := one) (w := w) (pl := pl) rfl stC_0 rfl rfl hw hp] at h
  exact absurd h (show ¬ (2 : Int) = 4 by decide)
theorem stE_4 (h8 : 8 ≤ pl) : wordAt (stE n l one w pl).M 4 = ldW one := (stM_far _ one pl w (by omega)).trans (stC_4 (w := w) (pl := pl))
theorem stE_next (hn : 64 ≤ n ∧ n ≤ 4096) (hp : pl < n) (h8 : 8 ≤ pl) (ho : one = true ∨ pl % 4 = 0) : (stE n l one w pl).next = { stE n l one w pl with c := (stE n l one w pl).c.next.set 4 (if one = true then (stE n l one w pl).M pl else wordAt (stE n l one w pl).M pl) } :=
  ld_next (d := stE n l one w pl) (one := one) (pl := pl) rfl rfl (show 64 ≤ n from hn.1) (stE_4 h8) rfl hp (by omega) ho
theorem stE_alone (hp : pl < 4294967296) (h8 : 8 ≤ pl) : (stE n l one w pl).alone := fun _ _ h => by
  rw [ld_ev (d := stE n l one w pl) (one := one) (pl := pl) rfl (stE_4 h8) rfl hp] at h
  exact absurd h (show ¬ (1 : Int) = 4 by decide)
theorem stE_R4 (hn : 64 ≤ n ∧ n ≤ 4096) (hw : w < 4294967296) (hp : pl < n) (h8 : 8 ≤ pl) (ho : one = true ∨ pl % 4 = 0) : (stE n l one w pl).next.c.R 4 = if one = true then (w : Int) % 256 else w := by
  rw [stE_next hn hp h8 ho]
  show (if one = true then stM (stD n l one).M one pl w pl else wordAt (stM (stD n l one).M one pl w) pl) = _
  cases one
  · exact wordAt_put_same _ pl (by omega)
  · show upd (stD n l true).M pl ((w : Int) % 256) pl = (w : Int) % 256
    simp [upd]
/-- a byte of memory behind the store -/
theorem stE_M (i : Nat) : (stE n l one w pl).M i = if one = true then (if i = pl then (w : Int) % 256 else (stD n l one).M i)
    else if i = pl then (w : Int) % 256 else if i = pl + 1 then (w : Int) / 256 % 256 else if i = pl + 2 then (w : Int) / 65536 % 256 else if i = pl + 3 then (w : Int) / 16777216 else (stD n l one).M i := by
  show stM (stD n l one).M one pl w i = _
  cases one
  · show putWord (stD n l false).M pl w i = if false = true then _ else _
    rw [if_neg (by decide)]
    simp only [putWord, upd]
    by_cases h0 : i = pl
    · subst h0; simp
    · by_cases h1 : i = pl + 1
      · subst h1; simp
      · by_cases h2 : i = pl + 2
        · subst h2; simp
        · simp [h0, h1, h2]
  · rfl
end
end Go.Proofs.Ytggknljlibhkjaa
