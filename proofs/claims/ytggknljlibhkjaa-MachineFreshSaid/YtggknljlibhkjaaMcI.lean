/- What is proved: what looks at a machine, and sets its parts. Conditions: the memory holds the machine. -/
import Derived.Test.YtggknljlibhkjaaMcH
import Derived.Laws.Cover3
namespace Go.Proofs.Ytggknljlibhkjaa
open Go Go.RowKit
def wordAt (M : Nat → Int) (p : Nat) : Int := M p + M (p + 1) * 256 + M (p + 2) * 65536 + M (p + 3) * 16777216
def putWord (M : Nat → Int) (p : Nat) (w : Int) : Nat → Int := upd (upd (upd (upd M p (w % 256)) (p + 1) (w / 256 % 256)) (p + 2) (w / 65536 % 256)) (p + 3) (w / 16777216)
theorem wordAt_bd {M : Nat → Int} (h : ∀ i, 0 ≤ M i ∧ M i < 256) (p : Nat) : 0 ≤ wordAt M p ∧ wordAt M p < 4294967296 := by
  have h0 := h p
  have h1 := h (p + 1)
  have h2 := h (p + 2)
  have h3 := h (p + 3)
  unfold wordAt
  omega
section
variable {W W' : World} {p mb s mm : Nat} {d : Mc}
theorem mthere_c (h : MAt W p mb s mm d) : Calls Try.prog 40 #[.pointer (some ⟨p, 0, none⟩)] W fun e w' => e = .returned (.bool true) ∧ W = w' := by
  obtain ⟨_, k22, _⟩ := h.cells
  clear h
  generalize d.n = n at *
  have hne := Go.run_neq_slice_nil (P := Try.prog) W 62 5 (some ⟨mb, 0, none⟩) n n Try.underlying62
  go_enter Try.func40, Try.ntmps40
  go_wp2_with fail
  go_ret
  exact ⟨rfl, rfl⟩
theorem mend_c (h : MAt W p mb s mm d) (k x : Int) : Calls Try.prog 41 #[.pointer (some ⟨p, 0, none⟩), .int .i64 k, .int .u32 x] W fun e w' => e = .returned (.tuple #[.int .u32 0, .bool false]) ∧ MAt w' p mb s mm { d with kind := k, code := x } ∧ Chg (memF p mb) W w' := by
  obtain ⟨k21, k22, k23, k24, k25, k26, k27⟩ := h.cells
  have f25 := h.m.frozen 25
  have f26 := h.m.frozen 26
  have H := Go.Lib.hid (h.setStop k x)
  have HC := Go.Lib.hid (((Chg.refl (memF p mb) W).setCell (p := ⟨p, 25, none⟩) (fun _ => .inl rfl) (.int .i64 k)).setCell (p := ⟨p, 26, none⟩) (fun _ => .inl rfl) (.int .u32 x))
  clear h
  go_enter Try.func41, Try.ntmps41
  go_wp2_with fail
  go_ret2
  exact ⟨rfl, H.out, HC.out⟩
theorem minside_c (h : MAt W p mb s mm d) (hn : d.n ≤ 16777216) (pl : Nat) (hp : pl < 4294967296) (one : Bool) : Calls Try.prog 44 #[.pointer (some ⟨p, 0, none⟩), .int .u32 pl, .bool one] W fun e w' => e = .returned (.bool (decide (pl < d.n) && (one || decide (pl % 4 = 0)))) ∧ W = w' := by
  obtain ⟨k21, k22, k23, k24, k25, k26, k27⟩ := h.cells
  clear h
  have e4 : ((pl : Int) % 4 == 0) = decide (pl % 4 = 0) := by
    by_cases h : pl % 4 = 0
    · have : (pl : Int) % 4 = 0 := by omega
      simp [h, this]
    · have : ¬ ((pl : Int) % 4 = 0) := by omega
      simp [h, this]
  generalize d.n = n at *
  by_cases hlt : pl < n
  · have hd : decide (pl < n) = true := by simpa using hlt
    rw [hd]
    obtain ⟨q, hq⟩ : ∃ q, decide (pl % 4 = 0) = q := ⟨_, rfl⟩
    rw [hq] at e4 ⊢
    clear hq hd
    cases one <;> cases q
    all_goals
      go_enter Try.func44, Try.ntmps44
      go_wp2_with fail
      go_ret
      exact ⟨rfl, rfl⟩
  · have hd : decide (pl < n) = false := by simpa using hlt
    rw [hd]
    clear e4 hd
    go_enter Try.func44, Try.ntmps44
    go_wp2_with fail
    go_ret
    exact ⟨rfl, rfl⟩
theorem getByte_c (h : MAt W p mb s mm d) (hn : d.n ≤ 16777216) (hM : ∀ i, 0 ≤ d.M i ∧ d.M i < 256) (pl : Nat) (hp : pl < d.n) : Calls Try.prog 43 #[.pointer (some ⟨p, 0, none⟩), .int .u32 pl, .bool true] W fun e w' => e = .returned (.int .u32 (d.M pl)) ∧ W = w' := by
  obtain ⟨k21, k22, k23, k24, k25, k26, k27⟩ := h.cells
  have hb := h.byte hp
  have hm := hM pl
  clear h hM
  generalize d.n = n at *
  generalize d.M pl = x at *
  go_enter Try.func43, Try.ntmps43
  go_wp2_with fail
  go_ret
  exact ⟨rfl, rfl⟩
theorem mor4 (a b c e : Int) (h0 : 0 ≤ a ∧ a < 256) (h1 : 0 ≤ b ∧ b < 256) (h2 : 0 ≤ c ∧ c < 256) (h3 : 0 ≤ e ∧ e < 256) :
    bits .or .u32 (bits .or .u32 (bits .or .u32 a (b * 256)) (c * 65536)) (e * 16777216) = a + b * 256 + c * 65536 + e * 16777216 := by
  rw [u32_or8 a (b * 256) h0.1 h0.2 (by omega) (by omega) (by omega), u32_or16 (a + b * 256) (c * 65536) (by omega) (by omega) (by omega) (by omega) (by omega), u32_or24 (a + b * 256 + c * 65536) (e * 16777216) (by omega) (by omega) (by omega) (by omega) (by omega)]
theorem getWord_c (h : MAt W p mb s mm d) (hn : d.n ≤ 16777216) (hM : ∀ i, 0 ≤ d.M i ∧ d.M i < 256) (pl : Nat) (hp : pl + 4 ≤ d.n) : Calls Try.prog 43 #[.pointer (some ⟨p, 0, none⟩), .int .u32 pl, .bool false] W fun e w' => e = .returned (.int .u32 (wordAt d.M pl)) ∧ ∃ k, w' = W.drewN k := by
  obtain ⟨k21, k22, k23, k24, k25, k26, k27⟩ := h.cells
  have hb0 := h.byte (i := pl) (by omega)
  have hb1 := h.byte (i := pl + 1) (by omega)
  have hb2 := h.byte (i := pl + 2) (by omega)
  have hb3 := h.byte (i := pl + 3) (by omega)
  have m0 := hM pl
  have m1 := hM (pl + 1)
  have m2 := hM (pl + 2)
  have m3 := hM (pl + 3)
  unfold wordAt
  clear h hM
  generalize d.n = n at *
  generalize d.M pl = x0 at *
  generalize d.M (pl + 1) = x1 at *
  generalize d.M (pl + 2) = x2 at *
  generalize d.M (pl + 3) = x3 at *
  have ho := mor4 x0 x1 x2 x3 m0 m1 m2 m3
  obtain ⟨r, hr⟩ : ∃ r, x0 + x1 * 256 + x2 * 65536 + x3 * 16777216 = r := ⟨_, rfl⟩
  rw [hr] at ho ⊢
  clear hr
  go_enter Try.func43, Try.ntmps43
  go_wp2_with fail
  go_quiet (fail)
  go_wp2_with fail
  go_ret
  exact ⟨rfl, _, rfl⟩
theorem putByte_c (h : MAt W p mb s mm d) (hn : d.n ≤ 16777216) (pl : Nat) (hp : pl < d.n) (w : Int) (hw : 0 ≤ w ∧ w < 4294967296) : Calls Try.prog 39 #[.pointer (some ⟨p, 0, none⟩), .int .u32 pl, .int .u32 w, .bool true] W fun e w' => e = .returned (.tuple #[]) ∧ MAt w' p mb s mm { d with M := upd d.M pl (w % 256) } ∧ Chg (memF p mb) W w' := by
  obtain ⟨_, k22, _⟩ := h.cells
  have hb := h.byte hp
  have hf := h.b.frozen pl
  have H := Go.Lib.hid (h.setByte pl (w % 256))
  have HC := Go.Lib.hid ((Chg.refl (memF p mb) W).setCell (p := ⟨mb, pl, none⟩) (fun _ => .inr rfl) (.int .u8 (w % 256)))
  clear h
  generalize d.n = n at *
  go_enter Try.func39, Try.ntmps39
  go_wp2_with fail
  exact bodyPost_ret (v := .tuple #[]) (results_none rfl _ _ _) rfl ⟨rfl, H.out, HC.out⟩
theorem MAt.putWord (h : MAt W p mb s mm d) (pl : Nat) (w : Int) : MAt ((((W.setCell ⟨mb, pl, none⟩ (.int .u8 (w % 256))).setCell ⟨mb, pl + 1, none⟩ (.int .u8 (w / 256 % 256))).setCell ⟨mb, pl + 2, none⟩ (.int .u8 (w / 65536 % 256))).setCell ⟨mb, pl + 3, none⟩ (.int .u8 (w / 16777216))) p mb s mm { d with M := Go.Proofs.Ytggknljlibhkjaa.putWord d.M pl w } :=
  (((h.setByte pl _).setByte (pl + 1) _).setByte (pl + 2) _).setByte (pl + 3) _
theorem putWord_c (h : MAt W p mb s mm d) (hn : d.n ≤ 16777216) (pl : Nat) (hp : pl + 4 ≤ d.n) (w : Int) (hw : 0 ≤ w ∧ w < 4294967296) : Calls Try.prog 39 #[.pointer (some ⟨p, 0, none⟩), .int .u32 pl, .int .u32 w, .bool false] W fun e w' => e = .returned (.tuple #[]) ∧ MAt w' p mb s mm { d with M := putWord d.M pl w } ∧ Chg (memF p mb) W w' := by
  obtain ⟨_, k22, _⟩ := h.cells
  have hb0 := h.byte (i := pl) (by omega)
  have hb1 := h.byte (i := pl + 1) (by omega)
  have hb2 := h.byte (i := pl + 2) (by omega)
  have hb3 := h.byte (i := pl + 3) (by omega)
  have hf0 := h.b.frozen pl
  have hf1 := h.b.frozen (pl + 1)
  have hf2 := h.b.frozen (pl + 2)
  have hf3 := h.b.frozen (pl + 3)
  have H := Go.Lib.hid (h.putWord pl w)
  have HC := Go.Lib.hid (((((Chg.refl (memF p mb) W).setCell (p := ⟨mb, pl, none⟩) (fun _ => .inr rfl) (.int .u8 (w % 256))).setCell (p := ⟨mb, pl + 1, none⟩) (fun _ => .inr rfl) (.int .u8 (w / 256 % 256))).setCell (p := ⟨mb, pl + 2, none⟩) (fun _ => .inr rfl) (.int .u8 (w / 65536 % 256))).setCell (p := ⟨mb, pl + 3, none⟩) (fun _ => .inr rfl) (.int .u8 (w / 16777216)))
  clear h
  generalize d.n = n at *
  go_enter Try.func39, Try.ntmps39
  go_wp2_with fail
  go_end0
  exact ⟨rfl, H.out, HC.out⟩
end
end Go.Proofs.Ytggknljlibhkjaa
