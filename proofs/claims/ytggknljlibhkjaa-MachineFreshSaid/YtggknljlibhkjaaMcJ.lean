/- What is proved: a machine's word, byte, processor, and so on. Conditions: the memory holds the machine. -/
import Derived.Test.YtggknljlibhkjaaMcI
namespace Go.Proofs.Ytggknljlibhkjaa
open Go Go.RowKit
abbrev StopT : TypeId := 46
def stopVal (k c : Int) : Value := .agg #[.int .i64 k, .int .u32 c]
section
variable {W W' : World} {p mb s mm : Nat} {d : Mc}
/-- the same machine, where only the order of some reads was drawn, and new blocks made -/
def MQ (p mb s mm : Nat) (d : Mc) (r : Value) (W : World) (e : Ending) (w' : World) : Prop := e = .returned r ∧ Chg NoB W w'
theorem word_c (h : MAt W p mb s mm d) (hd : d.Ok) (pl : Nat) (hp : pl < 4294967296) : Calls Try.prog 18 #[.pointer (some ⟨p, 0, none⟩), .int .u32 pl] W (Quiet (if pl < d.n ∧ pl % 4 = 0 then .tuple #[.int .u32 (wordAt d.M pl), .int .i64 0] else .tuple #[.int .u32 0, .int .i64 2]) W) := by
  have HT := Go.Lib.hid (mthere_c h)
  have HI := Go.Lib.hid (minside_c h hd.n.2.1 pl hp false)
  have HG := Go.Lib.hid (fun hp4 => getWord_c h hd.n.2.1 hd.m pl hp4)
  have hn4 := hd.n.2.2
  clear h hd
  have hq : (decide (pl < d.n) && (false || decide (pl % 4 = 0))) = decide (pl < d.n ∧ pl % 4 = 0) := by simp
  rw [hq] at HI
  clear hq
  by_cases hin : pl < d.n ∧ pl % 4 = 0
  · rw [if_pos hin]
    have HG' := Go.Lib.hid (HG.out (by omega))
    have e1 : decide (pl < d.n ∧ pl % 4 = 0) = true := by simpa using hin
    rw [e1] at HI
    clear HG e1 hin
    generalize wordAt d.M pl = x at *
    go_enter Try.func18, Try.ntmps18
    go_wp2_with fail
    refine HT.out.mono ?_
    rintro e w1 ⟨rfl, rfl⟩
    go_wp2_with fail
    refine HI.out.mono ?_
    rintro e w1 ⟨rfl, rfl⟩
    go_wp2_with fail
    refine HG'.out.mono ?_
    rintro e w1 ⟨rfl, k, rfl⟩
    go_wp2_with fail
    go_ret2
    exact ⟨rfl, (Chg.refl _ _).drewN _⟩
  · rw [if_neg hin]
    have e1 : decide (pl < d.n ∧ pl % 4 = 0) = false := by simpa using hin
    rw [e1] at HI
    clear HG e1 hin
    go_enter Try.func18, Try.ntmps18
    go_wp2_with fail
    refine HT.out.mono ?_
    rintro e w1 ⟨rfl, rfl⟩
    go_wp2_with fail
    refine HI.out.mono ?_
    rintro e w1 ⟨rfl, rfl⟩
    go_wp2_with fail
    go_ret2
    exact ⟨rfl, Chg.refl _ _⟩
theorem byte_c (h : MAt W p mb s mm d) (hd : d.Ok) (pl : Nat) (hp : pl < 4294967296) : Calls Try.prog 20 #[.pointer (some ⟨p, 0, none⟩), .int .u32 pl] W (Quiet (if pl < d.n then .tuple #[.int .u8 (d.M pl), .int .i64 0] else .tuple #[.int .u8 0, .int .i64 2]) W) := by
  have HT := Go.Lib.hid (mthere_c h)
  have HI := Go.Lib.hid (minside_c h hd.n.2.1 pl hp true)
  have HB := Go.Lib.hid (fun hp => h.byte (i := pl) hp)
  obtain ⟨_, k22, _⟩ := h.cells
  have hnb := hd.n.2.1
  clear h hd
  rw [Bool.true_or, Bool.and_true] at HI
  by_cases hin : pl < d.n
  · rw [if_pos hin]
    have hb := HB.out hin
    have e1 : decide (pl < d.n) = true := by simpa using hin
    rw [e1] at HI
    clear HB e1
    generalize d.M pl = x at *
    generalize d.n = n at *
    go_enter Try.func20, Try.ntmps20
    go_wp2_with fail
    refine HT.out.mono ?_
    rintro e w1 ⟨rfl, rfl⟩
    go_wp2_with fail
    refine HI.out.mono ?_
    rintro e w1 ⟨rfl, rfl⟩
    go_wp2_with fail
    go_ret2
    exact ⟨rfl, Chg.refl _ _⟩
  · rw [if_neg hin]
    have e1 : decide (pl < d.n) = false := by simpa using hin
    rw [e1] at HI
    clear HB e1 hin
    go_enter Try.func20, Try.ntmps20
    go_wp2_with fail
    refine HT.out.mono ?_
    rintro e w1 ⟨rfl, rfl⟩
    go_wp2_with fail
    refine HI.out.mono ?_
    rintro e w1 ⟨rfl, rfl⟩
    go_wp2_with fail
    go_ret2
    exact ⟨rfl, Chg.refl _ _⟩
/-- the machine is another one behind the call, all else stands -/
def MPost (p mb s mm : Nat) (r : Value) (d : Mc) (W : World) (e : Ending) (w' : World) : Prop := e = .returned r ∧ MAt w' p mb s mm d ∧ Chg (memF p mb) W w'
theorem setWord_c (h : MAt W p mb s mm d) (hd : d.Ok) (pl : Nat) (hp : pl < 4294967296) (x : Int) (hx : 0 ≤ x ∧ x < 4294967296) : Calls Try.prog 12 #[.pointer (some ⟨p, 0, none⟩), .int .u32 pl, .int .u32 x] W (MPost p mb s mm (if pl < d.n ∧ pl % 4 = 0 then .int .i64 0 else .int .i64 2) (if pl < d.n ∧ pl % 4 = 0 then { d with M := putWord d.M pl x } else d) W) := by
  have HW := Go.Lib.hid (word_c h hd pl hp)
  have HP := Go.Lib.hid (fun W' hc hp4 => putWord_c (W := W') (h.quiet hc) hd.n.2.1 pl hp4 x hx)
  have hn4 := hd.n.2.2
  have HH := Go.Lib.hid h
  clear h hd
  by_cases hin : pl < d.n ∧ pl % 4 = 0
  · simp only [if_pos hin] at HW ⊢
    have HP' := Go.Lib.hid (fun W' hc => HP.out W' hc (by omega))
    clear HP hin
    go_enter Try.func12, Try.ntmps12
    go_wp2_with fail
    refine HW.out.mono ?_
    rintro e w1 ⟨rfl, h1⟩
    have H1 := Go.Lib.hid h1
    clear h1
    go_wp2_with fail
    refine (HP'.out _ H1.out).mono ?_
    rintro e w2 ⟨rfl, h2, h3⟩
    have H2 := Go.Lib.hid (And.intro h2 h3)
    clear h2 h3
    go_wp2_with fail
    go_ret
    exact ⟨rfl, H2.out.1, (H1.out.mono (fun _ _ h => h.elim)).trans H2.out.2⟩
  · simp only [if_neg hin] at HW ⊢
    clear HP hin
    go_enter Try.func12, Try.ntmps12
    go_wp2_with fail
    refine HW.out.mono ?_
    rintro e w1 ⟨rfl, h1⟩
    have H1 := Go.Lib.hid h1
    clear h1
    go_wp2_with fail
    go_ret
    exact ⟨rfl, HH.out.quiet H1.out, H1.out.mono (fun _ _ h => h.elim)⟩
theorem heap_c (h : MAt W p mb s mm d) : Calls Try.prog 17 #[.pointer (some ⟨p, 0, none⟩)] W fun e w' => e = .returned (.int .u32 d.heap) ∧ W = w' := by
  have HT := Go.Lib.hid (mthere_c h)
  obtain ⟨_, _, k23, _⟩ := h.cells
  clear h
  generalize d.heap = x at *
  go_enter Try.func17, Try.ntmps17
  go_wp2_with fail
  refine HT.out.mono ?_
  rintro e w1 ⟨rfl, rfl⟩
  go_wp2_with fail
  go_ret
  exact ⟨rfl, rfl⟩
theorem size_c (h : MAt W p mb s mm d) : Calls Try.prog 49 #[.pointer (some ⟨p, 0, none⟩)] W fun e w' => e = .returned (.int .i64 d.n) ∧ W = w' := by
  have HT := Go.Lib.hid (mthere_c h)
  obtain ⟨_, k22, _⟩ := h.cells
  clear h
  generalize d.n = n at *
  go_enter Try.func49, Try.ntmps49
  go_wp2_with fail
  refine HT.out.mono ?_
  rintro e w1 ⟨rfl, rfl⟩
  go_wp2_with fail
  go_ret
  exact ⟨rfl, rfl⟩
theorem stopped_c (h : MAt W p mb s mm d) : Calls Try.prog 16 #[.pointer (some ⟨p, 0, none⟩)] W (Quiet (stopVal d.kind d.code) W) := by
  have HT := Go.Lib.hid (fun o => mthere_c (h.quiet ((Chg.refl NoB W).alloc o)))
  obtain ⟨_, _, _, _, k25, k26, _⟩ := h.cells
  have hlt := h.lt.1
  clear h
  unfold stopVal
  generalize d.kind = k at *
  generalize d.code = x at *
  go_enter Try.func16, Try.ntmps16
  go_wp2_with fail
  refine (HT.out _).mono ?_
  rintro e w1 ⟨rfl, rfl⟩
  go_wp2_with fail
  exact bodyPost_ret (v := .agg #[.int .i64 k, .int .u32 x]) (by simp [results, Try.results16, go_sem]) rfl ⟨rfl, (Chg.refl _ _).alloc _⟩
end
end Go.Proofs.Ytggknljlibhkjaa
