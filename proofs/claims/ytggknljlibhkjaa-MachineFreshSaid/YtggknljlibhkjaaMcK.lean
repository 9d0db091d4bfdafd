/- What is proved: a machine's processor handed out and set; a load's and an answer's processor. Conditions: the memory holds the machine. -/
import Derived.Test.YtggknljlibhkjaaMcJ
namespace Go.Proofs.Ytggknljlibhkjaa
open Go Go.RowKit
theorem results_row_tmp {P : Program} {fn : Func} {p q : Tmp} {tp : TypeId} (h : fn.results = #[.cell p tp, .tmp q]) (tmps : Array Value) (w : World) {g : Nat} {t : TypeId} {cs : Array Value} {d : TypeDesc}
    (hp : tmps.getD p undef = .pointer (some ⟨g, 0, none⟩)) {x : Value} (hq : tmps.getD q undef = x) (hg : Blk w g t cs)
    (hu : P.underlying tp = some d) (hd : (match d with | .struct _ | .array _ _ => true | _ => false) = true) (hi : (P.info? tp).map (·.size) = some cs.size) :
    (results fn tmps).run P w = .ok (.tuple #[.agg cs, x]) w := by
  have hp' : tmps[p]?.getD undef = .pointer (some ⟨g, 0, none⟩) := by simpa using hp
  have hq' : tmps[q]?.getD undef = x := by simpa using hq
  simp [results, h, hp', hq', asAddr, run_loadVar_row w g t tp cs (0, 0) d hg hu hd hi]
theorem results_row {P : Program} {fn : Func} {p : Tmp} {tp : TypeId} (h : fn.results = #[.cell p tp]) (tmps : Array Value) (w : World) {g : Nat} {t : TypeId} {cs : Array Value} {d : TypeDesc}
    (hp : tmps.getD p undef = .pointer (some ⟨g, 0, none⟩)) (hg : Blk w g t cs)
    (hu : P.underlying tp = some d) (hd : (match d with | .struct _ | .array _ _ => true | _ => false) = true) (hi : (P.info? tp).map (·.size) = some cs.size) :
    (results fn tmps).run P w = .ok (.agg cs) w := by
  have hp' : tmps[p]?.getD undef = .pointer (some ⟨g, 0, none⟩) := by simpa using hp
  simp [results, h, hp', asAddr, run_loadVar_row w g t tp cs (0, 0) d hg hu hd hi]
section
variable {W W' : World} {p mb s mm : Nat} {d : Mc}
theorem cpu_c (h : MAt W p mb s mm d) : Calls Try.prog 13 #[.pointer (some ⟨p, 0, none⟩)] W (Quiet d.c.val W) := by
  have HT := Go.Lib.hid (fun o => mthere_c (h.quiet ((Chg.refl NoB W).alloc o)))
  have HR := Go.Lib.hid (fun o => (h.quiet ((Chg.refl NoB W).alloc o)).cpRange)
  have HB := Go.Lib.hid (fun cs => (Blk.new W CpT cs))
  have hlt := h.lt.1
  clear h
  go_enter Try.func13, Try.ntmps13
  go_wp2_with fail
  refine (HT.out _).mono ?_
  rintro e w1 ⟨rfl, rfl⟩
  go_wp2_with (first
    | (refine wpList_load_mid rfl 41 (.tmp 9) rfl p 0 rfl d.c.arr.toList _ (HR.out _) Try.underlying41 rfl (by kernel_rfl) ?_)
    | (refine wpList_store_row rfl 41 (.tmp 2) (.tmp 10) rfl W.heap.size d.c.arr rfl rfl CpT Cp.zero.arr (HB.out _) (by kernel_rfl) (by rfl) (by kernel_rfl) ?_))
  refine bodyPost_ret (v := d.c.val) (results_row (t := CpT) (cs := d.c.arr) (g := W.heap.size) rfl _ _ ?_ ((HB.out _).setRow _) Try.underlying41 rfl (by kernel_rfl)) rfl ⟨rfl, ((Chg.refl NoB W).alloc _).setRow (fun h => absurd h (by omega)) _⟩ <;> rfl
theorem setCpu_c (h : MAt W p mb s mm d) (c : Cp) : Calls Try.prog 14 #[.pointer (some ⟨p, 0, none⟩), c.val] W (MPost p mb s mm (.int .i64 0) { d with c := c } W) := by
  have HT := Go.Lib.hid (fun o => mthere_c (h.quiet ((Chg.refl NoB W).alloc o)))
  have HH := Go.Lib.hid (fun o => (h.quiet ((Chg.refl NoB W).alloc o)))
  have HR : Hid (∀ o, World.there (W.alloc o) p 0 c.arr.size) := Go.Lib.hid fun o j hj => by
    have hM := (h.quiet ((Chg.refl NoB W).alloc o)).m
    have hj : j < 22 := hj
    refine ⟨?_, hM.frozen _⟩
    rw [Nat.zero_add, hM.cell j, arr_front d _ _ _ hj]
    have : j < d.c.arr.size := hj
    simp [Array.getElem?_eq_getElem this]
  have HB := Go.Lib.hid (Blk.new W CpT c.arr)
  have HC := Go.Lib.hid (fun o => setCells_chg (F := memF p mb) (g := p) (.inl rfl) c.arr.toList 0 (W.alloc o) ((Chg.refl _ W).alloc o))
  clear h
  unfold Cp.val
  go_enter Try.func14, Try.ntmps14
  go_wp2_with fail
  refine (HT.out _).mono ?_
  rintro e w1 ⟨rfl, rfl⟩
  go_wp2_with (first
    | (refine wpList_load_row rfl 41 (.tmp 3) rfl W.heap.size rfl CpT c.arr (0, 0) _ HB.out Try.underlying41 rfl (by kernel_rfl) ?_)
    | (refine wpList_store_mid rfl 41 (.tmp 11) (.tmp 9) rfl p 0 c.arr rfl rfl (HR.out _) (by kernel_rfl) (by kernel_rfl) ?_))
  go_ret
  exact ⟨rfl, (HH.out _).setCpu c, HC.out _⟩
end
theorem loaded_c (c : Cp) (ra : Nat) (hr : ra < 16) (x : Int) (h0 : 0 ≤ x) (h1 : x < 4294967296) (w : World) : Calls Try.prog 45 #[c.val, .int .i64 ra, .int .u32 x] w (Quiet (.tuple #[(c.set ra x).val, .int .i64 0]) w) := by
  have HB := Go.Lib.hid (fun o => (Blk.new w CpT c.arr).alloc o)
  have HS := Go.Lib.hid (fun o => set_c (c := c) (b := w.heap.size) ((Blk.new w CpT c.arr).alloc o) hr x h0 h1)
  have HZ := Go.Lib.hid (Blk.new1 w (.cells c.arr CpT) CpT Cp.zero.arr)
  have hr0 : (0 : Int) ≤ ra := by omega
  have hr1 : (ra : Int) ≤ 15 := by omega
  have HC0 := Go.Lib.hid (((Chg.refl NoB w).alloc (.cells c.arr CpT)).alloc (.cells Cp.zero.arr CpT))
  clear hr
  unfold Cp.val SetPost ptr at *
  go_enter Try.func45, Try.ntmps45
  go_wp2_with fail
  refine (HS.out _).mono ?_
  rintro e w1 ⟨rfl, h2, h3⟩
  have HZ1 := Go.Lib.hid (HZ.out.chg h3 (by omega))
  have H2 := Go.Lib.hid h2
  have HC1 := Go.Lib.hid (HC0.out.step h3 (fun k hk e => absurd hk (by omega)))
  clear h2 h3
  go_wp2_with (first
    | (refine wpList_load_row rfl 41 (.tmp 3) rfl w.heap.size rfl CpT (c.set ra x).arr (0, 0) _ H2.out Try.underlying41 rfl (by kernel_rfl) ?_)
    | (refine wpList_store_row rfl 41 (.tmp 6) (.tmp 18) rfl (w.heap.size + 1) (c.set ra x).arr rfl rfl CpT Cp.zero.arr HZ1.out (by kernel_rfl) (by rfl) (by kernel_rfl) ?_))
  refine bodyPost_ret (v := .tuple #[(c.set ra x).val, .int .i64 0]) (results_row_tmp (t := CpT) (cs := (c.set ra x).arr) (g := w.heap.size + 1) rfl _ _ ?_ ?_ (HZ1.out.setRow _) Try.underlying41 rfl (by kernel_rfl)) rfl ⟨rfl, HC1.out.setRow (fun h => absurd h (by omega)) _⟩ <;> rfl
theorem answered_c (c : Cp) (x : Int) (w : World) : Calls Try.prog 72 #[c.val, .int .u32 x] w (Quiet ({ c with R := upd c.R 0 x } : Cp).val w) := by
  have e0 : c.arr[0]? = some (.int .u32 (c.R 0)) := rfl
  have HB := Go.Lib.hid (show Blk ((w.alloc (.cells (c.arr.setIfInBounds 0 (.int .u32 x)) CpT)).alloc (.cells Cp.zero.arr CpT)) w.heap.size CpT ({ c with R := upd c.R 0 x } : Cp).arr from (Cp.setReg c (i := 0) (by decide) x ▸ Blk.new w CpT (c.arr.setIfInBounds 0 (.int .u32 x))).alloc _)
  have HZ := Go.Lib.hid (Blk.new1 w (.cells (c.arr.setIfInBounds 0 (.int .u32 x)) CpT) CpT Cp.zero.arr)
  have HC0 := Go.Lib.hid (((Chg.refl NoB w).alloc (.cells (c.arr.setIfInBounds 0 (.int .u32 x)) CpT)).alloc (.cells Cp.zero.arr CpT))
  unfold Cp.val
  go_enter Try.func72, Try.ntmps72
  go_wp2_with (first
    | (refine wpList_load_row rfl 41 (.tmp 2) rfl w.heap.size rfl CpT ({ c with R := upd c.R 0 x } : Cp).arr (0, 0) _ HB.out Try.underlying41 rfl (by kernel_rfl) ?_)
    | (refine wpList_store_row rfl 41 (.tmp 4) (.tmp 8) rfl (w.heap.size + 1) ({ c with R := upd c.R 0 x } : Cp).arr rfl rfl CpT Cp.zero.arr HZ.out (by kernel_rfl) (by rfl) (by kernel_rfl) ?_))
  refine bodyPost_ret (v := ({ c with R := upd c.R 0 x } : Cp).val) (results_row (t := CpT) (cs := ({ c with R := upd c.R 0 x } : Cp).arr) (g := w.heap.size + 1) rfl _ _ ?_ (HZ.out.setRow _) Try.underlying41 rfl (by kernel_rfl)) rfl ⟨rfl, HC0.out.setRow (fun h => absurd h (by omega)) _⟩ <;> rfl
end Go.Proofs.Ytggknljlibhkjaa
