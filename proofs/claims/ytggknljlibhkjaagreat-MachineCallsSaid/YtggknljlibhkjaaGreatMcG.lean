import Derived.Test.YtggknljlibhkjaaGreatMcF
set_option linter.unusedSimpArgs false
set_option linter.unusedVariables false
namespace Go.Proofs.YtggknljlibhkjaaGreat
open Go Go.RowKit
structure Ev where
 kind : Int
 place : Int
 byte : Bool
 reg : Int
 value : Int
 n : Int
def Ev.arr (e : Ev) : Array Value := #[.int .i64 e.kind, .int .u32 e.place, .bool e.byte, .int .i64 e.reg, .int .u32 e.value, .int .i64 e.n]
def Ev.val (e : Ev) : Value := .agg e.arr
def Ev.none : Ev := ⟨0, 0, false, 0, 0, 0⟩
def Ev.odd : Ev := ⟨5, 0, false, 0, 0, 0⟩
def EvT : TypeId := 110
def Cp.zero : Cp := ⟨fun _ => 0, 0, false, false, false, false, 0⟩
def Cp.next (c : Cp) : Cp := { c with pc := (c.pc + 1) % 4294967296 }
def insF (c : Cp) (i : In) : Cp × Ev :=
 if i.fo = 0 ∨ i.fo = 1 then (match opF c i with | none => (c, .odd) | some c' => (c', .none))
 else if i.fo = 2 then (c, ⟨1, (c.R i.b.toNat + i.off % 4294967296) % 4294967296, i.v, i.a, 0, 0⟩)
 else if i.fo = 3 then (c, ⟨2, (c.R i.b.toNat + i.off % 4294967296) % 4294967296, i.v, i.b, if i.v = true then bits .and .u32 (c.R i.a.toNat) 255 else c.R i.a.toNat, 0⟩)
 else if i.fo = 6 then (if holds c i.co = true then (c, ⟨if 16 ≤ i.n then 4 else 3, 0, false, 0, 0, i.n⟩) else (c, .none))
 else if holds c i.co = true then
  ({ c with R := if i.v = true then upd c.R 15 (4 * c.pc % 4294967296) else c.R, pc := if i.fo = 5 then c.R i.c.toNat / 4 else (c.pc + i.off % 4294967296) % 4294967296 }, .none)
 else (c, .none)
def stepF (c : Cp) (x : Int) : Cp × Ev := match ofW x with | none => (c.next, .odd) | some i => insF c.next i
theorem opF_ok {c c' : Cp} (hc : c.Ok) {i : In} (h0 : 0 ≤ i.im ∧ i.im < 65536) (h : opF c i = some c') : c'.Ok := by
 have hn := numOf_bd hc i h0
 have hB := hc.r i.b.toNat
 unfold opF at h
 rw [Option.map_eq_some_iff] at h
 obtain ⟨⟨c1, x⟩, hx, rfl⟩ := h
 rw [opX_N] at hx
 generalize numOf c i = n at *
 generalize c.R i.b.toNat = B at *
 have key : c1.Ok ∧ 0 ≤ x ∧ x < 4294967296 := by
  have hs : opXN c B n i.op i.u = some (c1, x) := hx
  clear hx
  unfold opXN at hs
  by_cases h0 : i.op = 0
  ·rw [if_pos h0] at hs
   obtain ⟨rfl, rfl⟩ := Prod.mk.inj (Option.some.inj hs)
   exact ⟨hc, hn⟩
  by_cases h1 : i.op = 1
  ·rw [if_neg h0, if_pos h1] at hs
   obtain ⟨rfl, rfl⟩ := Prod.mk.inj (Option.some.inj hs)
   exact ⟨hc, by simp only [wLeft]; omega⟩
  by_cases h2 : i.op = 2
  ·rw [if_neg h0, if_neg h1, if_pos h2] at hs
   obtain ⟨rfl, rfl⟩ := Prod.mk.inj (Option.some.inj hs)
   exact ⟨hc, by simp only [wRight]; omega⟩
  by_cases h3 : i.op = 3
  ·rw [if_neg h0, if_neg h1, if_neg h2, if_pos h3] at hs
   obtain ⟨rfl, rfl⟩ := Prod.mk.inj (Option.some.inj hs)
   exact ⟨hc, wTurn_bd _ _⟩
  by_cases h4 : i.op = 4
  ·rw [if_neg h0, if_neg h1, if_neg h2, if_neg h3, if_pos h4] at hs
   obtain ⟨rfl, rfl⟩ := Prod.mk.inj (Option.some.inj hs)
   exact ⟨hc, bits_bd _ _ _⟩
  by_cases h5 : i.op = 5
  ·rw [if_neg h0, if_neg h1, if_neg h2, if_neg h3, if_neg h4, if_pos h5] at hs
   obtain ⟨rfl, rfl⟩ := Prod.mk.inj (Option.some.inj hs)
   exact ⟨hc, bits_bd _ _ _⟩
  by_cases h6 : i.op = 6
  ·rw [if_neg h0, if_neg h1, if_neg h2, if_neg h3, if_neg h4, if_neg h5, if_pos h6] at hs
   obtain ⟨rfl, rfl⟩ := Prod.mk.inj (Option.some.inj hs)
   exact ⟨hc, bits_bd _ _ _⟩
  by_cases h7 : i.op = 7
  ·rw [if_neg h0, if_neg h1, if_neg h2, if_neg h3, if_neg h4, if_neg h5, if_neg h6, if_pos h7] at hs
   obtain ⟨rfl, rfl⟩ := Prod.mk.inj (Option.some.inj hs)
   exact ⟨hc, bits_bd _ _ _⟩
  by_cases h8 : i.op = 8
  ·rw [if_neg h0, if_neg h1, if_neg h2, if_neg h3, if_neg h4, if_neg h5, if_neg h6, if_neg h7, if_pos h8] at hs
   obtain ⟨rfl, rfl⟩ := Prod.mk.inj (Option.some.inj hs)
   exact ⟨⟨hc.r, hc.h, hc.pc⟩, by simp only [wAdd]; omega⟩
  by_cases h9 : i.op = 9
  ·rw [if_neg h0, if_neg h1, if_neg h2, if_neg h3, if_neg h4, if_neg h5, if_neg h6, if_neg h7, if_neg h8, if_pos h9] at hs
   obtain ⟨rfl, rfl⟩ := Prod.mk.inj (Option.some.inj hs)
   exact ⟨⟨hc.r, hc.h, hc.pc⟩, by simp only [wSub]; omega⟩
  by_cases h10 : i.op = 10
  ·rw [if_neg h0, if_neg h1, if_neg h2, if_neg h3, if_neg h4, if_neg h5, if_neg h6, if_neg h7, if_neg h8, if_neg h9, if_pos h10] at hs
   obtain ⟨rfl, rfl⟩ := Prod.mk.inj (Option.some.inj hs)
   exact ⟨⟨hc.r, by simp only; omega, hc.pc⟩, by omega⟩
  by_cases hz : wrap32 n ≤ 0
  ·rw [if_neg h0, if_neg h1, if_neg h2, if_neg h3, if_neg h4, if_neg h5, if_neg h6, if_neg h7, if_neg h8, if_neg h9, if_neg h10, if_pos hz] at hs
   cases hs
  ·rw [if_neg h0, if_neg h1, if_neg h2, if_neg h3, if_neg h4, if_neg h5, if_neg h6, if_neg h7, if_neg h8, if_neg h9, if_neg h10, if_neg hz] at hs
   obtain ⟨rfl, rfl⟩ := Prod.mk.inj (Option.some.inj hs)
   exact ⟨⟨hc.r, by simp only; omega, hc.pc⟩, by omega⟩
 exact ⟨fun k => by show 0 ≤ upd c1.R i.a.toNat x k ∧ upd c1.R i.a.toNat x k < 4294967296; unfold upd; split; exact ⟨key.2.1, key.2.2⟩; exact key.1.r k, key.1.h, key.1.pc⟩
theorem Cp.next_ok {c : Cp} (hc : c.Ok) : c.next.Ok := ⟨hc.r, hc.h, by show 0 ≤ (c.pc + 1) % 4294967296 ∧ (c.pc + 1) % 4294967296 < 4294967296; omega⟩
structure InW (i : In) (ra rb rc : Nat) : Prop where
 ok : InOk i ra rb rc
 co : 0 ≤ i.co ∧ i.co < 16
 n : 0 ≤ i.n ∧ i.n < 256
 fo : 0 ≤ i.fo ∧ i.fo ≤ 6
theorem ofW_ok {x : Int} (h0 : 0 ≤ x) (h1 : x < 4294967296) {i : In} (h : ofW x = some i) : ∃ ra rb rc, InW i ra rb rc := by
 unfold ofW at h
 split at h
 ·rename_i hk
  obtain rfl := Option.some.inj h
  have ht : 0 ≤ x / 536870912 ∧ x / 536870912 ≤ 7 := by omega
  unfold fieldsOf at hk ⊢
  simp only at hk ⊢
  generalize x / 536870912 = t at *
  split at hk
  ·rename_i hc
   rw [if_pos hc]
   simp [ofOk] at hk
   exact ⟨(x / 16777216 % 16).toNat, (x / 1048576 % 16).toNat, (x % 65536).toNat, ⟨⟨by simp only; omega, by simp only; omega, by simp only; omega, by omega, by omega, fun _ => by omega, by simp only; omega, by simp only; omega⟩, by simp only; omega, by simp only; omega, by simp only; omega⟩⟩
  ·rename_i hc0
   rw [if_neg hc0]
   split at hk
   ·rename_i hc
    rw [if_pos hc]
    simp [ofOk] at hk
    exact ⟨(x / 16777216 % 16).toNat, (x / 1048576 % 16).toNat, 0, ⟨⟨by simp only; omega, by simp only; omega, rfl, by omega, by omega, fun _ => by omega, by simp only; omega, by simp only; omega⟩, by simp only; omega, by simp only; omega, by simp only; omega⟩⟩
   ·rename_i hc1
    rw [if_neg hc1]
    split at hk
    ·rename_i hc
     rw [if_pos hc]
     exact ⟨(x / 16777216 % 16).toNat, (x / 1048576 % 16).toNat, 0, ⟨⟨by simp only; omega, by simp only; omega, rfl, by omega, by omega, fun _ => by omega, by simp only; omega, by simp only; omega⟩, by simp only; omega, by simp only; omega, by simp only; omega⟩⟩
    ·rename_i hc2
     rw [if_neg hc2]
     split at hk
     ·rename_i hc
      rw [if_pos hc]
      exact ⟨0, 0, 0, ⟨⟨rfl, rfl, rfl, by omega, by omega, fun _ => by omega, by simp only; omega, by simp only; omega⟩, by simp only; omega, by simp only; omega, by simp only; omega⟩⟩
     ·rename_i hc3
      rw [if_neg hc3]
      split at hk
      ·rename_i hc
       rw [if_pos hc]
       simp [ofOk] at hk
       exact ⟨0, 0, 0, ⟨⟨rfl, rfl, rfl, by omega, by omega, fun _ => by omega, by simp only; omega, by simp only; omega⟩, by simp only; omega, by simp only; omega, by simp only; omega⟩⟩
      ·rename_i hc4
       rw [if_neg hc4]
       simp [ofOk] at hk
       exact ⟨0, 0, (x % 16777216).toNat, ⟨⟨rfl, rfl, by simp only; omega, by omega, by omega, fun _ => by omega, by simp only; omega, by simp only; omega⟩, by simp only; omega, by simp only; omega, by simp only; omega⟩⟩
 ·cases h
theorem results_two_rows {P : Program} {fn : Func} {p q : Tmp} {tp tq : TypeId} (h : fn.results = #[.cell p tp, .cell q tq]) (tmps : Array Value) (w : World) {g k : Nat} {t u : TypeId} {cs ds : Array Value} {d d' : TypeDesc}
  (hp : tmps.getD p undef = .pointer (some ⟨g, 0, none⟩)) (hq : tmps.getD q undef = .pointer (some ⟨k, 0, none⟩)) (hg : Blk w g t cs) (hk : Blk w k u ds)
  (hu : P.underlying tp = some d) (hd : (match d with | .struct _ | .array _ _ => true | _ => false) = true) (hi : (P.info? tp).map (·.size) = some cs.size)
  (hu' : P.underlying tq = some d') (hd' : (match d' with | .struct _ | .array _ _ => true | _ => false) = true) (hi' : (P.info? tq).map (·.size) = some ds.size) :
  (results fn tmps).run P w = .ok (.tuple #[.agg cs, .agg ds]) w := by
 have hp' : tmps[p]?.getD undef = .pointer (some ⟨g, 0, none⟩) := by simpa using hp
 have hq' : tmps[q]?.getD undef = .pointer (some ⟨k, 0, none⟩) := by simpa using hq
 simp [results, h, hp', hq', asAddr, run_loadVar_row w g t tp cs (0, 0) d hg hu hd hi, run_loadVar_row w k u tq ds (0, 0) d' hk hu' hd' hi']
section
variable {P : Program} {ops : Array Oper} {Q : Exit → Act → World → Prop} {md : Region.Mode} {S : World → Prop} {n : Nat}
variable {i t fuel : Nat} {oi : Oper} {v : Value} {listed : Array Bool} {a : Act} {w w' : World}
theorem storeT (hi : ops[i]? = some oi) (hr : Region.ready md ops listed = [i]) (hdst : oi.dst = none) (hw : Region.wanted oi (yielded ops a.tmps) = true) (hx : (execOp a.eval oi).run P w = .ok .skip w') (inv : HeadInv md ops n listed) (hin : i < n) (hS : S w')
  (h : HeadInv md ops n (listed.setIfInBounds i true) → S w' → wpAnyT P md ops Q S n fuel (listed.setIfInBounds i true) a w') : wpAnyT P md ops Q S n (fuel + 1) listed a w := by
 have hr' : i ∈ Region.ready md ops listed := by rw [hr]; simp
 refine oneT hi hr ?_
 rw [if_pos hw]
 unfold Oper.wp
 rw [hx]
 exact ⟨fun _ => hS, by rw [hdst]; exact h (inv.set hr' hin) hS⟩
end
structure StF (w : World) (b g : Nat) (c : Cp) (i : In) (W : World) : Prop where
 cp : CpAt W b c
 r1 : CpAt W (b + 1) Cp.zero
 r2 : Blk W (b + 2) EvT Ev.none.arr
 is : Blk W g InT i.arr
 chg : Chg NoB w W
 hb : w.heap.size = b
section
variable {w W W' : World} {b g : Nat} {c : Cp} {i : In}
theorem StF.quiet (h : StF w b g c i W) (hc : Chg NoB W W') : StF w b g c i W' := ⟨h.cp.chg hc (fun h => h), h.r1.chg hc (fun h => h), h.r2.chg hc (fun h => h), h.is.chg hc (fun h => h), h.chg.trans hc, h.hb⟩
theorem StF.op (h : StF w b g c i W) {c' : Cp} (hc : Chg (fun k => k = b) W W') (h' : CpAt W' b c') : StF w b g c' i W' :=
 ⟨h', h.r1.chg hc (by omega), h.r2.chg hc (by omega), h.is.chg hc (fun e => by subst e; exact absurd rfl (h.is.ne_ h.cp (by decide))), h.chg.step hc fun k hk e => by have := h.hb; omega, h.hb⟩
theorem StF.cells (h : StF w b g c i W) : W.cell? ⟨b, 21, none⟩ = some (.int .u32 c.pc) ∧ W.cell? ⟨g, 0, none⟩ = some (.int .i64 i.fo) ∧ W.cell? ⟨g, 2, none⟩ = some (.bool i.v) ∧ W.cell? ⟨g, 3, none⟩ = some (.int .i64 i.a) ∧ W.cell? ⟨g, 4, none⟩ = some (.int .i64 i.b) ∧ W.cell? ⟨g, 5, none⟩ = some (.int .i64 i.c) ∧ W.cell? ⟨g, 8, none⟩ = some (.int .i64 i.off) ∧ W.cell? ⟨g, 9, none⟩ = some (.int .i64 i.co) ∧ W.cell? ⟨g, 10, none⟩ = some (.int .i64 i.n) :=
 ⟨h.cp.cell 21, h.is.cell 0, h.is.cell 2, h.is.cell 3, h.is.cell 4, h.is.cell 5, h.is.cell 8, h.is.cell 9, h.is.cell 10⟩
theorem StF.fin (h : StF w b g c i W) (c' : Cp) (e : Ev) : CpAt ((W.setRow (b + 1) c'.arr).setRow (b + 2) e.arr) (b + 1) c' ∧ Blk ((W.setRow (b + 1) c'.arr).setRow (b + 2) e.arr) (b + 2) EvT e.arr ∧ Chg NoB w ((W.setRow (b + 1) c'.arr).setRow (b + 2) e.arr) :=
 ⟨(Blk.setRow h.r1 c'.arr).farRow (by omega) _, (h.r2.farRow (by omega) _).setRow _, (h.chg.setRow (fun h' => by have := h.hb; omega) _).setRow (fun h' => by have := h.hb; omega) _⟩
structure StS (w : World) (b g : Nat) (c : Cp) (i : In) (W : World) : Prop where
 cp : CpAt W b c
 r1 : ∃ d : Cp, CpAt W (b + 1) d
 r2 : Blk W (b + 2) EvT Ev.none.arr
 is : Blk W g InT i.arr
theorem StF.s (h : StF w b g c i W) : StS w b g c i W := ⟨h.cp, ⟨_, h.r1⟩, h.r2, h.is⟩
theorem StS.set (h : StS w b g c i W) (c' : Cp) : StS w b g c i (W.setRow (b + 1) c'.arr) := by
 obtain ⟨h1, ⟨d, h2⟩, h3, h4⟩ := h
 exact ⟨h1.farRow (by omega) _, ⟨c', h2.setRow _⟩, h3.farRow (by omega) _, h4.farRow (fun e => by subst e; exact absurd rfl (h4.ne_ h2 (by decide))) _⟩
theorem StS.cells (h : StS w b g c i W) : W.cell? ⟨b, 21, none⟩ = some (.int .u32 c.pc) ∧ W.cell? ⟨g, 0, none⟩ = some (.int .i64 i.fo) ∧ W.cell? ⟨g, 2, none⟩ = some (.bool i.v) ∧ W.cell? ⟨g, 3, none⟩ = some (.int .i64 i.a) ∧ W.cell? ⟨g, 4, none⟩ = some (.int .i64 i.b) ∧ W.cell? ⟨g, 5, none⟩ = some (.int .i64 i.c) ∧ W.cell? ⟨g, 8, none⟩ = some (.int .i64 i.off) ∧ W.cell? ⟨g, 9, none⟩ = some (.int .i64 i.co) ∧ W.cell? ⟨g, 10, none⟩ = some (.int .i64 i.n) :=
 ⟨h.cp.cell 21, h.is.cell 0, h.is.cell 2, h.is.cell 3, h.is.cell 4, h.is.cell 5, h.is.cell 8, h.is.cell 9, h.is.cell 10⟩
theorem StF.r2' (h : StF w b g c i W) (c' : Cp) : Blk (W.setRow (b + 1) c'.arr) (b + 2) EvT Ev.none.arr := h.r2.farRow (by omega) _
end
set_option maxHeartbeats 4000000 in
set_option maxRecDepth 100000 in
theorem step_c (c : Cp) (hc : c.Ok) (x : Int) (h0 : 0 ≤ x) (h1 : x < 4294967296) (w : World) : Calls Tryz.prog 39 #[c.val, .int .u32 x] w (Quiet (.tuple #[(stepF c x).1.val, (stepF c x).2.val]) w) := by
 have HOf := Go.Lib.hid (fun W => of_c x h0 h1 W)
 have HW := Go.Lib.hid (fun i hi => ofW_ok h0 h1 (i := i) hi)
 obtain ⟨r, hr⟩ : ∃ r, Value.tuple #[(stepF c x).1.val, (stepF c x).2.val] = r := ⟨_, rfl⟩
 have HR := Go.Lib.hid hr.symm
 rw [hr]
 unfold stepF at HR
 generalize ofW x = o at *
 clear hr h0 h1
 have HB : Hid (∀ W, Chg NoB (((w.alloc (.cells (c.arr.setIfInBounds 21 (.int .u32 ((c.pc + 1) % 4294967296))) 42)).alloc (.cells Cp.zero.arr 42)).alloc (.cells Ev.none.arr 110)) W →
   ∀ i, StF w w.heap.size W.heap.size c.next i ((W.alloc (.cells In.zero.arr InT)).setRow W.heap.size i.arr)) := Go.Lib.hid fun W hW i => by
  have q := (hW.alloc (.cells In.zero.arr InT)).setRow (b := W.heap.size) (fun h => absurd hW.size (by omega)) i.arr
  have hs : w.heap.size + 2 < W.heap.size := by have := hW.size; simp at this; omega
  refine ⟨?_, ?_, ?_, (Blk.new W InT In.zero.arr).setRow _, ?_, rfl⟩
  ·refine Blk.chg (F := NoB) ?_ q id
   exact ((Blk.new w CpT _).alloc _).alloc _
  ·refine Blk.chg (F := NoB) ?_ q id
   exact (Blk.new1 w _ CpT Cp.zero.arr).alloc _
  ·refine Blk.chg (F := NoB) ?_ q id
   have := Blk.new ((w.alloc (.cells (c.arr.setIfInBounds 21 (.int .u32 ((c.pc + 1) % 4294967296))) CpT)).alloc (.cells Cp.zero.arr CpT)) EvT Ev.none.arr
   rw [show ((w.alloc (Obj.cells (c.arr.setIfInBounds 21 (Value.int IntKind.u32 ((c.pc + 1) % 4294967296))) CpT)).alloc (Obj.cells Cp.zero.arr CpT)).heap.size = w.heap.size + 2 by simp] at this
   exact this
  ·exact ((((Chg.refl NoB w).alloc _).alloc _).alloc _).trans q
 have hpc := hc.pc
 have hok := Go.Lib.hid (Cp.next_ok hc)
 have e21 : c.arr[21]? = some (.int .u32 c.pc) := rfl
 unfold Cp.val
 go_enter Tryz.func39, Tryz.ntmps39
 go_wp2_with fail
 refine (HOf.out _).mono ?_
 rintro e w1 ⟨rfl, h1⟩
 have HB1 := Go.Lib.hid (HB.out w1 h1)
 clear HB h1 e21 hpc
 obtain ⟨b, hb⟩ : ∃ b, w.heap.size = b := ⟨_, rfl⟩
 cases o with
 | none =>
  have HX := HB1.out In.zero
  rw [hb] at HX
  have HX' := Go.Lib.hid HX
  clear HX HB1
  unfold ofRes In.val
  go_upto_region 3 with (refine wpList_store_row rfl 33 (.tmp 6) (.tmp 18) rfl w1.heap.size In.zero.arr rfl rfl InT In.zero.arr (Blk.new w1 InT In.zero.arr) (by kernel_rfl) (by rfl) (by kernel_rfl) ?_)
  have HX := HX'.out
  change StF w b w1.heap.size c.next In.zero ((w1.alloc (Obj.cells #[.int .i64 0, .bool false, .bool false, .int .i64 0, .int .i64 0, .int .i64 0, .int .i64 0, .int .i64 0, .int .i64 0, .int .i64 0, .int .i64 0] 33)).setRow w1.heap.size In.zero.arr) at HX
  generalize ((w1.alloc (Obj.cells #[.int .i64 0, .bool false, .bool false, .int .i64 0, .int .i64 0, .int .i64 0, .int .i64 0, .int .i64 0, .int .i64 0, .int .i64 0, .int .i64 0] 33)).setRow w1.heap.size In.zero.arr) = W at HX ⊢
  clear HX'
  generalize w1.heap.size = g at HX ⊢
  have HX' := Go.Lib.hid HX
  clear HX
  clear hb
  go_wp2_with (first
   | (refine wpList_load_row rfl 42 (.tmp 2) rfl b rfl CpT c.next.arr (0, 0) _ HX'.out.cp Tryz.underlying42 rfl (by kernel_rfl) ?_)
   | (refine wpList_store_row rfl 42 (.tmp 4) (.tmp 22) rfl (b + 1) c.next.arr rfl rfl CpT Cp.zero.arr HX'.out.r1 (by kernel_rfl) (by rfl) (by kernel_rfl) ?_)
   | (refine wpList_store_row rfl 110 (.tmp 5) (.tmp 23) rfl (b + 2) Ev.odd.arr rfl rfl EvT Ev.none.arr (HX'.out.r2' c.next) (by kernel_rfl) (by rfl) (by kernel_rfl) ?_))
  refine bodyPost_ret (v := .tuple #[(c.next : Cp).val, (Ev.odd : Ev).val]) (results_two_rows (cs := (c.next : Cp).arr) (ds := (Ev.odd : Ev).arr) rfl _ _ ?_ ?_ (HX'.out.fin (c.next) (Ev.odd)).1 (HX'.out.fin (c.next) (Ev.odd)).2.1 Tryz.underlying42 rfl (by kernel_rfl) Tryz.underlying110 rfl (by kernel_rfl)) rfl ⟨by rw [HR.out] <;> rfl, (HX'.out.fin (c.next) (Ev.odd)).2.2⟩ <;> rfl
 | some i =>
  obtain ⟨ra, rb, rc, hi⟩ := HW.out i rfl
  have HX := HB1.out i
  rw [hb] at HX
  have HX' := Go.Lib.hid HX
  have HI := Go.Lib.hid hi
  clear HX HB1 HW hi
  unfold ofRes In.val
  go_upto_region 3 with (refine wpList_store_row rfl 33 (.tmp 6) (.tmp 18) rfl w1.heap.size i.arr rfl rfl InT In.zero.arr (Blk.new w1 InT In.zero.arr) (by kernel_rfl) (by rfl) (by kernel_rfl) ?_)
  have HX := HX'.out
  change StF w b w1.heap.size c.next i ((w1.alloc (Obj.cells #[.int .i64 0, .bool false, .bool false, .int .i64 0, .int .i64 0, .int .i64 0, .int .i64 0, .int .i64 0, .int .i64 0, .int .i64 0, .int .i64 0] 33)).setRow w1.heap.size i.arr) at HX
  generalize ((w1.alloc (Obj.cells #[.int .i64 0, .bool false, .bool false, .int .i64 0, .int .i64 0, .int .i64 0, .int .i64 0, .int .i64 0, .int .i64 0, .int .i64 0, .int .i64 0] 33)).setRow w1.heap.size i.arr) = W at HX ⊢
  clear HX'
  generalize w1.heap.size = g at HX ⊢
  have HX' := Go.Lib.hid HX
  clear HX hb HOf
  change Hid (r = Value.tuple #[(insF c.next i).1.val, (insF c.next i).2.val]) at HR
  generalize c.next = c1 at *
  have hfo := HI.out.fo
  have hok' := Go.Lib.hid (show c1.Ok from hok.out)
  obtain ⟨hal, hbl, hcl⟩ : ra < 16 ∧ rb < 16 ∧ (i.fo ≠ 1 → rc < 16) := ⟨HI.out.ok.al, HI.out.ok.bl, HI.out.ok.cl⟩
  have hco := HI.out.co
  have hnn := HI.out.n
  have ea := HI.out.ok.a
  have eb := HI.out.ok.b
  have ec := HI.out.ok.c
  obtain ⟨ou, eo⟩ : ∃ ou, i.off % 4294967296 = ou := ⟨_, rfl⟩
  have hou : 0 ≤ ou ∧ ou < 4294967296 := by omega
  have ew1 : IntKind.u32.wrap i.off = ou := by rw [IntKind.wrap_u32]; exact eo
  have ew2 : IntKind.u32.wrap (c1.R rb + ou) = (c1.R rb + ou) % 4294967296 := IntKind.wrap_u32 _
  have hpc := hok.out.pc
  have hRb := hok.out.r rb
  have hRa := hok.out.r ra
  have hcase : i.fo = 0 ∨ i.fo = 1 ∨ i.fo = 2 ∨ i.fo = 3 ∨ i.fo = 4 ∨ i.fo = 5 ∨ i.fo = 6 := by omega
  obtain ⟨k21, k0, k2, k3, k4, k5, k8, k9, k10⟩ := HX'.out.cells
  clear hfo
  rcases hcase with hf | hf | hf | hf | hf | hf | hf
  ·
   rw [hf] at k0
   have HR := Go.Lib.hid (HR.out.trans (show _ = (match opF c1 i with | none => Value.tuple #[c1.val, Ev.odd.val] | some c' => Value.tuple #[c'.val, Ev.none.val]) by unfold insF; simp [hf]; cases opF c1 i <;> rfl))
   clear ea eb ec eo k2 k3 k4 k5 k8 k9 k10
   go_wp2_with (refine wpList_load_row rfl 33 (.tmp 6) rfl g rfl InT i.arr (0, 0) _ HX'.out.is Tryz.underlying33 rfl (by kernel_rfl) ?_)
   refine (operate_c HX'.out.cp hok'.out i HI.out.ok).mono ?_
   rintro e W2 ⟨hcg, hp⟩
   cases ho : opF c1 i with
   | none =>
    rw [ho] at hp HR
    obtain ⟨rfl, hp⟩ := hp
    have HX2 := Go.Lib.hid (HX'.out.op hcg hp)
    clear hcg hp ho k21 k0
    go_wp2_with (first
     | (refine wpList_load_row rfl 42 (.tmp 2) rfl b rfl CpT (c1 : Cp).arr (0, 0) _ HX2.out.cp Tryz.underlying42 rfl (by kernel_rfl) ?_)
     | (refine wpList_store_row rfl 42 (.tmp 4) (.tmp 45) rfl (b + 1) (c1 : Cp).arr rfl rfl CpT Cp.zero.arr HX2.out.r1 (by kernel_rfl) (by rfl) (by kernel_rfl) ?_)
     | (refine wpList_store_row rfl 110 (.tmp 5) (.tmp 46) rfl (b + 2) (Ev.odd : Ev).arr rfl rfl EvT Ev.none.arr (HX2.out.r2' (c1)) (by kernel_rfl) (by rfl) (by kernel_rfl) ?_))
    refine bodyPost_ret (v := .tuple #[(c1 : Cp).val, (Ev.odd : Ev).val]) (results_two_rows (cs := (c1 : Cp).arr) (ds := (Ev.odd : Ev).arr) rfl _ _ ?_ ?_ (HX2.out.fin (c1) (Ev.odd)).1 (HX2.out.fin (c1) (Ev.odd)).2.1 Tryz.underlying42 rfl (by kernel_rfl) Tryz.underlying110 rfl (by kernel_rfl)) rfl ⟨by rw [HR.out] <;> rfl, (HX2.out.fin (c1) (Ev.odd)).2.2⟩ <;> rfl
   | some c' =>
    rw [ho] at hp HR
    obtain ⟨rfl, hp⟩ := hp
    have HX2 := Go.Lib.hid (HX'.out.op hcg hp)
    clear hcg hp ho k21 k0
    go_wp2_with (first
     | (refine wpList_load_row rfl 42 (.tmp 2) rfl b rfl CpT (c' : Cp).arr (0, 0) _ HX2.out.cp Tryz.underlying42 rfl (by kernel_rfl) ?_)
     | (refine wpList_store_row rfl 42 (.tmp 4) (.tmp 123) rfl (b + 1) (c' : Cp).arr rfl rfl CpT Cp.zero.arr HX2.out.r1 (by kernel_rfl) (by rfl) (by kernel_rfl) ?_)
     | (refine wpList_store_row rfl 110 (.tmp 5) (.tmp 124) rfl (b + 2) (Ev.none : Ev).arr rfl rfl EvT Ev.none.arr (HX2.out.r2' (c')) (by kernel_rfl) (by rfl) (by kernel_rfl) ?_))
    refine bodyPost_ret (v := .tuple #[(c' : Cp).val, (Ev.none : Ev).val]) (results_two_rows (cs := (c' : Cp).arr) (ds := (Ev.none : Ev).arr) rfl _ _ ?_ ?_ (HX2.out.fin (c') (Ev.none)).1 (HX2.out.fin (c') (Ev.none)).2.1 Tryz.underlying42 rfl (by kernel_rfl) Tryz.underlying110 rfl (by kernel_rfl)) rfl ⟨by rw [HR.out] <;> rfl, (HX2.out.fin (c') (Ev.none)).2.2⟩ <;> rfl
  ·
   rw [hf] at k0
   have HR := Go.Lib.hid (HR.out.trans (show _ = (match opF c1 i with | none => Value.tuple #[c1.val, Ev.odd.val] | some c' => Value.tuple #[c'.val, Ev.none.val]) by unfold insF; simp [hf]; cases opF c1 i <;> rfl))
   clear ea eb ec eo k2 k3 k4 k5 k8 k9 k10
   go_wp2_with (refine wpList_load_row rfl 33 (.tmp 6) rfl g rfl InT i.arr (0, 0) _ HX'.out.is Tryz.underlying33 rfl (by kernel_rfl) ?_)
   refine (operate_c HX'.out.cp hok'.out i HI.out.ok).mono ?_
   rintro e W2 ⟨hcg, hp⟩
   cases ho : opF c1 i with
   | none =>
    rw [ho] at hp HR
    obtain ⟨rfl, hp⟩ := hp
    have HX2 := Go.Lib.hid (HX'.out.op hcg hp)
    clear hcg hp ho k21 k0
    go_wp2_with (first
     | (refine wpList_load_row rfl 42 (.tmp 2) rfl b rfl CpT (c1 : Cp).arr (0, 0) _ HX2.out.cp Tryz.underlying42 rfl (by kernel_rfl) ?_)
     | (refine wpList_store_row rfl 42 (.tmp 4) (.tmp 45) rfl (b + 1) (c1 : Cp).arr rfl rfl CpT Cp.zero.arr HX2.out.r1 (by kernel_rfl) (by rfl) (by kernel_rfl) ?_)
     | (refine wpList_store_row rfl 110 (.tmp 5) (.tmp 46) rfl (b + 2) (Ev.odd : Ev).arr rfl rfl EvT Ev.none.arr (HX2.out.r2' (c1)) (by kernel_rfl) (by rfl) (by kernel_rfl) ?_))
    refine bodyPost_ret (v := .tuple #[(c1 : Cp).val, (Ev.odd : Ev).val]) (results_two_rows (cs := (c1 : Cp).arr) (ds := (Ev.odd : Ev).arr) rfl _ _ ?_ ?_ (HX2.out.fin (c1) (Ev.odd)).1 (HX2.out.fin (c1) (Ev.odd)).2.1 Tryz.underlying42 rfl (by kernel_rfl) Tryz.underlying110 rfl (by kernel_rfl)) rfl ⟨by rw [HR.out] <;> rfl, (HX2.out.fin (c1) (Ev.odd)).2.2⟩ <;> rfl
   | some c' =>
    rw [ho] at hp HR
    obtain ⟨rfl, hp⟩ := hp
    have HX2 := Go.Lib.hid (HX'.out.op hcg hp)
    clear hcg hp ho k21 k0
    go_wp2_with (first
     | (refine wpList_load_row rfl 42 (.tmp 2) rfl b rfl CpT (c' : Cp).arr (0, 0) _ HX2.out.cp Tryz.underlying42 rfl (by kernel_rfl) ?_)
     | (refine wpList_store_row rfl 42 (.tmp 4) (.tmp 123) rfl (b + 1) (c' : Cp).arr rfl rfl CpT Cp.zero.arr HX2.out.r1 (by kernel_rfl) (by rfl) (by kernel_rfl) ?_)
     | (refine wpList_store_row rfl 110 (.tmp 5) (.tmp 124) rfl (b + 2) (Ev.none : Ev).arr rfl rfl EvT Ev.none.arr (HX2.out.r2' (c')) (by kernel_rfl) (by rfl) (by kernel_rfl) ?_))
    refine bodyPost_ret (v := .tuple #[(c' : Cp).val, (Ev.none : Ev).val]) (results_two_rows (cs := (c' : Cp).arr) (ds := (Ev.none : Ev).arr) rfl _ _ ?_ ?_ (HX2.out.fin (c') (Ev.none)).1 (HX2.out.fin (c') (Ev.none)).2.1 Tryz.underlying42 rfl (by kernel_rfl) Tryz.underlying110 rfl (by kernel_rfl)) rfl ⟨by rw [HR.out] <;> rfl, (HX2.out.fin (c') (Ev.none)).2.2⟩ <;> rfl
  ·
   rw [hf] at k0
   have HR := Go.Lib.hid (HR.out.trans (show _ = Value.tuple #[c1.val, (⟨1, (c1.R rb + ou) % 4294967296, i.v, ra, 0, 0⟩ : Ev).val] by unfold insF; simp [hf, ea, eb, ec, eo]))
   have hbi0 : (0 : Int) ≤ rb := by omega
   have hbi1 : (rb : Int) < 16 := by omega
   go_upto_region 16 with fail
   clear k21 k0 k2 k3 k4 k5 k8 k9 k10
   have HX9 := Go.Lib.hid (HX'.out.quiet ((Chg.refl NoB W).drew))
   refine regionT 16 (fun W' => StS w b g c1 i W') (by kernel_rfl) (by decide) (StF.s (HX'.out.quiet (Chg.refl NoB _).drew)) (fun inv0 hHeld => ?_)
   refine takeT (i := 0) (t := 49) (v := ?v0u1) rfl (by kernel_rfl) (fun _ _ _ h => h) rfl (Or.inl ⟨by rfl, ?h0u1⟩) inv0 hHeld ?r0u1
   case h0u1 => (intro W' hSw; (refine exec_load_row 42 (.tmp 2) ?_ b ?_ hSw.cp Tryz.underlying42 rfl (by kernel_rfl)) <;> rfl)
   intro inv01
   clear inv0
   try simp only [sw1, sw2, sw3]
   refine takeT (i := 1) (t := 50) (v := ?v1u1) rfl (by kernel_rfl) (fun _ _ _ h => h) rfl (Or.inl ⟨by rfl, ?h1u1⟩) inv01 hHeld ?r1u1
   case h1u1 => (intro W' hSw; obtain ⟨k21, k0, k2, k3, k4, k5, k8, k9, k10⟩ := hSw.cells; have krb := hSw.cp.reg hbl; have kra := hSw.cp.reg hal; clear hSw; rw [eb] at k4; rw [ea] at k3; go_simp; try with_reducible rfl)
   intro inv11
   clear inv01
   try simp only [sw1, sw2, sw3]
   refine takeT (i := 2) (t := 51) (v := ?v2u1) rfl (by kernel_rfl) (fun _ _ _ h => h) rfl (Or.inl ⟨by rfl, ?h2u1⟩) inv11 hHeld ?r2u1
   case h2u1 => (intro W' hSw; obtain ⟨k21, k0, k2, k3, k4, k5, k8, k9, k10⟩ := hSw.cells; have krb := hSw.cp.reg hbl; have kra := hSw.cp.reg hal; clear hSw; rw [eb] at k4; rw [ea] at k3; go_simp; try with_reducible rfl)
   intro inv21
   clear inv11
   try simp only [sw1, sw2, sw3]
   refine takeT (i := 3) (t := 52) (v := ?v3u1) rfl (by kernel_rfl) (fun _ _ _ h => h) rfl (Or.inl ⟨by rfl, ?h3u1⟩) inv21 hHeld ?r3u1
   case h3u1 => (intro W' hSw; obtain ⟨k21, k0, k2, k3, k4, k5, k8, k9, k10⟩ := hSw.cells; have krb := hSw.cp.reg hbl; have kra := hSw.cp.reg hal; clear hSw; rw [eb] at k4; rw [ea] at k3; go_simp; try with_reducible rfl)
   intro inv31
   clear inv21
   try simp only [sw1, sw2, sw3]
   refine takeT (i := 4) (t := 53) (v := ?v4u1) rfl (by kernel_rfl) (fun _ _ _ h => h) rfl (Or.inl ⟨by rfl, ?h4u1⟩) inv31 hHeld ?r4u1
   case h4u1 => (intro W' hSw; obtain ⟨k21, k0, k2, k3, k4, k5, k8, k9, k10⟩ := hSw.cells; have krb := hSw.cp.reg hbl; have kra := hSw.cp.reg hal; clear hSw; rw [eb] at k4; rw [ea] at k3; go_simp; try with_reducible rfl)
   intro inv41
   clear inv31
   try simp only [sw1, sw2, sw3]
   refine takeT (i := 5) (t := 54) (v := ?v5u1) rfl (by kernel_rfl) (fun _ _ _ h => h) rfl (Or.inl ⟨by rfl, ?h5u1⟩) inv41 hHeld ?r5u1
   case h5u1 => (intro W' hSw; obtain ⟨k21, k0, k2, k3, k4, k5, k8, k9, k10⟩ := hSw.cells; have krb := hSw.cp.reg hbl; have kra := hSw.cp.reg hal; clear hSw; rw [eb] at k4; rw [ea] at k3; go_simp; try with_reducible rfl)
   intro inv51
   clear inv41
   try simp only [sw1, sw2, sw3]
   refine takeT (i := 6) (t := 55) (v := ?v6u1) rfl (by kernel_rfl) (fun _ _ _ h => h) rfl (Or.inl ⟨by rfl, ?h6u1⟩) inv51 hHeld ?r6u1
   case h6u1 => (intro W' hSw; obtain ⟨k21, k0, k2, k3, k4, k5, k8, k9, k10⟩ := hSw.cells; have krb := hSw.cp.reg hbl; have kra := hSw.cp.reg hal; clear hSw; rw [eb] at k4; rw [ea] at k3; go_simp; try with_reducible rfl)
   intro inv61
   clear inv51
   try simp only [sw1, sw2, sw3]
   refine takeT (i := 7) (t := 56) (v := ?v7u1) rfl (by kernel_rfl) (fun _ _ _ h => h) rfl (Or.inl ⟨by rfl, ?h7u1⟩) inv61 hHeld ?r7u1
   case h7u1 => (intro W' hSw; obtain ⟨k21, k0, k2, k3, k4, k5, k8, k9, k10⟩ := hSw.cells; have krb := hSw.cp.reg hbl; have kra := hSw.cp.reg hal; clear hSw; rw [eb] at k4; rw [ea] at k3; go_simp; try with_reducible rfl)
   intro inv71
   clear inv61
   try simp only [sw1, sw2, sw3]
   refine takeT (i := 8) (t := 57) (v := ?v8u1) rfl (by kernel_rfl) (fun _ _ _ h => h) rfl (Or.inl ⟨by rfl, ?h8u1⟩) inv71 hHeld ?r8u1
   case h8u1 => (intro W' hSw; obtain ⟨k21, k0, k2, k3, k4, k5, k8, k9, k10⟩ := hSw.cells; have krb := hSw.cp.reg hbl; have kra := hSw.cp.reg hal; clear hSw; rw [eb] at k4; rw [ea] at k3; go_simp; try with_reducible rfl)
   intro inv81
   clear inv71
   try simp only [sw1, sw2, sw3]
   refine takeT (i := 9) (t := 58) (v := ?v9u1) rfl (by kernel_rfl) (fun _ _ _ h => h) rfl (Or.inl ⟨by rfl, ?h9u1⟩) inv81 hHeld ?r9u1
   case h9u1 => (intro W' hSw; obtain ⟨k21, k0, k2, k3, k4, k5, k8, k9, k10⟩ := hSw.cells; have krb := hSw.cp.reg hbl; have kra := hSw.cp.reg hal; clear hSw; rw [eb] at k4; rw [ea] at k3; go_simp; try with_reducible rfl)
   intro inv91
   clear inv81
   try simp only [sw1, sw2, sw3]
   refine takeT (i := 10) (t := 59) (v := ?v10u1) rfl (by kernel_rfl) (fun _ _ _ h => h) rfl (Or.inl ⟨by rfl, ?h10u1⟩) inv91 hHeld ?r10u1
   case h10u1 => (intro W' hSw; obtain ⟨k21, k0, k2, k3, k4, k5, k8, k9, k10⟩ := hSw.cells; have krb := hSw.cp.reg hbl; have kra := hSw.cp.reg hal; clear hSw; rw [eb] at k4; rw [ea] at k3; go_simp; try with_reducible rfl)
   intro inv101
   clear inv91
   try simp only [sw1, sw2, sw3]
   refine takeT (i := 11) (t := 60) (v := ?v11u1) rfl (by kernel_rfl) (fun _ _ _ h => h) rfl (Or.inl ⟨by rfl, ?h11u1⟩) inv101 hHeld ?r11u1
   case h11u1 => (intro W' hSw; obtain ⟨k21, k0, k2, k3, k4, k5, k8, k9, k10⟩ := hSw.cells; have krb := hSw.cp.reg hbl; have kra := hSw.cp.reg hal; clear hSw; rw [eb] at k4; rw [ea] at k3; go_simp; try with_reducible rfl)
   intro inv111
   clear inv101
   try simp only [sw1, sw2, sw3]
   refine takeT (i := 12) (t := 61) (v := ?v12u1) rfl (by kernel_rfl) (fun _ _ _ h => h) rfl (Or.inl ⟨by rfl, ?h12u1⟩) inv111 hHeld ?r12u1
   case h12u1 => (intro W' hSw; obtain ⟨k21, k0, k2, k3, k4, k5, k8, k9, k10⟩ := hSw.cells; have krb := hSw.cp.reg hbl; have kra := hSw.cp.reg hal; clear hSw; rw [eb] at k4; rw [ea] at k3; go_simp; try with_reducible rfl)
   intro inv121
   clear inv111
   try simp only [sw1, sw2, sw3]
   refine takeT (i := 13) (t := 62) (v := ?v13u1) rfl (by kernel_rfl) (fun _ _ _ h => h) rfl (Or.inl ⟨by rfl, ?h13u1⟩) inv121 hHeld ?r13u1
   case h13u1 => (intro W' hSw; obtain ⟨k21, k0, k2, k3, k4, k5, k8, k9, k10⟩ := hSw.cells; have krb := hSw.cp.reg hbl; have kra := hSw.cp.reg hal; clear hSw; rw [eb] at k4; rw [ea] at k3; go_simp; try with_reducible rfl)
   intro inv131
   clear inv121
   try simp only [sw1, sw2, sw3]
   refine takeT (i := 14) (t := 63) (v := ?v14u1) rfl (by kernel_rfl) (fun _ _ _ h => h) rfl (Or.inl ⟨by rfl, ?h14u1⟩) inv131 hHeld ?r14u1
   case h14u1 => (intro W' hSw; obtain ⟨k21, k0, k2, k3, k4, k5, k8, k9, k10⟩ := hSw.cells; have krb := hSw.cp.reg hbl; have kra := hSw.cp.reg hal; clear hSw; rw [eb] at k4; rw [ea] at k3; go_simp; try with_reducible rfl)
   intro inv141
   clear inv131
   try simp only [sw1, sw2, sw3]
   refine storeT (i := 15) (w' := World.setRow W.drew (b + 1) (c1 : Cp).arr) rfl (by kernel_rfl) rfl (by rfl) ?hx15u1 inv141 (by decide) (hHeld.set _) ?r15u1
   case hx15u1 => (refine exec_store_row 42 (.tmp 4) (.tmp 49) ?_ (b + 1) (c1 : Cp).arr ?_ ?_ HX9.out.r1 (by kernel_rfl) (by rfl) (by kernel_rfl)) <;> rfl
   intro inv151 hHeld15
   clear inv141
   try simp only [sw1, sw2, sw3]
   refine lastT (i := 16) (w' := World.setRow (World.setRow W.drew (b + 1) (c1 : Cp).arr) (b + 2) (⟨1, (c1.R rb + ou) % 4294967296, i.v, ra, 0, 0⟩ : Ev).arr) rfl (by kernel_rfl) rfl (by rfl) ?hx16u1 (by decide) (by kernel_rfl) ?r16u1
   case hx16u1 => (refine exec_store_row 110 (.tmp 5) (.tmp 63) ?_ (b + 2) (⟨1, (c1.R rb + ou) % 4294967296, i.v, ra, 0, 0⟩ : Ev).arr ?_ ?_ hHeld15.r2 (by kernel_rfl) (by rfl) (by kernel_rfl)) <;> rfl
   try simp only [sw1, sw2, sw3]
   clear hHeld hHeld15 inv151
   go_wp2_with fail
   refine bodyPost_ret (v := .tuple #[(c1 : Cp).val, (⟨1, (c1.R rb + ou) % 4294967296, i.v, ra, 0, 0⟩ : Ev).val]) (results_two_rows (cs := (c1 : Cp).arr) (ds := (⟨1, (c1.R rb + ou) % 4294967296, i.v, ra, 0, 0⟩ : Ev).arr) rfl _ _ ?_ ?_ (HX9.out.fin (c1) (⟨1, (c1.R rb + ou) % 4294967296, i.v, ra, 0, 0⟩)).1 (HX9.out.fin (c1) (⟨1, (c1.R rb + ou) % 4294967296, i.v, ra, 0, 0⟩)).2.1 Tryz.underlying42 rfl (by kernel_rfl) Tryz.underlying110 rfl (by kernel_rfl)) rfl ⟨by rw [HR.out] <;> rfl, (HX9.out.fin (c1) (⟨1, (c1.R rb + ou) % 4294967296, i.v, ra, 0, 0⟩)).2.2⟩ <;> rfl
  ·
   rw [hf] at k0
   cases hv : i.v
   ·
    have HR := Go.Lib.hid (HR.out.trans (show _ = Value.tuple #[c1.val, (⟨2, (c1.R rb + ou) % 4294967296, false, rb, c1.R ra, 0⟩ : Ev).val] by unfold insF; simp [hf, ea, eb, ec, eo, hv]))
    rw [hv] at k2
    rw [ea] at k3
    have kra := HX'.out.cp.reg hal
    have hbi0 : (0 : Int) ≤ rb := by omega
    have hbi1 : (rb : Int) < 16 := by omega
    have hai0 : (0 : Int) ≤ ra := by omega
    have hai1 : (ra : Int) < 16 := by omega
    go_upto_region 21 with fail
    clear k21 k0 k2 k3 k4 k5 k8 k9 k10 kra
    have HX9 := Go.Lib.hid (HX'.out.quiet ((Chg.refl NoB W).drew))
    refine regionT 17 (fun W' => StS w b g c1 i W') (by kernel_rfl) (by decide) (StF.s (HX'.out.quiet (Chg.refl NoB _).drew)) (fun inv0 hHeld => ?_)
    refine takeT (i := 0) (t := 75) (v := ?v0u2) rfl (by kernel_rfl) (fun _ _ _ h => h) rfl (Or.inl ⟨by rfl, ?h0u2⟩) inv0 hHeld ?r0u2
    case h0u2 => (intro W' hSw; (refine exec_load_row 42 (.tmp 2) ?_ b ?_ hSw.cp Tryz.underlying42 rfl (by kernel_rfl)) <;> rfl)
    intro inv01
    clear inv0
    try simp only [sw1, sw2, sw3]
    refine takeT (i := 1) (t := 76) (v := ?v1u2) rfl (by kernel_rfl) (fun _ _ _ h => h) rfl (Or.inl ⟨by rfl, ?h1u2⟩) inv01 hHeld ?r1u2
    case h1u2 => (intro W' hSw; obtain ⟨k21, k0, k2, k3, k4, k5, k8, k9, k10⟩ := hSw.cells; have krb := hSw.cp.reg hbl; have kra := hSw.cp.reg hal; clear hSw; rw [eb] at k4; rw [hv] at k2; go_simp; try with_reducible rfl)
    intro inv11
    clear inv01
    try simp only [sw1, sw2, sw3]
    refine takeT (i := 2) (t := 77) (v := ?v2u2) rfl (by kernel_rfl) (fun _ _ _ h => h) rfl (Or.inl ⟨by rfl, ?h2u2⟩) inv11 hHeld ?r2u2
    case h2u2 => (intro W' hSw; obtain ⟨k21, k0, k2, k3, k4, k5, k8, k9, k10⟩ := hSw.cells; have krb := hSw.cp.reg hbl; have kra := hSw.cp.reg hal; clear hSw; rw [eb] at k4; rw [hv] at k2; go_simp; try with_reducible rfl)
    intro inv21
    clear inv11
    try simp only [sw1, sw2, sw3]
    refine takeT (i := 3) (t := 78) (v := ?v3u2) rfl (by kernel_rfl) (fun _ _ _ h => h) rfl (Or.inl ⟨by rfl, ?h3u2⟩) inv21 hHeld ?r3u2
    case h3u2 => (intro W' hSw; obtain ⟨k21, k0, k2, k3, k4, k5, k8, k9, k10⟩ := hSw.cells; have krb := hSw.cp.reg hbl; have kra := hSw.cp.reg hal; clear hSw; rw [eb] at k4; rw [hv] at k2; go_simp; try with_reducible rfl)
    intro inv31
    clear inv21
    try simp only [sw1, sw2, sw3]
    refine takeT (i := 4) (t := 79) (v := ?v4u2) rfl (by kernel_rfl) (fun _ _ _ h => h) rfl (Or.inl ⟨by rfl, ?h4u2⟩) inv31 hHeld ?r4u2
    case h4u2 => (intro W' hSw; obtain ⟨k21, k0, k2, k3, k4, k5, k8, k9, k10⟩ := hSw.cells; have krb := hSw.cp.reg hbl; have kra := hSw.cp.reg hal; clear hSw; rw [eb] at k4; rw [hv] at k2; go_simp; try with_reducible rfl)
    intro inv41
    clear inv31
    try simp only [sw1, sw2, sw3]
    refine takeT (i := 5) (t := 80) (v := ?v5u2) rfl (by kernel_rfl) (fun _ _ _ h => h) rfl (Or.inl ⟨by rfl, ?h5u2⟩) inv41 hHeld ?r5u2
    case h5u2 => (intro W' hSw; obtain ⟨k21, k0, k2, k3, k4, k5, k8, k9, k10⟩ := hSw.cells; have krb := hSw.cp.reg hbl; have kra := hSw.cp.reg hal; clear hSw; rw [eb] at k4; rw [hv] at k2; go_simp; try with_reducible rfl)
    intro inv51
    clear inv41
    try simp only [sw1, sw2, sw3]
    refine takeT (i := 6) (t := 81) (v := ?v6u2) rfl (by kernel_rfl) (fun _ _ _ h => h) rfl (Or.inl ⟨by rfl, ?h6u2⟩) inv51 hHeld ?r6u2
    case h6u2 => (intro W' hSw; obtain ⟨k21, k0, k2, k3, k4, k5, k8, k9, k10⟩ := hSw.cells; have krb := hSw.cp.reg hbl; have kra := hSw.cp.reg hal; clear hSw; rw [eb] at k4; rw [hv] at k2; go_simp; try with_reducible rfl)
    intro inv61
    clear inv51
    try simp only [sw1, sw2, sw3]
    refine takeT (i := 7) (t := 82) (v := ?v7u2) rfl (by kernel_rfl) (fun _ _ _ h => h) rfl (Or.inl ⟨by rfl, ?h7u2⟩) inv61 hHeld ?r7u2
    case h7u2 => (intro W' hSw; obtain ⟨k21, k0, k2, k3, k4, k5, k8, k9, k10⟩ := hSw.cells; have krb := hSw.cp.reg hbl; have kra := hSw.cp.reg hal; clear hSw; rw [eb] at k4; rw [hv] at k2; go_simp; try with_reducible rfl)
    intro inv71
    clear inv61
    try simp only [sw1, sw2, sw3]
    refine takeT (i := 8) (t := 83) (v := ?v8u2) rfl (by kernel_rfl) (fun _ _ _ h => h) rfl (Or.inl ⟨by rfl, ?h8u2⟩) inv71 hHeld ?r8u2
    case h8u2 => (intro W' hSw; obtain ⟨k21, k0, k2, k3, k4, k5, k8, k9, k10⟩ := hSw.cells; have krb := hSw.cp.reg hbl; have kra := hSw.cp.reg hal; clear hSw; rw [eb] at k4; rw [hv] at k2; go_simp; try with_reducible rfl)
    intro inv81
    clear inv71
    try simp only [sw1, sw2, sw3]
    refine takeT (i := 9) (t := 84) (v := ?v9u2) rfl (by kernel_rfl) (fun _ _ _ h => h) rfl (Or.inl ⟨by rfl, ?h9u2⟩) inv81 hHeld ?r9u2
    case h9u2 => (intro W' hSw; obtain ⟨k21, k0, k2, k3, k4, k5, k8, k9, k10⟩ := hSw.cells; have krb := hSw.cp.reg hbl; have kra := hSw.cp.reg hal; clear hSw; rw [eb] at k4; rw [hv] at k2; go_simp; try with_reducible rfl)
    intro inv91
    clear inv81
    try simp only [sw1, sw2, sw3]
    refine takeT (i := 10) (t := 85) (v := ?v10u2) rfl (by kernel_rfl) (fun _ _ _ h => h) rfl (Or.inl ⟨by rfl, ?h10u2⟩) inv91 hHeld ?r10u2
    case h10u2 => (intro W' hSw; obtain ⟨k21, k0, k2, k3, k4, k5, k8, k9, k10⟩ := hSw.cells; have krb := hSw.cp.reg hbl; have kra := hSw.cp.reg hal; clear hSw; rw [eb] at k4; rw [hv] at k2; go_simp; try with_reducible rfl)
    intro inv101
    clear inv91
    try simp only [sw1, sw2, sw3]
    refine takeT (i := 11) (t := 86) (v := ?v11u2) rfl (by kernel_rfl) (fun _ _ _ h => h) rfl (Or.inl ⟨by rfl, ?h11u2⟩) inv101 hHeld ?r11u2
    case h11u2 => (intro W' hSw; obtain ⟨k21, k0, k2, k3, k4, k5, k8, k9, k10⟩ := hSw.cells; have krb := hSw.cp.reg hbl; have kra := hSw.cp.reg hal; clear hSw; rw [eb] at k4; rw [hv] at k2; go_simp; try with_reducible rfl)
    intro inv111
    clear inv101
    try simp only [sw1, sw2, sw3]
    refine takeT (i := 12) (t := 87) (v := ?v12u2) rfl (by kernel_rfl) (fun _ _ _ h => h) rfl (Or.inl ⟨by rfl, ?h12u2⟩) inv111 hHeld ?r12u2
    case h12u2 => (intro W' hSw; obtain ⟨k21, k0, k2, k3, k4, k5, k8, k9, k10⟩ := hSw.cells; have krb := hSw.cp.reg hbl; have kra := hSw.cp.reg hal; clear hSw; rw [eb] at k4; rw [hv] at k2; go_simp; try with_reducible rfl)
    intro inv121
    clear inv111
    try simp only [sw1, sw2, sw3]
    refine takeT (i := 13) (t := 88) (v := ?v13u2) rfl (by kernel_rfl) (fun _ _ _ h => h) rfl (Or.inl ⟨by rfl, ?h13u2⟩) inv121 hHeld ?r13u2
    case h13u2 => (intro W' hSw; obtain ⟨k21, k0, k2, k3, k4, k5, k8, k9, k10⟩ := hSw.cells; have krb := hSw.cp.reg hbl; have kra := hSw.cp.reg hal; clear hSw; rw [eb] at k4; rw [hv] at k2; go_simp; try with_reducible rfl)
    intro inv131
    clear inv121
    try simp only [sw1, sw2, sw3]
    refine takeT (i := 14) (t := 89) (v := ?v14u2) rfl (by kernel_rfl) (fun _ _ _ h => h) rfl (Or.inl ⟨by rfl, ?h14u2⟩) inv131 hHeld ?r14u2
    case h14u2 => (intro W' hSw; obtain ⟨k21, k0, k2, k3, k4, k5, k8, k9, k10⟩ := hSw.cells; have krb := hSw.cp.reg hbl; have kra := hSw.cp.reg hal; clear hSw; rw [eb] at k4; rw [hv] at k2; go_simp; try with_reducible rfl)
    intro inv141
    clear inv131
    try simp only [sw1, sw2, sw3]
    refine takeT (i := 15) (t := 90) (v := ?v15u2) rfl (by kernel_rfl) (fun _ _ _ h => h) rfl (Or.inl ⟨by rfl, ?h15u2⟩) inv141 hHeld ?r15u2
    case h15u2 => (intro W' hSw; obtain ⟨k21, k0, k2, k3, k4, k5, k8, k9, k10⟩ := hSw.cells; have krb := hSw.cp.reg hbl; have kra := hSw.cp.reg hal; clear hSw; rw [eb] at k4; rw [hv] at k2; go_simp; try with_reducible rfl)
    intro inv151
    clear inv141
    try simp only [sw1, sw2, sw3]
    refine storeT (i := 16) (w' := World.setRow W.drew (b + 1) (c1 : Cp).arr) rfl (by kernel_rfl) rfl (by rfl) ?hx16u2 inv151 (by decide) (hHeld.set _) ?r16u2
    case hx16u2 => (refine exec_store_row 42 (.tmp 4) (.tmp 75) ?_ (b + 1) (c1 : Cp).arr ?_ ?_ HX9.out.r1 (by kernel_rfl) (by rfl) (by kernel_rfl)) <;> rfl
    intro inv161 hHeld16
    clear inv151
    try simp only [sw1, sw2, sw3]
    refine lastT (i := 17) (w' := World.setRow (World.setRow W.drew (b + 1) (c1 : Cp).arr) (b + 2) (⟨2, (c1.R rb + ou) % 4294967296, false, rb, c1.R ra, 0⟩ : Ev).arr) rfl (by kernel_rfl) rfl (by rfl) ?hx17u2 (by decide) (by kernel_rfl) ?r17u2
    case hx17u2 => (refine exec_store_row 110 (.tmp 5) (.tmp 90) ?_ (b + 2) (⟨2, (c1.R rb + ou) % 4294967296, false, rb, c1.R ra, 0⟩ : Ev).arr ?_ ?_ hHeld16.r2 (by kernel_rfl) (by rfl) (by kernel_rfl)) <;> rfl
    try simp only [sw1, sw2, sw3]
    clear hHeld hHeld16 inv161
    go_wp2_with fail
    refine bodyPost_ret (v := .tuple #[(c1 : Cp).val, (⟨2, (c1.R rb + ou) % 4294967296, false, rb, c1.R ra, 0⟩ : Ev).val]) (results_two_rows (cs := (c1 : Cp).arr) (ds := (⟨2, (c1.R rb + ou) % 4294967296, false, rb, c1.R ra, 0⟩ : Ev).arr) rfl _ _ ?_ ?_ (HX9.out.fin (c1) (⟨2, (c1.R rb + ou) % 4294967296, false, rb, c1.R ra, 0⟩)).1 (HX9.out.fin (c1) (⟨2, (c1.R rb + ou) % 4294967296, false, rb, c1.R ra, 0⟩)).2.1 Tryz.underlying42 rfl (by kernel_rfl) Tryz.underlying110 rfl (by kernel_rfl)) rfl ⟨by rw [HR.out] <;> rfl, (HX9.out.fin (c1) (⟨2, (c1.R rb + ou) % 4294967296, false, rb, c1.R ra, 0⟩)).2.2⟩ <;> rfl
   ·
    have HR := Go.Lib.hid (HR.out.trans (show _ = Value.tuple #[c1.val, (⟨2, (c1.R rb + ou) % 4294967296, true, rb, bits .and .u32 (c1.R ra) 255, 0⟩ : Ev).val] by unfold insF; simp [hf, ea, eb, ec, eo, hv]))
    rw [hv] at k2
    rw [ea] at k3
    have kra := HX'.out.cp.reg hal
    have hbi0 : (0 : Int) ≤ rb := by omega
    have hbi1 : (rb : Int) < 16 := by omega
    have hai0 : (0 : Int) ≤ ra := by omega
    have hai1 : (ra : Int) < 16 := by omega
    go_upto_region 21 with fail
    clear k21 k0 k2 k3 k4 k5 k8 k9 k10 kra
    have HX9 := Go.Lib.hid (HX'.out.quiet ((Chg.refl NoB W).drew))
    refine regionT 17 (fun W' => StS w b g c1 i W') (by kernel_rfl) (by decide) (StF.s (HX'.out.quiet (Chg.refl NoB _).drew)) (fun inv0 hHeld => ?_)
    refine takeT (i := 0) (t := 75) (v := ?v0u3) rfl (by kernel_rfl) (fun _ _ _ h => h) rfl (Or.inl ⟨by rfl, ?h0u3⟩) inv0 hHeld ?r0u3
    case h0u3 => (intro W' hSw; (refine exec_load_row 42 (.tmp 2) ?_ b ?_ hSw.cp Tryz.underlying42 rfl (by kernel_rfl)) <;> rfl)
    intro inv01
    clear inv0
    try simp only [sw1, sw2, sw3]
    refine takeT (i := 1) (t := 76) (v := ?v1u3) rfl (by kernel_rfl) (fun _ _ _ h => h) rfl (Or.inl ⟨by rfl, ?h1u3⟩) inv01 hHeld ?r1u3
    case h1u3 => (intro W' hSw; obtain ⟨k21, k0, k2, k3, k4, k5, k8, k9, k10⟩ := hSw.cells; have krb := hSw.cp.reg hbl; have kra := hSw.cp.reg hal; clear hSw; rw [eb] at k4; rw [hv] at k2; go_simp; try with_reducible rfl)
    intro inv11
    clear inv01
    try simp only [sw1, sw2, sw3]
    refine takeT (i := 2) (t := 77) (v := ?v2u3) rfl (by kernel_rfl) (fun _ _ _ h => h) rfl (Or.inl ⟨by rfl, ?h2u3⟩) inv11 hHeld ?r2u3
    case h2u3 => (intro W' hSw; obtain ⟨k21, k0, k2, k3, k4, k5, k8, k9, k10⟩ := hSw.cells; have krb := hSw.cp.reg hbl; have kra := hSw.cp.reg hal; clear hSw; rw [eb] at k4; rw [hv] at k2; go_simp; try with_reducible rfl)
    intro inv21
    clear inv11
    try simp only [sw1, sw2, sw3]
    refine takeT (i := 3) (t := 78) (v := ?v3u3) rfl (by kernel_rfl) (fun _ _ _ h => h) rfl (Or.inl ⟨by rfl, ?h3u3⟩) inv21 hHeld ?r3u3
    case h3u3 => (intro W' hSw; obtain ⟨k21, k0, k2, k3, k4, k5, k8, k9, k10⟩ := hSw.cells; have krb := hSw.cp.reg hbl; have kra := hSw.cp.reg hal; clear hSw; rw [eb] at k4; rw [hv] at k2; go_simp; try with_reducible rfl)
    intro inv31
    clear inv21
    try simp only [sw1, sw2, sw3]
    refine takeT (i := 4) (t := 79) (v := ?v4u3) rfl (by kernel_rfl) (fun _ _ _ h => h) rfl (Or.inl ⟨by rfl, ?h4u3⟩) inv31 hHeld ?r4u3
    case h4u3 => (intro W' hSw; obtain ⟨k21, k0, k2, k3, k4, k5, k8, k9, k10⟩ := hSw.cells; have krb := hSw.cp.reg hbl; have kra := hSw.cp.reg hal; clear hSw; rw [eb] at k4; rw [hv] at k2; go_simp; try with_reducible rfl)
    intro inv41
    clear inv31
    try simp only [sw1, sw2, sw3]
    refine takeT (i := 5) (t := 80) (v := ?v5u3) rfl (by kernel_rfl) (fun _ _ _ h => h) rfl (Or.inl ⟨by rfl, ?h5u3⟩) inv41 hHeld ?r5u3
    case h5u3 => (intro W' hSw; obtain ⟨k21, k0, k2, k3, k4, k5, k8, k9, k10⟩ := hSw.cells; have krb := hSw.cp.reg hbl; have kra := hSw.cp.reg hal; clear hSw; rw [eb] at k4; rw [hv] at k2; go_simp; try with_reducible rfl)
    intro inv51
    clear inv41
    try simp only [sw1, sw2, sw3]
    refine takeT (i := 6) (t := 81) (v := ?v6u3) rfl (by kernel_rfl) (fun _ _ _ h => h) rfl (Or.inl ⟨by rfl, ?h6u3⟩) inv51 hHeld ?r6u3
    case h6u3 => (intro W' hSw; obtain ⟨k21, k0, k2, k3, k4, k5, k8, k9, k10⟩ := hSw.cells; have krb := hSw.cp.reg hbl; have kra := hSw.cp.reg hal; clear hSw; rw [eb] at k4; rw [hv] at k2; go_simp; try with_reducible rfl)
    intro inv61
    clear inv51
    try simp only [sw1, sw2, sw3]
    refine takeT (i := 7) (t := 82) (v := ?v7u3) rfl (by kernel_rfl) (fun _ _ _ h => h) rfl (Or.inl ⟨by rfl, ?h7u3⟩) inv61 hHeld ?r7u3
    case h7u3 => (intro W' hSw; obtain ⟨k21, k0, k2, k3, k4, k5, k8, k9, k10⟩ := hSw.cells; have krb := hSw.cp.reg hbl; have kra := hSw.cp.reg hal; clear hSw; rw [eb] at k4; rw [hv] at k2; go_simp; try with_reducible rfl)
    intro inv71
    clear inv61
    try simp only [sw1, sw2, sw3]
    refine takeT (i := 8) (t := 83) (v := ?v8u3) rfl (by kernel_rfl) (fun _ _ _ h => h) rfl (Or.inl ⟨by rfl, ?h8u3⟩) inv71 hHeld ?r8u3
    case h8u3 => (intro W' hSw; obtain ⟨k21, k0, k2, k3, k4, k5, k8, k9, k10⟩ := hSw.cells; have krb := hSw.cp.reg hbl; have kra := hSw.cp.reg hal; clear hSw; rw [eb] at k4; rw [hv] at k2; go_simp; try with_reducible rfl)
    intro inv81
    clear inv71
    try simp only [sw1, sw2, sw3]
    refine takeT (i := 9) (t := 84) (v := ?v9u3) rfl (by kernel_rfl) (fun _ _ _ h => h) rfl (Or.inl ⟨by rfl, ?h9u3⟩) inv81 hHeld ?r9u3
    case h9u3 => (intro W' hSw; obtain ⟨k21, k0, k2, k3, k4, k5, k8, k9, k10⟩ := hSw.cells; have krb := hSw.cp.reg hbl; have kra := hSw.cp.reg hal; clear hSw; rw [eb] at k4; rw [hv] at k2; go_simp; try with_reducible rfl)
    intro inv91
    clear inv81
    try simp only [sw1, sw2, sw3]
    refine takeT (i := 10) (t := 85) (v := ?v10u3) rfl (by kernel_rfl) (fun _ _ _ h => h) rfl (Or.inl ⟨by rfl, ?h10u3⟩) inv91 hHeld ?r10u3
    case h10u3 => (intro W' hSw; obtain ⟨k21, k0, k2, k3, k4, k5, k8, k9, k10⟩ := hSw.cells; have krb := hSw.cp.reg hbl; have kra := hSw.cp.reg hal; clear hSw; rw [eb] at k4; rw [hv] at k2; go_simp; try with_reducible rfl)
    intro inv101
    clear inv91
    try simp only [sw1, sw2, sw3]
    refine takeT (i := 11) (t := 86) (v := ?v11u3) rfl (by kernel_rfl) (fun _ _ _ h => h) rfl (Or.inl ⟨by rfl, ?h11u3⟩) inv101 hHeld ?r11u3
    case h11u3 => (intro W' hSw; obtain ⟨k21, k0, k2, k3, k4, k5, k8, k9, k10⟩ := hSw.cells; have krb := hSw.cp.reg hbl; have kra := hSw.cp.reg hal; clear hSw; rw [eb] at k4; rw [hv] at k2; go_simp; try with_reducible rfl)
    intro inv111
    clear inv101
    try simp only [sw1, sw2, sw3]
    refine takeT (i := 12) (t := 87) (v := ?v12u3) rfl (by kernel_rfl) (fun _ _ _ h => h) rfl (Or.inl ⟨by rfl, ?h12u3⟩) inv111 hHeld ?r12u3
    case h12u3 => (intro W' hSw; obtain ⟨k21, k0, k2, k3, k4, k5, k8, k9, k10⟩ := hSw.cells; have krb := hSw.cp.reg hbl; have kra := hSw.cp.reg hal; clear hSw; rw [eb] at k4; rw [hv] at k2; go_simp; try with_reducible rfl)
    intro inv121
    clear inv111
    try simp only [sw1, sw2, sw3]
    refine takeT (i := 13) (t := 88) (v := ?v13u3) rfl (by kernel_rfl) (fun _ _ _ h => h) rfl (Or.inl ⟨by rfl, ?h13u3⟩) inv121 hHeld ?r13u3
    case h13u3 => (intro W' hSw; obtain ⟨k21, k0, k2, k3, k4, k5, k8, k9, k10⟩ := hSw.cells; have krb := hSw.cp.reg hbl; have kra := hSw.cp.reg hal; clear hSw; rw [eb] at k4; rw [hv] at k2; go_simp; try with_reducible rfl)
    intro inv131
    clear inv121
    try simp only [sw1, sw2, sw3]
    refine takeT (i := 14) (t := 89) (v := ?v14u3) rfl (by kernel_rfl) (fun _ _ _ h => h) rfl (Or.inl ⟨by rfl, ?h14u3⟩) inv131 hHeld ?r14u3
    case h14u3 => (intro W' hSw; obtain ⟨k21, k0, k2, k3, k4, k5, k8, k9, k10⟩ := hSw.cells; have krb := hSw.cp.reg hbl; have kra := hSw.cp.reg hal; clear hSw; rw [eb] at k4; rw [hv] at k2; go_simp; try with_reducible rfl)
    intro inv141
    clear inv131
    try simp only [sw1, sw2, sw3]
    refine takeT (i := 15) (t := 90) (v := ?v15u3) rfl (by kernel_rfl) (fun _ _ _ h => h) rfl (Or.inl ⟨by rfl, ?h15u3⟩) inv141 hHeld ?r15u3
    case h15u3 => (intro W' hSw; obtain ⟨k21, k0, k2, k3, k4, k5, k8, k9, k10⟩ := hSw.cells; have krb := hSw.cp.reg hbl; have kra := hSw.cp.reg hal; clear hSw; rw [eb] at k4; rw [hv] at k2; go_simp; try with_reducible rfl)
    intro inv151
    clear inv141
    try simp only [sw1, sw2, sw3]
    refine storeT (i := 16) (w' := World.setRow W.drew (b + 1) (c1 : Cp).arr) rfl (by kernel_rfl) rfl (by rfl) ?hx16u3 inv151 (by decide) (hHeld.set _) ?r16u3
    case hx16u3 => (refine exec_store_row 42 (.tmp 4) (.tmp 75) ?_ (b + 1) (c1 : Cp).arr ?_ ?_ HX9.out.r1 (by kernel_rfl) (by rfl) (by kernel_rfl)) <;> rfl
    intro inv161 hHeld16
    clear inv151
    try simp only [sw1, sw2, sw3]
    refine lastT (i := 17) (w' := World.setRow (World.setRow W.drew (b + 1) (c1 : Cp).arr) (b + 2) (⟨2, (c1.R rb + ou) % 4294967296, true, rb, bits .and .u32 (c1.R ra) 255, 0⟩ : Ev).arr) rfl (by kernel_rfl) rfl (by rfl) ?hx17u3 (by decide) (by kernel_rfl) ?r17u3
    case hx17u3 => (refine exec_store_row 110 (.tmp 5) (.tmp 90) ?_ (b + 2) (⟨2, (c1.R rb + ou) % 4294967296, true, rb, bits .and .u32 (c1.R ra) 255, 0⟩ : Ev).arr ?_ ?_ hHeld16.r2 (by kernel_rfl) (by rfl) (by kernel_rfl)) <;> rfl
    try simp only [sw1, sw2, sw3]
    clear hHeld hHeld16 inv161
    go_wp2_with fail
    refine bodyPost_ret (v := .tuple #[(c1 : Cp).val, (⟨2, (c1.R rb + ou) % 4294967296, true, rb, bits .and .u32 (c1.R ra) 255, 0⟩ : Ev).val]) (results_two_rows (cs := (c1 : Cp).arr) (ds := (⟨2, (c1.R rb + ou) % 4294967296, true, rb, bits .and .u32 (c1.R ra) 255, 0⟩ : Ev).arr) rfl _ _ ?_ ?_ (HX9.out.fin (c1) (⟨2, (c1.R rb + ou) % 4294967296, true, rb, bits .and .u32 (c1.R ra) 255, 0⟩)).1 (HX9.out.fin (c1) (⟨2, (c1.R rb + ou) % 4294967296, true, rb, bits .and .u32 (c1.R ra) 255, 0⟩)).2.1 Tryz.underlying42 rfl (by kernel_rfl) Tryz.underlying110 rfl (by kernel_rfl)) rfl ⟨by rw [HR.out] <;> rfl, (HX9.out.fin (c1) (⟨2, (c1.R rb + ou) % 4294967296, true, rb, bits .and .u32 (c1.R ra) 255, 0⟩)).2.2⟩ <;> rfl
  ·
   rw [hf] at k0
   have hholds := holds_c c1 i.co hco.1 hco.2 W
   have HHo := Go.Lib.hid hholds
   clear hholds
   have hc5 : 0 ≤ c1.R rc ∧ c1.R rc < 4294967296 := hok.out.r rc
   go_wp2_with (refine wpList_load_row rfl 42 (.tmp 2) rfl b rfl CpT c1.arr (0, 0) _ HX'.out.cp Tryz.underlying42 rfl (by kernel_rfl) ?_)
   refine HHo.out.mono ?_
   rintro e W2 ⟨rfl, hW2⟩
   have HX2 := Go.Lib.hid (HX'.out.quiet (by rw [hW2]; exact (Chg.refl NoB _).alloc _) : StF w b g c1 i W2)
   clear hW2 HHo k21 k0 k2 k3 k4 k5 k8 k9 k10
   obtain ⟨k21, k0, k2, k3, k4, k5, k8, k9, k10⟩ := HX2.out.cells
   rw [hf] at k0
   cases hh : holds c1 i.co
   ·
    have HR := Go.Lib.hid (HR.out.trans (show _ = Value.tuple #[c1.val, Ev.none.val] by unfold insF; simp [hf, hh]))
    clear hcl
    go_wp2_with (first
     | (refine wpList_load_row rfl 42 (.tmp 2) rfl b rfl CpT (c1 : Cp).arr (0, 0) _ HX2.out.cp Tryz.underlying42 rfl (by kernel_rfl) ?_)
     | (refine wpList_store_row rfl 42 (.tmp 4) (.tmp 123) rfl (b + 1) (c1 : Cp).arr rfl rfl CpT Cp.zero.arr HX2.out.r1 (by kernel_rfl) (by rfl) (by kernel_rfl) ?_)
     | (refine wpList_store_row rfl 110 (.tmp 5) (.tmp 124) rfl (b + 2) (Ev.none : Ev).arr rfl rfl EvT Ev.none.arr (HX2.out.r2' (c1)) (by kernel_rfl) (by rfl) (by kernel_rfl) ?_))
    refine bodyPost_ret (v := .tuple #[(c1 : Cp).val, (Ev.none : Ev).val]) (results_two_rows (cs := (c1 : Cp).arr) (ds := (Ev.none : Ev).arr) rfl _ _ ?_ ?_ (HX2.out.fin (c1) (Ev.none)).1 (HX2.out.fin (c1) (Ev.none)).2.1 Tryz.underlying42 rfl (by kernel_rfl) Tryz.underlying110 rfl (by kernel_rfl)) rfl ⟨by rw [HR.out] <;> rfl, (HX2.out.fin (c1) (Ev.none)).2.2⟩ <;> rfl
   ·
    cases hv : i.v
    ·
     have HR := Go.Lib.hid (HR.out.trans (show _ = Value.tuple #[({ c1 with pc := (c1.pc + ou) % 4294967296 } : Cp).val, Ev.none.val] by unfold insF; simp [hf, ea, eb, ec, eo, hv, hh]))
     rw [hv] at k2
     have HB1 : CpAt (W2.setCell ⟨b, 21, none⟩ (.int .u32 ((c1.pc + ou) % 4294967296))) b { c1 with pc := (c1.pc + ou) % 4294967296 } := HX2.out.cp.set_ 21 _
     have HX3 := Go.Lib.hid (HX2.out.op ((Chg.refl (fun k => k = b) W2).setCell (p := ⟨b, 21, none⟩) (fun _ => rfl) _) HB1)
     clear HB1
     have f15 := HX2.out.cp.frozen 15
     have f21 := HX2.out.cp.frozen 21
     have q15 := HX2.out.cp.reg (i := 15) (by decide)
     go_wp2_with (first
      | (refine wpList_load_row rfl 42 (.tmp 2) rfl b rfl CpT ({ c1 with pc := (c1.pc + ou) % 4294967296 } : Cp).arr (0, 0) _ HX3.out.cp Tryz.underlying42 rfl (by kernel_rfl) ?_)
      | (refine wpList_store_row rfl 42 (.tmp 4) (.tmp 123) rfl (b + 1) ({ c1 with pc := (c1.pc + ou) % 4294967296 } : Cp).arr rfl rfl CpT Cp.zero.arr HX3.out.r1 (by kernel_rfl) (by rfl) (by kernel_rfl) ?_)
      | (refine wpList_store_row rfl 110 (.tmp 5) (.tmp 124) rfl (b + 2) (Ev.none : Ev).arr rfl rfl EvT Ev.none.arr (HX3.out.r2' ({ c1 with pc := (c1.pc + ou) % 4294967296 })) (by kernel_rfl) (by rfl) (by kernel_rfl) ?_))
     refine bodyPost_ret (v := .tuple #[({ c1 with pc := (c1.pc + ou) % 4294967296 } : Cp).val, (Ev.none : Ev).val]) (results_two_rows (cs := ({ c1 with pc := (c1.pc + ou) % 4294967296 } : Cp).arr) (ds := (Ev.none : Ev).arr) rfl _ _ ?_ ?_ (HX3.out.fin ({ c1 with pc := (c1.pc + ou) % 4294967296 }) (Ev.none)).1 (HX3.out.fin ({ c1 with pc := (c1.pc + ou) % 4294967296 }) (Ev.none)).2.1 Tryz.underlying42 rfl (by kernel_rfl) Tryz.underlying110 rfl (by kernel_rfl)) rfl ⟨by rw [HR.out] <;> rfl, (HX3.out.fin ({ c1 with pc := (c1.pc + ou) % 4294967296 }) (Ev.none)).2.2⟩ <;> rfl
    ·
     have HR := Go.Lib.hid (HR.out.trans (show _ = Value.tuple #[({ c1 with R := upd c1.R 15 (4 * c1.pc % 4294967296), pc := (c1.pc + ou) % 4294967296 } : Cp).val, Ev.none.val] by unfold insF; simp [hf, ea, eb, ec, eo, hv, hh]))
     rw [hv] at k2
     have HB1 : CpAt ((W2.setCell ⟨b, 15, none⟩ (.int .u32 (4 * c1.pc % 4294967296))).setCell ⟨b, 21, none⟩ (.int .u32 ((c1.pc + ou) % 4294967296))) b { c1 with R := upd c1.R 15 (4 * c1.pc % 4294967296), pc := (c1.pc + ou) % 4294967296 } := (show CpAt (W2.setCell ⟨b, 15, none⟩ (.int .u32 (4 * c1.pc % 4294967296))) b { c1 with R := upd c1.R 15 (4 * c1.pc % 4294967296) } by rw [show CpAt _ _ _ = Blk _ _ _ _ from rfl, ← Cp.setReg _ (by decide)]; exact HX2.out.cp.set_ 15 _).set_ 21 _
     have HX3 := Go.Lib.hid (HX2.out.op (((Chg.refl (fun k => k = b) W2).setCell (p := ⟨b, 15, none⟩) (fun _ => rfl) _).setCell (p := ⟨b, 21, none⟩) (fun _ => rfl) _) HB1)
     clear HB1
     have f15 := HX2.out.cp.frozen 15
     have f21 := HX2.out.cp.frozen 21
     have q15 := HX2.out.cp.reg (i := 15) (by decide)
     go_wp2_with (first
      | (refine wpList_load_row rfl 42 (.tmp 2) rfl b rfl CpT ({ c1 with R := upd c1.R 15 (4 * c1.pc % 4294967296), pc := (c1.pc + ou) % 4294967296 } : Cp).arr (0, 0) _ HX3.out.cp Tryz.underlying42 rfl (by kernel_rfl) ?_)
      | (refine wpList_store_row rfl 42 (.tmp 4) (.tmp 123) rfl (b + 1) ({ c1 with R := upd c1.R 15 (4 * c1.pc % 4294967296), pc := (c1.pc + ou) % 4294967296 } : Cp).arr rfl rfl CpT Cp.zero.arr HX3.out.r1 (by kernel_rfl) (by rfl) (by kernel_rfl) ?_)
      | (refine wpList_store_row rfl 110 (.tmp 5) (.tmp 124) rfl (b + 2) (Ev.none : Ev).arr rfl rfl EvT Ev.none.arr (HX3.out.r2' ({ c1 with R := upd c1.R 15 (4 * c1.pc % 4294967296), pc := (c1.pc + ou) % 4294967296 })) (by kernel_rfl) (by rfl) (by kernel_rfl) ?_))
     refine bodyPost_ret (v := .tuple #[({ c1 with R := upd c1.R 15 (4 * c1.pc % 4294967296), pc := (c1.pc + ou) % 4294967296 } : Cp).val, (Ev.none : Ev).val]) (results_two_rows (cs := ({ c1 with R := upd c1.R 15 (4 * c1.pc % 4294967296), pc := (c1.pc + ou) % 4294967296 } : Cp).arr) (ds := (Ev.none : Ev).arr) rfl _ _ ?_ ?_ (HX3.out.fin ({ c1 with R := upd c1.R 15 (4 * c1.pc % 4294967296), pc := (c1.pc + ou) % 4294967296 }) (Ev.none)).1 (HX3.out.fin ({ c1 with R := upd c1.R 15 (4 * c1.pc % 4294967296), pc := (c1.pc + ou) % 4294967296 }) (Ev.none)).2.1 Tryz.underlying42 rfl (by kernel_rfl) Tryz.underlying110 rfl (by kernel_rfl)) rfl ⟨by rw [HR.out] <;> rfl, (HX3.out.fin ({ c1 with R := upd c1.R 15 (4 * c1.pc % 4294967296), pc := (c1.pc + ou) % 4294967296 }) (Ev.none)).2.2⟩ <;> rfl
  ·
   rw [hf] at k0
   have hholds := holds_c c1 i.co hco.1 hco.2 W
   have HHo := Go.Lib.hid hholds
   clear hholds
   have hc5 : 0 ≤ c1.R rc ∧ c1.R rc < 4294967296 := hok.out.r rc
   go_wp2_with (refine wpList_load_row rfl 42 (.tmp 2) rfl b rfl CpT c1.arr (0, 0) _ HX'.out.cp Tryz.underlying42 rfl (by kernel_rfl) ?_)
   refine HHo.out.mono ?_
   rintro e W2 ⟨rfl, hW2⟩
   have HX2 := Go.Lib.hid (HX'.out.quiet (by rw [hW2]; exact (Chg.refl NoB _).alloc _) : StF w b g c1 i W2)
   clear hW2 HHo k21 k0 k2 k3 k4 k5 k8 k9 k10
   obtain ⟨k21, k0, k2, k3, k4, k5, k8, k9, k10⟩ := HX2.out.cells
   rw [hf] at k0
   have hcl' : rc < 16 := hcl (by omega)
   have krc := HX2.out.cp.reg hcl'
   have hci0 : (0 : Int) ≤ rc := by omega
   have hci1 : (rc : Int) < 16 := by omega
   rw [ec] at k5
   cases hh : holds c1 i.co
   ·
    have HR := Go.Lib.hid (HR.out.trans (show _ = Value.tuple #[c1.val, Ev.none.val] by unfold insF; simp [hf, hh]))
    clear hcl
    go_wp2_with (first
     | (refine wpList_load_row rfl 42 (.tmp 2) rfl b rfl CpT (c1 : Cp).arr (0, 0) _ HX2.out.cp Tryz.underlying42 rfl (by kernel_rfl) ?_)
     | (refine wpList_store_row rfl 42 (.tmp 4) (.tmp 123) rfl (b + 1) (c1 : Cp).arr rfl rfl CpT Cp.zero.arr HX2.out.r1 (by kernel_rfl) (by rfl) (by kernel_rfl) ?_)
     | (refine wpList_store_row rfl 110 (.tmp 5) (.tmp 124) rfl (b + 2) (Ev.none : Ev).arr rfl rfl EvT Ev.none.arr (HX2.out.r2' (c1)) (by kernel_rfl) (by rfl) (by kernel_rfl) ?_))
    refine bodyPost_ret (v := .tuple #[(c1 : Cp).val, (Ev.none : Ev).val]) (results_two_rows (cs := (c1 : Cp).arr) (ds := (Ev.none : Ev).arr) rfl _ _ ?_ ?_ (HX2.out.fin (c1) (Ev.none)).1 (HX2.out.fin (c1) (Ev.none)).2.1 Tryz.underlying42 rfl (by kernel_rfl) Tryz.underlying110 rfl (by kernel_rfl)) rfl ⟨by rw [HR.out] <;> rfl, (HX2.out.fin (c1) (Ev.none)).2.2⟩ <;> rfl
   ·
    cases hv : i.v
    ·
     have HR := Go.Lib.hid (HR.out.trans (show _ = Value.tuple #[({ c1 with pc := c1.R rc / 4 } : Cp).val, Ev.none.val] by unfold insF; simp [hf, ea, eb, ec, eo, hv, hh]))
     rw [hv] at k2
     have HB1 : CpAt (W2.setCell ⟨b, 21, none⟩ (.int .u32 (c1.R rc / 4))) b { c1 with pc := c1.R rc / 4 } := HX2.out.cp.set_ 21 _
     have HX3 := Go.Lib.hid (HX2.out.op ((Chg.refl (fun k => k = b) W2).setCell (p := ⟨b, 21, none⟩) (fun _ => rfl) _) HB1)
     clear HB1
     have f15 := HX2.out.cp.frozen 15
     have f21 := HX2.out.cp.frozen 21
     have q15 := HX2.out.cp.reg (i := 15) (by decide)
     go_wp2_with (first
      | (refine wpList_load_row rfl 42 (.tmp 2) rfl b rfl CpT ({ c1 with pc := c1.R rc / 4 } : Cp).arr (0, 0) _ HX3.out.cp Tryz.underlying42 rfl (by kernel_rfl) ?_)
      | (refine wpList_store_row rfl 42 (.tmp 4) (.tmp 123) rfl (b + 1) ({ c1 with pc := c1.R rc / 4 } : Cp).arr rfl rfl CpT Cp.zero.arr HX3.out.r1 (by kernel_rfl) (by rfl) (by kernel_rfl) ?_)
      | (refine wpList_store_row rfl 110 (.tmp 5) (.tmp 124) rfl (b + 2) (Ev.none : Ev).arr rfl rfl EvT Ev.none.arr (HX3.out.r2' ({ c1 with pc := c1.R rc / 4 })) (by kernel_rfl) (by rfl) (by kernel_rfl) ?_))
     refine bodyPost_ret (v := .tuple #[({ c1 with pc := c1.R rc / 4 } : Cp).val, (Ev.none : Ev).val]) (results_two_rows (cs := ({ c1 with pc := c1.R rc / 4 } : Cp).arr) (ds := (Ev.none : Ev).arr) rfl _ _ ?_ ?_ (HX3.out.fin ({ c1 with pc := c1.R rc / 4 }) (Ev.none)).1 (HX3.out.fin ({ c1 with pc := c1.R rc / 4 }) (Ev.none)).2.1 Tryz.underlying42 rfl (by kernel_rfl) Tryz.underlying110 rfl (by kernel_rfl)) rfl ⟨by rw [HR.out] <;> rfl, (HX3.out.fin ({ c1 with pc := c1.R rc / 4 }) (Ev.none)).2.2⟩ <;> rfl
    ·
     have HR := Go.Lib.hid (HR.out.trans (show _ = Value.tuple #[({ c1 with R := upd c1.R 15 (4 * c1.pc % 4294967296), pc := c1.R rc / 4 } : Cp).val, Ev.none.val] by unfold insF; simp [hf, ea, eb, ec, eo, hv, hh]))
     rw [hv] at k2
     have HB1 : CpAt ((W2.setCell ⟨b, 15, none⟩ (.int .u32 (4 * c1.pc % 4294967296))).setCell ⟨b, 21, none⟩ (.int .u32 (c1.R rc / 4))) b { c1 with R := upd c1.R 15 (4 * c1.pc % 4294967296), pc := c1.R rc / 4 } := (show CpAt (W2.setCell ⟨b, 15, none⟩ (.int .u32 (4 * c1.pc % 4294967296))) b { c1 with R := upd c1.R 15 (4 * c1.pc % 4294967296) } by rw [show CpAt _ _ _ = Blk _ _ _ _ from rfl, ← Cp.setReg _ (by decide)]; exact HX2.out.cp.set_ 15 _).set_ 21 _
     have HX3 := Go.Lib.hid (HX2.out.op (((Chg.refl (fun k => k = b) W2).setCell (p := ⟨b, 15, none⟩) (fun _ => rfl) _).setCell (p := ⟨b, 21, none⟩) (fun _ => rfl) _) HB1)
     clear HB1
     have f15 := HX2.out.cp.frozen 15
     have f21 := HX2.out.cp.frozen 21
     have q15 := HX2.out.cp.reg (i := 15) (by decide)
     go_wp2_with (first
      | (refine wpList_load_row rfl 42 (.tmp 2) rfl b rfl CpT ({ c1 with R := upd c1.R 15 (4 * c1.pc % 4294967296), pc := c1.R rc / 4 } : Cp).arr (0, 0) _ HX3.out.cp Tryz.underlying42 rfl (by kernel_rfl) ?_)
      | (refine wpList_store_row rfl 42 (.tmp 4) (.tmp 123) rfl (b + 1) ({ c1 with R := upd c1.R 15 (4 * c1.pc % 4294967296), pc := c1.R rc / 4 } : Cp).arr rfl rfl CpT Cp.zero.arr HX3.out.r1 (by kernel_rfl) (by rfl) (by kernel_rfl) ?_)
      | (refine wpList_store_row rfl 110 (.tmp 5) (.tmp 124) rfl (b + 2) (Ev.none : Ev).arr rfl rfl EvT Ev.none.arr (HX3.out.r2' ({ c1 with R := upd c1.R 15 (4 * c1.pc % 4294967296), pc := c1.R rc / 4 })) (by kernel_rfl) (by rfl) (by kernel_rfl) ?_))
     refine bodyPost_ret (v := .tuple #[({ c1 with R := upd c1.R 15 (4 * c1.pc % 4294967296), pc := c1.R rc / 4 } : Cp).val, (Ev.none : Ev).val]) (results_two_rows (cs := ({ c1 with R := upd c1.R 15 (4 * c1.pc % 4294967296), pc := c1.R rc / 4 } : Cp).arr) (ds := (Ev.none : Ev).arr) rfl _ _ ?_ ?_ (HX3.out.fin ({ c1 with R := upd c1.R 15 (4 * c1.pc % 4294967296), pc := c1.R rc / 4 }) (Ev.none)).1 (HX3.out.fin ({ c1 with R := upd c1.R 15 (4 * c1.pc % 4294967296), pc := c1.R rc / 4 }) (Ev.none)).2.1 Tryz.underlying42 rfl (by kernel_rfl) Tryz.underlying110 rfl (by kernel_rfl)) rfl ⟨by rw [HR.out] <;> rfl, (HX3.out.fin ({ c1 with R := upd c1.R 15 (4 * c1.pc % 4294967296), pc := c1.R rc / 4 }) (Ev.none)).2.2⟩ <;> rfl
  ·
   rw [hf] at k0
   have hholds := holds_c c1 i.co hco.1 hco.2 W
   have HHo := Go.Lib.hid hholds
   clear hholds
   go_wp2_with (refine wpList_load_row rfl 42 (.tmp 2) rfl b rfl CpT c1.arr (0, 0) _ HX'.out.cp Tryz.underlying42 rfl (by kernel_rfl) ?_)
   refine HHo.out.mono ?_
   rintro e W2 ⟨rfl, hW2⟩
   have HX2 := Go.Lib.hid (HX'.out.quiet (by rw [hW2]; exact (Chg.refl NoB _).alloc _) : StF w b g c1 i W2)
   clear hW2 HHo k21 k0 k2 k3 k4 k5 k8 k9 k10
   obtain ⟨k21, k0, k2, k3, k4, k5, k8, k9, k10⟩ := HX2.out.cells
   rw [hf] at k0
   cases hh : holds c1 i.co
   ·
    have HR := Go.Lib.hid (HR.out.trans (show _ = Value.tuple #[c1.val, Ev.none.val] by unfold insF; simp [hf, hh]))
    go_wp2_with (first
     | (refine wpList_load_row rfl 42 (.tmp 2) rfl b rfl CpT (c1 : Cp).arr (0, 0) _ HX2.out.cp Tryz.underlying42 rfl (by kernel_rfl) ?_)
     | (refine wpList_store_row rfl 42 (.tmp 4) (.tmp 123) rfl (b + 1) (c1 : Cp).arr rfl rfl CpT Cp.zero.arr HX2.out.r1 (by kernel_rfl) (by rfl) (by kernel_rfl) ?_)
     | (refine wpList_store_row rfl 110 (.tmp 5) (.tmp 124) rfl (b + 2) (Ev.none : Ev).arr rfl rfl EvT Ev.none.arr (HX2.out.r2' (c1)) (by kernel_rfl) (by rfl) (by kernel_rfl) ?_))
    refine bodyPost_ret (v := .tuple #[(c1 : Cp).val, (Ev.none : Ev).val]) (results_two_rows (cs := (c1 : Cp).arr) (ds := (Ev.none : Ev).arr) rfl _ _ ?_ ?_ (HX2.out.fin (c1) (Ev.none)).1 (HX2.out.fin (c1) (Ev.none)).2.1 Tryz.underlying42 rfl (by kernel_rfl) Tryz.underlying110 rfl (by kernel_rfl)) rfl ⟨by rw [HR.out] <;> rfl, (HX2.out.fin (c1) (Ev.none)).2.2⟩ <;> rfl
   ·
    by_cases h16 : 16 ≤ i.n
    ·
     have HR := Go.Lib.hid (HR.out.trans (show _ = Value.tuple #[c1.val, (⟨4, 0, false, 0, 0, i.n⟩ : Ev).val] by unfold insF; simp [hf, hh, h16]))
     go_upto_region 10 with fail
     clear k21 k0 k2 k3 k4 k5 k8 k9 k10
     have HX9 := Go.Lib.hid (HX2.out.quiet ((Chg.refl NoB W2).drew))
     refine regionT 6 (fun W' => StS w b g c1 i W') (by kernel_rfl) (by decide) (StF.s (HX2.out.quiet (Chg.refl NoB _).drew)) (fun inv0 hHeld => ?_)
     refine takeT (i := 0) (t := 34) (v := ?v0u4) rfl (by kernel_rfl) (fun _ _ _ h => h) rfl (Or.inl ⟨by rfl, ?h0u4⟩) inv0 hHeld ?r0u4
     case h0u4 => (intro W' hSw; (refine exec_load_row 42 (.tmp 2) ?_ b ?_ hSw.cp Tryz.underlying42 rfl (by kernel_rfl)) <;> rfl)
     intro inv01
     clear inv0
     try simp only [sw1, sw2, sw3]
     refine takeT (i := 1) (t := 35) (v := ?v1u4) rfl (by kernel_rfl) (fun _ _ _ h => h) rfl (Or.inl ⟨by rfl, ?h1u4⟩) inv01 hHeld ?r1u4
     case h1u4 => (intro W' hSw; obtain ⟨k21, k0, k2, k3, k4, k5, k8, k9, k10⟩ := hSw.cells; clear hSw; go_simp; try with_reducible rfl)
     intro inv11
     clear inv01
     try simp only [sw1, sw2, sw3]
     refine takeT (i := 2) (t := 36) (v := ?v2u4) rfl (by kernel_rfl) (fun _ _ _ h => h) rfl (Or.inl ⟨by rfl, ?h2u4⟩) inv11 hHeld ?r2u4
     case h2u4 => (intro W' hSw; obtain ⟨k21, k0, k2, k3, k4, k5, k8, k9, k10⟩ := hSw.cells; clear hSw; go_simp; try with_reducible rfl)
     intro inv21
     clear inv11
     try simp only [sw1, sw2, sw3]
     refine takeT (i := 3) (t := 37) (v := ?v3u4) rfl (by kernel_rfl) (fun _ _ _ h => h) rfl (Or.inl ⟨by rfl, ?h3u4⟩) inv21 hHeld ?r3u4
     case h3u4 => (intro W' hSw; obtain ⟨k21, k0, k2, k3, k4, k5, k8, k9, k10⟩ := hSw.cells; clear hSw; go_simp; try with_reducible rfl)
     intro inv31
     clear inv21
     try simp only [sw1, sw2, sw3]
     refine takeT (i := 4) (t := 38) (v := ?v4u4) rfl (by kernel_rfl) (fun _ _ _ h => h) rfl (Or.inl ⟨by rfl, ?h4u4⟩) inv31 hHeld ?r4u4
     case h4u4 => (intro W' hSw; obtain ⟨k21, k0, k2, k3, k4, k5, k8, k9, k10⟩ := hSw.cells; clear hSw; go_simp; try with_reducible rfl)
     intro inv41
     clear inv31
     try simp only [sw1, sw2, sw3]
     refine storeT (i := 5) (w' := World.setRow W2.drew (b + 1) (c1 : Cp).arr) rfl (by kernel_rfl) rfl (by rfl) ?hx5u4 inv41 (by decide) (hHeld.set _) ?r5u4
     case hx5u4 => (refine exec_store_row 42 (.tmp 4) (.tmp 34) ?_ (b + 1) (c1 : Cp).arr ?_ ?_ HX9.out.r1 (by kernel_rfl) (by rfl) (by kernel_rfl)) <;> rfl
     intro inv51 hHeld5
     clear inv41
     try simp only [sw1, sw2, sw3]
     refine lastT (i := 6) (w' := World.setRow (World.setRow W2.drew (b + 1) (c1 : Cp).arr) (b + 2) (⟨4, 0, false, 0, 0, i.n⟩ : Ev).arr) rfl (by kernel_rfl) rfl (by rfl) ?hx6u4 (by decide) (by kernel_rfl) ?r6u4
     case hx6u4 => (refine exec_store_row 110 (.tmp 5) (.tmp 38) ?_ (b + 2) (⟨4, 0, false, 0, 0, i.n⟩ : Ev).arr ?_ ?_ hHeld5.r2 (by kernel_rfl) (by rfl) (by kernel_rfl)) <;> rfl
     try simp only [sw1, sw2, sw3]
     clear hHeld hHeld5 inv51
     go_wp2_with fail
     refine bodyPost_ret (v := .tuple #[(c1 : Cp).val, (⟨4, 0, false, 0, 0, i.n⟩ : Ev).val]) (results_two_rows (cs := (c1 : Cp).arr) (ds := (⟨4, 0, false, 0, 0, i.n⟩ : Ev).arr) rfl _ _ ?_ ?_ (HX9.out.fin (c1) (⟨4, 0, false, 0, 0, i.n⟩)).1 (HX9.out.fin (c1) (⟨4, 0, false, 0, 0, i.n⟩)).2.1 Tryz.underlying42 rfl (by kernel_rfl) Tryz.underlying110 rfl (by kernel_rfl)) rfl ⟨by rw [HR.out] <;> rfl, (HX9.out.fin (c1) (⟨4, 0, false, 0, 0, i.n⟩)).2.2⟩ <;> rfl
    ·
     have HR := Go.Lib.hid (HR.out.trans (show _ = Value.tuple #[c1.val, (⟨3, 0, false, 0, 0, i.n⟩ : Ev).val] by unfold insF; simp [hf, hh, h16]))
     go_upto_region 10 with fail
     clear k21 k0 k2 k3 k4 k5 k8 k9 k10
     have HX9 := Go.Lib.hid (HX2.out.quiet ((Chg.refl NoB W2).drew))
     refine regionT 6 (fun W' => StS w b g c1 i W') (by kernel_rfl) (by decide) (StF.s (HX2.out.quiet (Chg.refl NoB _).drew)) (fun inv0 hHeld => ?_)
     refine takeT (i := 0) (t := 34) (v := ?v0u5) rfl (by kernel_rfl) (fun _ _ _ h => h) rfl (Or.inl ⟨by rfl, ?h0u5⟩) inv0 hHeld ?r0u5
     case h0u5 => (intro W' hSw; (refine exec_load_row 42 (.tmp 2) ?_ b ?_ hSw.cp Tryz.underlying42 rfl (by kernel_rfl)) <;> rfl)
     intro inv01
     clear inv0
     try simp only [sw1, sw2, sw3]
     refine takeT (i := 1) (t := 35) (v := ?v1u5) rfl (by kernel_rfl) (fun _ _ _ h => h) rfl (Or.inl ⟨by rfl, ?h1u5⟩) inv01 hHeld ?r1u5
     case h1u5 => (intro W' hSw; obtain ⟨k21, k0, k2, k3, k4, k5, k8, k9, k10⟩ := hSw.cells; clear hSw; go_simp; try with_reducible rfl)
     intro inv11
     clear inv01
     try simp only [sw1, sw2, sw3]
     refine takeT (i := 2) (t := 36) (v := ?v2u5) rfl (by kernel_rfl) (fun _ _ _ h => h) rfl (Or.inl ⟨by rfl, ?h2u5⟩) inv11 hHeld ?r2u5
     case h2u5 => (intro W' hSw; obtain ⟨k21, k0, k2, k3, k4, k5, k8, k9, k10⟩ := hSw.cells; clear hSw; go_simp; try with_reducible rfl)
     intro inv21
     clear inv11
     try simp only [sw1, sw2, sw3]
     refine takeT (i := 3) (t := 37) (v := ?v3u5) rfl (by kernel_rfl) (fun _ _ _ h => h) rfl (Or.inl ⟨by rfl, ?h3u5⟩) inv21 hHeld ?r3u5
     case h3u5 => (intro W' hSw; obtain ⟨k21, k0, k2, k3, k4, k5, k8, k9, k10⟩ := hSw.cells; clear hSw; go_simp; try with_reducible rfl)
     intro inv31
     clear inv21
     try simp only [sw1, sw2, sw3]
     refine takeT (i := 4) (t := 38) (v := ?v4u5) rfl (by kernel_rfl) (fun _ _ _ h => h) rfl (Or.inl ⟨by rfl, ?h4u5⟩) inv31 hHeld ?r4u5
     case h4u5 => (intro W' hSw; obtain ⟨k21, k0, k2, k3, k4, k5, k8, k9, k10⟩ := hSw.cells; clear hSw; go_simp; try with_reducible rfl)
     intro inv41
     clear inv31
     try simp only [sw1, sw2, sw3]
     refine storeT (i := 5) (w' := World.setRow W2.drew (b + 1) (c1 : Cp).arr) rfl (by kernel_rfl) rfl (by rfl) ?hx5u5 inv41 (by decide) (hHeld.set _) ?r5u5
     case hx5u5 => (refine exec_store_row 42 (.tmp 4) (.tmp 34) ?_ (b + 1) (c1 : Cp).arr ?_ ?_ HX9.out.r1 (by kernel_rfl) (by rfl) (by kernel_rfl)) <;> rfl
     intro inv51 hHeld5
     clear inv41
     try simp only [sw1, sw2, sw3]
     refine lastT (i := 6) (w' := World.setRow (World.setRow W2.drew (b + 1) (c1 : Cp).arr) (b + 2) (⟨3, 0, false, 0, 0, i.n⟩ : Ev).arr) rfl (by kernel_rfl) rfl (by rfl) ?hx6u5 (by decide) (by kernel_rfl) ?r6u5
     case hx6u5 => (refine exec_store_row 110 (.tmp 5) (.tmp 38) ?_ (b + 2) (⟨3, 0, false, 0, 0, i.n⟩ : Ev).arr ?_ ?_ hHeld5.r2 (by kernel_rfl) (by rfl) (by kernel_rfl)) <;> rfl
     try simp only [sw1, sw2, sw3]
     clear hHeld hHeld5 inv51
     go_wp2_with fail
     refine bodyPost_ret (v := .tuple #[(c1 : Cp).val, (⟨3, 0, false, 0, 0, i.n⟩ : Ev).val]) (results_two_rows (cs := (c1 : Cp).arr) (ds := (⟨3, 0, false, 0, 0, i.n⟩ : Ev).arr) rfl _ _ ?_ ?_ (HX9.out.fin (c1) (⟨3, 0, false, 0, 0, i.n⟩)).1 (HX9.out.fin (c1) (⟨3, 0, false, 0, 0, i.n⟩)).2.1 Tryz.underlying42 rfl (by kernel_rfl) Tryz.underlying110 rfl (by kernel_rfl)) rfl ⟨by rw [HR.out] <;> rfl, (HX9.out.fin (c1) (⟨3, 0, false, 0, 0, i.n⟩)).2.2⟩ <;> rfl
end Go.Proofs.YtggknljlibhkjaaGreat
