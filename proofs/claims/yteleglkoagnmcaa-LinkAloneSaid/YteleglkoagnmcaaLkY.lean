/- What is proved: link.fill fills in a module's fixups, as the plain function says. Conditions: the memory holds the image; the fixups may be. -/
import Derived.Test.YteleglkoagnmcaaLkX
set_option linter.unusedSimpArgs false
set_option linter.unusedVariables false
namespace Go.Proofs.Yteleglkoagnmcaa
open Go Go.RowKit
theorem fillO_app {ps : List Pl} {o : Ob} {own : Pl} : ∀ (l m : List (Int × Int × Int)) (ws : List Nat), fillO ps o own (l ++ m) ws = (fillO ps o own l ws).bind (fillO ps o own m)
  | [], m, ws => rfl
  | f :: l, m, ws => by
    rw [List.cons_append, fillO, fillO]
    cases fixW ps o own ws f with
    | none => rfl
    | some w => exact fillO_app l m w
theorem fillO_snoc {ps : List Pl} {o : Ob} {own : Pl} {l : List (Int × Int × Int)} {k : Nat} {f : Int × Int × Int} {ws w1 w2 : List Nat} (h : fillO ps o own (l.take k) ws = some w1) (hf : l[k]? = some f) (hw : fixW ps o own w1 f = some w2) : fillO ps o own (l.take (k + 1)) ws = some w2 := by
  rw [List.take_add_one, hf, fillO_app, h]
  show fillO ps o own [f] w1 = some w2
  rw [fillO, hw]
  rfl
theorem fillO_stop {ps : List Pl} {o : Ob} {own : Pl} {l : List (Int × Int × Int)} {k : Nat} {f : Int × Int × Int} {ws w1 : List Nat} (h : fillO ps o own (l.take k) ws = some w1) (hf : l[k]? = some f) (hw : fixW ps o own w1 f = none) : fillO ps o own l ws = none := by
  have hlt := (List.getElem?_eq_some_iff.1 hf).1
  have e : l = l.take k ++ f :: l.drop (k + 1) := by
    have h1 : l[k] = f := (List.getElem?_eq_some_iff.1 hf).2
    rw [← h1, ← List.drop_eq_getElem_cons hlt, List.take_append_drop]
  rw [e, fillO_app, h]
  show fillO ps o own (f :: _) w1 = none
  rw [fillO, hw]
  rfl
theorem wrap_small (x : Int) (h0 : 0 ≤ x) (h1 : x ≤ 9223372036854775807) : IntKind.i64.wrap x = x := by rw [IntKind.wrap_i64]; omega
abbrev PIT : TypeId := 126
/-- what a module's fixups must be -/
structure FillOk (o : Ob) (own : Pl) (pa : PA) (n : Nat) (l : List (Pl × PA)) : Prop where
  may : MayP o
  at_ : ∀ f ∈ o.fixs, own.code + f.1.toNat < n ∧ (f.2.2 = 0 → own.code + f.1.toNat + 1 < n)
  tgt : ∀ f ∈ o.fixs, 0 < f.2.1 → ∃ x, o.imps[f.2.1.toNat - 1]? = some x ∧ ∃ y ∈ l, y.1.name = x.1
  own : (own, pa) ∈ l
  dat : ∀ x ∈ l, x.1.data < 4294967296 ∧ ∀ e ∈ x.1.ents, 0 ≤ e ∧ e < 4294967296
  len : n ≤ 1000000000
  llen : l.length ≤ 1000
/-- what holds while fixups are filled in -/
structure FlI (B W0 W : World) (ib b1 b2 b3 g n wc : Nat) (mv : Value) (o : Ob) (a : OA) (own : Pl) (pa : PA) (ws : List Nat) (l : List (Pl × PA)) : Prop where
  im : ImB B W ib (.slice (some ⟨g, 0, none⟩) n wc) mv ws l
  len : ws.length = n
  p1 : Blk W b1 PIT #[.pointer (some ⟨ib, 0, none⟩)]
  p2 : Blk W b2 OT (obArr o a)
  p3 : Blk W b3 PLT (plArr own pa)
  fr : Chg (fun k => k = g) W0 W
section
variable {B W0 W W' : World} {ib b1 b2 b3 g n wc : Nat} {mv : Value} {o : Ob} {a : OA} {own : Pl} {pa : PA} {ws : List Nat} {l : List (Pl × PA)}
theorem FlI.quiet (h : FlI B W0 W ib b1 b2 b3 g n wc mv o a own pa ws l) (hc : Chg NoB W W') : FlI B W0 W' ib b1 b2 b3 g n wc mv o a own pa ws l :=
  ⟨h.im.quiet hc, h.len, h.p1.chg hc id, h.p2.chg hc id, h.p3.chg hc id, h.fr.trans (hc.mono fun _ _ h => h.elim)⟩
theorem ImB.setWord' (h : ImB B W ib (.slice (some ⟨g, 0, none⟩) n wc) mv ws l) (hn : ws.length = n) {i v : Nat} (hi : i < n) (hv : v < 4294967296) : ImB B (W.drew.setCell ⟨g, i, none⟩ (.int .u32 (v : Int))) ib (.slice (some ⟨g, 0, none⟩) n wc) mv (ws.set i v) l := by
  subst hn
  exact h.setWord hi hv
theorem ImB.far' (h : ImB B W ib (.slice (some ⟨g, 0, none⟩) n wc) mv ws l) (hn : ws.length = n) {b : Nat} {t : TypeId} {cs : Array Value} (hb : Blk W b t cs) (ht : U32T ≠ t) (i : Nat) (v : Value) : Blk (W.drew.setCell ⟨g, i, none⟩ v) b t cs := by
  subst hn
  exact h.far hb ht i v
theorem FlI.set (h : FlI B W0 W ib b1 b2 b3 g n wc mv o a own pa ws l) {i v : Nat} (hi : i < n) (hv : v < 4294967296) : FlI B W0 (W.drew.setCell ⟨g, i, none⟩ (.int .u32 (v : Int))) ib b1 b2 b3 g n wc mv o a own pa (ws.set i v) l :=
  ⟨h.im.setWord' h.len hi hv, by rw [List.length_set]; exact h.len, h.im.far' h.len h.p1 (by decide) _ _, h.im.far' h.len h.p2 (by decide) _ _, h.im.far' h.len h.p3 (by decide) _ _, (h.fr.drew).setCell (p := ⟨g, i, none⟩) (fun _ => rfl) _⟩
theorem FlI.word (h : FlI B W0 W ib b1 b2 b3 g n wc mv o a own pa ws l) {i w : Nat} (hi : ws[i]? = some w) : W.cell? ⟨g, i, none⟩ = some (.int .u32 (w : Int)) ∧ W.frozen? ⟨g, i, none⟩ = false := by
  have hl := h.len
  have him := h.im
  subst hl
  exact him.word hi
def FillPost (B W : World) (ib g n wc : Nat) (mv : Value) (o : Ob) (own : Pl) (ws : List Nat) (l : List (Pl × PA)) (e : Ending) (w' : World) : Prop :=
  ∃ ws', ImB B w' ib (.slice (some ⟨g, 0, none⟩) n wc) mv ws' l ∧ ws'.length = n ∧ Chg (fun k => k = g) W w' ∧ (fillO (l.map (·.1)) o own o.fixs ws = some ws' ∧ e = .returned (.bool true) ∨ fillO (l.map (·.1)) o own o.fixs ws = none ∧ e = .returned (.bool false))
theorem set16_q {pb at_ wl w d : Nat} (hp : W.cell? ⟨pb, 0, none⟩ = some (.pointer (some ⟨ib, 0, none⟩))) (hi : W.cell? ⟨ib, 0, none⟩ = some (.slice (some ⟨g, 0, none⟩) wl wc)) (hg : W.cell? ⟨g, at_, none⟩ = some (.int .u32 w)) (hf : W.frozen? ⟨g, at_, none⟩ = false) (hlt : at_ < wl) (hw : w < 4294967296) (hn : d < 4294967296) :
    Calls Try.prog 85 #[.int .i64 at_, .int .u32 65535, .int .u32 ((d : Int) / 65536), .pointer (some ⟨pb, 0, none⟩)] W fun e w' => e = .returned (.tuple #[]) ∧ w' = W.drew.setCell ⟨g, at_, none⟩ (.int .u32 ((w / 65536 * 65536 + d / 65536 % 65536 : Nat) : Int)) := by
  have h := set16_c (mv := .int .i64 0) hp hi hg hf hlt hw (n := d / 65536) (by omega)
  rw [show (((d / 65536 : Nat)) : Int) = (d : Int) / 65536 by omega] at h
  exact h
theorem set24_q {pb at_ wl w : Nat} {x : Int} (hp : W.cell? ⟨pb, 0, none⟩ = some (.pointer (some ⟨ib, 0, none⟩))) (hi : W.cell? ⟨ib, 0, none⟩ = some (.slice (some ⟨g, 0, none⟩) wl wc)) (hg : W.cell? ⟨g, at_, none⟩ = some (.int .u32 w)) (hf : W.frozen? ⟨g, at_, none⟩ = false) (hlt : at_ < wl) (hw : w < 4294967296) :
    Calls Try.prog 85 #[.int .i64 at_, .int .u32 16777215, .int .u32 (x % 4294967296), .pointer (some ⟨pb, 0, none⟩)] W fun e w' => e = .returned (.tuple #[]) ∧ w' = W.drew.setCell ⟨g, at_, none⟩ (.int .u32 ((w / 16777216 * 16777216 + (x % 4294967296).toNat % 16777216 : Nat) : Int)) := by
  have h := set24_c (mv := .int .i64 0) hp hi hg hf hlt hw (n := (x % 4294967296).toNat) (by omega)
  rw [show (((x % 4294967296).toNat : Nat) : Int) = x % 4294967296 by omega] at h
  exact h
set_option maxRecDepth 100000 in
set_option maxHeartbeats 32000000 in
theorem fill_c (him : ImB B W ib (.slice (some ⟨g, 0, none⟩) ws.length wc) mv ws l) (hob : ObIs B o a) (hown : EntAt W own pa) (hok : FillOk o own pa ws.length l) :
    Calls Try.prog 64 #[.pointer (some ⟨ib, 0, none⟩), obVal o a, .agg (plArr own pa)] W (FillPost B W ib g ws.length wc mv o own ws l) := by
  obtain ⟨n, hn⟩ : ∃ n, ws.length = n := ⟨_, rfl⟩
  rw [hn] at him hok ⊢
  obtain ⟨wA, hwA⟩ : ∃ wA, ((W.alloc (.cells #[.pointer (some ⟨ib, 0, none⟩)] PIT)).alloc (.cells (obArr o a) OT)).alloc (.cells (plArr own pa) PLT) = wA := ⟨_, rfl⟩
  have hcA : Chg NoB W wA := by rw [← hwA]; exact (((Chg.refl NoB W).alloc _).alloc _).alloc _
  have hFl : FlI B W wA ib W.heap.size (W.heap.size + 1) (W.heap.size + 1 + 1) g n wc mv o a own pa ws l := by
    refine ⟨him.quiet hcA, hn, ?_, ?_, ?_, hcA.mono fun _ _ h => h.elim⟩
    · rw [← hwA]
      exact ((Blk.new W PIT _).alloc _).alloc _
    · rw [← hwA]
      have := (Blk.new (W.alloc (.cells #[.pointer (some ⟨ib, 0, none⟩)] PIT)) OT (obArr o a)).alloc (.cells (plArr own pa) PLT)
      rwa [size_al] at this
    · rw [← hwA]
      have := Blk.new ((W.alloc (.cells #[.pointer (some ⟨ib, 0, none⟩)] PIT)).alloc (.cells (obArr o a) OT)) PLT (plArr own pa)
      rwa [size_al, size_al] at this
  have HFl := Go.Lib.hid hFl
  have HOK := Go.Lib.hid hok
  have HOB := Go.Lib.hid hob
  have HOWN : Hid (∀ W', Chg NoB W W' → EntAt W' own pa) := Go.Lib.hid fun W' hc => hown.quiet hc
  have HWA := Go.Lib.hid hwA
  have HOWA : Hid (∀ W', Chg NoB wA W' → EntAt W' own pa) := Go.Lib.hid fun W' hc => hown.quiet (hcA.trans hc)
  have hnl := hok.len
  obtain ⟨fl, hfl⟩ : ∃ k, o.fixs.length = k := ⟨_, rfl⟩
  have hflb : fl ≤ 8192 := by rw [← hfl]; exact hok.may.fl
  have HFLN := Go.Lib.hid hfl
  have c7 : wA.cell? ⟨W.heap.size + 1, 7, none⟩ = some (.slice a.fA fl a.fc) := by rw [← hfl]; exact hFl.p2.cell 7
  unfold obVal
  clear him hok hob hown hwA hcA hFl hn
  have HC7 := Go.Lib.hid c7
  clear c7 hfl
  unfold obArr plArr at HWA ⊢
  go_enter Try.func64, Try.ntmps64
  go_upto_region 1 with fail
  rw [HWA.out]
  clear HWA
  generalize (Value.agg #[Value.string o.name, Value.int IntKind.u32 o.key, Value.slice a.iA o.imps.length a.ic, Value.int IntKind.i64 o.vars, Value.slice a.tA o.text.length a.tc, Value.slice a.cA o.code.length a.cc, Value.slice a.eA o.ents.length a.ec, Value.slice a.fA o.fixs.length a.fc]) = V1
  generalize (Value.agg #[Value.string own.name, Value.int IntKind.u32 own.key, Value.int IntKind.i64 own.code, Value.int IntKind.i64 own.data, Value.slice pa.1 own.ents.length pa.2]) = V2
  generalize W.heap.size + 1 + 1 = b3 at *
  generalize W.heap.size + 1 = b2 at *
  generalize W.heap.size = b1 at *
  generalize hfA : a.fA = fA at *
  generalize hfc : a.fc = fc at *
  have HFA := Go.Lib.hid hfA
  clear hfA hfc
  have c7 := HC7.out
  have HOW : Hid (∀ W', Chg NoB wA W' → EntAt W' own pa) := HOWA
  go_wp2_with fail
  clear c7 HC7
  go_loopw [15, 8, 9, 10, 11] (fun v15 v8 v9 v10 v11 wr => ∃ (k : Nat) (ws1 : List Nat), k ≤ fl ∧ v15 = .int .i64 k ∧ fillO (l.map (·.1)) o own (o.fixs.take k) ws = some ws1 ∧ FlI B W wr ib b1 b2 b3 g n wc mv o a own pa ws1 l) (fun v15 _ _ _ _ _ => fl - (intOf v15).toNat)
  case atStart => exact ⟨0, ws, Nat.zero_le _, rfl, rfl, HFl.out⟩
  case round =>
    obtain ⟨k, ws1, hk, rfl, hfo, hfi⟩ := hrel
    have HFO := Go.Lib.hid hfo
    have HFI := Go.Lib.hid hfi
    clear hfo hfi
    by_cases hlt : k < fl
    · obtain ⟨f, hf⟩ : ∃ f, o.fixs[k]? = some f := ⟨_, List.getElem?_eq_getElem (by rw [HFLN.out]; exact hlt)⟩
      have hfm := List.mem_of_getElem? hf
      have hfp := HOK.out.may.fx k f hf
      obtain ⟨fa, hfa⟩ : ∃ x : Nat, f.1 = x := ⟨f.1.toNat, by have := hfp.a0; omega⟩
      obtain ⟨fm, hfmm⟩ : ∃ x : Nat, f.2.1 = x := ⟨f.2.1.toNat, by have := hfp.m1; have := hfp.e0; omega⟩
      obtain ⟨fe, hfe⟩ : ∃ x : Nat, f.2.2 = x := ⟨f.2.2.toNat, by have := hfp.e0; omega⟩
      obtain ⟨p, q, hA, hy⟩ := HOB.out.fix (by rw [HFLN.out]; omega)
      rw [HFA.out] at hA
      subst hA
      have HY := Go.Lib.hid (hy k f hf)
      obtain ⟨y0, y1, y2⟩ := HY.out wr HFI.out.im.chg
      have HAT := Go.Lib.hid (HOK.out.at_ f hfm)
      have HTO := Go.Lib.hid (HOK.out.tgt f hfm)
      have HF := Go.Lib.hid hf
      have HFN := Go.Lib.hid (And.intro hfa (And.intro hfmm hfe))
      rw [hfa] at y0
      rw [hfmm] at y1
      rw [hfe] at y2
      have q0 : ∀ ob, (wr.alloc ob).cell? ⟨b3, 0, none⟩ = some (.string own.name) := fun ob => keepQ ((Chg.refl NoB wr).alloc ob) (HFI.out.p3.cell 0)
      have q1 : ∀ ob, (wr.alloc ob).cell? ⟨b3, 1, none⟩ = some (.int .u32 own.key) := fun ob => keepQ ((Chg.refl NoB wr).alloc ob) (HFI.out.p3.cell 1)
      have q2 : ∀ ob, (wr.alloc ob).cell? ⟨b3, 2, none⟩ = some (.int .i64 own.code) := fun ob => keepQ ((Chg.refl NoB wr).alloc ob) (HFI.out.p3.cell 2)
      have q3 : ∀ ob, (wr.alloc ob).cell? ⟨b3, 3, none⟩ = some (.int .i64 own.data) := fun ob => keepQ ((Chg.refl NoB wr).alloc ob) (HFI.out.p3.cell 3)
      have q4 : ∀ ob, (wr.alloc ob).cell? ⟨b3, 4, none⟩ = some (.slice pa.1 own.ents.length pa.2) := fun ob => keepQ ((Chg.refl NoB wr).alloc ob) (HFI.out.p3.cell 4)
      clear hf hfm hfp hfa hfmm hfe hy
      go_upto_region 5 with fail
      clear y0 y1 y2 q0 q1 q2 q3 q4
      obtain ⟨w2, hw2⟩ : ∃ w2, (wr.alloc (.cells #[.int .i64 fa, .int .i64 fm, .int .i64 fe] FT)).alloc (.cells #[.string own.name, .int .u32 own.key, .int .i64 own.code, .int .i64 own.data, .slice pa.1 own.ents.length pa.2] PLT) = w2 := ⟨_, rfl⟩
      have HC2 : Hid (Chg NoB wr w2) := Go.Lib.hid (by rw [← hw2]; exact ((Chg.refl NoB wr).alloc _).alloc _)
      have HB8 : Hid (Blk w2 wr.heap.size FT #[.int .i64 fa, .int .i64 fm, .int .i64 fe]) := Go.Lib.hid (by rw [← hw2]; exact (Blk.new wr FT _).alloc _)
      have HB9 : Hid (Blk w2 (wr.heap.size + 1) PLT (plArr own pa)) := Go.Lib.hid (by
        rw [← hw2]
        have := Blk.new (wr.alloc (.cells #[.int .i64 fa, .int .i64 fm, .int .i64 fe] FT)) PLT (plArr own pa)
        rwa [size_al] at this)
      have HLO : Hid (wr.heap.size ≤ wr.heap.size ∧ wr.heap.size ≤ wr.heap.size + 1 ∧ wr.heap.size ≠ wr.heap.size + 1) := Go.Lib.hid ⟨by omega, by omega, by omega⟩
      rw [hw2]
      clear hw2
      obtain ⟨b8, h8⟩ : ∃ b, wr.heap.size = b := ⟨_, rfl⟩
      obtain ⟨b9, h9⟩ : ∃ b, wr.heap.size + 1 = b := ⟨_, rfl⟩
      have HLO : Hid (wr.heap.size ≤ b8 ∧ wr.heap.size ≤ b9 ∧ b8 ≠ b9) := Go.Lib.hid (by omega)
      rw [h9] at HB9 ⊢
      rw [h8] at HB8 ⊢
      clear h8 h9
      by_cases hm : 0 < fm
      · obtain ⟨fj, hfj⟩ : ∃ j, fm = j + 1 := ⟨fm - 1, by omega⟩
        have hfi := HFI.out
        obtain ⟨x, hx1, y', hy1, hy2⟩ := HTO.out (by have := HFN.out.2.1; omega)
        obtain ⟨nm, hnm⟩ : ∃ s, x.1 = s := ⟨_, rfl⟩
        have HTN : Hid (∃ y ∈ l, y.1.name = nm) := Go.Lib.hid ⟨y', hy1, by rw [← hnm]; exact hy2⟩
        have hl0 : 0 < l.length := List.length_pos_of_mem hy1
        obtain ⟨gm, mc, hmv, hmd⟩ := hfi.im.mod hl0
        subst hmv
        obtain ⟨ln, hln⟩ : ∃ k, l.length = k := ⟨_, rfl⟩
        have hlnb : ln ≤ 1000 := by rw [← hln]; exact HOK.out.llen
        have HMD : Hid (∀ (i : Nat) (x : Pl × PA), l[i]? = some x → ∀ V', Chg NoB w2 V' → V'.cell? ⟨gm, i * 5, none⟩ = some (.string x.1.name) ∧ V'.cell? ⟨gm, i * 5 + 1, none⟩ = some (.int .u32 x.1.key) ∧ V'.cell? ⟨gm, i * 5 + 2, none⟩ = some (.int .i64 x.1.code) ∧ V'.cell? ⟨gm, i * 5 + 3, none⟩ = some (.int .i64 x.1.data) ∧ V'.cell? ⟨gm, i * 5 + 4, none⟩ = some (.slice x.2.1 x.1.ents.length x.2.2)) := Go.Lib.hid fun i x hx V' hV => hmd i x hx V' (HC2.out.trans hV)
        have hfd : ∀ V', Chg NoB w2 V' → Calls Try.prog 84 #[.slice (some ⟨gm, 0, none⟩) ln mc, .string nm] V' (IdxPost (fun x => decide (x.1.name = nm)) l V') := fun V' hV => by
          rw [← hln]
          exact findPl_c (own_cells_ (hfi.im.quiet (HC2.out.trans hV)).mods) (by omega)
        have HFD := Go.Lib.hid hfd
        have hjlt : fj < o.imps.length := by
          have h1 := (List.getElem?_eq_some_iff.1 hx1).1
          have := HFN.out.2.1
          omega
        obtain ⟨ip, iq, hiA, hic⟩ := HOB.out.imp (by omega)
        have hx2 : o.imps[fj]? = some x := by
          have : f.2.1.toNat - 1 = fj := by have := HFN.out.2.1; omega
          rw [← this]
          exact hx1
        obtain ⟨il, hil⟩ : ∃ k, o.imps.length = k := ⟨_, rfl⟩
        obtain ⟨ic, hicc⟩ : ∃ k, a.ic = k := ⟨_, rfl⟩
        have hjl : (fj : Int) < (il : Int) := by omega
        have hilb : il ≤ 9223372036854775807 := by have h1 := HOB.out.icap; unfold maxLen at h1; omega
        have HCL : Hid (∀ V', Chg NoB w2 V' → V'.cell? ⟨b1, 0, none⟩ = some (.pointer (some ⟨ib, 0, none⟩)) ∧ V'.cell? ⟨ib, 1, none⟩ = some (.slice (some ⟨gm, 0, none⟩) ln mc) ∧ V'.cell? ⟨b2, 2, none⟩ = some (.slice (some ⟨ip, iq, none⟩) il ic) ∧ V'.cell? ⟨b8, 1, none⟩ = some (.int .i64 ((fj : Int) + 1)) ∧ V'.cell? ⟨ip, iq + fj * 2, none⟩ = some (.string nm)) := Go.Lib.hid fun V' hV => by
          refine ⟨keepQ (HC2.out.trans hV) (hfi.p1.cell 0), ?_, ?_, ?_, ?_⟩
          · rw [← hln]
            exact keepQ (HC2.out.trans hV) (hfi.im.box.cell 1)
          · rw [← hil, ← hicc, ← hiA]
            exact keepQ (HC2.out.trans hV) (hfi.p2.cell 2)
          · have := keepQ hV (HB8.out.cell 1)
            rw [this, hfj]
            show some (Value.int .i64 ((fj + 1 : Nat) : Int)) = _
            rw [show ((fj + 1 : Nat) : Int) = (fj : Int) + 1 by omega]
          · rw [← hnm]
            exact (hic fj x hx2 V' ((hfi.im.chg.trans HC2.out).trans hV)).1
        have HLN := Go.Lib.hid hln
        have HX2 := Go.Lib.hid (And.intro hx1 hnm)
        have z1 : w2.cell? ⟨b8, 1, none⟩ = some (.int .i64 ((fj : Int) + 1)) := (HCL.out w2 (Chg.refl _ _)).2.2.2.1
        clear hfi hx1 hy1 hy2 hnm hl0 hmd hln hfd hjlt hiA hic hx2 hil hicc
        go_wp2_with fail
        clear z1
        refine regionT 19 (fun V' => Chg NoB w2 V') (by kernel_rfl) (by decide) ((Chg.refl NoB w2).drew) (fun inv hHeld => ?_)
        refine tkT 0 23 ?v1501 inv hHeld ?h1501 ?_
        case h1501 => (intro V' hSw; have e0 := HCL.out V' hSw; obtain ⟨e1, e2, e3, e4, e5⟩ := e0; go_simp; try with_reducible rfl)
        clear inv; intro inv; try simp only [sw1, sw2, sw3]
        refine tkT 1 24 ?v1502 inv hHeld ?h1502 ?_
        case h1502 => (intro V' hSw; have e0 := HCL.out V' hSw; obtain ⟨e1, e2, e3, e4, e5⟩ := e0; go_simp; try with_reducible rfl)
        clear inv; intro inv; try simp only [sw1, sw2, sw3]
        refine tkT 2 25 ?v1503 inv hHeld ?h1503 ?_
        case h1503 => (intro V' hSw; have e0 := HCL.out V' hSw; obtain ⟨e1, e2, e3, e4, e5⟩ := e0; go_simp; try with_reducible rfl)
        clear inv; intro inv; try simp only [sw1, sw2, sw3]
        refine tkT 3 26 ?v1504 inv hHeld ?h1504 ?_
        case h1504 => (intro V' hSw; have e0 := HCL.out V' hSw; obtain ⟨e1, e2, e3, e4, e5⟩ := e0; go_simp; try with_reducible rfl)
        clear inv; intro inv; try simp only [sw1, sw2, sw3]
        refine tkT 4 27 ?v1505 inv hHeld ?h1505 ?_
        case h1505 => (intro V' hSw; have e0 := HCL.out V' hSw; obtain ⟨e1, e2, e3, e4, e5⟩ := e0; go_simp; try with_reducible rfl)
        clear inv; intro inv; try simp only [sw1, sw2, sw3]
        refine tkT 5 28 ?v1506 inv hHeld ?h1506 ?_
        case h1506 => (intro V' hSw; have e0 := HCL.out V' hSw; obtain ⟨e1, e2, e3, e4, e5⟩ := e0; go_simp; try with_reducible rfl)
        clear inv; intro inv; try simp only [sw1, sw2, sw3]
        refine tkT 6 29 ?v1507 inv hHeld ?h1507 ?_
        case h1507 => (intro V' hSw; have e0 := HCL.out V' hSw; obtain ⟨e1, e2, e3, e4, e5⟩ := e0; go_simp; try with_reducible rfl)
        clear inv; intro inv; try simp only [sw1, sw2, sw3]
        refine tkT 7 30 ?v1508 inv hHeld ?h1508 ?_
        case h1508 => (intro V' hSw; have e0 := HCL.out V' hSw; obtain ⟨e1, e2, e3, e4, e5⟩ := e0; go_simp; try with_reducible rfl)
        clear inv; intro inv; try simp only [sw1, sw2, sw3]
        refine tkT 8 31 ?v1509 inv hHeld ?h1509 ?_
        case h1509 => (intro V' hSw; have e0 := HCL.out V' hSw; obtain ⟨e1, e2, e3, e4, e5⟩ := e0; go_simp; try with_reducible rfl)
        clear inv; intro inv; try simp only [sw1, sw2, sw3]
        refine tkT 9 32 ?v1510 inv hHeld ?h1510 ?_
        case h1510 => (intro V' hSw; have e0 := HCL.out V' hSw; obtain ⟨e1, e2, e3, e4, e5⟩ := e0; go_simp; try with_reducible rfl)
        clear inv; intro inv; try simp only [sw1, sw2, sw3]
        refine tkT 10 33 ?v1511 inv hHeld ?h1511 ?_
        case h1511 => (intro V' hSw; have e0 := HCL.out V' hSw; obtain ⟨e1, e2, e3, e4, e5⟩ := e0; go_simp; try with_reducible rfl)
        clear inv; intro inv; try simp only [sw1, sw2, sw3]
        refine tkT 11 34 (.int .i64 ((fj : Int) + 1)) inv hHeld ?h1512 ?_
        case h1512 => (intro V' hSw; have e0 := HCL.out V' hSw; obtain ⟨e1, e2, e3, e4, e5⟩ := e0; go_simp; try with_reducible rfl)
        clear inv; intro inv; try simp only [sw1, sw2, sw3]
        refine tkT 12 35 (.int .i64 (fj : Int)) inv hHeld ?h1513 ?_
        case h1513 => (intro V' hSw; clear hSw; go_simp; first | done | go_num | exact wrap_small _ (by omega) (by omega))
        clear inv; intro inv; try simp only [sw1, sw2, sw3]
        refine tkT 13 36 ?v1514 inv hHeld ?h1514 ?_
        case h1514 => (intro V' hSw; have e0 := HCL.out V' hSw; obtain ⟨e1, e2, e3, e4, e5⟩ := e0; go_simp; try with_reducible rfl)
        clear inv; intro inv; try simp only [sw1, sw2, sw3]
        refine tkT 14 37 ?v1515 inv hHeld ?h1515 ?_
        case h1515 => (intro V' hSw; have e0 := HCL.out V' hSw; obtain ⟨e1, e2, e3, e4, e5⟩ := e0; go_simp; try with_reducible rfl)
        clear inv; intro inv; try simp only [sw1, sw2, sw3]
        refine tkT 15 38 ?v1516 inv hHeld ?h1516 ?_
        case h1516 => (intro V' hSw; have e0 := HCL.out V' hSw; obtain ⟨e1, e2, e3, e4, e5⟩ := e0; go_simp; try with_reducible rfl)
        clear inv; intro inv; try simp only [sw1, sw2, sw3]
        refine callT (i := 16) (t := 39) (f := 84) (args := #[.slice (some ⟨gm, 0, none⟩) ln mc, .string nm]) rfl (by kernel_rfl) rfl (by rfl) ?hx17 inv (by decide) ?hc17
        case hx17 => (go_simp; try rfl)
        case hc17 =>
          refine (HFD.out _ hHeld).mono ?_
          rintro e wF ⟨hcF, hpost⟩
          have HCF := Go.Lib.hid (hHeld.trans hcF)
          have hex : ∃ (i : Nat) (y : Pl × PA), l[i]? = some y ∧ decide (y.1.name = nm) = true ∧ (∀ (j : Nat) y', j < i → l[j]? = some y' → decide (y'.1.name = nm) = false) ∧ e = .returned (.int .i64 i) := by
            rcases hpost with ⟨i, y, h1, h2, h3, h4⟩ | ⟨h1, _⟩
            · exact ⟨i, y, h1, h2, h3, h4⟩
            · obtain ⟨y, hy, hyn⟩ := HTN.out
              have h3 : decide (y.1.name = nm) = false := h1 y hy
              rw [hyn] at h3
              simp at h3
          obtain ⟨i, y, hi1, hi2, hi3, rfl⟩ := hex
          have HIY := Go.Lib.hid hi1
          have HQF := Go.Lib.hid (findPl_first hi1 hi2 hi3)
          have HIL : Hid ((i : Int) < (ln : Int)) := Go.Lib.hid (by have := (List.getElem?_eq_some_iff.1 hi1).1; have := HLN.out; omega)
          have HMY := Go.Lib.hid (HMD.out i y hi1)
          clear hi1 hi2 hi3 hpost
          refine ⟨_, rfl, HCF.out, fun inv hHeld => ?_⟩
          try simp only [sw1, sw2, sw3]
          refine tkT 17 40 ?v1517 inv hHeld ?h1517 ?_
          case h1517 => (intro V' hSw; have e0 := HCL.out V' hSw; obtain ⟨e1, e2, e3, e4, e5⟩ := e0; obtain ⟨m0, m1, m2, m3, m4⟩ := HMY.out V' hSw; have hil := HIL.out; go_simp; try with_reducible rfl)
          clear inv; intro inv; try simp only [sw1, sw2, sw3]
          refine tkT 18 41 ?v1518 inv hHeld ?h1518 ?_
          case h1518 => (intro V' hSw; have e0 := HCL.out V' hSw; obtain ⟨e1, e2, e3, e4, e5⟩ := e0; obtain ⟨m0, m1, m2, m3, m4⟩ := HMY.out V' hSw; have hil := HIL.out; go_simp; try with_reducible rfl)
          clear inv; intro inv; try simp only [sw1, sw2, sw3]
          refine lastT (i := 19) (w' := (((((wF).setCell ⟨b9, 0, none⟩ (.string y.1.name)).setCell ⟨b9, 1, none⟩ (.int .u32 y.1.key)).setCell ⟨b9, 2, none⟩ (.int .i64 y.1.code)).setCell ⟨b9, 3, none⟩ (.int .i64 y.1.data)).setCell ⟨b9, 4, none⟩ (.slice y.2.1 y.1.ents.length y.2.2)) rfl (by kernel_rfl) rfl (by rfl) ?hx20 (by decide) (by kernel_rfl) ?_
          case hx20 => (have n0 : wF.cell? ⟨b9, 0, none⟩ = some (.string own.name) := keepQ HCF.out (HB9.out.cell 0); have nf0 : wF.frozen? ⟨b9, 0, none⟩ = false := (HB9.out.chg HCF.out id).frozen 0; have n1 : wF.cell? ⟨b9, 1, none⟩ = some (.int .u32 own.key) := keepQ HCF.out (HB9.out.cell 1); have nf1 : wF.frozen? ⟨b9, 1, none⟩ = false := (HB9.out.chg HCF.out id).frozen 1; have n2 : wF.cell? ⟨b9, 2, none⟩ = some (.int .i64 own.code) := keepQ HCF.out (HB9.out.cell 2); have nf2 : wF.frozen? ⟨b9, 2, none⟩ = false := (HB9.out.chg HCF.out id).frozen 2; have n3 : wF.cell? ⟨b9, 3, none⟩ = some (.int .i64 own.data) := keepQ HCF.out (HB9.out.cell 3); have nf3 : wF.frozen? ⟨b9, 3, none⟩ = false := (HB9.out.chg HCF.out id).frozen 3; have n4 : wF.cell? ⟨b9, 4, none⟩ = some (.slice pa.1 own.ents.length pa.2) := keepQ HCF.out (HB9.out.cell 4); have nf4 : wF.frozen? ⟨b9, 4, none⟩ = false := (HB9.out.chg HCF.out id).frozen 4; go_simp; try with_reducible rfl)
          have HB93 : Hid (Blk ((((((wF).setCell ⟨b9, 0, none⟩ (.string y.1.name)).setCell ⟨b9, 1, none⟩ (.int .u32 y.1.key)).setCell ⟨b9, 2, none⟩ (.int .i64 y.1.code)).setCell ⟨b9, 3, none⟩ (.int .i64 y.1.data)).setCell ⟨b9, 4, none⟩ (.slice y.2.1 y.1.ents.length y.2.2)) b9 PLT (plArr y.1 y.2)) := Go.Lib.hid ((((((HB9.out.chg HCF.out id).set_ 0 (.string y.1.name)).set_ 1 (.int .u32 y.1.key)).set_ 2 (.int .i64 y.1.code)).set_ 3 (.int .i64 y.1.data)).set_ 4 (.slice y.2.1 y.1.ents.length y.2.2))
          have hcc : Chg NoB wr ((((((wF).setCell ⟨b9, 0, none⟩ (.string y.1.name)).setCell ⟨b9, 1, none⟩ (.int .u32 y.1.key)).setCell ⟨b9, 2, none⟩ (.int .i64 y.1.code)).setCell ⟨b9, 3, none⟩ (.int .i64 y.1.data)).setCell ⟨b9, 4, none⟩ (.slice y.2.1 y.1.ents.length y.2.2)) := by
            have h0 : Chg NoB wr wF := HC2.out.trans HCF.out
            have hb9 : ¬ b9 < wr.heap.size := by have := HLO.out.2.1; omega
            exact (((((h0.setCell (p := ⟨b9, 0, none⟩) (fun h => absurd h hb9) _).setCell (p := ⟨b9, 1, none⟩) (fun h => absurd h hb9) _).setCell (p := ⟨b9, 2, none⟩) (fun h => absurd h hb9) _).setCell (p := ⟨b9, 3, none⟩) (fun h => absurd h hb9) _).setCell (p := ⟨b9, 4, none⟩) (fun h => absurd h hb9) _)
          have hb8 : Blk ((((((wF).setCell ⟨b9, 0, none⟩ (.string y.1.name)).setCell ⟨b9, 1, none⟩ (.int .u32 y.1.key)).setCell ⟨b9, 2, none⟩ (.int .i64 y.1.code)).setCell ⟨b9, 3, none⟩ (.int .i64 y.1.data)).setCell ⟨b9, 4, none⟩ (.slice y.2.1 y.1.ents.length y.2.2)) b8 FT #[.int .i64 fa, .int .i64 fm, .int .i64 fe] := by
            have h0 := HB8.out.chg HCF.out id
            have hne := HLO.out.2.2
            exact (((((h0.far (p := ⟨b9, 0, none⟩) hne _).far (p := ⟨b9, 1, none⟩) hne _).far (p := ⟨b9, 2, none⟩) hne _).far (p := ⟨b9, 3, none⟩) hne _).far (p := ⟨b9, 4, none⟩) hne _)
          have HC3 := Go.Lib.hid hcc
          have HB8 := Go.Lib.hid hb8
          clear hcc hb8 inv
          generalize (((((wF).setCell ⟨b9, 0, none⟩ (.string y.1.name)).setCell ⟨b9, 1, none⟩ (.int .u32 y.1.key)).setCell ⟨b9, 2, none⟩ (.int .i64 y.1.code)).setCell ⟨b9, 3, none⟩ (.int .i64 y.1.data)).setCell ⟨b9, 4, none⟩ (.slice y.2.1 y.1.ents.length y.2.2) = w3 at *
          obtain ⟨qq, qa⟩ := y
          have HB9 : Hid (Blk w3 b9 PLT (plArr qq qa)) := HB93
          have HQL : Hid ((qq, qa) ∈ l) := Go.Lib.hid (List.mem_of_getElem? HIY.out)
          have HQT : Hid (fixTo (l.map (·.1)) o own f = qq) := Go.Lib.hid (by
            unfold fixTo
            rw [if_pos (by have := HFN.out.2.1; omega), HX2.out.1, Option.bind_some, HX2.out.2, HQF.out]
            rfl)
          clear HB93
          go_upto_region 7 with fail
          have HFI3 := Go.Lib.hid (HFI.out.quiet HC3.out)
          obtain ⟨oc, hoc⟩ : ∃ x, own.code = x := ⟨_, rfl⟩
          obtain ⟨t, ht⟩ : ∃ t, oc + fa = t := ⟨_, rfl⟩
          have HT : Hid (own.code + f.1.toNat = t) := Go.Lib.hid (by have := HFN.out.1; omega)
          have htn : t < n := by have := HAT.out.1; have := HT.out; omega
          have hat : (oc : Int) + (fa : Int) = (t : Int) := by omega
          have z0 : w3.cell? ⟨b8, 0, none⟩ = some (.int .i64 fa) := HB8.out.cell 0
          have z2 : w3.cell? ⟨b8, 2, none⟩ = some (.int .i64 fe) := HB8.out.cell 2
          have x2 : w3.cell? ⟨b3, 2, none⟩ = some (.int .i64 oc) := by rw [← hoc]; exact HFI3.out.p3.cell 2
          obtain ⟨d, hd⟩ : ∃ x, qq.data = x := ⟨_, rfl⟩
          have v3 : w3.cell? ⟨b9, 3, none⟩ = some (.int .i64 d) := by rw [← hd]; exact HB9.out.cell 3
          have hdb : d < 4294967296 := by rw [← hd]; exact (HOK.out.dat _ HQL.out).1
          obtain ⟨en, hen⟩ : ∃ x, qq.ents.length = x := ⟨_, rfl⟩
          obtain ⟨eA, heA⟩ : ∃ x, qa.1 = x := ⟨_, rfl⟩
          obtain ⟨ec, hec⟩ : ∃ x, qa.2 = x := ⟨_, rfl⟩
          have v4 : w3.cell? ⟨b9, 4, none⟩ = some (.slice eA en ec) := by rw [← hen, ← heA, ← hec]; exact HB9.out.cell 4
          have henb : en ≤ 9223372036854775807 := by
            have h1 := (HFI3.out.im.ent _ HQL.out).cap
            simp only at h1
            unfold maxLen at h1
            omega
          have HEA := Go.Lib.hid (And.intro hen (And.intro heA hec))
          have HD := Go.Lib.hid hd
          clear hoc hd hen heA hec ht
          obtain ⟨wt, hwt⟩ : ∃ x, ws1[t]? = some x := ⟨_, List.getElem?_eq_getElem (by rw [HFI.out.len]; exact htn)⟩
          have HWT := Go.Lib.hid hwt
          have hwb : wt < 4294967296 := HFI.out.im.num _ (List.mem_of_getElem? hwt)
          have HGD : Hid (ws1.getD t 0 = wt) := Go.Lib.hid (by rw [List.getD_eq_getElem?_getD, hwt]; rfl)
          clear hwt
          by_cases he : fe = 0
          · subst he
            have hez : decide ((0 : Nat) = 0) = true := rfl
            go_wp2_with fail
            clear z0 z2 x2 v4
            have hs1 := set16_q (HFI3.out.p1.cell 0) (HFI3.out.im.box.cell 0) (HFI3.out.word HWT.out).1 (HFI3.out.word HWT.out).2 htn hwb hdb
            refine hs1.mono ?_
            rintro e w5 ⟨rfl, rfl⟩
            clear hs1
            have ht1 : t + 1 < n := by have := HAT.out.2 (by have := HFN.out.2.2; omega); have := HT.out; omega
            have HFI5 := Go.Lib.hid (HFI3.out.set htn (v := wt / 65536 * 65536 + d / 65536 % 65536) (by omega))
            have HB85 := Go.Lib.hid (HFI3.out.im.far' HFI3.out.len HB8.out (by decide) t (.int .u32 ((wt / 65536 * 65536 + d / 65536 % 65536 : Nat) : Int)))
            have HB95 := Go.Lib.hid (HFI3.out.im.far' HFI3.out.len HB9.out (by decide) t (.int .u32 ((wt / 65536 * 65536 + d / 65536 % 65536 : Nat) : Int)))
            generalize w3.drew.setCell ⟨g, t, none⟩ (.int .u32 ((wt / 65536 * 65536 + d / 65536 % 65536 : Nat) : Int)) = w5 at *
            have v3 : w5.cell? ⟨b9, 3, none⟩ = some (.int .i64 d) := by rw [← HD.out]; exact HB95.out.cell 3
            obtain ⟨wu, hwu⟩ : ∃ x, (ws1.set t (wt / 65536 * 65536 + d / 65536 % 65536))[t + 1]? = some x := ⟨_, List.getElem?_eq_getElem (by rw [List.length_set, HFI.out.len]; exact ht1)⟩
            have HWU := Go.Lib.hid hwu
            have hwc : wu < 4294967296 := HFI5.out.im.num _ (List.mem_of_getElem? hwu)
            have HGU : Hid ((ws1.set t (wt / 65536 * 65536 + d / 65536 % 65536)).getD (t + 1) 0 = wu) := Go.Lib.hid (by rw [List.getD_eq_getElem?_getD, hwu]; rfl)
            clear hwu
            obtain ⟨t1, ht1e⟩ : ∃ x, t + 1 = x := ⟨_, rfl⟩
            rw [ht1e] at ht1 HWU HGU
            have hat1 : (t : Int) + 1 = (t1 : Int) := by omega
            go_wp2_with fail
            clear v3
            have hs2 := set16_c (mv := .int .i64 0) (n := d) (HFI5.out.p1.cell 0) (HFI5.out.im.box.cell 0) (HFI5.out.word HWU.out).1 (HFI5.out.word HWU.out).2 ht1 hwc hdb
            refine hs2.mono ?_
            rintro e w6 ⟨rfl, rfl⟩
            clear hs2
            have HFI6 := Go.Lib.hid (HFI5.out.set ht1 (v := wu / 65536 * 65536 + d % 65536) (by omega))
            generalize w5.drew.setCell ⟨g, t1, none⟩ (.int .u32 ((wu / 65536 * 65536 + d % 65536 : Nat) : Int)) = w6 at *
            have hfix : fixW (l.map (·.1)) o own ws1 f = some ((ws1.set t (wt / 65536 * 65536 + d / 65536 % 65536)).set t1 (wu / 65536 * 65536 + d % 65536)) := by
              unfold fixW setW
              rw [if_pos (by have := HFN.out.2.2; omega), HQT.out, HD.out, HT.out, HGD.out, ht1e, HGU.out]
            have HFX := Go.Lib.hid hfix
            clear hfix hat hat1 ht1e
            go_wp2_with fail
            go_roundw
            case rel => exact ⟨k + 1, _, by omega, by go_num, fillO_snoc HFO.out HF.out HFX.out, HFI6.out⟩
            case measure => simp [intOf]; omega
          · have hez : decide (fe = 0) = false := decide_eq_false he
            have hef : f.2.2 ≠ 0 := by have := HFN.out.2.2; omega
            by_cases hle : en ≤ fe
            · have hle2 : decide (en ≤ fe) = true := decide_eq_true hle
              go_wp2_with fail
              go_ret
              refine ⟨ws1, HFI3.out.im, HFI3.out.len, HFI3.out.fr, .inr ⟨fillO_stop HFO.out HF.out ?_, rfl⟩⟩
              unfold fixW
              rw [if_neg hef, HQT.out, if_pos (by rw [HEA.out.1]; have := HFN.out.2.2; omega)]
            · have hle2 : decide (en ≤ fe) = false := decide_eq_false hle
              obtain ⟨ev, hev⟩ : ∃ x, qq.ents[fe]? = some x := ⟨_, List.getElem?_eq_getElem (by rw [HEA.out.1]; omega)⟩
              have hevb := (HOK.out.dat _ HQL.out).2 ev (List.mem_of_getElem? hev)
              obtain ⟨eg, eo, heg, hec⟩ := (HFI3.out.im.ent _ HQL.out).row.flat (by simp [entCells]; have := HEA.out.1; omega)
              have v5 : w3.cell? ⟨eg, eo + fe, none⟩ = some (.int .i64 ev) := hec fe _ (by simp [entCells, hev])
              simp only at heg
              rw [HEA.out.2.1] at heg
              subst heg
              have hlf : fe < en := by omega
              have HGE : Hid (qq.ents.getD f.2.2.toNat 0 = ev) := Go.Lib.hid (by
                have : f.2.2.toNat = fe := by have := HFN.out.2.2; omega
                rw [this, List.getD_eq_getElem?_getD, hev]
                rfl)
              clear hec hev
              go_wp2_with fail
              clear z0 z2 x2 v3 v4 v5
              have hs1 := set24_q (x := ev - (t : Int) - 1) (HFI3.out.p1.cell 0) (HFI3.out.im.box.cell 0) (HFI3.out.word HWT.out).1 (HFI3.out.word HWT.out).2 htn hwb
              refine hs1.mono ?_
              rintro e w5 ⟨rfl, rfl⟩
              clear hs1
              have HFI5 := Go.Lib.hid (HFI3.out.set htn (v := wt / 16777216 * 16777216 + ((ev - (t : Int) - 1) % 4294967296).toNat % 16777216) (by omega))
              generalize w3.drew.setCell ⟨g, t, none⟩ (.int .u32 ((wt / 16777216 * 16777216 + ((ev - (t : Int) - 1) % 4294967296).toNat % 16777216 : Nat) : Int)) = w5 at *
              have hfix : fixW (l.map (·.1)) o own ws1 f = some (ws1.set t (wt / 16777216 * 16777216 + ((ev - (t : Int) - 1) % 4294967296).toNat % 16777216)) := by
                unfold fixW setW
                rw [if_neg hef, HQT.out, if_neg (by rw [HEA.out.1]; have := HFN.out.2.2; omega), HT.out, HGD.out, HGE.out]
              have HFX := Go.Lib.hid hfix
              clear hfix hat
              go_wp2_with fail
              go_roundw
              case rel => exact ⟨k + 1, _, by omega, by go_num, fillO_snoc HFO.out HF.out HFX.out, HFI5.out⟩
              case measure => simp [intOf]; omega
      · have hm0 : fm = 0 := by omega
        subst hm0
        have z1 : w2.cell? ⟨b8, 1, none⟩ = some (.int .i64 (0 : Nat)) := HB8.out.cell 1
        have HQL : Hid ((own, pa) ∈ l) := Go.Lib.hid HOK.out.own
        have HQT : Hid (fixTo (l.map (·.1)) o own f = own) := Go.Lib.hid (by unfold fixTo; rw [if_neg (by have := HFN.out.2.1; omega)])
        have HC3 := HC2
        obtain ⟨qq, hqq⟩ : ∃ x, own = x := ⟨_, rfl⟩
        obtain ⟨qa, hqa⟩ : ∃ x, pa = x := ⟨_, rfl⟩
        have HB9 : Hid (Blk w2 b9 PLT (plArr qq qa)) := by rw [← hqq, ← hqa]; exact HB9
        have HQL : Hid ((qq, qa) ∈ l) := by rw [← hqq, ← hqa]; exact HQL
        have HQT : Hid (fixTo (l.map (·.1)) o own f = qq) := by rw [← hqq]; exact HQT
        clear hqq hqa
        go_upto_region 7 with fail
        clear z1
        have HFI3 := Go.Lib.hid (HFI.out.quiet HC3.out)
        obtain ⟨oc, hoc⟩ : ∃ x, own.code = x := ⟨_, rfl⟩
        obtain ⟨t, ht⟩ : ∃ t, oc + fa = t := ⟨_, rfl⟩
        have HT : Hid (own.code + f.1.toNat = t) := Go.Lib.hid (by have := HFN.out.1; omega)
        have htn : t < n := by have := HAT.out.1; have := HT.out; omega
        have hat : (oc : Int) + (fa : Int) = (t : Int) := by omega
        have z0 : w2.cell? ⟨b8, 0, none⟩ = some (.int .i64 fa) := HB8.out.cell 0
        have z2 : w2.cell? ⟨b8, 2, none⟩ = some (.int .i64 fe) := HB8.out.cell 2
        have x2 : w2.cell? ⟨b3, 2, none⟩ = some (.int .i64 oc) := by rw [← hoc]; exact HFI3.out.p3.cell 2
        obtain ⟨d, hd⟩ : ∃ x, qq.data = x := ⟨_, rfl⟩
        have v3 : w2.cell? ⟨b9, 3, none⟩ = some (.int .i64 d) := by rw [← hd]; exact HB9.out.cell 3
        have hdb : d < 4294967296 := by rw [← hd]; exact (HOK.out.dat _ HQL.out).1
        obtain ⟨en, hen⟩ : ∃ x, qq.ents.length = x := ⟨_, rfl⟩
        obtain ⟨eA, heA⟩ : ∃ x, qa.1 = x := ⟨_, rfl⟩
        obtain ⟨ec, hec⟩ : ∃ x, qa.2 = x := ⟨_, rfl⟩
        have v4 : w2.cell? ⟨b9, 4, none⟩ = some (.slice eA en ec) := by rw [← hen, ← heA, ← hec]; exact HB9.out.cell 4
        have henb : en ≤ 9223372036854775807 := by
          have h1 := (HFI3.out.im.ent _ HQL.out).cap
          simp only at h1
          unfold maxLen at h1
          omega
        have HEA := Go.Lib.hid (And.intro hen (And.intro heA hec))
        have HD := Go.Lib.hid hd
        clear hoc hd hen heA hec ht
        obtain ⟨wt, hwt⟩ : ∃ x, ws1[t]? = some x := ⟨_, List.getElem?_eq_getElem (by rw [HFI.out.len]; exact htn)⟩
        have HWT := Go.Lib.hid hwt
        have hwb : wt < 4294967296 := HFI.out.im.num _ (List.mem_of_getElem? hwt)
        have HGD : Hid (ws1.getD t 0 = wt) := Go.Lib.hid (by rw [List.getD_eq_getElem?_getD, hwt]; rfl)
        clear hwt
        by_cases he : fe = 0
        · subst he
          have hez : decide ((0 : Nat) = 0) = true := rfl
          go_wp2_with fail
          clear z0 z2 x2 v4
          have hs1 := set16_q (HFI3.out.p1.cell 0) (HFI3.out.im.box.cell 0) (HFI3.out.word HWT.out).1 (HFI3.out.word HWT.out).2 htn hwb hdb
          refine hs1.mono ?_
          rintro e w5 ⟨rfl, rfl⟩
          clear hs1
          have ht1 : t + 1 < n := by have := HAT.out.2 (by have := HFN.out.2.2; omega); have := HT.out; omega
          have HFI5 := Go.Lib.hid (HFI3.out.set htn (v := wt / 65536 * 65536 + d / 65536 % 65536) (by omega))
          have HB85 := Go.Lib.hid (HFI3.out.im.far' HFI3.out.len HB8.out (by decide) t (.int .u32 ((wt / 65536 * 65536 + d / 65536 % 65536 : Nat) : Int)))
          have HB95 := Go.Lib.hid (HFI3.out.im.far' HFI3.out.len HB9.out (by decide) t (.int .u32 ((wt / 65536 * 65536 + d / 65536 % 65536 : Nat) : Int)))
          generalize w2.drew.setCell ⟨g, t, none⟩ (.int .u32 ((wt / 65536 * 65536 + d / 65536 % 65536 : Nat) : Int)) = w5 at *
          have v3 : w5.cell? ⟨b9, 3, none⟩ = some (.int .i64 d) := by rw [← HD.out]; exact HB95.out.cell 3
          obtain ⟨wu, hwu⟩ : ∃ x, (ws1.set t (wt / 65536 * 65536 + d / 65536 % 65536))[t + 1]? = some x := ⟨_, List.getElem?_eq_getElem (by rw [List.length_set, HFI.out.len]; exact ht1)⟩
          have HWU := Go.Lib.hid hwu
          have hwc : wu < 4294967296 := HFI5.out.im.num _ (List.mem_of_getElem? hwu)
          have HGU : Hid ((ws1.set t (wt / 65536 * 65536 + d / 65536 % 65536)).getD (t + 1) 0 = wu) := Go.Lib.hid (by rw [List.getD_eq_getElem?_getD, hwu]; rfl)
          clear hwu
          obtain ⟨t1, ht1e⟩ : ∃ x, t + 1 = x := ⟨_, rfl⟩
          rw [ht1e] at ht1 HWU HGU
          have hat1 : (t : Int) + 1 = (t1 : Int) := by omega
          go_wp2_with fail
          clear v3
          have hs2 := set16_c (mv := .int .i64 0) (n := d) (HFI5.out.p1.cell 0) (HFI5.out.im.box.cell 0) (HFI5.out.word HWU.out).1 (HFI5.out.word HWU.out).2 ht1 hwc hdb
          refine hs2.mono ?_
          rintro e w6 ⟨rfl, rfl⟩
          clear hs2
          have HFI6 := Go.Lib.hid (HFI5.out.set ht1 (v := wu / 65536 * 65536 + d % 65536) (by omega))
          generalize w5.drew.setCell ⟨g, t1, none⟩ (.int .u32 ((wu / 65536 * 65536 + d % 65536 : Nat) : Int)) = w6 at *
          have hfix : fixW (l.map (·.1)) o own ws1 f = some ((ws1.set t (wt / 65536 * 65536 + d / 65536 % 65536)).set t1 (wu / 65536 * 65536 + d % 65536)) := by
            unfold fixW setW
            rw [if_pos (by have := HFN.out.2.2; omega), HQT.out, HD.out, HT.out, HGD.out, ht1e, HGU.out]
          have HFX := Go.Lib.hid hfix
          clear hfix hat hat1 ht1e
          go_wp2_with fail
          go_roundw
          case rel => exact ⟨k + 1, _, by omega, by go_num, fillO_snoc HFO.out HF.out HFX.out, HFI6.out⟩
          case measure => simp [intOf]; omega
        · have hez : decide (fe = 0) = false := decide_eq_false he
          have hef : f.2.2 ≠ 0 := by have := HFN.out.2.2; omega
          by_cases hle : en ≤ fe
          · have hle2 : decide (en ≤ fe) = true := decide_eq_true hle
            go_wp2_with fail
            go_ret
            refine ⟨ws1, HFI3.out.im, HFI3.out.len, HFI3.out.fr, .inr ⟨fillO_stop HFO.out HF.out ?_, rfl⟩⟩
            unfold fixW
            rw [if_neg hef, HQT.out, if_pos (by rw [HEA.out.1]; have := HFN.out.2.2; omega)]
          · have hle2 : decide (en ≤ fe) = false := decide_eq_false hle
            obtain ⟨ev, hev⟩ : ∃ x, qq.ents[fe]? = some x := ⟨_, List.getElem?_eq_getElem (by rw [HEA.out.1]; omega)⟩
            have hevb := (HOK.out.dat _ HQL.out).2 ev (List.mem_of_getElem? hev)
            obtain ⟨eg, eo, heg, hec⟩ := (HFI3.out.im.ent _ HQL.out).row.flat (by simp [entCells]; have := HEA.out.1; omega)
            have v5 : w2.cell? ⟨eg, eo + fe, none⟩ = some (.int .i64 ev) := hec fe _ (by simp [entCells, hev])
            simp only at heg
            rw [HEA.out.2.1] at heg
            subst heg
            have hlf : fe < en := by omega
            have HGE : Hid (qq.ents.getD f.2.2.toNat 0 = ev) := Go.Lib.hid (by
              have : f.2.2.toNat = fe := by have := HFN.out.2.2; omega
              rw [this, List.getD_eq_getElem?_getD, hev]
              rfl)
            clear hec hev
            go_wp2_with fail
            clear z0 z2 x2 v3 v4 v5
            have hs1 := set24_q (x := ev - (t : Int) - 1) (HFI3.out.p1.cell 0) (HFI3.out.im.box.cell 0) (HFI3.out.word HWT.out).1 (HFI3.out.word HWT.out).2 htn hwb
            refine hs1.mono ?_
            rintro e w5 ⟨rfl, rfl⟩
            clear hs1
            have HFI5 := Go.Lib.hid (HFI3.out.set htn (v := wt / 16777216 * 16777216 + ((ev - (t : Int) - 1) % 4294967296).toNat % 16777216) (by omega))
            generalize w2.drew.setCell ⟨g, t, none⟩ (.int .u32 ((wt / 16777216 * 16777216 + ((ev - (t : Int) - 1) % 4294967296).toNat % 16777216 : Nat) : Int)) = w5 at *
            have hfix : fixW (l.map (·.1)) o own ws1 f = some (ws1.set t (wt / 16777216 * 16777216 + ((ev - (t : Int) - 1) % 4294967296).toNat % 16777216)) := by
              unfold fixW setW
              rw [if_neg hef, HQT.out, if_neg (by rw [HEA.out.1]; have := HFN.out.2.2; omega), HT.out, HGD.out, HGE.out]
            have HFX := Go.Lib.hid hfix
            clear hfix hat
            go_wp2_with fail
            go_roundw
            case rel => exact ⟨k + 1, _, by omega, by go_num, fillO_snoc HFO.out HF.out HFX.out, HFI5.out⟩
            case measure => simp [intOf]; omega
    · obtain rfl : k = fl := by omega
      go_wp2_with fail
      go_ret
      refine ⟨ws1, HFI.out.im, HFI.out.len, HFI.out.fr, .inl ⟨?_, rfl⟩⟩
      have h1 := HFO.out
      rw [List.take_of_length_le (by rw [HFLN.out]; exact Nat.le_refl _)] at h1
      exact h1
end
end Go.Proofs.Yteleglkoagnmcaa
