/- What is proved: the statements' stores: objects' files and steps' files put into both. Conditions: the memory holds the objects and the steps. · What is proved: the chapter's rows hold. Conditions: none. -/
import Derived.Test.YteleglkoagnmcaaLlB
import Derived.Test.YteleglkoagnmcaaR2N
set_option linter.unusedSimpArgs false
set_option linter.unusedVariables false
namespace Go.Proofs.Yteleglkoagnmcaa
open Go Go.RowKit
theorem ref_start (W : World) (cap : Nat) (X : Nat → Prop) (hX : ∀ k, X k → k < W.heap.size) : RefAt (W.alloc (.cells #[.slice none 0 0, .slice none 0 0, .slice none 0 0, .int .i64 cap] RST)) W.heap.size ⟨cap, [], [], []⟩ X ⟨.slice none 0 0, .slice none 0 0, .slice none 0 0, []⟩ where
  blk := Blk.new _ _ _
  F := World.ownsRow_nil _ _ _ _
  f := fun i b h => by simp at h
  D := World.ownsRow_nil _ _ _ _
  R := World.ownsRow_nil _ _ _ _
  xF := fun k h => by simp [Value.ownBlock] at h
  xD := fun k h => by simp [Value.ownBlock] at h
  xR := fun k h => by simp [Value.ownBlock] at h
  xr := fun h => absurd (hX _ h) (by omega)
  db := fun e h => by simp at h
  rb := fun e h => by simp at h
/-- how great a store without riders is behind k puts -/
structure SzL (U : V) (k : Nat) : Prop where
  r : U.rd = []
  f : U.F.length ≤ k
  d : U.dir.length ≤ k
  b : ∀ n, (U.bytes n).length ≤ 1000000
  c : U.cap ≤ 67108864
theorem SzL.more {U : V} {k j : Nat} (h : SzL U k) (hj : k ≤ j) : SzL U j := ⟨h.r, Nat.le_trans h.f hj, Nat.le_trans h.d hj, h.b, h.c⟩
theorem SzL.small {U : V} {k : Nat} (h : SzL U k) (hk : k ≤ 1000) : RSmall U where
  r := by rw [h.r]; decide
  d := by have := h.d; omega
  f := by have := h.f; omega
  b := fun n => by have := h.b n; omega
  c := by have := h.c; omega
theorem SzL.put {U : V} {k : Nat} (h : SzL U k) (nm : ByteArray) {l : List UInt8} (hl : l.length ≤ 1000000) : SzL (putR U nm l).2 (k + 1) := by
  have hbytes : ∀ m, ((U.addFile l).bytes m).length ≤ 1000000 := fun m => by
    unfold V.addFile V.bytes
    simp only [List.getD_eq_getElem?_getD]
    by_cases hm : m < U.F.length
    · rw [List.getElem?_append_left hm]
      have := h.b m
      unfold V.bytes at this
      rw [List.getD_eq_getElem?_getD] at this
      exact this
    · rw [List.getElem?_append_right (by omega)]
      cases hq : m - U.F.length with
      | zero => simpa using hl
      | succ j => simp
  have hF : (U.addFile l).F.length ≤ k + 1 := by
    have := h.f
    simp only [V.addFile, List.length_append, List.length_cons, List.length_nil]
    omega
  unfold putR
  split
  · split
    · split
      · exact h.more (by omega)
      · unfold enterR
        split
        · exact ⟨h.r, hF, by have := h.d; simp only [List.length_set]; show U.dir.length ≤ _; omega, hbytes, h.c⟩
        · split
          · refine ⟨h.r, hF, ?_, hbytes, h.c⟩
            have := h.d
            simp only [List.length_append, List.length_take, List.length_cons, List.length_drop]
            show min _ U.dir.length + (U.dir.length - _ + 1) ≤ _
            omega
          · exact ⟨h.r, hF, by have := h.d; show U.dir.length ≤ _; omega, hbytes, h.c⟩
    · exact h.more (by omega)
  · exact h.more (by omega)
section
variable {w0 W W' wB : World} {s r k : Nat} {v U : V}
/-- the memory holds a store and the reference's -/
def TwoL (w0 W : World) (s r : Nat) (v U : V) (k : Nat) : Prop := ∃ base F a, StoreV base W s v F ∧ RefAt W r U F a ∧ (∀ j, F j → w0.heap.size ≤ j) ∧ w0.heap.size ≤ r ∧ Chg NoB w0 W ∧ SzL U k
theorem TwoL.quiet (h : TwoL w0 W s r v U k) (hc : Chg NoB W W') : TwoL w0 W' s r v U k := by
  obtain ⟨base, F, a, h1, h2, h3, h4, h7, h8⟩ := h
  exact ⟨base, F, a, h1.quiet hc, h2.quiet hc, h3, h4, h7.trans hc, h8⟩
theorem TwoL.chg (h : TwoL w0 W s r v U k) : Chg NoB w0 W := by
  obtain ⟨base, F, a, h1, h2, h3, h4, h7, h8⟩ := h
  exact h7
theorem twoL_start {cap base : Nat} {F : Nat → Prop} (h : StoreV base W s ⟨cap, [], [], []⟩ F) (hb : w0.heap.size ≤ base) (hc : Chg NoB w0 W) (hcap : cap ≤ 67108864) : TwoL w0 (W.alloc (.cells #[.slice none 0 0, .slice none 0 0, .slice none 0 0, .int .i64 cap] RST)) s W.heap.size ⟨cap, [], [], []⟩ ⟨cap, [], [], []⟩ 0 :=
  ⟨base, F, _, h.quiet ((Chg.refl _ _).alloc _), ref_start W cap F (fun k hk => h.lt hk), fun j hj => Nat.le_trans hb (h.low hj), hc.size, hc.alloc _, ⟨rfl, by simp, by simp, fun n => by simp [V.bytes], hcap⟩⟩
/-- bytes put into the store: a row that is none of the store's stands -/
theorem TwoL.put (h : TwoL w0 wB s r v U k) (hq : Chg NoB wB W) {A : Option Addr} {c : Nat} {l : List UInt8} (nm : ByteArray) (hsz : nm.size ≤ maxLen) (hA : A = none → l = [] ∧ c = 0) (hcl : CellsAt W A (bv l)) (hfr : l ≠ [] → ∀ ad, A = some ad → ad.block < w0.heap.size ∨ wB.heap.size ≤ ad.block) :
    Calls Try.prog 22 #[.pointer (some ⟨s, 0, none⟩), .string nm, .slice A l.length c] W fun e W' => ∃ x, e = .returned (.int .i64 x) ∧ TwoL w0 W' s r (v.put nm l).2 U k ∧ CellsAt W' A (bv l) := by
  obtain ⟨base, F, a, h1, h2, h5, h9, h10, h11⟩ := h
  have hlt : ∀ j, F j → j < wB.heap.size := fun j hj => h1.lt hj
  refine (put_v (h1.quiet hq) nm hsz hA hcl).mono fun e W' ⟨he, F1, g1, g2, g3⟩ => ?_
  have hq2 := h10.trans hq
  have hc : Chg NoB w0 W' := hq2.step g2 fun j hj hF => absurd (h5 j hF) (by omega)
  have hs := hq2.size
  refine ⟨_, he, ⟨base, F1, a, g1, ?_, ?_, h9, hc, h11⟩, if h0 : l = [] then fun hq => absurd hq (by rw [h0]; simp [bv]) else hcl.chg g2 fun ad ha hF => ?_⟩
  · have e1 := (h2.quiet hq).apart (X' := fun j => F j ∨ F1 j) (fun j hj => hj.elim .inl fun h => by
      rcases Nat.lt_or_ge j W.heap.size with hl | hl
      · exact .inl (g3 j h hl)
      · exact .inr hl)
    exact (e1.chg g2 fun j hj => .inl hj).apart (X' := F1) fun j hj => .inl (.inr hj)
  · intro j hj
    rcases Nat.lt_or_ge j W.heap.size with hl | hl
    · exact h5 j (g3 j hj hl)
    · omega
  · have := h5 _ hF
    have := hlt _ hF
    rcases hfr h0 ad ha with h | h <;> omega
theorem TwoL.rput (h : TwoL w0 W s r v U k) (hk : k ≤ 1000) {A : Option Addr} {c : Nat} {l : List UInt8} (nm : ByteArray) (hsz : nm.size ≤ maxLen) (hll : l.length < 1000000) (hcl : CellsAt W A (bv l)) :
    Calls Try.prog 30 #[.pointer (some ⟨r, 0, none⟩), .string nm, .slice A l.length c] W fun e W' => ∃ x, e = .returned (.int .i64 x) ∧ TwoL w0 W' s r v (putR U nm l).2 (k + 1) := by
  obtain ⟨base, F, a, h1, h2, h5, h9, h10, h11⟩ := h
  refine (rput_c h2 (fun k hk => h1.lt hk) (h11.small hk) nm hsz l hll A c hcl).mono fun e W' ⟨he, ⟨a', g1⟩, g2⟩ => ?_
  have hc : Chg NoB w0 W' := h10.step g2 fun j hj hF => by omega
  exact ⟨_, he, base, F, a', h1.chg g2 (fun j hj e => h2.xr (e ▸ hj)), g1, h5, h9, hc, h11.put nm (by omega)⟩
end
section
variable {P : Program} {ops : Array Oper} {Q : Exit → Act → World → Prop} {md : Region.Mode} {S : World → Prop} {n : Nat}
variable {i t fuel : Nat} {oi : Oper} {v : Value} {listed : Array Bool} {a : Act} {w w' : World}
/-- the last one, that calls -/
theorem lastC {f : FuncId} {args : Array Value} (hi : ops[i]? = some oi) (hr : Region.ready md ops listed = [i]) (hdst : oi.dst = some t) (hw : Region.wanted oi (yielded ops a.tmps) = true) (hx : (execOp a.eval oi).run P w = .ok (.enter f args) w) (hin : ¬ i < n) (hd : Region.ready md ops (listed.setIfInBounds i true) = [])
    (hc : Calls P f args w fun e w' => ∃ v, e = .returned v ∧ Q .normal { tmps := a.tmps.setIfInBounds t v, defers := a.defers } w') : wpAnyT P md ops Q S n (fuel + 1) listed a w := by
  refine callE hi hr hdst hw hx hin (hc.mono ?_)
  rintro e w1 ⟨v, rfl, h⟩
  refine ⟨v, rfl, ?_⟩
  cases fuel with
  | zero => exact ⟨hd, h⟩
  | succ k => exact ⟨fun _ => h, by rw [hd]; simp⟩
end
def putP (v : V) (nm : ByteArray) (l : List UInt8) : V := (v.put nm l).2
def putQ (U : V) (nm : ByteArray) (l : List UInt8) : V := (putR U nm l).2
/-- objects' files put, one by one -/
def putsO (put : V → ByteArray → List UInt8 → V) (v : V) : List Ob → V
  | [] => v
  | o :: l => putsO put (if mayO o = true then put v (fileO o.name) (bytesO o) else v) l
theorem putsO_snoc {put : V → ByteArray → List UInt8 → V} : ∀ (l : List Ob) (o : Ob) (v : V), putsO put v (l ++ [o]) = if mayO o = true then put (putsO put v l) (fileO o.name) (bytesO o) else putsO put v l
  | [], o, v => rfl
  | q :: l, o, v => by
    rw [List.cons_append, putsO, putsO_snoc l o, putsO]
/-- a step's file -/
structure Fi where
  kind : Int
  f : Int
  w : Nat
  nm : ByteArray
  A : Option Addr
  c : Nat
  b : List UInt8
structure FiOk (w : World) (x : Fi) : Prop where
  nm : x.nm.size ≤ maxLen
  b : x.b.length < 1000000
  cells : CellsAt w x.A (bv x.b)
  nil : x.A = none → x.b = [] ∧ x.c = 0
theorem FiOk.low {w : World} {x : Fi} (h : FiOk w x) (h0 : x.b ≠ []) {ad : Addr} (ha : x.A = some ad) : ad.block < w.heap.size := by
  have hl : 0 < (bv x.b).length := by
    have := List.length_pos_iff.2 h0
    simpa [bv] using this
  obtain ⟨a2, h1, h2⟩ := h.cells hl
  obtain rfl : ad = a2 := by
    rw [ha] at h1
    injection h1
  have h3 := block_lt_of_cell (h2 0 _ (List.getElem?_eq_getElem hl))
  have h4 : (ad.add 0).block = ad.block := by unfold Addr.add; split <;> rfl
  omega
def FisAt (w : World) (A : Option Addr) (L : List Fi) : Prop := 0 < L.length → ∃ b o, A = some ⟨b, o, none⟩ ∧ ∀ i x, L[i]? = some x → FiOk w x ∧
    w.cell? ⟨b, o + i * 5 + 3, none⟩ = some (.string x.nm) ∧ w.cell? ⟨b, o + i * 5 + 4, none⟩ = some (.slice x.A x.b.length x.c)
def putsF (put : V → ByteArray → List UInt8 → V) (v : V) : List Fi → V
  | [] => v
  | o :: l => putsF put (put v o.nm o.b) l
theorem putsF_snoc {put : V → ByteArray → List UInt8 → V} : ∀ (l : List Fi) (o : Fi) (v : V), putsF put v (l ++ [o]) = put (putsF put v l) o.nm o.b
  | [], o, v => rfl
  | q :: l, o, v => by
    rw [List.cons_append, putsF, putsF_snoc l o, putsF]
def v0L : V := ⟨1048576, [], [], []⟩
theorem bytesO_le {o : Ob} (h : MayP o) (h1 : o.name.size ≤ 15) (h2 : o.imps.length ≤ 12) (h3 : ∀ x ∈ o.imps, x.1.size ≤ 15) : (bytesO o).length < 1000000 := by
  have a1 := flat_le impB 20 o.imps fun x hx => by
    have := h3 x hx
    unfold impB
    rw [List.length_append, nameB_len, wordB_len]
    omega
  have a2 := flat_le wordB 4 o.code fun x hx => by rw [wordB_len]; omega
  have a3 := flat_le (fun x : Int => wordB (x.toNat % 4294967296)) 4 o.ents fun x hx => by rw [wordB_len]; omega
  have a4 := flat_le fixB 6 o.fixs fun x hx => by unfold fixB; rw [List.length_append, wordB_len]; simp
  have b1 := h.cl
  have b2 := h.e2
  have b3 := h.fl
  have b4 := h.tl
  unfold impB at a1
  unfold fixB at a4
  unfold bytesO
  simp only [List.length_append, nameB_len, wordB_len, List.length_cons, List.length_nil]
  omega
def StoresPost (w : World) (L : List Ob) (files : List Fi) (e : Ending) (w' : World) : Prop :=
  ∃ s r, e = .returned (.tuple #[.pointer (some ⟨s, 0, none⟩), .pointer (some ⟨r, 0, none⟩)]) ∧ TwoL w w' s r (putsF putP (putsO putP v0L L) files) (putsF putQ (putsO putQ v0L L) files) (L.length + files.length)
set_option maxRecDepth 100000 in
set_option maxHeartbeats 32000000 in
theorem stores_c {W : World} {L : List (Ob × OA)} {A : Option Addr} {c : Nat} {fs : List Fi} {B : Option Addr} {cb : Nat} (hA : CellsAt W A (allCells L)) (hO : ∀ x ∈ L, ObIs W x.1 x.2) (hn : L.length ≤ 400) (hF : FisAt W B fs) (hm : fs.length ≤ 400) : Calls Try.prog 12 #[.slice A L.length c, .slice B fs.length cb] W (StoresPost W (L.map (·.1)) fs) := by
  obtain ⟨n, hln⟩ : ∃ n, L.length = n := ⟨_, rfl⟩
  obtain ⟨m, hfm⟩ : ∃ m, fs.length = m := ⟨_, rfl⟩
  have HLN := Go.Lib.hid hln
  have HFM := Go.Lib.hid hfm
  have HA := Go.Lib.hid hA
  have HO := Go.Lib.hid hO
  have HFS := Go.Lib.hid hF
  rw [hln] at hn ⊢
  rw [hfm] at hm ⊢
  clear hln hfm hA hO hF
  go_enter Try.func12, Try.ntmps12
  go_wp2_with fail
  refine (new_v 1048576 (by omega) W).mono ?_
  rintro e w1 ⟨s, F, rfl, hs, hc1⟩
  have hT := twoL_start (w0 := W) hs (Nat.le_refl _) hc1 (by omega)
  have HT := Go.Lib.hid hT
  clear hs hc1 hT
  unfold ptr
  go_upto_region 3 with fail
  obtain ⟨w2, hw2⟩ : ∃ w, w1.alloc (.cells #[.slice none 0 0, .slice none 0 0, .slice none 0 0, .int .i64 (1048576 : Nat)] RST) = w := ⟨_, rfl⟩
  rw [hw2] at HT
  first | rw [hw2] | (have hw3 : w1.alloc (.cells #[.slice none 0 0, .slice none 0 0, .slice none 0 0, .int .i64 1048576] RST) = w2 := hw2; rw [hw3]; clear hw3)
  clear hw2
  generalize w1.heap.size = r at *
  go_wp2_with fail
  go_loopw [9, 10] (fun v9 v10 wr => ∃ i : Nat, i ≤ n ∧ v9 = .int .i64 i ∧ TwoL W wr s r (putsO putP v0L ((L.take i).map (·.1))) (putsO putQ v0L ((L.take i).map (·.1))) i) (fun v9 _ _ => n - (intOf v9).toNat)
  case atStart => exact ⟨0, Nat.zero_le _, rfl, HT.out⟩
  case round =>
    clear HT
    obtain ⟨i, hi, rfl, ht⟩ := hrel
    have HT := Go.Lib.hid ht
    clear ht
    by_cases hlt : i < n
    · obtain ⟨x, hx⟩ : ∃ x, L[i]? = some x := ⟨_, List.getElem?_eq_getElem (by rw [HLN.out]; exact hlt)⟩
      obtain ⟨ab, ao, rfl, hcell⟩ := HA.out.flat (by rw [allCells_len, HLN.out]; omega)
      obtain ⟨ob, oa⟩ := x
      have hq : ∀ V', Chg NoB W V' → ∀ k u, k < 8 → (obArr ob oa)[k]? = some u → V'.cell? ⟨ab, ao + i * 8 + k, none⟩ = some u := fun V' hV k u hk hu => by
        have := hcell (i * 8 + k) u ((allCells_get L i (ob, oa) hx k hk).trans hu)
        rw [← Nat.add_assoc] at this
        exact keepQ hV this
      have hxf : ∀ V', Chg NoB W V' → V'.cell? ⟨ab, ao + i * 8, none⟩ = some (.string ob.name) ∧ V'.cell? ⟨ab, ao + i * 8 + 1, none⟩ = some (.int .u32 ob.key) ∧ V'.cell? ⟨ab, ao + i * 8 + 2, none⟩ = some (.slice oa.iA ob.imps.length oa.ic) ∧ V'.cell? ⟨ab, ao + i * 8 + 3, none⟩ = some (.int .i64 ob.vars) ∧ V'.cell? ⟨ab, ao + i * 8 + 4, none⟩ = some (.slice oa.tA ob.text.length oa.tc) ∧ V'.cell? ⟨ab, ao + i * 8 + 5, none⟩ = some (.slice oa.cA ob.code.length oa.cc) ∧ V'.cell? ⟨ab, ao + i * 8 + 6, none⟩ = some (.slice oa.eA ob.ents.length oa.ec) ∧ V'.cell? ⟨ab, ao + i * 8 + 7, none⟩ = some (.slice oa.fA ob.fixs.length oa.fc) := fun V' hV => ⟨hq V' hV 0 _ (by omega) rfl, hq V' hV 1 _ (by omega) rfl, hq V' hV 2 _ (by omega) rfl, hq V' hV 3 _ (by omega) rfl, hq V' hV 4 _ (by omega) rfl, hq V' hV 5 _ (by omega) rfl, hq V' hV 6 _ (by omega) rfl, hq V' hV 7 _ (by omega) rfl⟩
      have HXF := Go.Lib.hid hxf
      have HOB := Go.Lib.hid (HO.out _ (List.mem_of_getElem? hx))
      have HTK : Hid ((L.take (i + 1)).map (·.1) = (L.take i).map (·.1) ++ [ob]) := Go.Lib.hid (by rw [take_succ_some hx, List.map_append]; rfl)
      generalize (L.take i).map (·.1) = Lp at *
      obtain ⟨x0, x1, x2, x3, x4, x5, x6, x7⟩ := hxf wr HT.out.chg
      clear hcell hq hxf hx
      go_wp2_with fail
      clear x0 x1 x2 x3 x4 x5 x6 x7
      refine (may7_c (HOB.out.quiet HT.out.chg)).mono ?_
      rintro e w3 ⟨rfl, hc3⟩
      have HT3 := Go.Lib.hid (HT.out.quiet hc3)
      clear hc3 HT
      obtain ⟨bm, hbm⟩ : ∃ b, mayO ob = b := ⟨_, rfl⟩
      rw [hbm]
      have HBM := Go.Lib.hid hbm
      clear hbm
      cases bm with
      | false =>
        go_wp2_with fail
        go_roundw
        case rel =>
          refine ⟨i + 1, by omega, by go_num, ?_⟩
          rw [HTK.out, putsO_snoc, putsO_snoc, if_neg (by rw [HBM.out]; decide), if_neg (by rw [HBM.out]; decide)]
          obtain ⟨base, F, a, h1, h2, h3, h4, h7, h8⟩ := HT3.out
          exact ⟨base, F, a, h1, h2, h3, h4, h7, h8.more (by omega)⟩
        case measure => simp [intOf]; omega
      | true =>
        obtain ⟨x0, x1, x2, x3, x4, x5, x6, x7⟩ := HXF.out w3 HT3.out.chg
        go_wp2_with fail
        clear x0 x1 x2 x3 x4 x5 x6 x7
        refine (bytes_r (HOB.out.quiet HT3.out.chg) HBM.out).mono ?_
        rintro e w4 ⟨u, rfl, hrow, hc4⟩
        obtain ⟨hn1, hn2, hn3⟩ := imps_nm HBM.out
        have hbl := bytesO_le (mayO_iff.1 HBM.out) hn1 hn2 hn3
        obtain ⟨Ab, cb2, rfl⟩ := own_slice hrow
        have hnil := own_bytes hrow
        have hnsz : (fileO ob.name).size ≤ maxLen := by
          have : (fileO ob.name).size = ob.name.size + 2 := by unfold fileO; rw [ByteArray.size_append]; rfl
          unfold maxLen
          omega
        have hp1 := TwoL.put HT3.out hc4 (fileO ob.name) hnsz hnil (own_cells_ hrow) (fun _ ad ha => .inr (own_at_ hrow (by rw [ha]; rfl))) (c := cb2)
        have HP1 := Go.Lib.hid hp1
        have HC4 := Go.Lib.hid hc4
        have HBL := Go.Lib.hid (And.intro hbl hnsz)
        have x0 := (HXF.out w4 (HT3.out.chg.trans hc4)).1
        have hnb : ob.name.size + 2 ≤ 9223372036854775807 := by omega
        obtain ⟨bl, hbln⟩ : ∃ k, (bytesO ob).length = k := ⟨_, rfl⟩
        have HBLN := Go.Lib.hid hbln
        rw [hbln] at HP1 ⊢
        clear hrow hc4 hn1 hn2 hn3 hbl hnil hnsz hp1 hbln
        go_wp2_with fail
        clear x0
        refine HP1.out.mono ?_
        rintro e w5 ⟨z, rfl, ht5, hcl5⟩
        have HT5 := Go.Lib.hid ht5
        have hp2 := TwoL.rput ht5 (by omega) (fileO ob.name) HBL.out.2 HBL.out.1 hcl5 (c := cb2)
        rw [HBLN.out] at hp2
        have HP2 := Go.Lib.hid hp2
        have x0 := (HXF.out w5 ht5.chg).1
        clear ht5 hcl5 hp2 HP1
        go_wp2_with fail
        clear x0
        refine HP2.out.mono ?_
        rintro e w6 ⟨z2, rfl, ht6⟩
        have HT6 := Go.Lib.hid ht6
        clear ht6 HP2
        go_wp2_with fail
        go_roundw
        case rel =>
          refine ⟨i + 1, by omega, by go_num, ?_⟩
          rw [HTK.out, putsO_snoc, putsO_snoc, if_pos HBM.out, if_pos HBM.out]
          exact HT6.out
        case measure => simp [intOf]; omega
    · obtain rfl : i = n := by omega
      have htk : (L.take i).map (·.1) = L.map (·.1) := by rw [List.take_of_length_le (by rw [HLN.out]; exact Nat.le_refl _)]
      have ht := HT.out
      rw [htk] at ht
      have HT := Go.Lib.hid ht
      have HLM : Hid ((L.map (·.1)).length = i) := Go.Lib.hid (by rw [List.length_map]; exact HLN.out)
      clear ht htk
      go_wp2_with fail
      go_loopw [11] (fun v11 wr => ∃ j : Nat, j ≤ m ∧ v11 = .int .i64 j ∧ TwoL W wr s r (putsF putP (putsO putP v0L (L.map (·.1))) (fs.take j)) (putsF putQ (putsO putQ v0L (L.map (·.1))) (fs.take j)) (i + j)) (fun v11 _ => m - (intOf v11).toNat)
      case atStart => exact ⟨0, Nat.zero_le _, rfl, HT.out⟩
      case round =>
        clear HT
        obtain ⟨j, hj, rfl, ht⟩ := hrel
        have HT := Go.Lib.hid ht
        clear ht
        by_cases hjt : j < m
        · obtain ⟨y, hy⟩ : ∃ y, fs[j]? = some y := ⟨_, List.getElem?_eq_getElem (by rw [HFM.out]; exact hjt)⟩
          obtain ⟨fb, fo, rfl, hyx⟩ := HFS.out (by rw [HFM.out]; omega)
          obtain ⟨hok, h3, h4⟩ := hyx j y hy
          have HY3 : Hid (∀ V', Chg NoB W V' → V'.cell? ⟨fb, fo + j * 5 + 3, none⟩ = some (.string y.nm) ∧ V'.cell? ⟨fb, fo + j * 5 + 4, none⟩ = some (.slice y.A y.b.length y.c)) := Go.Lib.hid fun V' hV => ⟨keepQ hV h3, keepQ hV h4⟩
          have HOK := Go.Lib.hid hok
          have HTK : Hid (fs.take (j + 1) = fs.take j ++ [y]) := Go.Lib.hid (take_succ_some hy)
          generalize fs.take j = fp at *
          clear hy hyx hok h3 h4
          go_upto_region 13 with fail
          have HCL : Hid (∀ V', Chg NoB wr V' → V'.cell? ⟨fb, fo + j * 5 + 3, none⟩ = some (.string y.nm) ∧ V'.cell? ⟨fb, fo + j * 5 + 4, none⟩ = some (.slice y.A y.b.length y.c)) := Go.Lib.hid fun V' hV => HY3.out V' (HT.out.chg.trans hV)
          have hp1 := TwoL.put HT.out (Chg.refl NoB wr).drew y.nm HOK.out.nm HOK.out.nil (HOK.out.cells.chg (HT.out.chg.trans (Chg.refl NoB wr).drew) fun _ _ => id) (fun h0 ad ha => .inl (HOK.out.low h0 ha)) (c := y.c)
          have HP1 := Go.Lib.hid hp1
          have HIJ : Hid ((j : Int) < (m : Int)) := Go.Lib.hid (by omega)
          clear hp1
          refine regionT 11 (fun V' => Chg NoB wr V') (by kernel_rfl) (by decide) ((Chg.refl NoB wr).drew) (fun inv hHeld => ?_)
          refine tkT 0 58 ?v1662 inv hHeld ?h1662 ?_
          case h1662 => (intro V' hSw; obtain ⟨e1, e2⟩ := HCL.out V' hSw; have hij := HIJ.out; clear hSw; go_simp; try with_reducible rfl)
          clear inv; intro inv; try simp only [sw1, sw2, sw3]
          refine tkT 1 59 ?v1663 inv hHeld ?h1663 ?_
          case h1663 => (intro V' hSw; obtain ⟨e1, e2⟩ := HCL.out V' hSw; have hij := HIJ.out; clear hSw; go_simp; try with_reducible rfl)
          clear inv; intro inv; try simp only [sw1, sw2, sw3]
          refine tkT 2 60 ?v1664 inv hHeld ?h1664 ?_
          case h1664 => (intro V' hSw; obtain ⟨e1, e2⟩ := HCL.out V' hSw; have hij := HIJ.out; clear hSw; go_simp; try with_reducible rfl)
          clear inv; intro inv; try simp only [sw1, sw2, sw3]
          refine tkT 3 61 ?v1665 inv hHeld ?h1665 ?_
          case h1665 => (intro V' hSw; obtain ⟨e1, e2⟩ := HCL.out V' hSw; have hij := HIJ.out; clear hSw; go_simp; try with_reducible rfl)
          clear inv; intro inv; try simp only [sw1, sw2, sw3]
          refine tkT 4 62 ?v1666 inv hHeld ?h1666 ?_
          case h1666 => (intro V' hSw; obtain ⟨e1, e2⟩ := HCL.out V' hSw; have hij := HIJ.out; clear hSw; go_simp; try with_reducible rfl)
          clear inv; intro inv; try simp only [sw1, sw2, sw3]
          refine tkT 5 63 ?v1667 inv hHeld ?h1667 ?_
          case h1667 => (intro V' hSw; obtain ⟨e1, e2⟩ := HCL.out V' hSw; have hij := HIJ.out; clear hSw; go_simp; try with_reducible rfl)
          clear inv; intro inv; try simp only [sw1, sw2, sw3]
          refine tkT 6 64 ?v1668 inv hHeld ?h1668 ?_
          case h1668 => (intro V' hSw; obtain ⟨e1, e2⟩ := HCL.out V' hSw; have hij := HIJ.out; clear hSw; go_simp; try with_reducible rfl)
          clear inv; intro inv; try simp only [sw1, sw2, sw3]
          refine tkT 7 65 ?v1669 inv hHeld ?h1669 ?_
          case h1669 => (intro V' hSw; obtain ⟨e1, e2⟩ := HCL.out V' hSw; have hij := HIJ.out; clear hSw; go_simp; try with_reducible rfl)
          clear inv; intro inv; try simp only [sw1, sw2, sw3]
          refine tkT 8 66 ?v1670 inv hHeld ?h1670 ?_
          case h1670 => (intro V' hSw; obtain ⟨e1, e2⟩ := HCL.out V' hSw; have hij := HIJ.out; clear hSw; go_simp; try with_reducible rfl)
          clear inv; intro inv; try simp only [sw1, sw2, sw3]
          refine tkT 9 67 ?v1671 inv hHeld ?h1671 ?_
          case h1671 => (intro V' hSw; obtain ⟨e1, e2⟩ := HCL.out V' hSw; have hij := HIJ.out; clear hSw; go_simp; try with_reducible rfl)
          clear inv; intro inv; try simp only [sw1, sw2, sw3]
          refine tkT 10 68 ?v1672 inv hHeld ?h1672 ?_
          case h1672 => (intro V' hSw; obtain ⟨e1, e2⟩ := HCL.out V' hSw; have hij := HIJ.out; clear hSw; go_simp; try with_reducible rfl)
          clear inv; intro inv; try simp only [sw1, sw2, sw3]
          refine lastC (i := 11) (t := 69) (f := 22) (args := #[.pointer (some ⟨s, 0, none⟩), .string y.nm, .slice y.A y.b.length y.c]) rfl (by kernel_rfl) rfl (by rfl) ?hxl (by decide) (by kernel_rfl) ?hcl
          case hxl => (go_simp; try rfl)
          clear inv hHeld HCL
          refine HP1.out.mono ?_
          rintro e w5 ⟨z, rfl, ht5, hcl5⟩
          refine ⟨_, rfl, ?_⟩
          try simp only [sw1, sw2, sw3]
          have HT5 := Go.Lib.hid ht5
          have HCL : Hid (∀ V', Chg NoB w5 V' → V'.cell? ⟨fb, fo + j * 5 + 3, none⟩ = some (.string y.nm) ∧ V'.cell? ⟨fb, fo + j * 5 + 4, none⟩ = some (.slice y.A y.b.length y.c)) := Go.Lib.hid fun V' hV => HY3.out V' (ht5.chg.trans hV)
          have hp2 := TwoL.rput (ht5.quiet (Chg.refl NoB w5).drew) (by omega) y.nm HOK.out.nm HOK.out.b (hcl5.chg (Chg.refl NoB w5).drew fun _ _ => id) (c := y.c)
          have HP2 := Go.Lib.hid hp2
          clear ht5 hcl5 hp2 HP1
          go_wp2_with fail
          refine regionT 11 (fun V' => Chg NoB w5 V') (by kernel_rfl) (by decide) ((Chg.refl NoB w5).drew) (fun inv hHeld => ?_)
          refine tkT 0 70 ?v1673 inv hHeld ?h1673 ?_
          case h1673 => (intro V' hSw; obtain ⟨e1, e2⟩ := HCL.out V' hSw; have hij := HIJ.out; clear hSw; go_simp; try with_reducible rfl)
          clear inv; intro inv; try simp only [sw1, sw2, sw3]
          refine tkT 1 71 ?v1674 inv hHeld ?h1674 ?_
          case h1674 => (intro V' hSw; obtain ⟨e1, e2⟩ := HCL.out V' hSw; have hij := HIJ.out; clear hSw; go_simp; try with_reducible rfl)
          clear inv; intro inv; try simp only [sw1, sw2, sw3]
          refine tkT 2 72 ?v1675 inv hHeld ?h1675 ?_
          case h1675 => (intro V' hSw; obtain ⟨e1, e2⟩ := HCL.out V' hSw; have hij := HIJ.out; clear hSw; go_simp; try with_reducible rfl)
          clear inv; intro inv; try simp only [sw1, sw2, sw3]
          refine tkT 3 73 ?v1676 inv hHeld ?h1676 ?_
          case h1676 => (intro V' hSw; obtain ⟨e1, e2⟩ := HCL.out V' hSw; have hij := HIJ.out; clear hSw; go_simp; try with_reducible rfl)
          clear inv; intro inv; try simp only [sw1, sw2, sw3]
          refine tkT 4 74 ?v1677 inv hHeld ?h1677 ?_
          case h1677 => (intro V' hSw; obtain ⟨e1, e2⟩ := HCL.out V' hSw; have hij := HIJ.out; clear hSw; go_simp; try with_reducible rfl)
          clear inv; intro inv; try simp only [sw1, sw2, sw3]
          refine tkT 5 75 ?v1678 inv hHeld ?h1678 ?_
          case h1678 => (intro V' hSw; obtain ⟨e1, e2⟩ := HCL.out V' hSw; have hij := HIJ.out; clear hSw; go_simp; try with_reducible rfl)
          clear inv; intro inv; try simp only [sw1, sw2, sw3]
          refine tkT 6 76 ?v1679 inv hHeld ?h1679 ?_
          case h1679 => (intro V' hSw; obtain ⟨e1, e2⟩ := HCL.out V' hSw; have hij := HIJ.out; clear hSw; go_simp; try with_reducible rfl)
          clear inv; intro inv; try simp only [sw1, sw2, sw3]
          refine tkT 7 77 ?v1680 inv hHeld ?h1680 ?_
          case h1680 => (intro V' hSw; obtain ⟨e1, e2⟩ := HCL.out V' hSw; have hij := HIJ.out; clear hSw; go_simp; try with_reducible rfl)
          clear inv; intro inv; try simp only [sw1, sw2, sw3]
          refine tkT 8 78 ?v1681 inv hHeld ?h1681 ?_
          case h1681 => (intro V' hSw; obtain ⟨e1, e2⟩ := HCL.out V' hSw; have hij := HIJ.out; clear hSw; go_simp; try with_reducible rfl)
          clear inv; intro inv; try simp only [sw1, sw2, sw3]
          refine tkT 9 79 ?v1682 inv hHeld ?h1682 ?_
          case h1682 => (intro V' hSw; obtain ⟨e1, e2⟩ := HCL.out V' hSw; have hij := HIJ.out; clear hSw; go_simp; try with_reducible rfl)
          clear inv; intro inv; try simp only [sw1, sw2, sw3]
          refine tkT 10 80 ?v1683 inv hHeld ?h1683 ?_
          case h1683 => (intro V' hSw; obtain ⟨e1, e2⟩ := HCL.out V' hSw; have hij := HIJ.out; clear hSw; go_simp; try with_reducible rfl)
          clear inv; intro inv; try simp only [sw1, sw2, sw3]
          refine lastC (i := 11) (t := 81) (f := 30) (args := #[.pointer (some ⟨r, 0, none⟩), .string y.nm, .slice y.A y.b.length y.c]) rfl (by kernel_rfl) rfl (by rfl) ?hxm (by decide) (by kernel_rfl) ?hcm
          case hxm => (go_simp; try rfl)
          clear inv hHeld HCL
          refine HP2.out.mono ?_
          rintro e w6 ⟨z2, rfl, ht6⟩
          refine ⟨_, rfl, ?_⟩
          try simp only [sw1, sw2, sw3]
          have HT6 := Go.Lib.hid ht6
          clear ht6 HP2
          go_wp2_with fail
          go_roundw
          case rel =>
            refine ⟨j + 1, by omega, by go_num, ?_⟩
            rw [HTK.out, putsF_snoc, putsF_snoc]
            exact HT6.out
          case measure => simp [intOf]; omega
        · obtain rfl : j = m := by omega
          go_wp2_with fail
          refine bodyPost_ret (results_tmp2 rfl _ _ _) rfl ?_
          have ht := HT.out
          rw [List.take_of_length_le (by rw [HFM.out]; exact Nat.le_refl _)] at ht
          refine ⟨s, r, rfl, ?_⟩
          have hl2 := HLM.out
          rw [show (L.map (·.1)).length = i by rw [List.length_map]; exact HLN.out, HFM.out]
          exact ht
end Go.Proofs.Yteleglkoagnmcaa
set_option linter.unusedSimpArgs false
set_option linter.unusedVariables false
namespace Go.Proofs.Yteleglkoagnmcaa
open Go Go.RowKit
theorem num9_c (n : Int) (W : World) : Calls Try.prog 14 #[.int .i64 n] W fun e w' => e = .returned (.int .i64 n) ∧ W = w' := by
  go_enter Try.func14, Try.ntmps14
  go_wp2_with fail
  go_ret
  exact ⟨rfl, rfl⟩
theorem module_k (W : World) (nm : ByteArray) (key : Nat) (l : List (ByteArray × Nat)) (n : Nat) (hn : l.length = n) (iA : Option Addr) (ic : Nat) : Calls Try.prog 18 #[.string nm, .int .u32 key, .slice iA n ic] W fun e w' =>
    ∃ c e', e = .returned (.agg #[.string nm, .int .u32 key, .slice iA n ic, .int .i64 0, .slice none 0 0, .slice (some ⟨c, 0, none⟩) 1 1, .slice (some ⟨e', 0, none⟩) 1 1, .slice none 0 0]) ∧ Chg NoB W w' ∧ Blk w' c U32T #[.int .u32 3338665999] ∧ Blk w' e' INT #[.int .i64 0] := by
  subst hn
  refine (module_c W nm key l iA ic).mono ?_
  rintro e w ⟨rfl, h1, h2, h3⟩
  exact ⟨_, _, rfl, h1, h2, h3⟩
/-- where such a module's rows are -/
def modAt (iA : Option Addr) (ic c e : Nat) : OA := ⟨iA, ic, none, 0, some ⟨c, 0, none⟩, 1, some ⟨e, 0, none⟩, 1, none, 0⟩
theorem mod_is {W : World} {nm : ByteArray} {key : Nat} {l : List (ByteArray × Nat)} {iA : Option Addr} {ic c e : Nat} (hi : CellsAt W iA (impCells l)) (hic : l.length ≤ ic ∧ ic ≤ maxLen) (hnm : nm.size ≤ maxLen) (hk : key < 4294967296) (hl : ∀ x ∈ l, x.1.size ≤ maxLen ∧ x.2 < 4294967296) (hc : Blk W c U32T #[.int .u32 3338665999]) (he : Blk W e INT #[.int .i64 0]) : ObIs W (modO nm key l) (modAt iA ic c e) where
  imps := hi
  text := fun h => by simp [modO, bv] at h
  code := cells_of_blk hc
  ents := cells_of_blk he
  fixs := fun h => by simp [modO, fixCells] at h
  icap := hic
  tcap := ⟨by simp [modO, modAt], by simp [modAt]⟩
  ccap := ⟨by simp [modO, modAt], by simp [modAt, maxLen]⟩
  ecap := ⟨by simp [modO, modAt], by simp [modAt, maxLen]⟩
  fcap := ⟨by simp [modO, modAt], by simp [modAt]⟩
  nm := hnm
  key := hk
  vars := by simp [modO, isI64]
  inm := hl
  cn := by simp [modO]
  en := by simp [modO, isI64]
  fn := by simp [modO]
def namesOf : Int ⊕ List Ob → Int × List ByteArray
  | .inl e => (e, [])
  | .inr d => (0, d.map (·.name))
theorem namesOf_inl {r : Int ⊕ List Ob} {e : Int} (h : namesOf r = (e, [])) (he : e ≠ 0) : r = .inl e := by
  cases r with
  | inl x => simp [namesOf] at h; rw [h]
  | inr d => simp [namesOf] at h; exact absurd h.1.symm he
def knownL : List Ob := [modO ⟨#[65]⟩ 1 [(⟨#[66]⟩, 2), (⟨#[67]⟩, 3)], modO ⟨#[66]⟩ 2 [(⟨#[67]⟩, 3)], modO ⟨#[67]⟩ 3 [], modO ⟨#[88]⟩ 1 [(⟨#[89]⟩, 1)], modO ⟨#[89]⟩ 1 [(⟨#[88]⟩, 1)]]
def knownV : V := putsF putP (putsO putP v0L knownL) []
theorem known_A : namesOf (loadedO (getV knownV) ⟨#[65]⟩) = (0, [⟨#[67]⟩, ⟨#[66]⟩, ⟨#[65]⟩]) := by decide +kernel
theorem known_X : namesOf (loadedO (getV knownV) ⟨#[88]⟩) = (9, []) := by decide +kernel
theorem known_Z : namesOf (loadedO (getV knownV) ⟨#[90]⟩) = (6, []) := by decide +kernel
set_option maxRecDepth 100000 in
set_option maxHeartbeats 32000000 in
theorem known_c (W : World) : Calls Try.prog 11 #[] W fun e w' => e = .returned (.bool true) ∧ Chg NoB W w' := by
  go_enter Try.func11, Try.ntmps11
  have HC : Hid (Chg NoB W W) := Go.Lib.hid (Chg.refl _ _)
  go_wp2_with fail
  refine (module_k _ ⟨#[67]⟩ 3 [] 0 rfl none 0).mono ?_
  rintro e wm0 ⟨c0, e0, rfl, hc, hbc, hbe⟩
  have HI0 : Hid (ObIs wm0 (modO ⟨#[67]⟩ 3 []) (modAt none 0 c0 e0)) := Go.Lib.hid (mod_is (fun h => by simp [impCells] at h) (by simp [maxLen]) (by decide) (by decide) (by decide) hbc hbe)
  have HC := Go.Lib.hid (HC.out.trans hc)
  clear hc hbc hbe
  go_wp2_with fail
  obtain ⟨wa1, hw⟩ : ∃ w, wm0.alloc (.cells #[.string ⟨#[67]⟩, .int .u32 3, .slice none 0 0, .int .i64 0, .slice none 0 0, .slice (some ⟨c0, 0, none⟩) 1 1, .slice (some ⟨e0, 0, none⟩) 1 1, .slice none 0 0] OT) = w := ⟨_, rfl⟩
  have hca : Chg NoB wm0 wa1 := by rw [← hw]; exact (Chg.refl NoB _).alloc _
  have HB0 : Hid (Blk wa1 (wm0.heap.size) OT #[.string ⟨#[67]⟩, .int .u32 3, .slice none 0 0, .int .i64 0, .slice none 0 0, .slice (some ⟨c0, 0, none⟩) 1 1, .slice (some ⟨e0, 0, none⟩) 1 1, .slice none 0 0]) := Go.Lib.hid (by rw [← hw]; exact Blk.new _ OT _)
  have HI0 := Go.Lib.hid (HI0.out.quiet hca)
  have HC := Go.Lib.hid (HC.out.trans hca)
  have hsz : wa1.heap.size = wm0.heap.size + 1 := by rw [← hw]; simp
  rw [hw]
  clear hw hca
  generalize wm0.heap.size = b0 at *
  obtain ⟨wi1, hw⟩ : ∃ w, wa1.alloc (.cells #[.string ⟨#[67]⟩, .int .u32 3] IT) = w := ⟨_, rfl⟩
  have hca : Chg NoB wa1 wi1 := by rw [← hw]; exact (Chg.refl NoB _).alloc _
  have HR : Hid (CellsAt wi1 (some ⟨wa1.heap.size, 0, none⟩) (impCells [(⟨#[67]⟩, 3)])) := Go.Lib.hid (by rw [← hw]; exact cells_of_blk (Blk.new _ IT #[.string ⟨#[67]⟩, .int .u32 3]))
  have HC := Go.Lib.hid (HC.out.trans hca)
  have HB0 := Go.Lib.hid (HB0.out.chg hca id)
  have HI0 := Go.Lib.hid (HI0.out.quiet hca)
  rw [hw]
  clear hw hca
  rw [hsz] at HR
  clear hsz
  generalize b0 + 1 = g1 at *
  refine (module_k _ ⟨#[66]⟩ 2 [(⟨#[67]⟩, 3)] 1 rfl (some ⟨g1, 0, none⟩) 1).mono ?_
  rintro e wm1 ⟨c1, e1, rfl, hc, hbc, hbe⟩
  have HI1 : Hid (ObIs wm1 (modO ⟨#[66]⟩ 2 [(⟨#[67]⟩, 3)]) (modAt (some ⟨g1, 0, none⟩) 1 c1 e1)) := Go.Lib.hid (mod_is (HR.out.chg hc fun _ _ => id) (by simp [maxLen]) (by decide) (by decide) (by decide) hbc hbe)
  have HC := Go.Lib.hid (HC.out.trans hc)
  have HB0 := Go.Lib.hid (HB0.out.chg hc id)
  have HI0 := Go.Lib.hid (HI0.out.quiet hc)
  clear hc hbc hbe
  clear HR
  go_wp2_with fail
  obtain ⟨wa2, hw⟩ : ∃ w, wm1.alloc (.cells #[.string ⟨#[66]⟩, .int .u32 2, .slice (some ⟨g1, 0, none⟩) 1 1, .int .i64 0, .slice none 0 0, .slice (some ⟨c1, 0, none⟩) 1 1, .slice (some ⟨e1, 0, none⟩) 1 1, .slice none 0 0] OT) = w := ⟨_, rfl⟩
  have hca : Chg NoB wm1 wa2 := by rw [← hw]; exact (Chg.refl NoB _).alloc _
  have HB1 : Hid (Blk wa2 (wm1.heap.size) OT #[.string ⟨#[66]⟩, .int .u32 2, .slice (some ⟨g1, 0, none⟩) 1 1, .int .i64 0, .slice none 0 0, .slice (some ⟨c1, 0, none⟩) 1 1, .slice (some ⟨e1, 0, none⟩) 1 1, .slice none 0 0]) := Go.Lib.hid (by rw [← hw]; exact Blk.new _ OT _)
  have HI1 := Go.Lib.hid (HI1.out.quiet hca)
  have HC := Go.Lib.hid (HC.out.trans hca)
  have hsz : wa2.heap.size = wm1.heap.size + 1 := by rw [← hw]; simp
  have HB0 := Go.Lib.hid (HB0.out.chg hca id)
  have HI0 := Go.Lib.hid (HI0.out.quiet hca)
  rw [hw]
  clear hw hca
  generalize wm1.heap.size = b1 at *
  obtain ⟨wi2, hw⟩ : ∃ w, wa2.alloc (.cells #[.string ⟨#[66]⟩, .int .u32 2, .string ⟨#[67]⟩, .int .u32 3] IT) = w := ⟨_, rfl⟩
  have hca : Chg NoB wa2 wi2 := by rw [← hw]; exact (Chg.refl NoB _).alloc _
  have HR : Hid (CellsAt wi2 (some ⟨wa2.heap.size, 0, none⟩) (impCells [(⟨#[66]⟩, 2), (⟨#[67]⟩, 3)])) := Go.Lib.hid (by rw [← hw]; exact cells_of_blk (Blk.new _ IT #[.string ⟨#[66]⟩, .int .u32 2, .string ⟨#[67]⟩, .int .u32 3]))
  have HC := Go.Lib.hid (HC.out.trans hca)
  have HB0 := Go.Lib.hid (HB0.out.chg hca id)
  have HI0 := Go.Lib.hid (HI0.out.quiet hca)
  have HB1 := Go.Lib.hid (HB1.out.chg hca id)
  have HI1 := Go.Lib.hid (HI1.out.quiet hca)
  rw [hw]
  clear hw hca
  rw [hsz] at HR
  clear hsz
  generalize b1 + 1 = g2 at *
  refine (module_k _ ⟨#[65]⟩ 1 [(⟨#[66]⟩, 2), (⟨#[67]⟩, 3)] 2 rfl (some ⟨g2, 0, none⟩) 2).mono ?_
  rintro e wm2 ⟨c2, e2, rfl, hc, hbc, hbe⟩
  have HI2 : Hid (ObIs wm2 (modO ⟨#[65]⟩ 1 [(⟨#[66]⟩, 2), (⟨#[67]⟩, 3)]) (modAt (some ⟨g2, 0, none⟩) 2 c2 e2)) := Go.Lib.hid (mod_is (HR.out.chg hc fun _ _ => id) (by simp [maxLen]) (by decide) (by decide) (by decide) hbc hbe)
  have HC := Go.Lib.hid (HC.out.trans hc)
  have HB0 := Go.Lib.hid (HB0.out.chg hc id)
  have HI0 := Go.Lib.hid (HI0.out.quiet hc)
  have HB1 := Go.Lib.hid (HB1.out.chg hc id)
  have HI1 := Go.Lib.hid (HI1.out.quiet hc)
  clear hc hbc hbe
  clear HR
  go_wp2_with fail
  obtain ⟨wa3, hw⟩ : ∃ w, wm2.alloc (.cells #[.string ⟨#[65]⟩, .int .u32 1, .slice (some ⟨g2, 0, none⟩) 2 2, .int .i64 0, .slice none 0 0, .slice (some ⟨c2, 0, none⟩) 1 1, .slice (some ⟨e2, 0, none⟩) 1 1, .slice none 0 0] OT) = w := ⟨_, rfl⟩
  have hca : Chg NoB wm2 wa3 := by rw [← hw]; exact (Chg.refl NoB _).alloc _
  have HB2 : Hid (Blk wa3 (wm2.heap.size) OT #[.string ⟨#[65]⟩, .int .u32 1, .slice (some ⟨g2, 0, none⟩) 2 2, .int .i64 0, .slice none 0 0, .slice (some ⟨c2, 0, none⟩) 1 1, .slice (some ⟨e2, 0, none⟩) 1 1, .slice none 0 0]) := Go.Lib.hid (by rw [← hw]; exact Blk.new _ OT _)
  have HI2 := Go.Lib.hid (HI2.out.quiet hca)
  have HC := Go.Lib.hid (HC.out.trans hca)
  have hsz : wa3.heap.size = wm2.heap.size + 1 := by rw [← hw]; simp
  have HB0 := Go.Lib.hid (HB0.out.chg hca id)
  have HI0 := Go.Lib.hid (HI0.out.quiet hca)
  have HB1 := Go.Lib.hid (HB1.out.chg hca id)
  have HI1 := Go.Lib.hid (HI1.out.quiet hca)
  rw [hw]
  clear hw hca
  generalize wm2.heap.size = b2 at *
  obtain ⟨wi3, hw⟩ : ∃ w, wa3.alloc (.cells #[.string ⟨#[89]⟩, .int .u32 1] IT) = w := ⟨_, rfl⟩
  have hca : Chg NoB wa3 wi3 := by rw [← hw]; exact (Chg.refl NoB _).alloc _
  have HR : Hid (CellsAt wi3 (some ⟨wa3.heap.size, 0, none⟩) (impCells [(⟨#[89]⟩, 1)])) := Go.Lib.hid (by rw [← hw]; exact cells_of_blk (Blk.new _ IT #[.string ⟨#[89]⟩, .int .u32 1]))
  have HC := Go.Lib.hid (HC.out.trans hca)
  have HB0 := Go.Lib.hid (HB0.out.chg hca id)
  have HI0 := Go.Lib.hid (HI0.out.quiet hca)
  have HB1 := Go.Lib.hid (HB1.out.chg hca id)
  have HI1 := Go.Lib.hid (HI1.out.quiet hca)
  have HB2 := Go.Lib.hid (HB2.out.chg hca id)
  have HI2 := Go.Lib.hid (HI2.out.quiet hca)
  rw [hw]
  clear hw hca
  rw [hsz] at HR
  clear hsz
  generalize b2 + 1 = g3 at *
  refine (module_k _ ⟨#[88]⟩ 1 [(⟨#[89]⟩, 1)] 1 rfl (some ⟨g3, 0, none⟩) 1).mono ?_
  rintro e wm3 ⟨c3, e3, rfl, hc, hbc, hbe⟩
  have HI3 : Hid (ObIs wm3 (modO ⟨#[88]⟩ 1 [(⟨#[89]⟩, 1)]) (modAt (some ⟨g3, 0, none⟩) 1 c3 e3)) := Go.Lib.hid (mod_is (HR.out.chg hc fun _ _ => id) (by simp [maxLen]) (by decide) (by decide) (by decide) hbc hbe)
  have HC := Go.Lib.hid (HC.out.trans hc)
  have HB0 := Go.Lib.hid (HB0.out.chg hc id)
  have HI0 := Go.Lib.hid (HI0.out.quiet hc)
  have HB1 := Go.Lib.hid (HB1.out.chg hc id)
  have HI1 := Go.Lib.hid (HI1.out.quiet hc)
  have HB2 := Go.Lib.hid (HB2.out.chg hc id)
  have HI2 := Go.Lib.hid (HI2.out.quiet hc)
  clear hc hbc hbe
  clear HR
  go_wp2_with fail
  obtain ⟨wa4, hw⟩ : ∃ w, wm3.alloc (.cells #[.string ⟨#[88]⟩, .int .u32 1, .slice (some ⟨g3, 0, none⟩) 1 1, .int .i64 0, .slice none 0 0, .slice (some ⟨c3, 0, none⟩) 1 1, .slice (some ⟨e3, 0, none⟩) 1 1, .slice none 0 0] OT) = w := ⟨_, rfl⟩
  have hca : Chg NoB wm3 wa4 := by rw [← hw]; exact (Chg.refl NoB _).alloc _
  have HB3 : Hid (Blk wa4 (wm3.heap.size) OT #[.string ⟨#[88]⟩, .int .u32 1, .slice (some ⟨g3, 0, none⟩) 1 1, .int .i64 0, .slice none 0 0, .slice (some ⟨c3, 0, none⟩) 1 1, .slice (some ⟨e3, 0, none⟩) 1 1, .slice none 0 0]) := Go.Lib.hid (by rw [← hw]; exact Blk.new _ OT _)
  have HI3 := Go.Lib.hid (HI3.out.quiet hca)
  have HC := Go.Lib.hid (HC.out.trans hca)
  have hsz : wa4.heap.size = wm3.heap.size + 1 := by rw [← hw]; simp
  have HB0 := Go.Lib.hid (HB0.out.chg hca id)
  have HI0 := Go.Lib.hid (HI0.out.quiet hca)
  have HB1 := Go.Lib.hid (HB1.out.chg hca id)
  have HI1 := Go.Lib.hid (HI1.out.quiet hca)
  have HB2 := Go.Lib.hid (HB2.out.chg hca id)
  have HI2 := Go.Lib.hid (HI2.out.quiet hca)
  rw [hw]
  clear hw hca
  generalize wm3.heap.size = b3 at *
  obtain ⟨wi4, hw⟩ : ∃ w, wa4.alloc (.cells #[.string ⟨#[88]⟩, .int .u32 1] IT) = w := ⟨_, rfl⟩
  have hca : Chg NoB wa4 wi4 := by rw [← hw]; exact (Chg.refl NoB _).alloc _
  have HR : Hid (CellsAt wi4 (some ⟨wa4.heap.size, 0, none⟩) (impCells [(⟨#[88]⟩, 1)])) := Go.Lib.hid (by rw [← hw]; exact cells_of_blk (Blk.new _ IT #[.string ⟨#[88]⟩, .int .u32 1]))
  have HC := Go.Lib.hid (HC.out.trans hca)
  have HB0 := Go.Lib.hid (HB0.out.chg hca id)
  have HI0 := Go.Lib.hid (HI0.out.quiet hca)
  have HB1 := Go.Lib.hid (HB1.out.chg hca id)
  have HI1 := Go.Lib.hid (HI1.out.quiet hca)
  have HB2 := Go.Lib.hid (HB2.out.chg hca id)
  have HI2 := Go.Lib.hid (HI2.out.quiet hca)
  have HB3 := Go.Lib.hid (HB3.out.chg hca id)
  have HI3 := Go.Lib.hid (HI3.out.quiet hca)
  rw [hw]
  clear hw hca
  rw [hsz] at HR
  clear hsz
  generalize b3 + 1 = g4 at *
  refine (module_k _ ⟨#[89]⟩ 1 [(⟨#[88]⟩, 1)] 1 rfl (some ⟨g4, 0, none⟩) 1).mono ?_
  rintro e wm4 ⟨c4, e4, rfl, hc, hbc, hbe⟩
  have HI4 : Hid (ObIs wm4 (modO ⟨#[89]⟩ 1 [(⟨#[88]⟩, 1)]) (modAt (some ⟨g4, 0, none⟩) 1 c4 e4)) := Go.Lib.hid (mod_is (HR.out.chg hc fun _ _ => id) (by simp [maxLen]) (by decide) (by decide) (by decide) hbc hbe)
  have HC := Go.Lib.hid (HC.out.trans hc)
  have HB0 := Go.Lib.hid (HB0.out.chg hc id)
  have HI0 := Go.Lib.hid (HI0.out.quiet hc)
  have HB1 := Go.Lib.hid (HB1.out.chg hc id)
  have HI1 := Go.Lib.hid (HI1.out.quiet hc)
  have HB2 := Go.Lib.hid (HB2.out.chg hc id)
  have HI2 := Go.Lib.hid (HI2.out.quiet hc)
  have HB3 := Go.Lib.hid (HB3.out.chg hc id)
  have HI3 := Go.Lib.hid (HI3.out.quiet hc)
  clear hc hbc hbe
  clear HR
  go_upto_region 6 with fail
  obtain ⟨w6, hw⟩ : ∃ w, wm4.alloc (.cells #[.string ⟨#[89]⟩, .int .u32 1, .slice (some ⟨g4, 0, none⟩) 1 1, .int .i64 0, .slice none 0 0, .slice (some ⟨c4, 0, none⟩) 1 1, .slice (some ⟨e4, 0, none⟩) 1 1, .slice none 0 0] OT) = w := ⟨_, rfl⟩
  have hca : Chg NoB wm4 w6 := by rw [← hw]; exact (Chg.refl NoB _).alloc _
  have HB4 : Hid (Blk w6 (wm4.heap.size) OT #[.string ⟨#[89]⟩, .int .u32 1, .slice (some ⟨g4, 0, none⟩) 1 1, .int .i64 0, .slice none 0 0, .slice (some ⟨c4, 0, none⟩) 1 1, .slice (some ⟨e4, 0, none⟩) 1 1, .slice none 0 0]) := Go.Lib.hid (by rw [← hw]; exact Blk.new _ OT _)
  have HI4 := Go.Lib.hid (HI4.out.quiet hca)
  have HC := Go.Lib.hid (HC.out.trans hca)
  have HB0 := Go.Lib.hid (HB0.out.chg hca id)
  have HI0 := Go.Lib.hid (HI0.out.quiet hca)
  have HB1 := Go.Lib.hid (HB1.out.chg hca id)
  have HI1 := Go.Lib.hid (HI1.out.quiet hca)
  have HB2 := Go.Lib.hid (HB2.out.chg hca id)
  have HI2 := Go.Lib.hid (HI2.out.quiet hca)
  have HB3 := Go.Lib.hid (HB3.out.chg hca id)
  have HI3 := Go.Lib.hid (HI3.out.quiet hca)
  rw [hw]
  clear hw hca
  generalize wm4.heap.size = b4 at *
  have y00 : w6.cell? ⟨b0, 0, none⟩ = some (.string ⟨#[67]⟩) := HB0.out.cell 0
  have y01 : w6.cell? ⟨b0, 1, none⟩ = some (.int .u32 3) := HB0.out.cell 1
  have y02 : w6.cell? ⟨b0, 2, none⟩ = some (.slice none 0 0) := HB0.out.cell 2
  have y03 : w6.cell? ⟨b0, 3, none⟩ = some (.int .i64 0) := HB0.out.cell 3
  have y04 : w6.cell? ⟨b0, 4, none⟩ = some (.slice none 0 0) := HB0.out.cell 4
  have y05 : w6.cell? ⟨b0, 5, none⟩ = some (.slice (some ⟨c0, 0, none⟩) 1 1) := HB0.out.cell 5
  have y06 : w6.cell? ⟨b0, 6, none⟩ = some (.slice (some ⟨e0, 0, none⟩) 1 1) := HB0.out.cell 6
  have y07 : w6.cell? ⟨b0, 7, none⟩ = some (.slice none 0 0) := HB0.out.cell 7
  have y10 : w6.cell? ⟨b1, 0, none⟩ = some (.string ⟨#[66]⟩) := HB1.out.cell 0
  have y11 : w6.cell? ⟨b1, 1, none⟩ = some (.int .u32 2) := HB1.out.cell 1
  have y12 : w6.cell? ⟨b1, 2, none⟩ = some (.slice (some ⟨g1, 0, none⟩) 1 1) := HB1.out.cell 2
  have y13 : w6.cell? ⟨b1, 3, none⟩ = some (.int .i64 0) := HB1.out.cell 3
  have y14 : w6.cell? ⟨b1, 4, none⟩ = some (.slice none 0 0) := HB1.out.cell 4
  have y15 : w6.cell? ⟨b1, 5, none⟩ = some (.slice (some ⟨c1, 0, none⟩) 1 1) := HB1.out.cell 5
  have y16 : w6.cell? ⟨b1, 6, none⟩ = some (.slice (some ⟨e1, 0, none⟩) 1 1) := HB1.out.cell 6
  have y17 : w6.cell? ⟨b1, 7, none⟩ = some (.slice none 0 0) := HB1.out.cell 7
  have y20 : w6.cell? ⟨b2, 0, none⟩ = some (.string ⟨#[65]⟩) := HB2.out.cell 0
  have y21 : w6.cell? ⟨b2, 1, none⟩ = some (.int .u32 1) := HB2.out.cell 1
  have y22 : w6.cell? ⟨b2, 2, none⟩ = some (.slice (some ⟨g2, 0, none⟩) 2 2) := HB2.out.cell 2
  have y23 : w6.cell? ⟨b2, 3, none⟩ = some (.int .i64 0) := HB2.out.cell 3
  have y24 : w6.cell? ⟨b2, 4, none⟩ = some (.slice none 0 0) := HB2.out.cell 4
  have y25 : w6.cell? ⟨b2, 5, none⟩ = some (.slice (some ⟨c2, 0, none⟩) 1 1) := HB2.out.cell 5
  have y26 : w6.cell? ⟨b2, 6, none⟩ = some (.slice (some ⟨e2, 0, none⟩) 1 1) := HB2.out.cell 6
  have y27 : w6.cell? ⟨b2, 7, none⟩ = some (.slice none 0 0) := HB2.out.cell 7
  have y30 : w6.cell? ⟨b3, 0, none⟩ = some (.string ⟨#[88]⟩) := HB3.out.cell 0
  have y31 : w6.cell? ⟨b3, 1, none⟩ = some (.int .u32 1) := HB3.out.cell 1
  have y32 : w6.cell? ⟨b3, 2, none⟩ = some (.slice (some ⟨g3, 0, none⟩) 1 1) := HB3.out.cell 2
  have y33 : w6.cell? ⟨b3, 3, none⟩ = some (.int .i64 0) := HB3.out.cell 3
  have y34 : w6.cell? ⟨b3, 4, none⟩ = some (.slice none 0 0) := HB3.out.cell 4
  have y35 : w6.cell? ⟨b3, 5, none⟩ = some (.slice (some ⟨c3, 0, none⟩) 1 1) := HB3.out.cell 5
  have y36 : w6.cell? ⟨b3, 6, none⟩ = some (.slice (some ⟨e3, 0, none⟩) 1 1) := HB3.out.cell 6
  have y37 : w6.cell? ⟨b3, 7, none⟩ = some (.slice none 0 0) := HB3.out.cell 7
  have y40 : w6.cell? ⟨b4, 0, none⟩ = some (.string ⟨#[89]⟩) := HB4.out.cell 0
  have y41 : w6.cell? ⟨b4, 1, none⟩ = some (.int .u32 1) := HB4.out.cell 1
  have y42 : w6.cell? ⟨b4, 2, none⟩ = some (.slice (some ⟨g4, 0, none⟩) 1 1) := HB4.out.cell 2
  have y43 : w6.cell? ⟨b4, 3, none⟩ = some (.int .i64 0) := HB4.out.cell 3
  have y44 : w6.cell? ⟨b4, 4, none⟩ = some (.slice none 0 0) := HB4.out.cell 4
  have y45 : w6.cell? ⟨b4, 5, none⟩ = some (.slice (some ⟨c4, 0, none⟩) 1 1) := HB4.out.cell 5
  have y46 : w6.cell? ⟨b4, 6, none⟩ = some (.slice (some ⟨e4, 0, none⟩) 1 1) := HB4.out.cell 6
  have y47 : w6.cell? ⟨b4, 7, none⟩ = some (.slice none 0 0) := HB4.out.cell 7
  go_wp2_with fail
  clear y00 y01 y02 y03 y04 y05 y06 y07 y10 y11 y12 y13 y14 y15 y16 y17 y20 y21 y22 y23 y24 y25 y26 y27 y30 y31 y32 y33 y34 y35 y36 y37 y40 y41 y42 y43 y44 y45 y46 y47
  obtain ⟨w7, hw⟩ : ∃ w, w6.alloc (.cells #[.string ⟨#[65]⟩, .int .u32 1, .slice (some ⟨g2, 0, none⟩) 2 2, .int .i64 0, .slice none 0 0, .slice (some ⟨c2, 0, none⟩) 1 1, .slice (some ⟨e2, 0, none⟩) 1 1, .slice none 0 0, .string ⟨#[66]⟩, .int .u32 2, .slice (some ⟨g1, 0, none⟩) 1 1, .int .i64 0, .slice none 0 0, .slice (some ⟨c1, 0, none⟩) 1 1, .slice (some ⟨e1, 0, none⟩) 1 1, .slice none 0 0, .string ⟨#[67]⟩, .int .u32 3, .slice none 0 0, .int .i64 0, .slice none 0 0, .slice (some ⟨c0, 0, none⟩) 1 1, .slice (some ⟨e0, 0, none⟩) 1 1, .slice none 0 0, .string ⟨#[88]⟩, .int .u32 1, .slice (some ⟨g3, 0, none⟩) 1 1, .int .i64 0, .slice none 0 0, .slice (some ⟨c3, 0, none⟩) 1 1, .slice (some ⟨e3, 0, none⟩) 1 1, .slice none 0 0, .string ⟨#[89]⟩, .int .u32 1, .slice (some ⟨g4, 0, none⟩) 1 1, .int .i64 0, .slice none 0 0, .slice (some ⟨c4, 0, none⟩) 1 1, .slice (some ⟨e4, 0, none⟩) 1 1, .slice none 0 0] OT) = w := ⟨_, rfl⟩
  have hca : Chg NoB w6 w7 := by rw [← hw]; exact (Chg.refl NoB _).alloc _
  have HRow : Hid (CellsAt w7 (some ⟨w6.heap.size, 0, none⟩) (allCells [(modO ⟨#[65]⟩ 1 [(⟨#[66]⟩, 2), (⟨#[67]⟩, 3)], modAt (some ⟨g2, 0, none⟩) 2 c2 e2), (modO ⟨#[66]⟩ 2 [(⟨#[67]⟩, 3)], modAt (some ⟨g1, 0, none⟩) 1 c1 e1), (modO ⟨#[67]⟩ 3 [], modAt none 0 c0 e0), (modO ⟨#[88]⟩ 1 [(⟨#[89]⟩, 1)], modAt (some ⟨g3, 0, none⟩) 1 c3 e3), (modO ⟨#[89]⟩ 1 [(⟨#[88]⟩, 1)], modAt (some ⟨g4, 0, none⟩) 1 c4 e4)])) := Go.Lib.hid (by rw [← hw]; exact cells_of_blk (Blk.new _ OT #[.string ⟨#[65]⟩, .int .u32 1, .slice (some ⟨g2, 0, none⟩) 2 2, .int .i64 0, .slice none 0 0, .slice (some ⟨c2, 0, none⟩) 1 1, .slice (some ⟨e2, 0, none⟩) 1 1, .slice none 0 0, .string ⟨#[66]⟩, .int .u32 2, .slice (some ⟨g1, 0, none⟩) 1 1, .int .i64 0, .slice none 0 0, .slice (some ⟨c1, 0, none⟩) 1 1, .slice (some ⟨e1, 0, none⟩) 1 1, .slice none 0 0, .string ⟨#[67]⟩, .int .u32 3, .slice none 0 0, .int .i64 0, .slice none 0 0, .slice (some ⟨c0, 0, none⟩) 1 1, .slice (some ⟨e0, 0, none⟩) 1 1, .slice none 0 0, .string ⟨#[88]⟩, .int .u32 1, .slice (some ⟨g3, 0, none⟩) 1 1, .int .i64 0, .slice none 0 0, .slice (some ⟨c3, 0, none⟩) 1 1, .slice (some ⟨e3, 0, none⟩) 1 1, .slice none 0 0, .string ⟨#[89]⟩, .int .u32 1, .slice (some ⟨g4, 0, none⟩) 1 1, .int .i64 0, .slice none 0 0, .slice (some ⟨c4, 0, none⟩) 1 1, .slice (some ⟨e4, 0, none⟩) 1 1, .slice none 0 0]))
  have HC := Go.Lib.hid (HC.out.trans hca)
  have HI0 := Go.Lib.hid (HI0.out.quiet hca)
  have HI1 := Go.Lib.hid (HI1.out.quiet hca)
  have HI2 := Go.Lib.hid (HI2.out.quiet hca)
  have HI3 := Go.Lib.hid (HI3.out.quiet hca)
  have HI4 := Go.Lib.hid (HI4.out.quiet hca)
  rw [hw]
  clear hw hca
  generalize w6.heap.size = gr at *
  have hst := stores_c HRow.out (fun x hx => by
    simp only [List.mem_cons, List.not_mem_nil, or_false] at hx
    rcases hx with rfl | rfl | rfl | rfl | rfl
    · exact HI2.out
    · exact HI1.out
    · exact HI0.out
    · exact HI3.out
    · exact HI4.out) (by simp) (fs := []) (B := none) (fun h => by simp at h) (by simp) (c := 5) (cb := 0)
  have HST := Go.Lib.hid hst
  clear hst HRow HI0 HI1 HI2 HI3 HI4 HB0 HB1 HB2 HB3 HB4
  refine HST.out.mono ?_
  rintro e w8 ⟨s, r, rfl, hT⟩
  have hT2 : TwoL w7 w8 s r knownV (putsF putQ (putsO putQ v0L knownL) []) 5 := hT
  have HT := Go.Lib.hid hT2
  have HC := Go.Lib.hid (HC.out.trans hT2.chg)
  clear hT hT2 HST
  obtain ⟨base, F, aa, hsv, _⟩ := HT.out
  have HSV := Go.Lib.hid hsv
  clear hsv HT
  go_wp2_with fail
  refine (order_c HSV.out (by show 1 + 2 ≤ maxLen; unfold maxLen; decide)).mono ?_
  rintro e w9 ⟨hc9, u, ln, er, rfl, hres, hrow⟩
  have hA := known_A
  have hl3 : ln = [⟨#[67]⟩, ⟨#[66]⟩, ⟨#[65]⟩] ∧ er = 0 := by
    rcases hres with ⟨h1, h2, h3⟩ | ⟨dd, h1, h2, h3⟩
    · rw [h1] at hA
      simp [namesOf] at hA
    · rw [h1] at hA
      simp only [namesOf, Prod.mk.injEq] at hA
      exact ⟨by rw [h2]; exact hA.2, h3⟩
  obtain ⟨rfl, rfl⟩ := hl3
  obtain ⟨Au, cu, rfl⟩ := own_slice hrow
  obtain ⟨ub, uo, rfl, hcl⟩ := (own_cells_ hrow).flat (by simp)
  have HU : Hid (∀ V', Chg NoB w9 V' → V'.cell? ⟨ub, uo, none⟩ = some (.string ⟨#[67]⟩) ∧ V'.cell? ⟨ub, uo + 1, none⟩ = some (.string ⟨#[66]⟩) ∧ V'.cell? ⟨ub, uo + 2, none⟩ = some (.string ⟨#[65]⟩)) := Go.Lib.hid fun V' hV => ⟨keepQ hV (hcl 0 _ rfl), keepQ hV (hcl 1 _ rfl), keepQ hV (hcl 2 _ rfl)⟩
  have HSV9 := Go.Lib.hid (HSV.out.quiet hc9)
  have HC9 := Go.Lib.hid (HC.out.trans hc9)
  clear hc9 hres hrow hA hcl HC HSV
  simp only [List.length_cons, List.length_nil]
  go_wp2_with fail
  refine (link_c HSV9.out (by show 1 + 2 ≤ maxLen; unfold maxLen; decide)).mono ?_
  rintro e w10 ⟨hc10, hp10⟩
  have hX : linkO (getV knownV) ⟨#[88]⟩ = .inl 9 := by
    unfold linkO
    rw [namesOf_inl known_X (by decide)]
  rw [hX] at hp10
  obtain rfl := hp10
  have HSV10 := Go.Lib.hid (HSV9.out.quiet hc10)
  have HC10 := Go.Lib.hid hc10
  clear hc10 hX HSV9
  go_wp2_with fail
  obtain ⟨w11, hw⟩ : ∃ w, w10.alloc (.cells #[.slice none 0 0, .slice none 0 0] IMT) = w := ⟨_, rfl⟩
  have hca : Chg NoB w10 w11 := by rw [← hw]; exact (Chg.refl NoB _).alloc _
  have HSV11 := Go.Lib.hid (HSV10.out.quiet hca)
  have HC11 := Go.Lib.hid (HC10.out.trans hca)
  rw [hw]
  clear hw hca HSV10 HC10
  refine (link_c HSV11.out (by show 1 + 2 ≤ maxLen; unfold maxLen; decide)).mono ?_
  rintro e w12 ⟨hc12, hp12⟩
  have hZ : linkO (getV knownV) ⟨#[90]⟩ = .inl 6 := by
    unfold linkO
    rw [namesOf_inl known_Z (by decide)]
  rw [hZ] at hp12
  obtain rfl := hp12
  have HC12 := Go.Lib.hid (HC11.out.trans hc12)
  clear hc12 hZ HSV11 HC11
  go_upto_region 12 with fail
  obtain ⟨w13, hw⟩ : ∃ w, w12.alloc (.cells #[.slice none 0 0, .slice none 0 0] IMT) = w := ⟨_, rfl⟩
  have hca : Chg NoB w12 w13 := by rw [← hw]; exact (Chg.refl NoB _).alloc _
  have HC13 := Go.Lib.hid (HC12.out.trans hca)
  rw [hw]
  clear hw hca HC12
  obtain ⟨u0, u1, u2⟩ := HU.out w13 HC13.out
  have hbC : ((⟨#[67]⟩ : ByteArray).toList == (⟨#[67]⟩ : ByteArray).toList) = true := by simp
  have hbB : ((⟨#[66]⟩ : ByteArray).toList == (⟨#[66]⟩ : ByteArray).toList) = true := by simp
  have hbA : ((⟨#[65]⟩ : ByteArray).toList == (⟨#[65]⟩ : ByteArray).toList) = true := by simp
  go_wp2_with fail
  refine (num9_c _ _).mono ?_
  rintro e wz ⟨rfl, hz⟩
  obtain rfl := hz.symm
  go_wp2_with fail
  refine (num9_c _ _).mono ?_
  rintro e wz ⟨rfl, hz⟩
  obtain rfl := hz.symm
  go_wp2_with fail
  refine (num9_c _ _).mono ?_
  rintro e wz ⟨rfl, hz⟩
  obtain rfl := hz.symm
  go_wp2_with fail
  go_ret
  exact ⟨rfl, HC9.out.trans HC13.out⟩
end Go.Proofs.Yteleglkoagnmcaa
