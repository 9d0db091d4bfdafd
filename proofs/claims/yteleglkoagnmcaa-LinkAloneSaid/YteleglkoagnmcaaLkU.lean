/- What is proved: the document's Bytes of an object that may be tells its bytes. Conditions: the memory holds the object. -/
import Derived.Test.YteleglkoagnmcaaGLkB
import Derived.Test.YteleglkoagnmcaaTkH
import Derived.Test.YteleglkoagnmcaaGR2A
import Derived.Deep.CutRange
set_option linter.unusedSimpArgs false
set_option linter.unusedVariables false
namespace Go.Proofs.Yteleglkoagnmcaa
open Go Go.RowKit
/-- bytes that are being built; all that was stands -/
structure BI (B w : World) (l : List UInt8) (v : Value) : Prop where
  row : w.ownsRow B.heap.size U8T 1 v l.length (bv l)
  chg : Chg NoB B w
section
variable {B w w1 : World} {l m : List UInt8} {v v1 : Value}
theorem BI.quiet (h : BI B w l v) (hc : Chg NoB w w1) : BI B w1 l v := ⟨own_chg h.row hc fun _ _ => id, h.chg.trans hc⟩
theorem BI.app {news : List Value} (h : BI B w l v) (own : w1.ownsRow B.heap.size U8T 1 v1 (l.length + m.length) (bv l ++ news)) (gr : w.grownBy w1 v.ownBlock) (hn : news = bv m) : BI B w1 (l ++ m) v1 where
  row := by
    rw [List.length_append, bv_append, ← hn]
    exact own
  chg := h.chg.grown gr fun k hk hlt => by
    have := own_at_ h.row hk
    omega
theorem own_ne {base : Nat} {e : TypeId} {size n : Nat} {xs : List Value} (h : w.ownsRow base e size v n xs) : ¬ (v.ownBlock = some w.heap.size) := fun hk => by
  obtain ⟨cs, fr, hh⟩ := own_tag h hk
  have := (Array.getElem?_eq_some_iff.1 hh).1
  omega
theorem grown_own (gr : w.grownBy w1 v.ownBlock) : Chg (fun k => v.ownBlock = some k) w w1 := (Chg.refl _ w).grown gr fun k h _ => h
end
/-- the same, beside a box that holds a fixup -/
structure BIF (B : World) (fb : Nat) (f : Int × Int × Int) (w : World) (l : List UInt8) (v : Value) : Prop where
  row : w.ownsRow B.heap.size U8T 1 v l.length (bv l)
  chg : Chg NoB B w
  box : Blk w fb FT #[.int .i64 f.1, .int .i64 f.2.1, .int .i64 f.2.2]
section
variable {B w w1 : World} {l m : List UInt8} {v v1 : Value} {fb : Nat} {f : Int × Int × Int}
theorem BIF.held (h : BIF B fb f w l v) : Chg NoB B w ∧ Blk w fb FT #[.int .i64 f.1, .int .i64 f.2.1, .int .i64 f.2.2] := ⟨h.chg, h.box⟩
theorem BIF.bi (h : BIF B fb f w l v) : BI B w l v := ⟨h.row, h.chg⟩
theorem BIF.quiet (h : BIF B fb f w l v) (hc : Chg NoB w w1) : BIF B fb f w1 l v := ⟨own_chg h.row hc fun _ _ => id, h.chg.trans hc, h.box.chg hc id⟩
theorem BIF.app {news : List Value} (h : BIF B fb f w l v) (own : w1.ownsRow B.heap.size U8T 1 v1 (l.length + m.length) (bv l ++ news)) (gr : w.grownBy w1 v.ownBlock) (hn : news = bv m) : BIF B fb f w1 (l ++ m) v1 where
  row := (h.bi.app own gr hn).row
  chg := (h.bi.app own gr hn).chg
  box := h.box.grown gr fun e => by
    obtain ⟨cs, fr, hh⟩ := own_tag h.row e.symm
    have := h.box
    unfold Blk at this
    rw [hh] at this
    injection this with this
    injection this with _ this
    exact absurd this (by decide)
end
/-- an append of a drawn region, its slot by number -/
theorem wp_appD {o : Oper} {a : Act} {K : Act → World → Prop} {Q : Exit → Act → World → Prop} {P : Program} (w : World) (d : Nat) (hd : o.dst = some d) (s x : Operand) (t : TypeId)
    (ho : o.op = .call { callee := .builtin .append, args := #[s, x], argTypes := #[t, t] })
    (base : Nat) (e : TypeId) (i : TypeInfo) (z : Value) (size bytes : Nat) (ht : P.underlying t = some (.slice e)) (hi : P.info? e = some i) (hz : i.zero = some z)
    (hsize : i.size = size) (hby : i.bytes = bytes) (hzs : z.cells.size = size) (hsz : 0 < size)
    (v : Value) (n : Nat) (xs : List Value) (hs : a.eval s = v) (hown : w.ownsRow base e size v n xs)
    (A : Option Addr) (m c : Nat) (news : List Value) (hx : a.eval x = .slice A m c) (hm : news.length = m * size) (hr : CellsAt w A news) (h1 : ∀ u ∈ news, u.oneCell' = true)
    (h63 : n + m ≤ maxLen) (hbytes : (n + m) * bytes ≤ 140737488355328) (hbase : base ≤ w.heap.size)
    (h : ∀ v' w', w'.ownsRow base e size v' (n + m) (xs ++ news) → w.grownBy w' v.ownBlock → (v'.ownBlock = v.ownBlock ∨ v'.ownBlock = some w.heap.size) → K { tmps := a.tmps.setIfInBounds d v', defers := a.defers } w') : o.wp P a w K Q :=
  wp_appK w s x t ho base e i z size bytes ht hi hz hsize hby hzs hsz v n xs hs hown A m c news hx hm hr h1 h63 hbytes hbase fun v' w' h2 h3 h4 => by
    have h5 := h v' w' h2 h3 h4
    rw [hd]
    exact h5
theorem bv_len1 (l : List UInt8) : (bv l).length = l.length * 1 := by simp [bv]
theorem wordB_len (n : Nat) : (wordB n).length = 4 := rfl
theorem nameB_len (s : ByteArray) : (nameB s).length = s.size + 1 := by
  unfold nameB
  simp
theorem bv_u8 (n : Nat) : bv [UInt8.ofNat (n % 256)] = #[Value.int .u8 ((n : Int) % 256)].toList := by
  unfold bv
  rw [List.map_cons, u8i _ (by omega)]
  simp
theorem bv_u82 (n m : Nat) : bv [UInt8.ofNat (n % 256), UInt8.ofNat (m % 256)] = #[Value.int .u8 ((n : Int) % 256), Value.int .u8 ((m : Int) % 256)].toList := by
  unfold bv
  rw [List.map_cons, List.map_cons, u8i _ (by omega), u8i _ (by omega)]
  simp
theorem bv_i82 (n m : Int) (hn : 0 ≤ n) (hm : 0 ≤ m) : bv [UInt8.ofNat (n.toNat % 256), UInt8.ofNat (m.toNat % 256)] = #[Value.int .u8 (n % 256), Value.int .u8 (m % 256)].toList := by
  rw [bv_u82]
  have e1 : ((n.toNat : Nat) : Int) = n := by omega
  have e2 : ((m.toNat : Nat) : Int) = m := by omega
  rw [e1, e2]
/-- some bytes that a call tells -/
def SrcPost (m : List UInt8) (W : World) (e : Ending) (w' : World) : Prop := ∃ A c, e = .returned (.slice A m.length c) ∧ CellsAt w' A (bv m) ∧ Chg NoB W w'
theorem word_s (W : World) (n : Nat) (hn : n < 4294967296) : Calls Try.prog 53 #[.int .u32 n] W (SrcPost (wordB n) W) := by
  refine (word_r W n hn).mono ?_
  rintro e w ⟨rfl, hb, hc⟩
  exact ⟨_, 4, rfl, by have := cells_of_blk hb; simpa using this, hc⟩
theorem word_m (W : World) (n : Nat) : Calls Try.prog 53 #[.int .u32 ((n : Int) % 4294967296)] W (SrcPost (wordB (n % 4294967296)) W) := by
  have h := word_s W (n % 4294967296) (by omega)
  have e : (((n % 4294967296 : Nat)) : Int) = (n : Int) % 4294967296 := by omega
  rw [e] at h
  exact h
theorem word_i (W : World) (x : Int) (h : 0 ≤ x) : Calls Try.prog 53 #[.int .u32 (x % 4294967296)] W (SrcPost (wordB (x.toNat % 4294967296)) W) := by
  have h2 := word_m W x.toNat
  have e : ((x.toNat : Nat) : Int) = x := by omega
  rw [e] at h2
  exact h2
theorem word_v (W : World) (x : Int) (h : 0 ≤ x) (h2 : x < 4294967296) : Calls Try.prog 53 #[.int .u32 x] W (SrcPost (wordB (x.toNat % 4294967296)) W) := by
  have h3 := word_i W x h
  rw [Int.emod_eq_of_lt h h2] at h3
  exact h3
theorem word_n (W : World) (n : Nat) (h2 : n < 4294967296) : Calls Try.prog 53 #[.int .u32 n] W (SrcPost (wordB (n % 4294967296)) W) := by
  have h3 := word_m W n
  rw [Int.emod_eq_of_lt (by omega) (by omega)] at h3
  exact h3
theorem bv_u8n (n : Nat) (h : n < 256) : bv [UInt8.ofNat (n % 256)] = #[Value.int .u8 (n : Int)].toList := by
  rw [bv_u8, Int.emod_eq_of_lt (by omega) (by omega)]
theorem name_s (W : World) (s : ByteArray) (hs : s.size ≤ 1000000) : Calls Try.prog 52 #[.string s] W (SrcPost (nameB s) W) := by
  refine (name_r W s hs).mono ?_
  rintro e w ⟨v, rfl, hr, hc⟩
  obtain ⟨A, c, rfl⟩ := own_slice hr
  exact ⟨A, c, rfl, own_cells_ hr, hc⟩
def impB (x : ByteArray × Nat) : List UInt8 := nameB x.1 ++ wordB x.2
def fixB (f : Int × Int × Int) : List UInt8 := wordB (f.1.toNat % 4294967296) ++ [UInt8.ofNat (f.2.1.toNat % 256), UInt8.ofNat (f.2.2.toNat % 256)]
theorem flat_le {α : Type} (f : α → List UInt8) (k : Nat) : ∀ l : List α, (∀ x ∈ l, (f x).length ≤ k) → (l.flatMap f).length ≤ l.length * k
  | [], _ => by simp
  | x :: l, h => by
    have h1 := h x (List.mem_cons_self ..)
    have h2 := flat_le f k l fun y hy => h y (List.mem_cons_of_mem _ hy)
    rw [List.flatMap_cons, List.length_append, List.length_cons, Nat.add_mul]
    omega
theorem flat_take {α : Type} (f : α → List UInt8) {l : List α} {i : Nat} {x : α} (h : l[i]? = some x) : (l.take (i + 1)).flatMap f = (l.take i).flatMap f ++ f x := by
  rw [List.take_add_one, h, List.flatMap_append]
  simp
theorem take_le {α : Type} (f : α → List UInt8) (k : Nat) {l : List α} (h : ∀ x ∈ l, (f x).length ≤ k) (i : Nat) : ((l.take i).flatMap f).length ≤ l.length * k := by
  refine Nat.le_trans (flat_le f k _ fun x hx => h x (List.mem_of_mem_take hx)) (Nat.mul_le_mul_right _ ?_)
  rw [List.length_take]
  omega
theorem imps_nm {o : Ob} (h : mayO o = true) : o.name.size ≤ 15 ∧ o.imps.length ≤ 12 ∧ ∀ x ∈ o.imps, x.1.size ≤ 15 := by
  have hi := (mayO_iff.1 h).im
  unfold impsOk at hi
  simp only [Bool.and_eq_true, decide_eq_true_eq, List.all_eq_true] at hi
  obtain ⟨⟨⟨h1, h2⟩, h3⟩, h4⟩ := hi
  refine ⟨?_, h4, fun x hx => ?_⟩
  · unfold objName at h3
    simp only [Bool.and_eq_true, decide_eq_true_eq] at h3
    exact h3.2
  · have := (h1 x hx).1
    unfold objName at this
    simp only [Bool.and_eq_true, decide_eq_true_eq] at this
    exact this.2
set_option maxRecDepth 100000 in
set_option maxHeartbeats 16000000 in
theorem bytes_r {W : World} {o : Ob} {a : OA} (h : ObIs W o a) (hm : mayO o = true) : Calls Try.prog 29 #[obVal o a] W (RowPost (bytesO o) W) := by
  have hM := mayO_iff.1 hm
  obtain ⟨hn1, hn2, hn3⟩ := imps_nm hm
  obtain ⟨wA, hwA⟩ : ∃ wA, W.alloc (Obj.cells (obArr o a) OT) = wA := ⟨_, rfl⟩
  have hCA : Chg NoB W wA := by rw [← hwA]; exact (Chg.refl NoB W).alloc _
  have hBA : Blk wA W.heap.size OT (obArr o a) := by rw [← hwA]; exact Blk.new _ _ _
  have hO := h.quiet hCA
  have hX : ∀ V', Chg NoB wA V' → V'.cell? ⟨W.heap.size, 0, none⟩ = some (.string o.name) ∧ V'.cell? ⟨W.heap.size, 1, none⟩ = some (.int .u32 o.key) ∧ V'.cell? ⟨W.heap.size, 2, none⟩ = some (.slice a.iA o.imps.length a.ic) ∧ V'.cell? ⟨W.heap.size, 3, none⟩ = some (.int .i64 o.vars) ∧ V'.cell? ⟨W.heap.size, 4, none⟩ = some (.slice a.tA o.text.length a.tc) ∧ V'.cell? ⟨W.heap.size, 5, none⟩ = some (.slice a.cA o.code.length a.cc) ∧ V'.cell? ⟨W.heap.size, 6, none⟩ = some (.slice a.eA o.ents.length a.ec) ∧ V'.cell? ⟨W.heap.size, 7, none⟩ = some (.slice a.fA o.fixs.length a.fc) := fun V' hV =>
    ⟨keepQ hV (hBA.cell 0), keepQ hV (hBA.cell 1), keepQ hV (hBA.cell 2), keepQ hV (hBA.cell 3), keepQ hV (hBA.cell 4), keepQ hV (hBA.cell 5), keepQ hV (hBA.cell 6), keepQ hV (hBA.cell 7)⟩
  have hYI := fun h0 => hO.imp h0
  have hYC := fun h0 => hO.cod h0
  have hYE := fun h0 => hO.ent h0
  have hYF := fun h0 => hO.fix h0
  have hTX := hO.text
  have hky := h.key
  have hcn := h.cn
  have hin := h.inm
  obtain ⟨i0, hi0, hz0, hz1, hz2⟩ := info_parts u8info_
  have Hi := Go.Lib.hid (And.intro hi0 (And.intro hz0 (And.intro hz1 hz2)))
  have hby : bytesO o = bytesO ⟨o.name, o.key, o.imps, o.vars, o.text, o.code, o.ents, o.fixs⟩ := rfl
  rw [hby]
  have hM2 : MayP ⟨o.name, o.key, o.imps, o.vars, o.text, o.code, o.ents, o.fixs⟩ := hM
  unfold obVal
  have hsz : W.heap.size < wA.heap.size := by rw [← hwA]; simp
  have HSA : Hid (W.heap.size + 1 = wA.heap.size) := Go.Lib.hid (by rw [← hwA]; simp)
  have HwA := Go.Lib.hid hwA
  unfold obArr at HwA ⊢
  clear hi0 hz0 hz1 hz2 h hm hM hO hBA hby hwA
  generalize o.name = name at *
  generalize o.key = key at *
  generalize o.imps = imps at *
  generalize o.vars = vars at *
  generalize o.text = text at *
  generalize o.code = code at *
  generalize o.ents = ents at *
  generalize o.fixs = fixs at *
  generalize a.iA = iA at *
  generalize a.ic = ic at *
  generalize a.tA = tA at *
  generalize a.tc = tc at *
  generalize a.cA = cA at *
  generalize a.cc = cc at *
  generalize a.eA = eA at *
  generalize a.ec = ec at *
  generalize a.fA = fA at *
  generalize a.fc = fc at *
  clear o a
  have hv0 := hM2.v0
  have hsb : name.size ≤ 15 ∧ imps.length ≤ 12 ∧ text.length ≤ 8192 ∧ code.length ≤ 16384 ∧ ents.length ≤ 201 ∧ fixs.length ≤ 8192 := ⟨hn1, hn2, hM2.tl, hM2.cl, hM2.e2, hM2.fl⟩
  have HVV : Hid (vars ≤ 262144) := Go.Lib.hid (by have h9 : vars + text.length ≤ 262144 := hM2.vt; omega)
  have hEN := hM2.en
  have hFN : ∀ (k : Nat) f, fixs[k]? = some f → 0 ≤ f.1 ∧ 0 ≤ f.2.1 ∧ 0 ≤ f.2.2 := fun k f hf => by
    have := hM2.fx k f hf
    have h1 := this.e0
    have h2 := this.m1
    have h3 := this.a0
    exact ⟨h3, by omega, h1⟩
  clear hM2 hn1 hn2
  have HTX : Hid (CellsAt wA tA (bv text)) := Go.Lib.hid hTX
  obtain ⟨il, hil⟩ : ∃ n, imps.length = n := ⟨_, rfl⟩
  obtain ⟨tl, htl⟩ : ∃ n, text.length = n := ⟨_, rfl⟩
  obtain ⟨cl, hcl⟩ : ∃ n, code.length = n := ⟨_, rfl⟩
  obtain ⟨el, hel⟩ : ∃ n, ents.length = n := ⟨_, rfl⟩
  obtain ⟨fl, hfl⟩ : ∃ n, fixs.length = n := ⟨_, rfl⟩
  rw [hil] at hX HwA hsb ⊢
  rw [htl] at hX HwA hsb ⊢
  rw [hcl] at hX HwA hsb ⊢
  rw [hel] at hX HwA hsb ⊢
  rw [hfl] at hX HwA hsb ⊢
  have HX := Go.Lib.hid hX
  have HSB := Go.Lib.hid hsb
  have HLE : Hid (imps.length = il ∧ text.length = tl ∧ code.length = cl ∧ ents.length = el ∧ fixs.length = fl) := Go.Lib.hid ⟨hil, htl, hcl, hel, hfl⟩
  have HYI := Go.Lib.hid hYI
  have HYC := Go.Lib.hid hYC
  have HYE := Go.Lib.hid hYE
  have HYF := Go.Lib.hid hYF
  have HKEY := Go.Lib.hid hky
  have HCN := Go.Lib.hid hcn
  have HIN : Hid (∀ x ∈ imps, x.1.size ≤ 15 ∧ x.2 < 4294967296) := Go.Lib.hid fun x hx => ⟨hn3 x hx, (hin x hx).2⟩
  have HV0 := Go.Lib.hid hv0
  have HEN := Go.Lib.hid hEN
  have HFN := Go.Lib.hid hFN
  have HCA := Go.Lib.hid hCA
  have HSZ := Go.Lib.hid hsz
  obtain ⟨hb1, hb2, hb3, hb4, hb5, hb6⟩ := hsb
  have hb7 : 0 ≤ vars := hv0
  have hb8 : vars ≤ 262144 := HVV.out
  clear HVV
  clear hX hil htl hcl hel hfl hYI hYC hYE hYF hky hcn hin hn3 hv0 hEN hFN hCA hTX hsz
  go_enter Try.func29, Try.ntmps29
  have hx0 := fun ob => (HX.out (wA.alloc ob) ((Chg.refl NoB wA).alloc ob)).1
  have HwA2 := HwA
  go_wp2_with fail
  clear hx0
  try rw [HwA.out]
  try rw [HSA.out]
  clear HwA HwA2
  refine (name_s _ name (by have := HSB.out; omega)).mono ?_
  rintro e w1 ⟨A1, c1, rfl, hs, hc⟩
  have HB : Hid (BI wA w1 [79, 49] (.slice (some ⟨wA.heap.size, 0, none⟩) 2 2)) := Go.Lib.hid (BI.quiet ⟨own_fresh wA U8T 1 2 _ rfl (by decide), (Chg.refl NoB wA).alloc _⟩ hc)
  have HS := Go.Lib.hid hs
  clear hs hc
  go_wp2_with (at_builtin; go_must (refine wpList_appK _ rfl (.tmp 9) (.tmp 12) _ rfl wA.heap.size U8T i0 (.int .u8 0) 1 1 Try.underlying22 Hi.out.1 Hi.out.2.1 Hi.out.2.2.1 Hi.out.2.2.2 rfl (by decide) (.slice (some ⟨wA.heap.size, 0, none⟩) 2 2) (List.length ([79, 49] : List UInt8)) (bv ([79, 49] : List UInt8)) (by rfl) HB.out.row A1 (List.length (nameB name)) c1 (bv (nameB name)) (by rfl) (bv_len1 _) HS.out (bv_one _) (by have hz := HSB.out; (try simp only [List.length_append, wordB_len, nameB_len, List.length_cons, List.length_nil]); unfold maxLen; omega) (by have hz := HSB.out; (try simp only [List.length_append, wordB_len, nameB_len, List.length_cons, List.length_nil]); omega) HB.out.chg.size ?_); go_must (
    intro va1 wa1 own2 gr2 _
    have HBa1 := Go.Lib.hid (HB.out.app (m := (nameB name)) own2 gr2 rfl)
    clear own2 gr2))
  obtain ⟨L1, hL⟩ : ∃ L, ([79, 49] ++ nameB name) = L := ⟨_, rfl⟩
  have HK1 : Hid (L1.length ≤ 20) := Go.Lib.hid (by rw [← hL]; have hz := HSB.out; (try simp only [List.length_append, wordB_len, nameB_len, List.length_cons, List.length_nil]); omega)
  have HB0 := HBa1
  rw [hL] at HB0
  have HE1 := Go.Lib.hid hL
  clear hL
  clear HS HB HBa1
  go_cut [3] from 14 to 24 (fun v3 wx => BI wA wx (L1 ++ wordB key ++ [UInt8.ofNat (il % 256)]) v3)
  case first =>
    refine regionT 11 (fun V' => Chg NoB wA V') (by kernel_rfl) (by decide) ((HB0.out.quiet (Chg.refl NoB _).drew).chg) (fun inv hHeld => ?_)
    have HB0 := Go.Lib.hid (HB0.out.quiet (Chg.refl NoB _).drew)
    refine tkT 0 14 ?v1061 inv hHeld ?h1061 ?_
    case h1061 => (intro V' hSw; obtain ⟨x0, x1, x2, x3, x4, x5, x6, x7⟩ := HX.out V' hSw; clear hSw; go_simp; try with_reducible rfl)
    clear inv; intro inv; try simp only [sw1, sw2, sw3]
    refine tkT 1 15 ?v1062 inv hHeld ?h1062 ?_
    case h1062 => (intro V' hSw; obtain ⟨x0, x1, x2, x3, x4, x5, x6, x7⟩ := HX.out V' hSw; clear hSw; go_simp; try with_reducible rfl)
    clear inv; intro inv; try simp only [sw1, sw2, sw3]
    refine tkT 2 16 ?v1063 inv hHeld ?h1063 ?_
    case h1063 => (intro V' hSw; obtain ⟨x0, x1, x2, x3, x4, x5, x6, x7⟩ := HX.out V' hSw; clear hSw; go_simp; try with_reducible rfl)
    clear inv; intro inv; try simp only [sw1, sw2, sw3]
    refine tkT 5 19 ?v1064 inv hHeld ?h1064 ?_
    case h1064 => (intro V' hSw; obtain ⟨x0, x1, x2, x3, x4, x5, x6, x7⟩ := HX.out V' hSw; clear hSw; go_simp; try with_reducible rfl)
    clear inv; intro inv; try simp only [sw1, sw2, sw3]
    refine tkT 6 20 ?v1065 inv hHeld ?h1065 ?_
    case h1065 => (intro V' hSw; obtain ⟨x0, x1, x2, x3, x4, x5, x6, x7⟩ := HX.out V' hSw; clear hSw; go_simp; try with_reducible rfl)
    clear inv; intro inv; try simp only [sw1, sw2, sw3]
    refine tkT 7 21 ?v1066 inv hHeld ?h1066 ?_
    case h1066 => (intro V' hSw; obtain ⟨x0, x1, x2, x3, x4, x5, x6, x7⟩ := HX.out V' hSw; clear hSw; go_simp; try with_reducible rfl)
    clear inv; intro inv; try simp only [sw1, sw2, sw3]
    refine tkT 8 22 (.int .u8 (il : Int)) inv hHeld ?h1067 ?_
    case h1067 => (intro V' hSw; clear hSw; go_simp; first | done | exact Int.emod_eq_of_lt (b := 4294967296) (by omega) (by omega) | exact Int.emod_eq_of_lt (b := 256) (by omega) (by omega))
    clear inv; intro inv; try simp only [sw1, sw2, sw3]
    refine manyT (i := 3) (l := [9]) (by kernel_rfl) (by decide) inv ?ho8
    case ho8 =>
      intro j hj
      simp only [List.mem_cons, List.not_mem_nil, or_false] at hj
      rcases hj with rfl | rfl
      ·
        intro inv2
        clear inv
        have inv := inv2
        clear inv2
        refine opCall (t := 17) (f := 53) (args := #[.int .u32 key]) rfl rfl (by rfl) ?hx9 ?hc9
        case hx9 => (go_simp; try rfl)
        case hc9 =>
          refine (word_s wa1.drew key HKEY.out).mono ?_
          rintro e wc1 ⟨A9, c9, rfl, hs, hc⟩
          have HB2 := Go.Lib.hid (HB0.out.quiet hc)
          have HS3 := Go.Lib.hid hs
          clear hs hc
          refine ⟨_, rfl, HB2.out.chg, ?_⟩
          clear hHeld
          have hHeld := HB2.out.chg
          try simp only [sw1, sw2, sw3]
          refine manyT (i := 4) (l := [9]) (by kernel_rfl) (by decide) inv ?ho10
          case ho10 =>
            intro j hj
            simp only [List.mem_cons, List.not_mem_nil, or_false] at hj
            rcases hj with rfl | rfl
            ·
              intro inv2
              clear inv
              have inv := inv2
              clear inv2
              refine opWpT rfl (by rfl) (wp_appD _ 18 rfl (.tmp 14) (.tmp 17) _ rfl wA.heap.size U8T i0 (.int .u8 0) 1 1 Try.underlying22 Hi.out.1 Hi.out.2.1 Hi.out.2.2.1 Hi.out.2.2.2 rfl (by decide) va1 (List.length L1) (bv L1) (by rfl) HB2.out.row A9 (List.length (wordB key)) c9 (bv (wordB key)) (by rfl) (bv_len1 _) HS3.out (bv_one _) (by have := HK1.out; have hz := HSB.out; (try simp only [List.length_append, wordB_len, nameB_len, List.length_cons, List.length_nil]); unfold maxLen; omega) (by have := HK1.out; have hz := HSB.out; (try simp only [List.length_append, wordB_len, nameB_len, List.length_cons, List.length_nil]); omega) HB2.out.chg.size ?_)
              intro va6 wa4 own2 gr2 _
              have HB5 := Go.Lib.hid (HB2.out.app (m := (wordB key)) own2 gr2 rfl)
              clear own2 gr2
              refine ⟨fun _ => HB5.out.chg, ?_⟩
              clear hHeld
              have hHeld := HB5.out.chg
              try simp only [sw1, sw2, sw3]
              refine valT (i := 9) (t := 23) (v := .slice (some ⟨(World.heap wa4).size, 0, none⟩) 1 1) (w' := World.alloc wa4 (.cells #[.int .u8 (il : Int)] U8T)) rfl (by kernel_rfl) rfl (by rfl) ?hb12 inv (by decide) ((HB5.out.quiet ((Chg.refl NoB _).alloc _)).chg) ?hn12
              case hb12 => (go_simp; try rfl)
              case hn12 =>
                intro inv2 _
                clear inv hHeld
                have inv := inv2
                clear inv2
                have hne12 : ¬ (Value.ownBlock va6 = some (World.heap wa4).size) := own_ne HB5.out.row
                have hq := (Chg.refl NoB wa4).alloc (.cells #[.int .u8 (il : Int)] U8T)
                have HS9 : Hid (CellsAt (World.alloc wa4 (.cells #[.int .u8 (il : Int)] U8T)) (some ⟨(World.heap wa4).size, 0, none⟩) (bv [UInt8.ofNat (il % 256)])) := Go.Lib.hid (by rw [bv_u8n il (by omega)]; exact cells_of_blk (Blk.new wa4 U8T #[.int .u8 (il : Int)]))
                have HB8 := Go.Lib.hid (HB5.out.quiet hq)
                clear hq
                generalize World.alloc wa4 (.cells #[.int .u8 (il : Int)] U8T) = wb7 at *
                generalize (World.heap wa4).size = gb10 at *
                have hHeld := HB8.out.chg
                try simp only [sw1, sw2, sw3]
                refine wpT (i := 10) rfl (by kernel_rfl) (by rfl) inv (by decide) (fun inv2 => ?_)
                clear inv
                have inv := inv2
                clear inv2
                refine (wp_appD _ 24 rfl (.tmp 18) (.tmp 23) _ rfl wA.heap.size U8T i0 (.int .u8 0) 1 1 Try.underlying22 Hi.out.1 Hi.out.2.1 Hi.out.2.2.1 Hi.out.2.2.2 rfl (by decide) va6 (List.length (L1 ++ (wordB key))) (bv (L1 ++ (wordB key))) (by rfl) HB8.out.row (some ⟨gb10, 0, none⟩) (List.length [UInt8.ofNat (il % 256)]) 1 (bv [UInt8.ofNat (il % 256)]) (by rfl) (bv_len1 _) HS9.out (bv_one _) (by have := HK1.out; have hz := HSB.out; (try simp only [List.length_append, wordB_len, nameB_len, List.length_cons, List.length_nil]); unfold maxLen; omega) (by have := HK1.out; have hz := HSB.out; (try simp only [List.length_append, wordB_len, nameB_len, List.length_cons, List.length_nil]); omega) HB8.out.chg.size ?_)
                intro va13 wa11 own2 gr2 _
                have HB12 := Go.Lib.hid (HB8.out.app (m := [UInt8.ofNat (il % 256)]) own2 gr2 rfl)
                clear own2 gr2
                refine ⟨fun _ => HB12.out.chg, ?_⟩
                clear hHeld
                have hHeld := HB12.out.chg
                try simp only [sw1, sw2, sw3]
                refine lastV (i := 11) (t := 3) (v := va13) (w' := wa11) rfl (by kernel_rfl) rfl (by rfl) ?hx14 (by decide) (by kernel_rfl) ?_
                case hx14 => (go_simp; try with_reducible rfl)
                clear inv hHeld
                try simp only [sw1, sw2, sw3]
                go_wp2_with fail
                go_meet
                exact HB12.out
            ·
              intro inv2
              clear inv
              have inv := inv2
              clear inv2
              refine opVal (t := 23) (v := .slice (some ⟨(World.heap wc1).size, 0, none⟩) 1 1) (w' := World.alloc wc1 (.cells #[.int .u8 (il : Int)] U8T)) rfl rfl (by rfl) ?hb15 ((HB2.out.quiet ((Chg.refl NoB _).alloc _)).chg) ?hn15
              case hb15 => (go_simp; try rfl)
              case hn15 =>
                clear hHeld
                have hne15 : ¬ (Value.ownBlock va1 = some (World.heap wc1).size) := own_ne HB2.out.row
                have hq := (Chg.refl NoB wc1).alloc (.cells #[.int .u8 (il : Int)] U8T)
                have HS16 : Hid (CellsAt (World.alloc wc1 (.cells #[.int .u8 (il : Int)] U8T)) (some ⟨(World.heap wc1).size, 0, none⟩) (bv [UInt8.ofNat (il % 256)])) := Go.Lib.hid (by rw [bv_u8n il (by omega)]; exact cells_of_blk (Blk.new wc1 U8T #[.int .u8 (il : Int)]))
                have HB15 := Go.Lib.hid (HB2.out.quiet hq)
                have HS3 := Go.Lib.hid (HS3.out.chg hq fun _ _ => id)
                clear hq
                generalize World.alloc wc1 (.cells #[.int .u8 (il : Int)] U8T) = wb14 at *
                generalize (World.heap wc1).size = gb17 at *
                have hHeld := HB15.out.chg
                try simp only [sw1, sw2, sw3]
                refine wpT (i := 4) rfl (by kernel_rfl) (by rfl) inv (by decide) (fun inv2 => ?_)
                clear inv
                have inv := inv2
                clear inv2
                refine (wp_appD _ 18 rfl (.tmp 14) (.tmp 17) _ rfl wA.heap.size U8T i0 (.int .u8 0) 1 1 Try.underlying22 Hi.out.1 Hi.out.2.1 Hi.out.2.2.1 Hi.out.2.2.2 rfl (by decide) va1 (List.length L1) (bv L1) (by rfl) HB15.out.row A9 (List.length (wordB key)) c9 (bv (wordB key)) (by rfl) (bv_len1 _) HS3.out (bv_one _) (by have := HK1.out; have hz := HSB.out; (try simp only [List.length_append, wordB_len, nameB_len, List.length_cons, List.length_nil]); unfold maxLen; omega) (by have := HK1.out; have hz := HSB.out; (try simp only [List.length_append, wordB_len, nameB_len, List.length_cons, List.length_nil]); omega) HB15.out.chg.size ?_)
                intro va20 wa18 own2 gr2 _
                have HB19 := Go.Lib.hid (HB15.out.app (m := (wordB key)) own2 gr2 rfl)
                have HS16 := Go.Lib.hid (HS16.out.chg (grown_own gr2) (fun ad ha hk => by cases ha; exact hne15 hk))
                clear own2 gr2
                refine ⟨fun _ => HB19.out.chg, ?_⟩
                clear hHeld
                have hHeld := HB19.out.chg
                try simp only [sw1, sw2, sw3]
                refine wpT (i := 10) rfl (by kernel_rfl) (by rfl) inv (by decide) (fun inv2 => ?_)
                clear inv
                have inv := inv2
                clear inv2
                refine (wp_appD _ 24 rfl (.tmp 18) (.tmp 23) _ rfl wA.heap.size U8T i0 (.int .u8 0) 1 1 Try.underlying22 Hi.out.1 Hi.out.2.1 Hi.out.2.2.1 Hi.out.2.2.2 rfl (by decide) va20 (List.length (L1 ++ (wordB key))) (bv (L1 ++ (wordB key))) (by rfl) HB19.out.row (some ⟨gb17, 0, none⟩) (List.length [UInt8.ofNat (il % 256)]) 1 (bv [UInt8.ofNat (il % 256)]) (by rfl) (bv_len1 _) HS16.out (bv_one _) (by have := HK1.out; have hz := HSB.out; (try simp only [List.length_append, wordB_len, nameB_len, List.length_cons, List.length_nil]); unfold maxLen; omega) (by have := HK1.out; have hz := HSB.out; (try simp only [List.length_append, wordB_len, nameB_len, List.length_cons, List.length_nil]); omega) HB19.out.chg.size ?_)
                intro va23 wa21 own2 gr2 _
                have HB22 := Go.Lib.hid (HB19.out.app (m := [UInt8.ofNat (il % 256)]) own2 gr2 rfl)
                clear own2 gr2
                refine ⟨fun _ => HB22.out.chg, ?_⟩
                clear hHeld
                have hHeld := HB22.out.chg
                try simp only [sw1, sw2, sw3]
                refine lastV (i := 11) (t := 3) (v := va23) (w' := wa21) rfl (by kernel_rfl) rfl (by rfl) ?hx18 (by decide) (by kernel_rfl) ?_
                case hx18 => (go_simp; try with_reducible rfl)
                clear inv hHeld
                try simp only [sw1, sw2, sw3]
                go_wp2_with fail
                go_meet
                exact HB22.out
      ·
        intro inv2
        clear inv
        have inv := inv2
        clear inv2
        refine opVal (t := 23) (v := .slice (some ⟨(World.heap wa1.drew).size, 0, none⟩) 1 1) (w' := World.alloc wa1.drew (.cells #[.int .u8 (il : Int)] U8T)) rfl rfl (by rfl) ?hb19 ((HB0.out.quiet ((Chg.refl NoB _).alloc _)).chg) ?hn19
        case hb19 => (go_simp; try rfl)
        case hn19 =>
          clear hHeld
          have hne19 : ¬ (Value.ownBlock va1 = some (World.heap wa1.drew).size) := own_ne HB0.out.row
          have hq := (Chg.refl NoB wa1.drew).alloc (.cells #[.int .u8 (il : Int)] U8T)
          have HS26 : Hid (CellsAt (World.alloc wa1.drew (.cells #[.int .u8 (il : Int)] U8T)) (some ⟨(World.heap wa1.drew).size, 0, none⟩) (bv [UInt8.ofNat (il % 256)])) := Go.Lib.hid (by rw [bv_u8n il (by omega)]; exact cells_of_blk (Blk.new wa1.drew U8T #[.int .u8 (il : Int)]))
          have HB25 := Go.Lib.hid (HB0.out.quiet hq)
          clear hq
          generalize World.alloc wa1.drew (.cells #[.int .u8 (il : Int)] U8T) = wb24 at *
          generalize (World.heap wa1.drew).size = gb27 at *
          have hHeld := HB25.out.chg
          try simp only [sw1, sw2, sw3]
          refine callT (i := 3) (t := 17) (f := 53) (args := #[.int .u32 key]) rfl (by kernel_rfl) rfl (by rfl) ?hx20 inv (by decide) ?hc20
          case hx20 => (go_simp; try rfl)
          case hc20 =>
            refine (word_s wb24 key HKEY.out).mono ?_
            rintro e wc28 ⟨A20, c20, rfl, hs, hc⟩
            have HB29 := Go.Lib.hid (HB25.out.quiet hc)
            have HS30 := Go.Lib.hid hs
            have HS26 := Go.Lib.hid (HS26.out.chg hc fun _ _ => id)
            clear hs hc
            refine ⟨_, rfl, HB29.out.chg, fun inv2 hHeld2 => ?_⟩
            clear inv hHeld
            have inv := inv2
            have hHeld := hHeld2
            clear inv2 hHeld2
            try simp only [sw1, sw2, sw3]
            refine wpT (i := 4) rfl (by kernel_rfl) (by rfl) inv (by decide) (fun inv2 => ?_)
            clear inv
            have inv := inv2
            clear inv2
            refine (wp_appD _ 18 rfl (.tmp 14) (.tmp 17) _ rfl wA.heap.size U8T i0 (.int .u8 0) 1 1 Try.underlying22 Hi.out.1 Hi.out.2.1 Hi.out.2.2.1 Hi.out.2.2.2 rfl (by decide) va1 (List.length L1) (bv L1) (by rfl) HB29.out.row A20 (List.length (wordB key)) c20 (bv (wordB key)) (by rfl) (bv_len1 _) HS30.out (bv_one _) (by have := HK1.out; have hz := HSB.out; (try simp only [List.length_append, wordB_len, nameB_len, List.length_cons, List.length_nil]); unfold maxLen; omega) (by have := HK1.out; have hz := HSB.out; (try simp only [List.length_append, wordB_len, nameB_len, List.length_cons, List.length_nil]); omega) HB29.out.chg.size ?_)
            intro va33 wa31 own2 gr2 _
            have HB32 := Go.Lib.hid (HB29.out.app (m := (wordB key)) own2 gr2 rfl)
            have HS26 := Go.Lib.hid (HS26.out.chg (grown_own gr2) (fun ad ha hk => by cases ha; exact hne19 hk))
            clear own2 gr2
            refine ⟨fun _ => HB32.out.chg, ?_⟩
            clear hHeld
            have hHeld := HB32.out.chg
            try simp only [sw1, sw2, sw3]
            refine wpT (i := 10) rfl (by kernel_rfl) (by rfl) inv (by decide) (fun inv2 => ?_)
            clear inv
            have inv := inv2
            clear inv2
            refine (wp_appD _ 24 rfl (.tmp 18) (.tmp 23) _ rfl wA.heap.size U8T i0 (.int .u8 0) 1 1 Try.underlying22 Hi.out.1 Hi.out.2.1 Hi.out.2.2.1 Hi.out.2.2.2 rfl (by decide) va33 (List.length (L1 ++ (wordB key))) (bv (L1 ++ (wordB key))) (by rfl) HB32.out.row (some ⟨gb27, 0, none⟩) (List.length [UInt8.ofNat (il % 256)]) 1 (bv [UInt8.ofNat (il % 256)]) (by rfl) (bv_len1 _) HS26.out (bv_one _) (by have := HK1.out; have hz := HSB.out; (try simp only [List.length_append, wordB_len, nameB_len, List.length_cons, List.length_nil]); unfold maxLen; omega) (by have := HK1.out; have hz := HSB.out; (try simp only [List.length_append, wordB_len, nameB_len, List.length_cons, List.length_nil]); omega) HB32.out.chg.size ?_)
            intro va36 wa34 own2 gr2 _
            have HB35 := Go.Lib.hid (HB32.out.app (m := [UInt8.ofNat (il % 256)]) own2 gr2 rfl)
            clear own2 gr2
            refine ⟨fun _ => HB35.out.chg, ?_⟩
            clear hHeld
            have hHeld := HB35.out.chg
            try simp only [sw1, sw2, sw3]
            refine lastV (i := 11) (t := 3) (v := va36) (w' := wa34) rfl (by kernel_rfl) rfl (by rfl) ?hx23 (by decide) (by kernel_rfl) ?_
            case hx23 => (go_simp; try with_reducible rfl)
            clear inv hHeld
            try simp only [sw1, sw2, sw3]
            go_wp2_with fail
            go_meet
            exact HB35.out
  rename_i v3
  have HBc := Go.Lib.hid hcut
  clear hcut
  obtain ⟨L2, hL⟩ : ∃ L, (L1 ++ wordB key ++ [UInt8.ofNat (il % 256)]) = L := ⟨_, rfl⟩
  have HK2 : Hid (L2.length ≤ 30) := Go.Lib.hid (by rw [← hL]; have := HK1.out; have hz := HSB.out; (try simp only [List.length_append, wordB_len, nameB_len, List.length_cons, List.length_nil]); omega)
  have HB0 := HBc
  rw [hL] at HB0
  have HE2 := Go.Lib.hid hL
  clear hL
  clear HBc
  have hFL := take_le impB 20 (l := imps) (fun x hx => by have := HIN.out x hx; unfold impB; rw [List.length_append, nameB_len, wordB_len]; omega)
  have HFL := Go.Lib.hid hFL
  clear hFL
  go_wp2_with fail
  go_loopw [4, 3] (fun v4 v3 wr => ∃ i : Nat, i ≤ il ∧ v4 = .int .i64 i ∧ BI wA wr (L2 ++ (imps.take i).flatMap impB) v3) (fun v4 _ _ => il - (intOf v4).toNat)
  case atStart => exact ⟨0, Nat.zero_le _, rfl, by rw [List.take_zero, List.flatMap_nil, List.append_nil]; exact HB0.out⟩
  case round =>
    obtain ⟨i, hi, rfl, hb⟩ := hrel
    have HB1 := Go.Lib.hid hb
    clear hb
    obtain ⟨x0, x1, x2, x3, x4, x5, x6, x7⟩ := HX.out wr HB1.out.chg
    by_cases hlt : i < il
    · obtain ⟨x, hx⟩ : ∃ x, imps[i]? = some x := ⟨_, List.getElem?_eq_getElem (by rw [HLE.out.1]; exact hlt)⟩
      obtain ⟨p, q, rfl, hy⟩ := HYI.out (by rw [HLE.out.1]; omega)
      have HY := Go.Lib.hid (hy i x hx)
      have HXI := Go.Lib.hid hx
      have HT : Hid ((imps.take (i + 1)).flatMap impB = (imps.take i).flatMap impB ++ impB x) := Go.Lib.hid (flat_take impB hx)
      have HLI := Go.Lib.hid (HFL.out i)
      obtain ⟨L, hL⟩ : ∃ L, L2 ++ (imps.take i).flatMap impB = L := ⟨_, rfl⟩
      have HLK : Hid (L.length ≤ 900000) := Go.Lib.hid (by rw [← hL]; have := HLI.out; have := HLE.out; have := HK2.out; have hz := HSB.out; (try simp only [List.length_append, wordB_len, nameB_len, List.length_cons, List.length_nil]); omega)
      rw [hL] at HB1
      have HLL := Go.Lib.hid hL
      clear hL hx hy
      go_wp2_with fail
      clear x0 x1 x2 x3 x4 x5 x6 x7
      obtain ⟨hxn, hxk⟩ := HIN.out x (List.mem_of_getElem? HXI.out)
      have HNM := Go.Lib.hid hxn
      have HKY := Go.Lib.hid hxk
      clear hxn hxk
      refine regionT 17 (fun V' => Chg NoB wA V') (by kernel_rfl) (by decide) ((HB1.out.quiet (Chg.refl NoB _).drew).chg) (fun inv hHeld => ?_)
      have HB1 := Go.Lib.hid (HB1.out.quiet (Chg.refl NoB _).drew)
      refine tkT 0 32 ?v1068 inv hHeld ?h1068 ?_
      case h1068 => (intro V' hSw; obtain ⟨x0, x1, x2, x3, x4, x5, x6, x7⟩ := HX.out V' hSw; obtain ⟨y0, y1⟩ := HY.out V' hSw; clear hSw; go_simp; try with_reducible rfl)
      clear inv; intro inv; try simp only [sw1, sw2, sw3]
      refine tkT 1 33 ?v1069 inv hHeld ?h1069 ?_
      case h1069 => (intro V' hSw; obtain ⟨x0, x1, x2, x3, x4, x5, x6, x7⟩ := HX.out V' hSw; obtain ⟨y0, y1⟩ := HY.out V' hSw; clear hSw; go_simp; try with_reducible rfl)
      clear inv; intro inv; try simp only [sw1, sw2, sw3]
      refine tkT 2 34 ?v1070 inv hHeld ?h1070 ?_
      case h1070 => (intro V' hSw; obtain ⟨x0, x1, x2, x3, x4, x5, x6, x7⟩ := HX.out V' hSw; obtain ⟨y0, y1⟩ := HY.out V' hSw; clear hSw; go_simp; try with_reducible rfl)
      clear inv; intro inv; try simp only [sw1, sw2, sw3]
      refine tkT 3 35 ?v1071 inv hHeld ?h1071 ?_
      case h1071 => (intro V' hSw; obtain ⟨x0, x1, x2, x3, x4, x5, x6, x7⟩ := HX.out V' hSw; obtain ⟨y0, y1⟩ := HY.out V' hSw; clear hSw; go_simp; try with_reducible rfl)
      clear inv; intro inv; try simp only [sw1, sw2, sw3]
      refine tkT 4 36 ?v1072 inv hHeld ?h1072 ?_
      case h1072 => (intro V' hSw; obtain ⟨x0, x1, x2, x3, x4, x5, x6, x7⟩ := HX.out V' hSw; obtain ⟨y0, y1⟩ := HY.out V' hSw; clear hSw; go_simp; try with_reducible rfl)
      clear inv; intro inv; try simp only [sw1, sw2, sw3]
      refine tkT 5 37 ?v1073 inv hHeld ?h1073 ?_
      case h1073 => (intro V' hSw; obtain ⟨x0, x1, x2, x3, x4, x5, x6, x7⟩ := HX.out V' hSw; obtain ⟨y0, y1⟩ := HY.out V' hSw; clear hSw; go_simp; try with_reducible rfl)
      clear inv; intro inv; try simp only [sw1, sw2, sw3]
      refine tkT 6 38 ?v1074 inv hHeld ?h1074 ?_
      case h1074 => (intro V' hSw; obtain ⟨x0, x1, x2, x3, x4, x5, x6, x7⟩ := HX.out V' hSw; obtain ⟨y0, y1⟩ := HY.out V' hSw; clear hSw; go_simp; try with_reducible rfl)
      clear inv; intro inv; try simp only [sw1, sw2, sw3]
      refine tkT 9 41 ?v1075 inv hHeld ?h1075 ?_
      case h1075 => (intro V' hSw; obtain ⟨x0, x1, x2, x3, x4, x5, x6, x7⟩ := HX.out V' hSw; obtain ⟨y0, y1⟩ := HY.out V' hSw; clear hSw; go_simp; try with_reducible rfl)
      clear inv; intro inv; try simp only [sw1, sw2, sw3]
      refine tkT 10 42 ?v1076 inv hHeld ?h1076 ?_
      case h1076 => (intro V' hSw; obtain ⟨x0, x1, x2, x3, x4, x5, x6, x7⟩ := HX.out V' hSw; obtain ⟨y0, y1⟩ := HY.out V' hSw; clear hSw; go_simp; try with_reducible rfl)
      clear inv; intro inv; try simp only [sw1, sw2, sw3]
      refine tkT 11 43 ?v1077 inv hHeld ?h1077 ?_
      case h1077 => (intro V' hSw; obtain ⟨x0, x1, x2, x3, x4, x5, x6, x7⟩ := HX.out V' hSw; obtain ⟨y0, y1⟩ := HY.out V' hSw; clear hSw; go_simp; try with_reducible rfl)
      clear inv; intro inv; try simp only [sw1, sw2, sw3]
      refine tkT 12 44 ?v1078 inv hHeld ?h1078 ?_
      case h1078 => (intro V' hSw; obtain ⟨x0, x1, x2, x3, x4, x5, x6, x7⟩ := HX.out V' hSw; obtain ⟨y0, y1⟩ := HY.out V' hSw; clear hSw; go_simp; try with_reducible rfl)
      clear inv; intro inv; try simp only [sw1, sw2, sw3]
      refine tkT 13 45 ?v1079 inv hHeld ?h1079 ?_
      case h1079 => (intro V' hSw; obtain ⟨x0, x1, x2, x3, x4, x5, x6, x7⟩ := HX.out V' hSw; obtain ⟨y0, y1⟩ := HY.out V' hSw; clear hSw; go_simp; try with_reducible rfl)
      clear inv; intro inv; try simp only [sw1, sw2, sw3]
      refine tkT 14 46 ?v1080 inv hHeld ?h1080 ?_
      case h1080 => (intro V' hSw; obtain ⟨x0, x1, x2, x3, x4, x5, x6, x7⟩ := HX.out V' hSw; obtain ⟨y0, y1⟩ := HY.out V' hSw; clear hSw; go_simp; try with_reducible rfl)
      clear inv; intro inv; try simp only [sw1, sw2, sw3]
      refine callT (i := 7) (t := 39) (f := 52) (args := #[.string x.1]) rfl (by kernel_rfl) rfl (by rfl) ?hx37 inv (by decide) ?hc37
      case hx37 => (go_simp; try rfl)
      case hc37 =>
        refine (name_s wr.drew x.1 (by have := HNM.out; omega)).mono ?_
        rintro e wc37 ⟨A37, c37, rfl, hs, hc⟩
        have HB38 := Go.Lib.hid (HB1.out.quiet hc)
        have HS39 := Go.Lib.hid hs
        clear hs hc
        refine ⟨_, rfl, HB38.out.chg, fun inv2 hHeld2 => ?_⟩
        clear inv hHeld
        have inv := inv2
        have hHeld := hHeld2
        clear inv2 hHeld2
        try simp only [sw1, sw2, sw3]
        refine wpT (i := 8) rfl (by kernel_rfl) (by rfl) inv (by decide) (fun inv2 => ?_)
        clear inv
        have inv := inv2
        clear inv2
        refine (wp_appD _ 40 rfl (.tmp 32) (.tmp 39) _ rfl wA.heap.size U8T i0 (.int .u8 0) 1 1 Try.underlying22 Hi.out.1 Hi.out.2.1 Hi.out.2.2.1 Hi.out.2.2.2 rfl (by decide) u3 (List.length L) (bv L) (by rfl) HB38.out.row A37 (List.length (nameB x.1)) c37 (bv (nameB x.1)) (by rfl) (bv_len1 _) HS39.out (bv_one _) (by have := HLK.out; have := HNM.out; have hz := HSB.out; (try simp only [List.length_append, wordB_len, nameB_len, List.length_cons, List.length_nil]); unfold maxLen; omega) (by have := HLK.out; have := HNM.out; have hz := HSB.out; (try simp only [List.length_append, wordB_len, nameB_len, List.length_cons, List.length_nil]); omega) HB38.out.chg.size ?_)
        intro va42 wa40 own2 gr2 _
        have HB41 := Go.Lib.hid (HB38.out.app (m := (nameB x.1)) own2 gr2 rfl)
        clear own2 gr2
        refine ⟨fun _ => HB41.out.chg, ?_⟩
        clear hHeld
        have hHeld := HB41.out.chg
        try simp only [sw1, sw2, sw3]
        refine callT (i := 15) (t := 47) (f := 53) (args := #[.int .u32 x.2]) rfl (by kernel_rfl) rfl (by rfl) ?hx39 inv (by decide) ?hc39
        case hx39 => (go_simp; try rfl)
        case hc39 =>
          refine (word_s wa40 x.2 HKY.out).mono ?_
          rintro e wc43 ⟨A39, c39, rfl, hs, hc⟩
          have HB44 := Go.Lib.hid (HB41.out.quiet hc)
          have HS45 := Go.Lib.hid hs
          clear hs hc
          refine ⟨_, rfl, HB44.out.chg, fun inv2 hHeld2 => ?_⟩
          clear inv hHeld
          have inv := inv2
          have hHeld := hHeld2
          clear inv2 hHeld2
          try simp only [sw1, sw2, sw3]
          refine wpT (i := 16) rfl (by kernel_rfl) (by rfl) inv (by decide) (fun inv2 => ?_)
          clear inv
          have inv := inv2
          clear inv2
          refine (wp_appD _ 48 rfl (.tmp 40) (.tmp 47) _ rfl wA.heap.size U8T i0 (.int .u8 0) 1 1 Try.underlying22 Hi.out.1 Hi.out.2.1 Hi.out.2.2.1 Hi.out.2.2.2 rfl (by decide) va42 (List.length (L ++ (nameB x.1))) (bv (L ++ (nameB x.1))) (by rfl) HB44.out.row A39 (List.length (wordB x.2)) c39 (bv (wordB x.2)) (by rfl) (bv_len1 _) HS45.out (bv_one _) (by have := HLK.out; have := HNM.out; have hz := HSB.out; (try simp only [List.length_append, wordB_len, nameB_len, List.length_cons, List.length_nil]); unfold maxLen; omega) (by have := HLK.out; have := HNM.out; have hz := HSB.out; (try simp only [List.length_append, wordB_len, nameB_len, List.length_cons, List.length_nil]); omega) HB44.out.chg.size ?_)
          intro va48 wa46 own2 gr2 _
          have HB47 := Go.Lib.hid (HB44.out.app (m := (wordB x.2)) own2 gr2 rfl)
          clear own2 gr2
          refine ⟨fun _ => HB47.out.chg, ?_⟩
          clear hHeld
          have hHeld := HB47.out.chg
          try simp only [sw1, sw2, sw3]
          refine lastV (i := 17) (t := 3) (v := va48) (w' := wa46) rfl (by kernel_rfl) rfl (by rfl) ?hx41 (by decide) (by kernel_rfl) ?_
          case hx41 => (go_simp; try with_reducible rfl)
          clear inv hHeld
          try simp only [sw1, sw2, sw3]
          go_wp2_with fail
          go_roundw
          case rel =>
            exact ⟨i + 1, by omega, by go_num, by rw [HT.out, ← List.append_assoc, HLL.out]; exact (by have h1 := HB47.out; rw [List.append_assoc] at h1; exact h1)⟩
          case measure => simp [intOf]; omega
    · obtain rfl : i = il := by omega
      go_wp2_with fail
      clear x0 x1 x2 x3 x4 x5 x6 x7
      have HBe : Hid (BI wA wr (L2 ++ imps.flatMap impB) u3) := Go.Lib.hid (by have h1 := HB1.out; rw [List.take_of_length_le (by rw [HLE.out.1]; exact Nat.le_refl _)] at h1; exact h1)
      have HFE : Hid ((imps.flatMap impB).length ≤ imps.length * 20) := Go.Lib.hid (by have := HFL.out i; rwa [List.take_of_length_le (by rw [HLE.out.1]; exact Nat.le_refl _)] at this)
      clear HB1
      obtain ⟨L3, hL⟩ : ∃ L, (L2 ++ imps.flatMap impB) = L := ⟨_, rfl⟩
      have HK3 : Hid (L3.length ≤ 300) := Go.Lib.hid (by rw [← hL]; have := HK2.out; have := HFE.out; have := HLE.out; have hz := HSB.out; (try simp only [List.length_append, wordB_len, nameB_len, List.length_cons, List.length_nil]); omega)
      have HB0 := HBe
      rw [hL] at HB0
      have HE3 := Go.Lib.hid hL
      clear hL
      clear HBe HFE HFL
      refine regionT 12 (fun V' => Chg NoB wA V') (by kernel_rfl) (by decide) ((HB0.out.quiet (Chg.refl NoB _).drew).chg) (fun inv hHeld => ?_)
      have HB0 := Go.Lib.hid (HB0.out.quiet (Chg.refl NoB _).drew)
      refine tkT 0 49 ?v1081 inv hHeld ?h1081 ?_
      case h1081 => (intro V' hSw; obtain ⟨x0, x1, x2, x3, x4, x5, x6, x7⟩ := HX.out V' hSw; clear hSw; go_simp; try with_reducible rfl)
      clear inv; intro inv; try simp only [sw1, sw2, sw3]
      refine tkT 1 50 ?v1082 inv hHeld ?h1082 ?_
      case h1082 => (intro V' hSw; obtain ⟨x0, x1, x2, x3, x4, x5, x6, x7⟩ := HX.out V' hSw; clear hSw; go_simp; try with_reducible rfl)
      clear inv; intro inv; try simp only [sw1, sw2, sw3]
      refine tkT 2 51 ?v1083 inv hHeld ?h1083 ?_
      case h1083 => (intro V' hSw; obtain ⟨x0, x1, x2, x3, x4, x5, x6, x7⟩ := HX.out V' hSw; clear hSw; go_simp; try with_reducible rfl)
      clear inv; intro inv; try simp only [sw1, sw2, sw3]
      refine tkT 3 52 (.int .u32 vars) inv hHeld ?h1084 ?_
      case h1084 => (intro V' hSw; clear hSw; go_simp; first | done | exact Int.emod_eq_of_lt (b := 4294967296) (by omega) (by omega) | exact Int.emod_eq_of_lt (b := 256) (by omega) (by omega))
      clear inv; intro inv; try simp only [sw1, sw2, sw3]
      refine tkT 6 55 ?v1085 inv hHeld ?h1085 ?_
      case h1085 => (intro V' hSw; obtain ⟨x0, x1, x2, x3, x4, x5, x6, x7⟩ := HX.out V' hSw; clear hSw; go_simp; try with_reducible rfl)
      clear inv; intro inv; try simp only [sw1, sw2, sw3]
      refine tkT 7 56 ?v1086 inv hHeld ?h1086 ?_
      case h1086 => (intro V' hSw; obtain ⟨x0, x1, x2, x3, x4, x5, x6, x7⟩ := HX.out V' hSw; clear hSw; go_simp; try with_reducible rfl)
      clear inv; intro inv; try simp only [sw1, sw2, sw3]
      refine tkT 8 57 ?v1087 inv hHeld ?h1087 ?_
      case h1087 => (intro V' hSw; obtain ⟨x0, x1, x2, x3, x4, x5, x6, x7⟩ := HX.out V' hSw; clear hSw; go_simp; try with_reducible rfl)
      clear inv; intro inv; try simp only [sw1, sw2, sw3]
      refine tkT 9 58 (.int .u32 (tl : Int)) inv hHeld ?h1088 ?_
      case h1088 => (intro V' hSw; clear hSw; go_simp; first | done | exact Int.emod_eq_of_lt (b := 4294967296) (by omega) (by omega) | exact Int.emod_eq_of_lt (b := 256) (by omega) (by omega))
      clear inv; intro inv; try simp only [sw1, sw2, sw3]
      refine callT (i := 4) (t := 53) (f := 53) (args := #[.int .u32 vars]) rfl (by kernel_rfl) rfl (by rfl) ?hx50 inv (by decide) ?hc50
      case hx50 => (go_simp; try rfl)
      case hc50 =>
        refine (word_v wr.drew vars hb7 (by omega)).mono ?_
        rintro e wc49 ⟨A50, c50, rfl, hs, hc⟩
        have HB50 := Go.Lib.hid (HB0.out.quiet hc)
        have HS51 := Go.Lib.hid hs
        clear hs hc
        refine ⟨_, rfl, HB50.out.chg, fun inv2 hHeld2 => ?_⟩
        clear inv hHeld
        have inv := inv2
        have hHeld := hHeld2
        clear inv2 hHeld2
        try simp only [sw1, sw2, sw3]
        refine wpT (i := 5) rfl (by kernel_rfl) (by rfl) inv (by decide) (fun inv2 => ?_)
        clear inv
        have inv := inv2
        clear inv2
        refine (wp_appD _ 54 rfl (.tmp 49) (.tmp 53) _ rfl wA.heap.size U8T i0 (.int .u8 0) 1 1 Try.underlying22 Hi.out.1 Hi.out.2.1 Hi.out.2.2.1 Hi.out.2.2.2 rfl (by decide) u3 (List.length L3) (bv L3) (by rfl) HB50.out.row A50 (List.length (wordB (vars.toNat % 4294967296))) c50 (bv (wordB (vars.toNat % 4294967296))) (by rfl) (bv_len1 _) HS51.out (bv_one _) (by have := HK3.out; have hz := HSB.out; (try simp only [List.length_append, wordB_len, nameB_len, List.length_cons, List.length_nil]); unfold maxLen; omega) (by have := HK3.out; have hz := HSB.out; (try simp only [List.length_append, wordB_len, nameB_len, List.length_cons, List.length_nil]); omega) HB50.out.chg.size ?_)
        intro va54 wa52 own2 gr2 _
        have HB53 := Go.Lib.hid (HB50.out.app (m := (wordB (vars.toNat % 4294967296))) own2 gr2 rfl)
        clear own2 gr2
        refine ⟨fun _ => HB53.out.chg, ?_⟩
        clear hHeld
        have hHeld := HB53.out.chg
        try simp only [sw1, sw2, sw3]
        refine callT (i := 10) (t := 59) (f := 53) (args := #[.int .u32 (tl : Int)]) rfl (by kernel_rfl) rfl (by rfl) ?hx52 inv (by decide) ?hc52
        case hx52 => (go_simp; try rfl)
        case hc52 =>
          refine (word_n wa52 tl (by omega)).mono ?_
          rintro e wc55 ⟨A52, c52, rfl, hs, hc⟩
          have HB56 := Go.Lib.hid (HB53.out.quiet hc)
          have HS57 := Go.Lib.hid hs
          clear hs hc
          refine ⟨_, rfl, HB56.out.chg, fun inv2 hHeld2 => ?_⟩
          clear inv hHeld
          have inv := inv2
          have hHeld := hHeld2
          clear inv2 hHeld2
          try simp only [sw1, sw2, sw3]
          refine wpT (i := 11) rfl (by kernel_rfl) (by rfl) inv (by decide) (fun inv2 => ?_)
          clear inv
          have inv := inv2
          clear inv2
          refine (wp_appD _ 60 rfl (.tmp 54) (.tmp 59) _ rfl wA.heap.size U8T i0 (.int .u8 0) 1 1 Try.underlying22 Hi.out.1 Hi.out.2.1 Hi.out.2.2.1 Hi.out.2.2.2 rfl (by decide) va54 (List.length (L3 ++ (wordB (vars.toNat % 4294967296)))) (bv (L3 ++ (wordB (vars.toNat % 4294967296)))) (by rfl) HB56.out.row A52 (List.length (wordB (tl % 4294967296))) c52 (bv (wordB (tl % 4294967296))) (by rfl) (bv_len1 _) HS57.out (bv_one _) (by have := HK3.out; have hz := HSB.out; (try simp only [List.length_append, wordB_len, nameB_len, List.length_cons, List.length_nil]); unfold maxLen; omega) (by have := HK3.out; have hz := HSB.out; (try simp only [List.length_append, wordB_len, nameB_len, List.length_cons, List.length_nil]); omega) HB56.out.chg.size ?_)
          intro va60 wa58 own2 gr2 _
          have HB59 := Go.Lib.hid (HB56.out.app (m := (wordB (tl % 4294967296))) own2 gr2 rfl)
          clear own2 gr2
          refine ⟨fun _ => HB59.out.chg, ?_⟩
          clear hHeld
          have hHeld := HB59.out.chg
          try simp only [sw1, sw2, sw3]
          refine lastV (i := 12) (t := 3) (v := va60) (w' := wa58) rfl (by kernel_rfl) rfl (by rfl) ?hx54 (by decide) (by kernel_rfl) ?_
          case hx54 => (go_simp; try with_reducible rfl)
          clear inv hHeld
          try simp only [sw1, sw2, sw3]
          obtain ⟨L4, hL⟩ : ∃ L, ((L3 ++ (wordB (vars.toNat % 4294967296))) ++ (wordB (tl % 4294967296))) = L := ⟨_, rfl⟩
          have HK4 : Hid (L4.length ≤ 310) := Go.Lib.hid (by rw [← hL]; have := HK3.out; have hz := HSB.out; (try simp only [List.length_append, wordB_len, nameB_len, List.length_cons, List.length_nil]); omega)
          have HB0 := HB59
          rw [hL] at HB0
          have HE4 := Go.Lib.hid hL
          clear hL
          go_wp2_with fail
          have htl := HLE.out.2.1
          subst htl
          refine regionT 10 (fun V' => Chg NoB wA V') (by kernel_rfl) (by decide) ((HB0.out.quiet (Chg.refl NoB _).drew).chg) (fun inv hHeld => ?_)
          have HB0 := Go.Lib.hid (HB0.out.quiet (Chg.refl NoB _).drew)
          refine tkT 0 61 ?v1089 inv hHeld ?h1089 ?_
          case h1089 => (intro V' hSw; obtain ⟨x0, x1, x2, x3, x4, x5, x6, x7⟩ := HX.out V' hSw; clear hSw; go_simp; try with_reducible rfl)
          clear inv; intro inv; try simp only [sw1, sw2, sw3]
          refine tkT 1 62 ?v1090 inv hHeld ?h1090 ?_
          case h1090 => (intro V' hSw; obtain ⟨x0, x1, x2, x3, x4, x5, x6, x7⟩ := HX.out V' hSw; clear hSw; go_simp; try with_reducible rfl)
          clear inv; intro inv; try simp only [sw1, sw2, sw3]
          refine tkT 2 63 ?v1091 inv hHeld ?h1091 ?_
          case h1091 => (intro V' hSw; obtain ⟨x0, x1, x2, x3, x4, x5, x6, x7⟩ := HX.out V' hSw; clear hSw; go_simp; try with_reducible rfl)
          clear inv; intro inv; try simp only [sw1, sw2, sw3]
          refine tkT 4 65 ?v1092 inv hHeld ?h1092 ?_
          case h1092 => (intro V' hSw; obtain ⟨x0, x1, x2, x3, x4, x5, x6, x7⟩ := HX.out V' hSw; clear hSw; go_simp; try with_reducible rfl)
          clear inv; intro inv; try simp only [sw1, sw2, sw3]
          refine tkT 5 66 ?v1093 inv hHeld ?h1093 ?_
          case h1093 => (intro V' hSw; obtain ⟨x0, x1, x2, x3, x4, x5, x6, x7⟩ := HX.out V' hSw; clear hSw; go_simp; try with_reducible rfl)
          clear inv; intro inv; try simp only [sw1, sw2, sw3]
          refine tkT 6 67 ?v1094 inv hHeld ?h1094 ?_
          case h1094 => (intro V' hSw; obtain ⟨x0, x1, x2, x3, x4, x5, x6, x7⟩ := HX.out V' hSw; clear hSw; go_simp; try with_reducible rfl)
          clear inv; intro inv; try simp only [sw1, sw2, sw3]
          refine tkT 7 68 (.int .u32 (cl : Int)) inv hHeld ?h1095 ?_
          case h1095 => (intro V' hSw; clear hSw; go_simp; first | done | exact Int.emod_eq_of_lt (b := 4294967296) (by omega) (by omega) | exact Int.emod_eq_of_lt (b := 256) (by omega) (by omega))
          clear inv; intro inv; try simp only [sw1, sw2, sw3]
          refine wpT (i := 3) rfl (by kernel_rfl) (by rfl) inv (by decide) (fun inv2 => ?_)
          clear inv
          have inv := inv2
          clear inv2
          refine (wp_appD _ 64 rfl (.tmp 61) (.tmp 63) _ rfl wA.heap.size U8T i0 (.int .u8 0) 1 1 Try.underlying22 Hi.out.1 Hi.out.2.1 Hi.out.2.2.1 Hi.out.2.2.2 rfl (by decide) va60 (List.length L4) (bv L4) (by rfl) HB0.out.row tA (List.length text) tc (bv text) (by rfl) (bv_len1 _) (Go.Lib.hid (HTX.out.chg HB0.out.chg fun _ _ => id)).out (bv_one _) (by have hz := HSB.out; have hz2 := HLE.out; have := HK4.out; have hz := HSB.out; (try simp only [List.length_append, wordB_len, nameB_len, List.length_cons, List.length_nil]); unfold maxLen; omega) (by have hz := HSB.out; have hz2 := HLE.out; have := HK4.out; have hz := HSB.out; (try simp only [List.length_append, wordB_len, nameB_len, List.length_cons, List.length_nil]); omega) HB0.out.chg.size ?_)
          intro va63 wa61 own2 gr2 _
          have HB62 := Go.Lib.hid (HB0.out.app (m := text) own2 gr2 rfl)
          clear own2 gr2
          refine ⟨fun _ => HB62.out.chg, ?_⟩
          clear hHeld
          have hHeld := HB62.out.chg
          try simp only [sw1, sw2, sw3]
          refine callT (i := 8) (t := 69) (f := 53) (args := #[.int .u32 (cl : Int)]) rfl (by kernel_rfl) rfl (by rfl) ?hx63 inv (by decide) ?hc63
          case hx63 => (go_simp; try rfl)
          case hc63 =>
            refine (word_n wa61 cl (by omega)).mono ?_
            rintro e wc64 ⟨A63, c63, rfl, hs, hc⟩
            have HB65 := Go.Lib.hid (HB62.out.quiet hc)
            have HS66 := Go.Lib.hid hs
            clear hs hc
            refine ⟨_, rfl, HB65.out.chg, fun inv2 hHeld2 => ?_⟩
            clear inv hHeld
            have inv := inv2
            have hHeld := hHeld2
            clear inv2 hHeld2
            try simp only [sw1, sw2, sw3]
            refine wpT (i := 9) rfl (by kernel_rfl) (by rfl) inv (by decide) (fun inv2 => ?_)
            clear inv
            have inv := inv2
            clear inv2
            refine (wp_appD _ 70 rfl (.tmp 64) (.tmp 69) _ rfl wA.heap.size U8T i0 (.int .u8 0) 1 1 Try.underlying22 Hi.out.1 Hi.out.2.1 Hi.out.2.2.1 Hi.out.2.2.2 rfl (by decide) va63 (List.length (L4 ++ text)) (bv (L4 ++ text)) (by rfl) HB65.out.row A63 (List.length (wordB (cl % 4294967296))) c63 (bv (wordB (cl % 4294967296))) (by rfl) (bv_len1 _) HS66.out (bv_one _) (by have hz2 := HLE.out; have := HK4.out; have hz := HSB.out; (try simp only [List.length_append, wordB_len, nameB_len, List.length_cons, List.length_nil]); unfold maxLen; omega) (by have hz2 := HLE.out; have := HK4.out; have hz := HSB.out; (try simp only [List.length_append, wordB_len, nameB_len, List.length_cons, List.length_nil]); omega) HB65.out.chg.size ?_)
            intro va69 wa67 own2 gr2 _
            have HB68 := Go.Lib.hid (HB65.out.app (m := (wordB (cl % 4294967296))) own2 gr2 rfl)
            clear own2 gr2
            refine ⟨fun _ => HB68.out.chg, ?_⟩
            clear hHeld
            have hHeld := HB68.out.chg
            try simp only [sw1, sw2, sw3]
            refine lastV (i := 10) (t := 3) (v := va69) (w' := wa67) rfl (by kernel_rfl) rfl (by rfl) ?hx65 (by decide) (by kernel_rfl) ?_
            case hx65 => (go_simp; try with_reducible rfl)
            clear inv hHeld
            try simp only [sw1, sw2, sw3]
            obtain ⟨L5, hL⟩ : ∃ L, ((L4 ++ text) ++ (wordB (cl % 4294967296))) = L := ⟨_, rfl⟩
            have HK5 : Hid (L5.length ≤ 9000) := Go.Lib.hid (by rw [← hL]; have := HK4.out; have := HLE.out; have hz := HSB.out; (try simp only [List.length_append, wordB_len, nameB_len, List.length_cons, List.length_nil]); omega)
            have HB0 := HB68
            rw [hL] at HB0
            have HE5 := Go.Lib.hid hL
            clear hL
            go_wp2_with fail
            have hFL := take_le wordB 4 (l := code) (fun x hx => by rw [wordB_len]; omega)
            have HFL := Go.Lib.hid hFL
            clear hFL
            go_wp2_with fail
            go_loopw [5, 3] (fun v5 v3 wr => ∃ i : Nat, i ≤ cl ∧ v5 = .int .i64 i ∧ BI wA wr (L5 ++ (code.take i).flatMap wordB) v3) (fun v5 _ _ => cl - (intOf v5).toNat)
            case atStart => exact ⟨0, Nat.zero_le _, rfl, by rw [List.take_zero, List.flatMap_nil, List.append_nil]; exact HB0.out⟩
            case round =>
              obtain ⟨i, hi, rfl, hb⟩ := hrel
              have HB1 := Go.Lib.hid hb
              clear hb
              obtain ⟨x0, x1, x2, x3, x4, x5, x6, x7⟩ := HX.out wr HB1.out.chg
              by_cases hlt : i < cl
              · obtain ⟨x, hx⟩ : ∃ x, code[i]? = some x := ⟨_, List.getElem?_eq_getElem (by rw [HLE.out.2.2.1]; exact hlt)⟩
                obtain ⟨p, q, rfl, hy⟩ := HYC.out (by rw [HLE.out.2.2.1]; omega)
                have HY := Go.Lib.hid (hy i x hx)
                have HXI := Go.Lib.hid hx
                have HT : Hid ((code.take (i + 1)).flatMap wordB = (code.take i).flatMap wordB ++ wordB x) := Go.Lib.hid (flat_take wordB hx)
                have HLI := Go.Lib.hid (HFL.out i)
                obtain ⟨L, hL⟩ : ∃ L, L5 ++ (code.take i).flatMap wordB = L := ⟨_, rfl⟩
                have HLK : Hid (L.length ≤ 900000) := Go.Lib.hid (by rw [← hL]; have := HLI.out; have := HLE.out; have := HK5.out; have hz := HSB.out; (try simp only [List.length_append, wordB_len, nameB_len, List.length_cons, List.length_nil]); omega)
                rw [hL] at HB1
                have HLL := Go.Lib.hid hL
                clear hL hx hy
                have hy0 := HY.out wr HB1.out.chg
                have HXN := Go.Lib.hid (HCN.out x (List.mem_of_getElem? HXI.out))
                go_wp2_with fail
                clear x0 x1 x2 x3 x4 x5 x6 x7 hy0
                refine (word_s wr x HXN.out).mono ?_
                rintro e wq ⟨Aq, cq, rfl, hs, hc⟩
                have HB2 := Go.Lib.hid (HB1.out.quiet hc)
                have HS := Go.Lib.hid hs
                clear hs hc
                go_wp2_with (at_builtin; go_must (refine wpList_appK _ rfl (.tmp 78) (.tmp 84) _ rfl wA.heap.size U8T i0 (.int .u8 0) 1 1 Try.underlying22 Hi.out.1 Hi.out.2.1 Hi.out.2.2.1 Hi.out.2.2.2 rfl (by decide) u3 (List.length L) (bv L) (by rfl) HB2.out.row Aq (List.length (wordB x)) cq (bv (wordB x)) (by rfl) (bv_len1 _) HS.out (bv_one _) (by have := HLK.out; have hz := HSB.out; (try simp only [List.length_append, wordB_len, nameB_len, List.length_cons, List.length_nil]); unfold maxLen; omega) (by have := HLK.out; have hz := HSB.out; (try simp only [List.length_append, wordB_len, nameB_len, List.length_cons, List.length_nil]); omega) HB2.out.chg.size ?_); go_must (
                  intro va9 wa9 own2 gr2 _
                  have HBa9 := Go.Lib.hid (HB2.out.app (m := (wordB x)) own2 gr2 rfl)
                  clear own2 gr2))
                go_roundw
                case rel => exact ⟨i + 1, by omega, by go_num, by rw [HT.out, ← List.append_assoc, HLL.out]; exact HBa9.out⟩
                case measure => simp [intOf]; omega
              · obtain rfl : i = cl := by omega
                go_upto_region 13 with fail
                clear x0 x1 x2 x3 x4 x5 x6 x7
                have HBe : Hid (BI wA wr (L5 ++ code.flatMap wordB) u3) := Go.Lib.hid (by have h1 := HB1.out; rw [List.take_of_length_le (by rw [HLE.out.2.2.1]; exact Nat.le_refl _)] at h1; exact h1)
                have HFE : Hid ((code.flatMap wordB).length ≤ code.length * 4) := Go.Lib.hid (by have := HFL.out i; rwa [List.take_of_length_le (by rw [HLE.out.2.2.1]; exact Nat.le_refl _)] at this)
                clear HB1
                obtain ⟨L6, hL⟩ : ∃ L, (L5 ++ code.flatMap wordB) = L := ⟨_, rfl⟩
                have HK6 : Hid (L6.length ≤ 80000) := Go.Lib.hid (by rw [← hL]; have := HK5.out; have := HFE.out; have := HLE.out; have hz := HSB.out; (try simp only [List.length_append, wordB_len, nameB_len, List.length_cons, List.length_nil]); omega)
                have HB0 := HBe
                rw [hL] at HB0
                have HE6 := Go.Lib.hid hL
                clear hL
                clear HBe HFE HFL
                have HB1 := Go.Lib.hid (HB0.out.quiet ((Chg.refl NoB wr).alloc (.cells #[.int .u8 (el : Int)] U8T)))
                have HS : Hid (CellsAt (wr.alloc (.cells #[.int .u8 (el : Int)] U8T)) (some ⟨wr.heap.size, 0, none⟩) (bv [UInt8.ofNat (el % 256)])) := Go.Lib.hid (by rw [bv_u8n el (by omega)]; exact cells_of_blk (Blk.new wr U8T #[.int .u8 (el : Int)]))
                obtain ⟨x0, x1, x2, x3, x4, x5, x6, x7⟩ := HX.out wr HB0.out.chg
                go_wp2_with (at_builtin; go_must (refine wpList_appK _ rfl (.tmp 86) (.tmp 91) _ rfl wA.heap.size U8T i0 (.int .u8 0) 1 1 Try.underlying22 Hi.out.1 Hi.out.2.1 Hi.out.2.2.1 Hi.out.2.2.2 rfl (by decide) u3 (List.length L6) (bv L6) (by rfl) HB1.out.row (some ⟨wr.heap.size, 0, none⟩) (List.length [UInt8.ofNat (el % 256)]) 1 (bv [UInt8.ofNat (el % 256)]) (by rfl) (bv_len1 _) HS.out (bv_one _) (by have := HK6.out; have hz := HSB.out; (try simp only [List.length_append, wordB_len, nameB_len, List.length_cons, List.length_nil]); unfold maxLen; omega) (by have := HK6.out; have hz := HSB.out; (try simp only [List.length_append, wordB_len, nameB_len, List.length_cons, List.length_nil]); omega) HB1.out.chg.size ?_); go_must (
                  intro va13 wa13 own2 gr2 _
                  have HBa13 := Go.Lib.hid (HB1.out.app (m := [UInt8.ofNat (el % 256)]) own2 gr2 rfl)
                  clear own2 gr2))
                clear x0 x1 x2 x3 x4 x5 x6 x7
                obtain ⟨L7, hL⟩ : ∃ L, (L6 ++ [UInt8.ofNat (el % 256)]) = L := ⟨_, rfl⟩
                have HK7 : Hid (L7.length ≤ 80001) := Go.Lib.hid (by rw [← hL]; have := HK6.out; have hz := HSB.out; (try simp only [List.length_append, wordB_len, nameB_len, List.length_cons, List.length_nil]); omega)
                have HB0 := HBa13
                rw [hL] at HB0
                have HE7 := Go.Lib.hid hL
                clear hL
                clear HBa13 HB1 HS
                have hFL := take_le (fun x => wordB (x.toNat % 4294967296)) 4 (l := ents) (fun x hx => by rw [wordB_len]; omega)
                have HFL := Go.Lib.hid hFL
                clear hFL
                go_wp2_with fail
                go_loopw [6, 3] (fun v6 v3 wr => ∃ i : Nat, i ≤ el ∧ v6 = .int .i64 i ∧ BI wA wr (L7 ++ (ents.take i).flatMap (fun x => wordB (x.toNat % 4294967296))) v3) (fun v6 _ _ => el - (intOf v6).toNat)
                case atStart => exact ⟨0, Nat.zero_le _, rfl, by rw [List.take_zero, List.flatMap_nil, List.append_nil]; exact HB0.out⟩
                case round =>
                  obtain ⟨i, hi, rfl, hb⟩ := hrel
                  have HB1 := Go.Lib.hid hb
                  clear hb
                  obtain ⟨x0, x1, x2, x3, x4, x5, x6, x7⟩ := HX.out wr HB1.out.chg
                  by_cases hlt : i < el
                  · obtain ⟨x, hx⟩ : ∃ x, ents[i]? = some x := ⟨_, List.getElem?_eq_getElem (by rw [HLE.out.2.2.2.1]; exact hlt)⟩
                    obtain ⟨p, q, rfl, hy⟩ := HYE.out (by rw [HLE.out.2.2.2.1]; omega)
                    have HY := Go.Lib.hid (hy i x hx)
                    have HXI := Go.Lib.hid hx
                    have HT : Hid ((ents.take (i + 1)).flatMap (fun x => wordB (x.toNat % 4294967296)) = (ents.take i).flatMap (fun x => wordB (x.toNat % 4294967296)) ++ (fun x => wordB (x.toNat % 4294967296)) x) := Go.Lib.hid (flat_take (fun x => wordB (x.toNat % 4294967296)) hx)
                    have HLI := Go.Lib.hid (HFL.out i)
                    obtain ⟨L, hL⟩ : ∃ L, L7 ++ (ents.take i).flatMap (fun x => wordB (x.toNat % 4294967296)) = L := ⟨_, rfl⟩
                    have HLK : Hid (L.length ≤ 900000) := Go.Lib.hid (by rw [← hL]; have := HLI.out; have := HLE.out; have := HK7.out; have hz := HSB.out; (try simp only [List.length_append, wordB_len, nameB_len, List.length_cons, List.length_nil]); omega)
                    rw [hL] at HB1
                    have HLL := Go.Lib.hid hL
                    clear hL hx hy
                    have hy0 := HY.out wr HB1.out.chg
                    have HXN := Go.Lib.hid (HEN.out x (List.mem_of_getElem? HXI.out)).1
                    go_wp2_with fail
                    clear x0 x1 x2 x3 x4 x5 x6 x7 hy0
                    refine (word_i wr x HXN.out).mono ?_
                    rintro e wq ⟨Aq, cq, rfl, hs, hc⟩
                    have HB2 := Go.Lib.hid (HB1.out.quiet hc)
                    have HS := Go.Lib.hid hs
                    clear hs hc
                    go_wp2_with (at_builtin; go_must (refine wpList_appK _ rfl (.tmp 100) (.tmp 107) _ rfl wA.heap.size U8T i0 (.int .u8 0) 1 1 Try.underlying22 Hi.out.1 Hi.out.2.1 Hi.out.2.2.1 Hi.out.2.2.2 rfl (by decide) u3 (List.length L) (bv L) (by rfl) HB2.out.row Aq (List.length (wordB (x.toNat % 4294967296))) cq (bv (wordB (x.toNat % 4294967296))) (by rfl) (bv_len1 _) HS.out (bv_one _) (by have := HLK.out; have hz := HSB.out; (try simp only [List.length_append, wordB_len, nameB_len, List.length_cons, List.length_nil]); unfold maxLen; omega) (by have := HLK.out; have hz := HSB.out; (try simp only [List.length_append, wordB_len, nameB_len, List.length_cons, List.length_nil]); omega) HB2.out.chg.size ?_); go_must (
                      intro va9 wa9 own2 gr2 _
                      have HBa9 := Go.Lib.hid (HB2.out.app (m := (wordB (x.toNat % 4294967296))) own2 gr2 rfl)
                      clear own2 gr2))
                    go_roundw
                    case rel => exact ⟨i + 1, by omega, by go_num, by rw [HT.out, ← List.append_assoc, HLL.out]; exact HBa9.out⟩
                    case measure => simp [intOf]; omega
                  · obtain rfl : i = el := by omega
                    go_upto_region 18 with fail
                    clear x0 x1 x2 x3 x4 x5 x6 x7
                    have HBe : Hid (BI wA wr (L7 ++ ents.flatMap (fun x => wordB (x.toNat % 4294967296))) u3) := Go.Lib.hid (by have h1 := HB1.out; rw [List.take_of_length_le (by rw [HLE.out.2.2.2.1]; exact Nat.le_refl _)] at h1; exact h1)
                    have HFE : Hid ((ents.flatMap (fun x => wordB (x.toNat % 4294967296))).length ≤ ents.length * 4) := Go.Lib.hid (by have := HFL.out i; rwa [List.take_of_length_le (by rw [HLE.out.2.2.2.1]; exact Nat.le_refl _)] at this)
                    clear HB1
                    obtain ⟨L8, hL⟩ : ∃ L, (L7 ++ ents.flatMap (fun x => wordB (x.toNat % 4294967296))) = L := ⟨_, rfl⟩
                    have HK8 : Hid (L8.length ≤ 82000) := Go.Lib.hid (by rw [← hL]; have := HK7.out; have := HFE.out; have := HLE.out; have hz := HSB.out; (try simp only [List.length_append, wordB_len, nameB_len, List.length_cons, List.length_nil]); omega)
                    have HB0 := HBe
                    rw [hL] at HB0
                    have HE8 := Go.Lib.hid hL
                    clear hL
                    clear HBe HFE HFL
                    obtain ⟨x0, x1, x2, x3, x4, x5, x6, x7⟩ := HX.out wr HB0.out.chg
                    go_wp2_with fail
                    clear x0 x1 x2 x3 x4 x5 x6 x7
                    refine (word_n wr fl (by omega)).mono ?_
                    rintro e wq ⟨Aq, cq, rfl, hs, hc⟩
                    have HB1 := Go.Lib.hid (HB0.out.quiet hc)
                    have HS := Go.Lib.hid hs
                    clear hs hc
                    go_wp2_with (at_builtin; go_must (refine wpList_appK _ rfl (.tmp 109) (.tmp 114) _ rfl wA.heap.size U8T i0 (.int .u8 0) 1 1 Try.underlying22 Hi.out.1 Hi.out.2.1 Hi.out.2.2.1 Hi.out.2.2.2 rfl (by decide) u3 (List.length L8) (bv L8) (by rfl) HB1.out.row Aq (List.length (wordB (fl % 4294967296))) cq (bv (wordB (fl % 4294967296))) (by rfl) (bv_len1 _) HS.out (bv_one _) (by have := HK8.out; have hz := HSB.out; (try simp only [List.length_append, wordB_len, nameB_len, List.length_cons, List.length_nil]); unfold maxLen; omega) (by have := HK8.out; have hz := HSB.out; (try simp only [List.length_append, wordB_len, nameB_len, List.length_cons, List.length_nil]); omega) HB1.out.chg.size ?_); go_must (
                      intro va18 wa18 own2 gr2 _
                      have HBa18 := Go.Lib.hid (HB1.out.app (m := (wordB (fl % 4294967296))) own2 gr2 rfl)
                      clear own2 gr2))
                    obtain ⟨L9, hL⟩ : ∃ L, (L8 ++ wordB (fl % 4294967296)) = L := ⟨_, rfl⟩
                    have HK9 : Hid (L9.length ≤ 82010) := Go.Lib.hid (by rw [← hL]; have := HK8.out; have hz := HSB.out; (try simp only [List.length_append, wordB_len, nameB_len, List.length_cons, List.length_nil]); omega)
                    have HB0 := HBa18
                    rw [hL] at HB0
                    have HE9 := Go.Lib.hid hL
                    clear hL
                    clear HBa18 HB1 HS
                    have hFL := take_le fixB 6 (l := fixs) (fun x hx => by unfold fixB; rw [List.length_append, wordB_len]; simp)
                    have HFL := Go.Lib.hid hFL
                    clear hFL
                    go_wp2_with fail
                    go_loopw [7, 3, 8] (fun v7 v3 v8 wr => ∃ i : Nat, i ≤ fl ∧ v7 = .int .i64 i ∧ BI wA wr (L9 ++ (fixs.take i).flatMap fixB) v3) (fun v7 _ _ _ => fl - (intOf v7).toNat)
                    case atStart => exact ⟨0, Nat.zero_le _, rfl, by rw [List.take_zero, List.flatMap_nil, List.append_nil]; exact HB0.out⟩
                    case round =>
                      obtain ⟨i, hi, rfl, hb⟩ := hrel
                      have HB1 := Go.Lib.hid hb
                      clear hb
                      obtain ⟨x0, x1, x2, x3, x4, x5, x6, x7⟩ := HX.out wr HB1.out.chg
                      by_cases hlt : i < fl
                      · obtain ⟨x, hx⟩ : ∃ x, fixs[i]? = some x := ⟨_, List.getElem?_eq_getElem (by rw [HLE.out.2.2.2.2]; exact hlt)⟩
                        obtain ⟨p, q, rfl, hy⟩ := HYF.out (by rw [HLE.out.2.2.2.2]; omega)
                        have HY := Go.Lib.hid (hy i x hx)
                        have HXI := Go.Lib.hid hx
                        have HT : Hid ((fixs.take (i + 1)).flatMap fixB = (fixs.take i).flatMap fixB ++ fixB x) := Go.Lib.hid (flat_take fixB hx)
                        have HLI := Go.Lib.hid (HFL.out i)
                        obtain ⟨L, hL⟩ : ∃ L, L9 ++ (fixs.take i).flatMap fixB = L := ⟨_, rfl⟩
                        have HLK : Hid (L.length ≤ 900000) := Go.Lib.hid (by rw [← hL]; have := HLI.out; have := HLE.out; have := HK9.out; have hz := HSB.out; (try simp only [List.length_append, wordB_len, nameB_len, List.length_cons, List.length_nil]); omega)
                        rw [hL] at HB1
                        have HLL := Go.Lib.hid hL
                        clear hL hx hy
                        obtain ⟨hy0, hy1, hy2⟩ := HY.out wr HB1.out.chg
                        obtain ⟨hx0, hx1, hx2⟩ := HFN.out i x HXI.out
                        have HXN := Go.Lib.hid (And.intro hx0 (And.intro hx1 hx2))
                        clear hx0 hx1 hx2
                        go_wp2_with fail
                        clear x0 x1 x2 x3 x4 x5 x6 x7 hy0 hy1 hy2
                        have HBF : Hid (BIF wA wr.heap.size x (wr.alloc (.cells #[.int .i64 x.1, .int .i64 x.2.1, .int .i64 x.2.2] FT)) L u3) := Go.Lib.hid ⟨own_chg HB1.out.row ((Chg.refl NoB wr).alloc _) fun _ _ => id, HB1.out.chg.alloc _, Blk.new _ _ _⟩
                        generalize wr.alloc (.cells #[.int .i64 x.1, .int .i64 x.2.1, .int .i64 x.2.2] FT) = wf at *
                        generalize wr.heap.size = fb at *
                        refine regionT 14 (fun V' => Chg NoB wA V' ∧ Blk V' fb FT #[.int .i64 x.1, .int .i64 x.2.1, .int .i64 x.2.2]) (by kernel_rfl) (by decide) ((HBF.out.quiet (Chg.refl NoB _).drew).held) (fun inv hHeld => ?_)
                        have HBF := Go.Lib.hid (HBF.out.quiet (Chg.refl NoB _).drew)
                        refine tkT 0 128 ?v1096 inv hHeld ?h1096 ?_
                        case h1096 => (intro V' hSw; have y0 : V'.cell? ⟨fb, 0, none⟩ = some (.int .i64 x.1) := hSw.2.cell 0; have y1 : V'.cell? ⟨fb, 1, none⟩ = some (.int .i64 x.2.1) := hSw.2.cell 1; have y2 : V'.cell? ⟨fb, 2, none⟩ = some (.int .i64 x.2.2) := hSw.2.cell 2; clear hSw; go_simp; try with_reducible rfl)
                        clear inv; intro inv; try simp only [sw1, sw2, sw3]
                        refine tkT 1 129 ?v1097 inv hHeld ?h1097 ?_
                        case h1097 => (intro V' hSw; have y0 : V'.cell? ⟨fb, 0, none⟩ = some (.int .i64 x.1) := hSw.2.cell 0; have y1 : V'.cell? ⟨fb, 1, none⟩ = some (.int .i64 x.2.1) := hSw.2.cell 1; have y2 : V'.cell? ⟨fb, 2, none⟩ = some (.int .i64 x.2.2) := hSw.2.cell 2; clear hSw; go_simp; try with_reducible rfl)
                        clear inv; intro inv; try simp only [sw1, sw2, sw3]
                        refine tkT 2 130 ?v1098 inv hHeld ?h1098 ?_
                        case h1098 => (intro V' hSw; have y0 : V'.cell? ⟨fb, 0, none⟩ = some (.int .i64 x.1) := hSw.2.cell 0; have y1 : V'.cell? ⟨fb, 1, none⟩ = some (.int .i64 x.2.1) := hSw.2.cell 1; have y2 : V'.cell? ⟨fb, 2, none⟩ = some (.int .i64 x.2.2) := hSw.2.cell 2; clear hSw; go_simp; try with_reducible rfl)
                        clear inv; intro inv; try simp only [sw1, sw2, sw3]
                        refine tkT 3 131 ?v1099 inv hHeld ?h1099 ?_
                        case h1099 => (intro V' hSw; have y0 : V'.cell? ⟨fb, 0, none⟩ = some (.int .i64 x.1) := hSw.2.cell 0; have y1 : V'.cell? ⟨fb, 1, none⟩ = some (.int .i64 x.2.1) := hSw.2.cell 1; have y2 : V'.cell? ⟨fb, 2, none⟩ = some (.int .i64 x.2.2) := hSw.2.cell 2; clear hSw; go_simp; try with_reducible rfl)
                        clear inv; intro inv; try simp only [sw1, sw2, sw3]
                        refine tkT 6 134 ?v1100 inv hHeld ?h1100 ?_
                        case h1100 => (intro V' hSw; have y0 : V'.cell? ⟨fb, 0, none⟩ = some (.int .i64 x.1) := hSw.2.cell 0; have y1 : V'.cell? ⟨fb, 1, none⟩ = some (.int .i64 x.2.1) := hSw.2.cell 1; have y2 : V'.cell? ⟨fb, 2, none⟩ = some (.int .i64 x.2.2) := hSw.2.cell 2; clear hSw; go_simp; try with_reducible rfl)
                        clear inv; intro inv; try simp only [sw1, sw2, sw3]
                        refine tkT 7 135 ?v1101 inv hHeld ?h1101 ?_
                        case h1101 => (intro V' hSw; have y0 : V'.cell? ⟨fb, 0, none⟩ = some (.int .i64 x.1) := hSw.2.cell 0; have y1 : V'.cell? ⟨fb, 1, none⟩ = some (.int .i64 x.2.1) := hSw.2.cell 1; have y2 : V'.cell? ⟨fb, 2, none⟩ = some (.int .i64 x.2.2) := hSw.2.cell 2; clear hSw; go_simp; try with_reducible rfl)
                        clear inv; intro inv; try simp only [sw1, sw2, sw3]
                        refine tkT 8 136 ?v1102 inv hHeld ?h1102 ?_
                        case h1102 => (intro V' hSw; have y0 : V'.cell? ⟨fb, 0, none⟩ = some (.int .i64 x.1) := hSw.2.cell 0; have y1 : V'.cell? ⟨fb, 1, none⟩ = some (.int .i64 x.2.1) := hSw.2.cell 1; have y2 : V'.cell? ⟨fb, 2, none⟩ = some (.int .i64 x.2.2) := hSw.2.cell 2; clear hSw; go_simp; try with_reducible rfl)
                        clear inv; intro inv; try simp only [sw1, sw2, sw3]
                        refine tkT 9 137 ?v1103 inv hHeld ?h1103 ?_
                        case h1103 => (intro V' hSw; have y0 : V'.cell? ⟨fb, 0, none⟩ = some (.int .i64 x.1) := hSw.2.cell 0; have y1 : V'.cell? ⟨fb, 1, none⟩ = some (.int .i64 x.2.1) := hSw.2.cell 1; have y2 : V'.cell? ⟨fb, 2, none⟩ = some (.int .i64 x.2.2) := hSw.2.cell 2; clear hSw; go_simp; try with_reducible rfl)
                        clear inv; intro inv; try simp only [sw1, sw2, sw3]
                        refine tkT 10 138 ?v1104 inv hHeld ?h1104 ?_
                        case h1104 => (intro V' hSw; have y0 : V'.cell? ⟨fb, 0, none⟩ = some (.int .i64 x.1) := hSw.2.cell 0; have y1 : V'.cell? ⟨fb, 1, none⟩ = some (.int .i64 x.2.1) := hSw.2.cell 1; have y2 : V'.cell? ⟨fb, 2, none⟩ = some (.int .i64 x.2.2) := hSw.2.cell 2; clear hSw; go_simp; try with_reducible rfl)
                        clear inv; intro inv; try simp only [sw1, sw2, sw3]
                        refine tkT 11 139 ?v1105 inv hHeld ?h1105 ?_
                        case h1105 => (intro V' hSw; have y0 : V'.cell? ⟨fb, 0, none⟩ = some (.int .i64 x.1) := hSw.2.cell 0; have y1 : V'.cell? ⟨fb, 1, none⟩ = some (.int .i64 x.2.1) := hSw.2.cell 1; have y2 : V'.cell? ⟨fb, 2, none⟩ = some (.int .i64 x.2.2) := hSw.2.cell 2; clear hSw; go_simp; try with_reducible rfl)
                        clear inv; intro inv; try simp only [sw1, sw2, sw3]
                        refine manyT (i := 4) (l := [12]) (by kernel_rfl) (by decide) inv ?ho76
                        case ho76 =>
                          intro j hj
                          simp only [List.mem_cons, List.not_mem_nil, or_false] at hj
                          rcases hj with rfl | rfl
                          ·
                            intro inv2
                            clear inv
                            have inv := inv2
                            clear inv2
                            refine opCall (t := 132) (f := 53) (args := #[.int .u32 (x.1 % 4294967296)]) rfl rfl (by rfl) ?hx77 ?hc77
                            case hx77 => (go_simp; try rfl)
                            case hc77 =>
                              refine (word_i wf.drew x.1 HXN.out.1).mono ?_
                              rintro e wc501 ⟨A77, c77, rfl, hs, hc⟩
                              have HB502 := Go.Lib.hid (HBF.out.quiet hc)
                              have HS503 := Go.Lib.hid hs
                              clear hs hc
                              refine ⟨_, rfl, HB502.out.held, ?_⟩
                              clear hHeld
                              have hHeld := HB502.out.held
                              try simp only [sw1, sw2, sw3]
                              refine manyT (i := 5) (l := [12]) (by kernel_rfl) (by decide) inv ?ho78
                              case ho78 =>
                                intro j hj
                                simp only [List.mem_cons, List.not_mem_nil, or_false] at hj
                                rcases hj with rfl | rfl
                                ·
                                  intro inv2
                                  clear inv
                                  have inv := inv2
                                  clear inv2
                                  refine opWpT rfl (by rfl) (wp_appD _ 133 rfl (.tmp 128) (.tmp 132) _ rfl wA.heap.size U8T i0 (.int .u8 0) 1 1 Try.underlying22 Hi.out.1 Hi.out.2.1 Hi.out.2.2.1 Hi.out.2.2.2 rfl (by decide) u3 (List.length L) (bv L) (by rfl) HB502.out.row A77 (List.length (wordB (x.1.toNat % 4294967296))) c77 (bv (wordB (x.1.toNat % 4294967296))) (by rfl) (bv_len1 _) HS503.out (bv_one _) (by have := HLK.out; have hz := HSB.out; (try simp only [List.length_append, wordB_len, nameB_len, List.length_cons, List.length_nil]); unfold maxLen; omega) (by have := HLK.out; have hz := HSB.out; (try simp only [List.length_append, wordB_len, nameB_len, List.length_cons, List.length_nil]); omega) HB502.out.chg.size ?_)
                                  intro va506 wa504 own2 gr2 _
                                  have HB505 := Go.Lib.hid (HB502.out.app (m := (wordB (x.1.toNat % 4294967296))) own2 gr2 rfl)
                                  clear own2 gr2
                                  refine ⟨fun _ => HB505.out.held, ?_⟩
                                  clear hHeld
                                  have hHeld := HB505.out.held
                                  try simp only [sw1, sw2, sw3]
                                  refine valT (i := 12) (t := 140) (v := .slice (some ⟨(World.heap wa504).size, 0, none⟩) 2 2) (w' := World.alloc wa504 (.cells #[.int .u8 (x.2.1 % 256), .int .u8 (x.2.2 % 256)] U8T)) rfl (by kernel_rfl) rfl (by rfl) ?hb80 inv (by decide) ((HB505.out.quiet ((Chg.refl NoB _).alloc _)).held) ?hn80
                                  case hb80 => (go_simp; try rfl)
                                  case hn80 =>
                                    intro inv2 _
                                    clear inv hHeld
                                    have inv := inv2
                                    clear inv2
                                    have hne80 : ¬ (Value.ownBlock va506 = some (World.heap wa504).size) := own_ne HB505.out.row
                                    have hq := (Chg.refl NoB wa504).alloc (.cells #[.int .u8 (x.2.1 % 256), .int .u8 (x.2.2 % 256)] U8T)
                                    have HS509 : Hid (CellsAt (World.alloc wa504 (.cells #[.int .u8 (x.2.1 % 256), .int .u8 (x.2.2 % 256)] U8T)) (some ⟨(World.heap wa504).size, 0, none⟩) (bv [UInt8.ofNat (x.2.1.toNat % 256), UInt8.ofNat (x.2.2.toNat % 256)])) := Go.Lib.hid (by rw [bv_i82 _ _ HXN.out.2.1 HXN.out.2.2]; exact cells_of_blk (Blk.new wa504 U8T #[.int .u8 (x.2.1 % 256), .int .u8 (x.2.2 % 256)]))
                                    have HB508 := Go.Lib.hid (HB505.out.quiet hq)
                                    clear hq
                                    generalize World.alloc wa504 (.cells #[.int .u8 (x.2.1 % 256), .int .u8 (x.2.2 % 256)] U8T) = wb507 at *
                                    generalize (World.heap wa504).size = gb510 at *
                                    have hHeld := HB508.out.held
                                    try simp only [sw1, sw2, sw3]
                                    refine wpT (i := 13) rfl (by kernel_rfl) (by rfl) inv (by decide) (fun inv2 => ?_)
                                    clear inv
                                    have inv := inv2
                                    clear inv2
                                    refine (wp_appD _ 141 rfl (.tmp 133) (.tmp 140) _ rfl wA.heap.size U8T i0 (.int .u8 0) 1 1 Try.underlying22 Hi.out.1 Hi.out.2.1 Hi.out.2.2.1 Hi.out.2.2.2 rfl (by decide) va506 (List.length (L ++ (wordB (x.1.toNat % 4294967296)))) (bv (L ++ (wordB (x.1.toNat % 4294967296)))) (by rfl) HB508.out.row (some ⟨gb510, 0, none⟩) (List.length [UInt8.ofNat (x.2.1.toNat % 256), UInt8.ofNat (x.2.2.toNat % 256)]) 2 (bv [UInt8.ofNat (x.2.1.toNat % 256), UInt8.ofNat (x.2.2.toNat % 256)]) (by rfl) (bv_len1 _) HS509.out (bv_one _) (by have := HLK.out; have hz := HSB.out; (try simp only [List.length_append, wordB_len, nameB_len, List.length_cons, List.length_nil]); unfold maxLen; omega) (by have := HLK.out; have hz := HSB.out; (try simp only [List.length_append, wordB_len, nameB_len, List.length_cons, List.length_nil]); omega) HB508.out.chg.size ?_)
                                    intro va513 wa511 own2 gr2 _
                                    have HB512 := Go.Lib.hid (HB508.out.app (m := [UInt8.ofNat (x.2.1.toNat % 256), UInt8.ofNat (x.2.2.toNat % 256)]) own2 gr2 rfl)
                                    clear own2 gr2
                                    refine ⟨fun _ => HB512.out.held, ?_⟩
                                    clear hHeld
                                    have hHeld := HB512.out.held
                                    try simp only [sw1, sw2, sw3]
                                    refine lastV (i := 14) (t := 3) (v := va513) (w' := wa511) rfl (by kernel_rfl) rfl (by rfl) ?hx82 (by decide) (by kernel_rfl) ?_
                                    case hx82 => (go_simp; try with_reducible rfl)
                                    clear inv hHeld
                                    try simp only [sw1, sw2, sw3]
                                    go_wp2_with fail
                                    go_roundw
                                    case rel =>
                                      exact ⟨i + 1, by omega, by go_num, by rw [HT.out, ← List.append_assoc, HLL.out]; exact (by have h1 := HB512.out.bi; rw [List.append_assoc] at h1; exact h1)⟩
                                    case measure => simp [intOf]; omega
                                ·
                                  intro inv2
                                  clear inv
                                  have inv := inv2
                                  clear inv2
                                  refine opVal (t := 140) (v := .slice (some ⟨(World.heap wc501).size, 0, none⟩) 2 2) (w' := World.alloc wc501 (.cells #[.int .u8 (x.2.1 % 256), .int .u8 (x.2.2 % 256)] U8T)) rfl rfl (by rfl) ?hb83 ((HB502.out.quiet ((Chg.refl NoB _).alloc _)).held) ?hn83
                                  case hb83 => (go_simp; try rfl)
                                  case hn83 =>
                                    clear hHeld
                                    have hne83 : ¬ (Value.ownBlock u3 = some (World.heap wc501).size) := own_ne HB502.out.row
                                    have hq := (Chg.refl NoB wc501).alloc (.cells #[.int .u8 (x.2.1 % 256), .int .u8 (x.2.2 % 256)] U8T)
                                    have HS516 : Hid (CellsAt (World.alloc wc501 (.cells #[.int .u8 (x.2.1 % 256), .int .u8 (x.2.2 % 256)] U8T)) (some ⟨(World.heap wc501).size, 0, none⟩) (bv [UInt8.ofNat (x.2.1.toNat % 256), UInt8.ofNat (x.2.2.toNat % 256)])) := Go.Lib.hid (by rw [bv_i82 _ _ HXN.out.2.1 HXN.out.2.2]; exact cells_of_blk (Blk.new wc501 U8T #[.int .u8 (x.2.1 % 256), .int .u8 (x.2.2 % 256)]))
                                    have HB515 := Go.Lib.hid (HB502.out.quiet hq)
                                    have HS503 := Go.Lib.hid (HS503.out.chg hq fun _ _ => id)
                                    clear hq
                                    generalize World.alloc wc501 (.cells #[.int .u8 (x.2.1 % 256), .int .u8 (x.2.2 % 256)] U8T) = wb514 at *
                                    generalize (World.heap wc501).size = gb517 at *
                                    have hHeld := HB515.out.held
                                    try simp only [sw1, sw2, sw3]
                                    refine wpT (i := 5) rfl (by kernel_rfl) (by rfl) inv (by decide) (fun inv2 => ?_)
                                    clear inv
                                    have inv := inv2
                                    clear inv2
                                    refine (wp_appD _ 133 rfl (.tmp 128) (.tmp 132) _ rfl wA.heap.size U8T i0 (.int .u8 0) 1 1 Try.underlying22 Hi.out.1 Hi.out.2.1 Hi.out.2.2.1 Hi.out.2.2.2 rfl (by decide) u3 (List.length L) (bv L) (by rfl) HB515.out.row A77 (List.length (wordB (x.1.toNat % 4294967296))) c77 (bv (wordB (x.1.toNat % 4294967296))) (by rfl) (bv_len1 _) HS503.out (bv_one _) (by have := HLK.out; have hz := HSB.out; (try simp only [List.length_append, wordB_len, nameB_len, List.length_cons, List.length_nil]); unfold maxLen; omega) (by have := HLK.out; have hz := HSB.out; (try simp only [List.length_append, wordB_len, nameB_len, List.length_cons, List.length_nil]); omega) HB515.out.chg.size ?_)
                                    intro va520 wa518 own2 gr2 _
                                    have HB519 := Go.Lib.hid (HB515.out.app (m := (wordB (x.1.toNat % 4294967296))) own2 gr2 rfl)
                                    have HS516 := Go.Lib.hid (HS516.out.chg (grown_own gr2) (fun ad ha hk => by cases ha; exact hne83 hk))
                                    clear own2 gr2
                                    refine ⟨fun _ => HB519.out.held, ?_⟩
                                    clear hHeld
                                    have hHeld := HB519.out.held
                                    try simp only [sw1, sw2, sw3]
                                    refine wpT (i := 13) rfl (by kernel_rfl) (by rfl) inv (by decide) (fun inv2 => ?_)
                                    clear inv
                                    have inv := inv2
                                    clear inv2
                                    refine (wp_appD _ 141 rfl (.tmp 133) (.tmp 140) _ rfl wA.heap.size U8T i0 (.int .u8 0) 1 1 Try.underlying22 Hi.out.1 Hi.out.2.1 Hi.out.2.2.1 Hi.out.2.2.2 rfl (by decide) va520 (List.length (L ++ (wordB (x.1.toNat % 4294967296)))) (bv (L ++ (wordB (x.1.toNat % 4294967296)))) (by rfl) HB519.out.row (some ⟨gb517, 0, none⟩) (List.length [UInt8.ofNat (x.2.1.toNat % 256), UInt8.ofNat (x.2.2.toNat % 256)]) 2 (bv [UInt8.ofNat (x.2.1.toNat % 256), UInt8.ofNat (x.2.2.toNat % 256)]) (by rfl) (bv_len1 _) HS516.out (bv_one _) (by have := HLK.out; have hz := HSB.out; (try simp only [List.length_append, wordB_len, nameB_len, List.length_cons, List.length_nil]); unfold maxLen; omega) (by have := HLK.out; have hz := HSB.out; (try simp only [List.length_append, wordB_len, nameB_len, List.length_cons, List.length_nil]); omega) HB519.out.chg.size ?_)
                                    intro va523 wa521 own2 gr2 _
                                    have HB522 := Go.Lib.hid (HB519.out.app (m := [UInt8.ofNat (x.2.1.toNat % 256), UInt8.ofNat (x.2.2.toNat % 256)]) own2 gr2 rfl)
                                    clear own2 gr2
                                    refine ⟨fun _ => HB522.out.held, ?_⟩
                                    clear hHeld
                                    have hHeld := HB522.out.held
                                    try simp only [sw1, sw2, sw3]
                                    refine lastV (i := 14) (t := 3) (v := va523) (w' := wa521) rfl (by kernel_rfl) rfl (by rfl) ?hx86 (by decide) (by kernel_rfl) ?_
                                    case hx86 => (go_simp; try with_reducible rfl)
                                    clear inv hHeld
                                    try simp only [sw1, sw2, sw3]
                                    go_wp2_with fail
                                    go_roundw
                                    case rel =>
                                      exact ⟨i + 1, by omega, by go_num, by rw [HT.out, ← List.append_assoc, HLL.out]; exact (by have h1 := HB522.out.bi; rw [List.append_assoc] at h1; exact h1)⟩
                                    case measure => simp [intOf]; omega
                          ·
                            intro inv2
                            clear inv
                            have inv := inv2
                            clear inv2
                            refine opVal (t := 140) (v := .slice (some ⟨(World.heap wf.drew).size, 0, none⟩) 2 2) (w' := World.alloc wf.drew (.cells #[.int .u8 (x.2.1 % 256), .int .u8 (x.2.2 % 256)] U8T)) rfl rfl (by rfl) ?hb87 ((HBF.out.quiet ((Chg.refl NoB _).alloc _)).held) ?hn87
                            case hb87 => (go_simp; try rfl)
                            case hn87 =>
                              clear hHeld
                              have hne87 : ¬ (Value.ownBlock u3 = some (World.heap wf.drew).size) := own_ne HBF.out.row
                              have hq := (Chg.refl NoB wf.drew).alloc (.cells #[.int .u8 (x.2.1 % 256), .int .u8 (x.2.2 % 256)] U8T)
                              have HS526 : Hid (CellsAt (World.alloc wf.drew (.cells #[.int .u8 (x.2.1 % 256), .int .u8 (x.2.2 % 256)] U8T)) (some ⟨(World.heap wf.drew).size, 0, none⟩) (bv [UInt8.ofNat (x.2.1.toNat % 256), UInt8.ofNat (x.2.2.toNat % 256)])) := Go.Lib.hid (by rw [bv_i82 _ _ HXN.out.2.1 HXN.out.2.2]; exact cells_of_blk (Blk.new wf.drew U8T #[.int .u8 (x.2.1 % 256), .int .u8 (x.2.2 % 256)]))
                              have HB525 := Go.Lib.hid (HBF.out.quiet hq)
                              clear hq
                              generalize World.alloc wf.drew (.cells #[.int .u8 (x.2.1 % 256), .int .u8 (x.2.2 % 256)] U8T) = wb524 at *
                              generalize (World.heap wf.drew).size = gb527 at *
                              have hHeld := HB525.out.held
                              try simp only [sw1, sw2, sw3]
                              refine callT (i := 4) (t := 132) (f := 53) (args := #[.int .u32 (x.1 % 4294967296)]) rfl (by kernel_rfl) rfl (by rfl) ?hx88 inv (by decide) ?hc88
                              case hx88 => (go_simp; try rfl)
                              case hc88 =>
                                refine (word_i wb524 x.1 HXN.out.1).mono ?_
                                rintro e wc528 ⟨A88, c88, rfl, hs, hc⟩
                                have HB529 := Go.Lib.hid (HB525.out.quiet hc)
                                have HS530 := Go.Lib.hid hs
                                have HS526 := Go.Lib.hid (HS526.out.chg hc fun _ _ => id)
                                clear hs hc
                                refine ⟨_, rfl, HB529.out.held, fun inv2 hHeld2 => ?_⟩
                                clear inv hHeld
                                have inv := inv2
                                have hHeld := hHeld2
                                clear inv2 hHeld2
                                try simp only [sw1, sw2, sw3]
                                refine wpT (i := 5) rfl (by kernel_rfl) (by rfl) inv (by decide) (fun inv2 => ?_)
                                clear inv
                                have inv := inv2
                                clear inv2
                                refine (wp_appD _ 133 rfl (.tmp 128) (.tmp 132) _ rfl wA.heap.size U8T i0 (.int .u8 0) 1 1 Try.underlying22 Hi.out.1 Hi.out.2.1 Hi.out.2.2.1 Hi.out.2.2.2 rfl (by decide) u3 (List.length L) (bv L) (by rfl) HB529.out.row A88 (List.length (wordB (x.1.toNat % 4294967296))) c88 (bv (wordB (x.1.toNat % 4294967296))) (by rfl) (bv_len1 _) HS530.out (bv_one _) (by have := HLK.out; have hz := HSB.out; (try simp only [List.length_append, wordB_len, nameB_len, List.length_cons, List.length_nil]); unfold maxLen; omega) (by have := HLK.out; have hz := HSB.out; (try simp only [List.length_append, wordB_len, nameB_len, List.length_cons, List.length_nil]); omega) HB529.out.chg.size ?_)
                                intro va533 wa531 own2 gr2 _
                                have HB532 := Go.Lib.hid (HB529.out.app (m := (wordB (x.1.toNat % 4294967296))) own2 gr2 rfl)
                                have HS526 := Go.Lib.hid (HS526.out.chg (grown_own gr2) (fun ad ha hk => by cases ha; exact hne87 hk))
                                clear own2 gr2
                                refine ⟨fun _ => HB532.out.held, ?_⟩
                                clear hHeld
                                have hHeld := HB532.out.held
                                try simp only [sw1, sw2, sw3]
                                refine wpT (i := 13) rfl (by kernel_rfl) (by rfl) inv (by decide) (fun inv2 => ?_)
                                clear inv
                                have inv := inv2
                                clear inv2
                                refine (wp_appD _ 141 rfl (.tmp 133) (.tmp 140) _ rfl wA.heap.size U8T i0 (.int .u8 0) 1 1 Try.underlying22 Hi.out.1 Hi.out.2.1 Hi.out.2.2.1 Hi.out.2.2.2 rfl (by decide) va533 (List.length (L ++ (wordB (x.1.toNat % 4294967296)))) (bv (L ++ (wordB (x.1.toNat % 4294967296)))) (by rfl) HB532.out.row (some ⟨gb527, 0, none⟩) (List.length [UInt8.ofNat (x.2.1.toNat % 256), UInt8.ofNat (x.2.2.toNat % 256)]) 2 (bv [UInt8.ofNat (x.2.1.toNat % 256), UInt8.ofNat (x.2.2.toNat % 256)]) (by rfl) (bv_len1 _) HS526.out (bv_one _) (by have := HLK.out; have hz := HSB.out; (try simp only [List.length_append, wordB_len, nameB_len, List.length_cons, List.length_nil]); unfold maxLen; omega) (by have := HLK.out; have hz := HSB.out; (try simp only [List.length_append, wordB_len, nameB_len, List.length_cons, List.length_nil]); omega) HB532.out.chg.size ?_)
                                intro va536 wa534 own2 gr2 _
                                have HB535 := Go.Lib.hid (HB532.out.app (m := [UInt8.ofNat (x.2.1.toNat % 256), UInt8.ofNat (x.2.2.toNat % 256)]) own2 gr2 rfl)
                                clear own2 gr2
                                refine ⟨fun _ => HB535.out.held, ?_⟩
                                clear hHeld
                                have hHeld := HB535.out.held
                                try simp only [sw1, sw2, sw3]
                                refine lastV (i := 14) (t := 3) (v := va536) (w' := wa534) rfl (by kernel_rfl) rfl (by rfl) ?hx91 (by decide) (by kernel_rfl) ?_
                                case hx91 => (go_simp; try with_reducible rfl)
                                clear inv hHeld
                                try simp only [sw1, sw2, sw3]
                                go_wp2_with fail
                                go_roundw
                                case rel =>
                                  exact ⟨i + 1, by omega, by go_num, by rw [HT.out, ← List.append_assoc, HLL.out]; exact (by have h1 := HB535.out.bi; rw [List.append_assoc] at h1; exact h1)⟩
                                case measure => simp [intOf]; omega
                      · obtain rfl : i = fl := by omega
                        go_wp2_with fail
                        clear x0 x1 x2 x3 x4 x5 x6 x7
                        have HBe : Hid (BI wA wr (L9 ++ fixs.flatMap fixB) u3) := Go.Lib.hid (by have h1 := HB1.out; rw [List.take_of_length_le (by rw [HLE.out.2.2.2.2]; exact Nat.le_refl _)] at h1; exact h1)
                        have HFE : Hid ((fixs.flatMap fixB).length ≤ fixs.length * 6) := Go.Lib.hid (by have := HFL.out i; rwa [List.take_of_length_le (by rw [HLE.out.2.2.2.2]; exact Nat.le_refl _)] at this)
                        clear HB1
                        go_ret
                        refine ⟨_, rfl, ?_, HCA.out.trans HBe.out.chg⟩
                        have hL : bytesO ⟨name, key, imps, vars, text, code, ents, fixs⟩ = L9 ++ fixs.flatMap fixB := by
                          unfold bytesO
                          simp only
                          rw [← HE9.out, ← HE8.out, ← HE7.out, ← HE6.out, ← HE5.out, ← HE4.out, ← HE3.out, ← HE2.out, ← HE1.out, HLE.out.1, HLE.out.2.2.1, HLE.out.2.2.2.1, HLE.out.2.2.2.2]
                          rfl
                        rw [hL]
                        exact own_base_ HBe.out.row HCA.out.size
end Go.Proofs.Yteleglkoagnmcaa
