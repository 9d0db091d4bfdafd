/- What is proved: LinkAlone holds, walked. Conditions: the memory holds the objects and the files. -/
import Derived.Test.YteleglkoagnmcaaGLnA
import Derived.Test.YteleglkoagnmcaaGLnI
import Derived.Test.YteleglkoagnmcaaGLKey
set_option linter.unusedSimpArgs false
set_option linter.unusedVariables false
set_option linter.constructorNameAsVariable false
namespace Go.Proofs.Yteleglkoagnmcaa
open Go Go.RowKit
/-! ### plain -/
theorem dirOk_putsO : ∀ (l : List Ob) (v : V), DirOk v → DirOk (putsO putP v l)
  | [], v, h => h
  | o :: l, v, h => by
    rw [putsO]
    split
    · exact dirOk_putsO l _ (dirOk_put h _ _)
    · exact dirOk_putsO l _ h
/-- what puts of other files leave -/
structure Alo (v : V) (nm : ByteArray) (oer : Int) (u : V) : Prop where
  ok : DirOk u
  no : oer ≠ 0 → u = v
  same : ∀ d, loadedO (getV v) nm = .inr d → ∀ o ∈ d, getV u (fileO o.name) = getV v (fileO o.name)
theorem Alo.link {v u : V} {nm : ByteArray} {oer : Int} (h : Alo v nm oer u) (he : (∃ e, loadedO (getV v) nm = .inl e) → oer ≠ 0) : linkO (getV u) nm = linkO (getV v) nm := by
  cases hr : loadedO (getV v) nm with
  | inl e => rw [h.no (he ⟨e, hr⟩)]
  | inr d =>
    have h1 : loadedO (getV u) nm = .inr d := ldAll_same 201 [] [] nm d hr fun o ho => ldO_same (h.same d hr o ho)
    unfold linkO
    rw [h1, hr]
theorem Alo.put {v u : V} {nm : ByteArray} {oer : Int} (h : Alo v nm oer u) {f : ByteArray} {b : List UInt8} (h0 : oer = 0) (hf : ∀ d, loadedO (getV v) nm = .inr d → ∀ o ∈ d, fileO o.name ≠ f) : Alo v nm oer (u.put f b).2 where
  ok := dirOk_put h.ok f b
  no := fun hn => absurd h0 hn
  same := fun d hd o ho => (getV_put_other h.ok (hf d hd o ho) b).trans (h.same d hd o ho)
/-- what Link tells, in one form -/
theorem LayPost.form {B : World} {r : Int ⊕ Img} {e : Ending} {w' : World} (h : LayPost B r e w') : Chg NoB B w' ∧ ∃ (er : Int) (i : Img) (wA : Option Addr) (wc : Nat) (mA : Option Addr) (mc : Nat) (l : List (Pl × PA)), e = .returned (.tuple #[.agg #[.slice wA i.words.length wc, .slice mA i.mods.length mc], .int .i64 er]) ∧ (r = .inl er ∧ i = ⟨[], []⟩ ∨ r = .inr i ∧ er = 0) ∧ l.map (·.1) = i.mods ∧ w'.ownsRow B.heap.size U32T 1 (.slice wA i.words.length wc) i.words.length (codeCells i.words) ∧ w'.ownsRow B.heap.size PLT 5 (.slice mA i.mods.length mc) i.mods.length (plsCells l) ∧ ∀ x ∈ l, EntAt w' x.1 x.2 := by
  obtain ⟨h1, h2⟩ := h
  refine ⟨h1, ?_⟩
  cases r with
  | inl er => exact ⟨er, ⟨[], []⟩, none, 0, none, 0, [], h2, .inl ⟨rfl, rfl⟩, rfl, World.ownsRow_nil _ _ _ _, World.ownsRow_nil _ _ _ _, by simp⟩
  | inr i =>
    obtain ⟨wv, mv, l, h3, rfl, h5, h6, h7⟩ := h2
    have hl : l.length = i.mods.length := by rw [← h3, List.length_map]
    rw [hl] at h6
    obtain ⟨wA, wc, rfl⟩ := own_slice h5
    obtain ⟨mA, mc, rfl⟩ := own_slice h6
    exact ⟨0, i, wA, wc, mA, mc, l, rfl, .inr ⟨rfl, rfl⟩, h3, h5, h6, h7⟩
theorem img_small {get : ByteArray → Option (List UInt8)} {v : V} {nm : ByteArray} {i : Img} (h : linkO (getV v) nm = .inr i) : i.words.length ≤ maxLen ∧ i.mods.length ≤ maxLen := by
  obtain ⟨d, hd, hi⟩ := linkO_inr h
  obtain ⟨ws, hI⟩ := imgP_inr hi
  have h1 := hI.len (by rfl) (loaded_laid' hd)
  have h2 := hI.small
  have h3 := hI.mlen
  have h4 := dataEnd_ge d (d.length + 2 + cLen d)
  unfold maxLen
  omega
/-! ### what stands beside the store -/
theorem StoreV.no_int {base : Nat} {w : World} {s : Nat} {v : V} {F : Nat → Prop} (h : StoreV base w s v F) {k : Nat} {cs : Array Value} {fr : Nat × Nat} (hk : w.heap[k]? = some (.cells cs INT fr)) : ¬ F k := by
  obtain ⟨S, φ, h1, h2, rfl⟩ := h
  have hb : ∀ {t : TypeId} {cs2 : Array Value}, Blk w k t cs2 → t ≠ INT → False := fun {t cs2} hb hne => by
    have h3 : w.heap[k]? = some (.cells cs2 t (0, 0)) := hb
    rw [hk] at h3
    injection h3 with h3
    injection h3 with _ h4
    exact hne h4.symm
  have ho : ∀ {b n size : Nat} {t : TypeId} {u : Value} {xs : List Value}, w.ownsRow b t size u n xs → u.ownBlock = some k → t ≠ INT → False := fun {b n size t u xs} ho hu hne => by
    obtain ⟨cs2, fr2, h3⟩ := own_tag ho hu
    rw [hk] at h3
    injection h3 with h3
    injection h3 with _ h4
    exact hne h4.symm
  rintro (rfl | rfl | hf | ⟨r, hr, rfl⟩ | ⟨f, x, hf, rfl | hx⟩)
  · exact hb h1.blk (by decide)
  · obtain ⟨r, n, h3, _⟩ := h1.map
    rw [hk] at h3
    cases h3
  · exact ho h1.row hf (by decide)
  · exact hb (h1.rdb r hr) (by decide)
  · exact hb (h1.flb _ _ hf) (by decide)
  · exact ho (h1.flo _ _ hf) hx (by decide)
section
variable {W w5 wr : World} {F : Nat → Prop}
theorem far_cell {p : Addr} {u : Value} (h : W.cell? p = some u) (hc : Chg NoB W w5) (hF : Chg F w5 wr) (hlow : ∀ j, F j → W.heap.size ≤ j) : wr.cell? p = some u := by
  have h5 := keepQ hc h
  exact (World.cell?_of_block (hF.block p.block (block_lt_of_cell h5) fun hf => by have := hlow _ hf; have := block_lt_of_cell h; omega)).trans h5
theorem far_cells {A : Option Addr} {xs : List Value} (h : CellsAt W A xs) (hc : Chg NoB W w5) (hF : Chg F w5 wr) (hlow : ∀ j, F j → W.heap.size ≤ j) : CellsAt wr A xs := fun hl => by
  obtain ⟨ad, ha, hx⟩ := h hl
  exact ⟨ad, ha, fun j u hj => far_cell (hx j u hj) hc hF hlow⟩
theorem far_own {base n size : Nat} {t : TypeId} {u : Value} {xs : List Value} (h : w5.ownsRow base t size u n xs) (hF : Chg F w5 wr) (hlow : ∀ j, F j → j < base) : wr.ownsRow base t size u n xs :=
  own_chg h hF fun k hk hf => by have := hlow _ hf; have := own_at_ h hk; omega
theorem far_ent {p : Pl} {a : PA} (h : EntAt w5 p a) (hF : Chg F w5 wr) (hn : ∀ k cs fr, w5.heap[k]? = some (.cells cs INT fr) → ¬ F k) : EntAt wr p a :=
  ⟨h.row.chg hF fun ad ha => by
    obtain ⟨cs, fr, h1⟩ := h.tag ad ha
    exact hn _ _ _ h1, h.cap, fun ad ha => by
    obtain ⟨cs, fr, h1⟩ := h.tag ad ha
    exact ⟨cs, fr, (hF.block _ (Array.getElem?_eq_some_iff.1 h1).1 (hn _ _ _ h1)).trans h1⟩⟩
end
theorem loaded_le {base : Nat} {w : World} {s : Nat} {v : V} {F : Nat → Prop} (h : StoreV base w s v F) {nm : ByteArray} {d : List Ob} (hd : loadedO (getV v) nm = .inr d) : d.length ≤ 200 := by
  have hl := ldAll_fit 201 [] [] nm d (fit_nil _) (by simp) hd
  have h1 : (d.map (fun x => fileO x.name)).length ≤ (v.dir.map (·.1)).length := nodup_le _ _ (by
    rw [show d.map (fun x => fileO x.name) = (d.map (·.name)).map fileO from by rw [List.map_map]; rfl]
    exact map_nodup (fun a b e => file_inj e) hl.fit.nod) (fun x hx => by
    obtain ⟨y, hy, rfl⟩ := List.mem_map.1 hx
    obtain ⟨i, hi⟩ := List.mem_iff_getElem?.1 hy
    obtain ⟨k, hk⟩ := (ldO_ok (hl.fit.good i y hi).1).2.2
    exact lookD_mem_keys hk)
  simp at h1
  have := h.dir_le
  omega
theorem num9_q' (n : Int) (W : World) : Calls Try.prog 14 #[.int .i64 n] W fun e w' => e = .returned (.int .i64 n) ∧ w' = W := (num9_c n W).mono fun _ _ ⟨h1, h2⟩ => ⟨h1, h2.symm⟩
theorem any_snoc {l : List ByteArray} {j : Nat} {x f : ByteArray} (h : l[j]? = some x) : (l.take (j + 1)).any (fun n => decide (f = fileO n)) = ((l.take j).any (fun n => decide (f = fileO n)) || decide (f = fileO x)) := by
  rw [List.take_add_one, h, List.any_append]
  simp
set_option maxRecDepth 100000 in
set_option maxHeartbeats 64000000 in
theorem linkAlone_c {W : World} {L : List (Ob × OA)} {A : Option Addr} {c : Nat} (hA : CellsAt W A (allCells L)) (hO : ∀ x ∈ L, ObIs W x.1 x.2) (hL : L.length ≤ maxLen) {fs : List Fi} {B : Option Addr} {cb : Nat} (hF : FisRaw W B fs) (hm : fs.length ≤ maxLen) {nm : ByteArray} (hn : nm.size ≤ maxLen) : Calls Try.prog 8 #[.slice A L.length c, .slice B fs.length cb, .string nm] W fun e w' => e = .returned (.bool true) ∧ Chg NoB W w' := by
  have HA := Go.Lib.hid hA
  have HO := Go.Lib.hid hO
  have HF := Go.Lib.hid hF
  obtain ⟨n0, hln⟩ : ∃ n, L.length = n := ⟨_, rfl⟩
  have HN0 := Go.Lib.hid hln
  obtain ⟨m0, hfn⟩ : ∃ n, fs.length = n := ⟨_, rfl⟩
  have HM0 := Go.Lib.hid hfn
  obtain ⟨sz, hsz⟩ : ∃ k, nm.size = k := ⟨_, rfl⟩
  have HSZ := Go.Lib.hid hsz
  have HL : Hid (L.length ≤ maxLen ∧ fs.length ≤ maxLen) := Go.Lib.hid ⟨hL, hm⟩
  have hs2 : sz ≤ 9223372036854775807 := by rw [hsz] at hn; unfold maxLen at hn; omega
  rw [hln, hfn]
  clear hA hO hF hln hfn hL hm hn
  go_enter Try.func8, Try.ntmps8
  go_wp2_with fail
  have hmu := muchO_c (c := c) HA.out HO.out HL.out.1
  rw [HN0.out] at hmu
  refine hmu.mono ?_
  clear hmu
  rintro e w1 ⟨b, rfl, hc1, hb⟩
  have HC := Go.Lib.hid hc1
  clear hc1
  cases b with
  | true =>
    clear hb
    go_wp2_with fail
    refine (known_c _).mono ?_
    rintro e wk ⟨rfl, hck⟩
    have HC := Go.Lib.hid (HC.out.trans hck)
    clear hck
    go_wp2_with fail
    go_ret
    exact ⟨rfl, HC.out⟩
  | false =>
  have hn8 := hb rfl
  clear hb
  have HN8 := Go.Lib.hid hn8
  clear hn8
  go_wp2_with fail
  have hmf := muchF_c (c := cb) (HF.out.quiet HC.out) 20 (by omega) HL.out.2
  rw [HM0.out] at hmf
  refine hmf.mono ?_
  clear hmf
  rintro e w1b ⟨b2, rfl, hc1, hb2⟩
  have HC := Go.Lib.hid (HC.out.trans hc1)
  clear hc1
  cases b2 with
  | true =>
    clear hb2
    go_wp2_with fail
    refine (known_c _).mono ?_
    rintro e wk ⟨rfl, hck⟩
    have HC := Go.Lib.hid (HC.out.trans hck)
    clear hck
    go_wp2_with fail
    go_ret
    exact ⟨rfl, HC.out⟩
  | false =>
  obtain ⟨hm20, hsm⟩ := hb2 rfl
  clear hb2
  have HM20 := Go.Lib.hid (And.intro hm20 hsm)
  clear hm20 hsm
  by_cases h2 : 100 < sz
  · have d2 : decide (100 < (sz : Int)) = true := by simp; omega
    clear h2
    go_wp2_with fail
    refine (known_c _).mono ?_
    rintro e wk ⟨rfl, hck⟩
    have HC := Go.Lib.hid (HC.out.trans hck)
    clear hck
    go_wp2_with fail
    go_ret
    exact ⟨rfl, HC.out⟩
  have d2 : decide (100 < (sz : Int)) = false := by simp; omega
  have HS : Hid (nm.size ≤ 100) := Go.Lib.hid (by rw [HSZ.out]; omega)
  clear h2
  go_wp2_with fail
  clear d2 hsz
  have hst := stores_c (c := c) (cb := 0) (HA.out.chg HC.out fun _ _ => id) (fun x hx => (HO.out x hx).quiet HC.out) (by rw [HN0.out]; have := HN8.out; omega) (fs := []) (B := none) (fun h => by simp at h) (by simp)
  rw [HN0.out] at hst
  refine hst.mono ?_
  clear hst
  rintro e w2 ⟨s, r, rfl, hT⟩
  have HC0 := HC
  have HC := Go.Lib.hid (HC.out.trans hT.chg)
  obtain ⟨base, F, aa, hsv, _, hlo, _⟩ := hT
  have HLOW : Hid (∀ j, F j → W.heap.size ≤ j) := Go.Lib.hid fun j hj => Nat.le_trans HC0.out.size (hlo j hj)
  have HDO : Hid (DirOk (putsF putP (putsO putP v0L (L.map (·.1))) [])) := Go.Lib.hid (dirOk_putsO _ _ fun e he => by simp [v0L] at he)
  generalize putsF putP (putsO putP v0L (L.map (·.1))) [] = v at *
  have HSV := Go.Lib.hid hsv
  have HLT : Hid (∀ j, F j → j < w2.heap.size) := Go.Lib.hid fun j hj => hsv.lt hj
  clear hsv hlo HA HO HC0
  go_wp2_with fail
  have hn2 : nm.size + 2 ≤ maxLen := by have := HS.out; unfold maxLen; omega
  have HN2 := Go.Lib.hid hn2
  clear hn2
  refine (link_c HSV.out HN2.out).mono ?_
  rintro e w3 hp3
  obtain ⟨hc3, er, i, wA, wc, mA, mc, l, rfl, hr, hlm, hr1, hr2, hent⟩ := hp3.form
  obtain ⟨wl, hwl⟩ : ∃ k, i.words.length = k := ⟨_, rfl⟩
  obtain ⟨ml, hml⟩ : ∃ k, i.mods.length = k := ⟨_, rfl⟩
  rw [hwl, hml]
  obtain ⟨w4, hw⟩ : ∃ w, w3.alloc (.cells #[.slice wA wl wc, .slice mA ml mc] IMT) = w := ⟨_, rfl⟩
  have hc4 : Chg NoB w3 w4 := by rw [← hw]; exact (Chg.refl NoB _).alloc _
  have HB4 : Hid (Blk w4 w3.heap.size IMT #[.slice wA wl wc, .slice mA ml mc] ∧ w2.heap.size ≤ w3.heap.size) := Go.Lib.hid ⟨by rw [← hw]; exact Blk.new _ _ _, hc3.size⟩
  have HR := Go.Lib.hid (And.intro hr (And.intro hlm (And.intro hwl hml)))
  have HROW := Go.Lib.hid (And.intro (own_chg hr1 hc4 fun _ _ => id) (And.intro (own_chg hr2 hc4 fun _ _ => id) (fun x hx => (hent x hx).quiet hc4)))
  have HC4 : Hid (Chg NoB w2 w4) := Go.Lib.hid (hc3.trans hc4)
  clear hp3 hc3 hr hlm hr1 hr2 hent hwl hml hc4
  go_upto_region 7 with fail
  try rw [hw]
  clear hw
  generalize w3.heap.size = b9 at *
  go_wp2_with fail
  refine (order_c (HSV.out.quiet HC4.out) HN2.out).mono ?_
  rintro e w5 ⟨hc5, u, names, oer, rfl, hres, hnr⟩
  obtain ⟨nA, nc, rfl⟩ := own_slice hnr
  have HB5 := Go.Lib.hid (And.intro (HB4.out.1.chg hc5 id) HB4.out.2)
  have HROW5 := Go.Lib.hid (And.intro (own_chg HROW.out.1 hc5 fun _ _ => id) (And.intro (own_chg HROW.out.2.1 hc5 fun _ _ => id) (fun x hx => (HROW.out.2.2 x hx).quiet hc5)))
  have HSV5 := Go.Lib.hid (HSV.out.quiet (HC4.out.trans hc5))
  have HC5 : Hid (Chg NoB W w5) := Go.Lib.hid (HC.out.trans (HC4.out.trans hc5))
  have HNR : Hid (w5.ownsRow w2.heap.size STR 1 (.slice nA names.length nc) names.length (names.map Value.string)) := Go.Lib.hid (own_base_ hnr HC4.out.size)
  have HRES := Go.Lib.hid hres
  have HNM : Hid ((∃ e, loadedO (getV v) nm = .inl e) → oer ≠ 0) := Go.Lib.hid (fun ⟨e, he⟩ => by
    rcases HRES.out with ⟨h1, h2, _⟩ | ⟨d, h1, _⟩
    · exact h2
    · rw [he] at h1
      cases h1)
  have HSMALL : Hid (∀ x ∈ names, x.size ≤ 15) := Go.Lib.hid (fun x hx => by
    rcases HRES.out with ⟨_, _, h3⟩ | ⟨d, h1, h2, _⟩
    · rw [h3] at hx
      cases hx
    · rw [h2] at hx
      obtain ⟨o, ho, rfl⟩ := List.mem_map.1 hx
      have h4 := ((loaded_laid' h1).may o ho).im
      simp only [impsOk, objName, Bool.and_eq_true, decide_eq_true_eq] at h4
      exact h4.1.2.2)
  obtain ⟨nn, hnn⟩ : ∃ k, names.length = k := ⟨_, rfl⟩
  have HNN := Go.Lib.hid hnn
  have hnn2 : nn ≤ 1000 := by
    rcases HRES.out with ⟨_, _, h3⟩ | ⟨d, h1, h2, _⟩
    · rw [← hnn, h3]
      decide
    · have h3 := HNR.out
      obtain ⟨d2, h4, h5⟩ : ∃ d2, loadedO (getV v) nm = .inr d2 ∧ d2 = d := ⟨d, h1, rfl⟩
      have h6 : d.length ≤ 200 := loaded_le HSV5.out h1
      rw [← hnn, h2, List.length_map]
      omega
  rw [hnn]
  clear hc5 hres hnr hnn HB4 HROW HSV HC4
  have hm20 : m0 ≤ 20 := by rw [← HM0.out]; exact HM20.out.1
  obtain ⟨ob0, hob0⟩ : ∃ b, (oer != 0) = b := ⟨_, rfl⟩
  have HOB := Go.Lib.hid hob0
  go_wp2_with fail
  go_loopw [13] (fun v13 wr => ∃ k : Nat, k ≤ m0 ∧ v13 = .int .i64 k ∧ ∃ vk Fk, StoreV base wr s vk Fk ∧ Alo v nm oer vk ∧ Chg F w5 wr ∧ ∀ j, Fk j → j < w5.heap.size → F j) (fun v13 _ => m0 - (intOf v13).toNat)
  case atStart => exact ⟨0, Nat.zero_le _, rfl, v, F, HSV5.out, ⟨HDO.out, fun _ => rfl, fun _ _ _ _ => rfl⟩, Chg.refl _ _, fun _ h _ => h⟩
  case round =>
    obtain ⟨k, hk, rfl, vk, Fk, hsv, halo, hcr, hfk⟩ := hrel
    have HSK := Go.Lib.hid hsv
    have HAL := Go.Lib.hid halo
    have HCR := Go.Lib.hid hcr
    have HFK := Go.Lib.hid hfk
    clear hsv halo hcr hfk
    by_cases hlt : k < m0
    · obtain ⟨y, hy⟩ : ∃ y, fs[k]? = some y := ⟨_, List.getElem?_eq_getElem (by rw [HM0.out]; exact hlt)⟩
      obtain ⟨fb, fo, rfl, hyx⟩ := HF.out (by rw [HM0.out]; omega)
      obtain ⟨hok, h3, h4⟩ := hyx k y hy
      have HOK := Go.Lib.hid (And.intro hok (HM20.out.2 y (List.mem_of_getElem? hy)))
      have HY3 : Hid (∀ V', Chg NoB wr V' → V'.cell? ⟨fb, fo + k * 5 + 3, none⟩ = some (.string y.nm) ∧ V'.cell? ⟨fb, fo + k * 5 + 4, none⟩ = some (.slice y.A y.b.length y.c)) := Go.Lib.hid fun V' hV => ⟨keepQ hV (far_cell h3 HC5.out HCR.out HLOW.out), keepQ hV (far_cell h4 HC5.out HCR.out HLOW.out)⟩
      have HNRK : Hid (CellsAt wr nA (names.map Value.string)) := Go.Lib.hid (own_cells_ (far_own HNR.out HCR.out HLT.out))
      clear hy hyx hok h3 h4
      obtain ⟨wk0, rfl⟩ : ∃ w, w = wr := ⟨wr, rfl⟩
      go_wp2_with fail
      refine (num9_c _ _).mono ?_
      rintro e wz ⟨rfl, hz⟩
      obtain rfl := hz
      go_wp2_with fail
      go_loopw [14, 15] (fun v14 v15 wy => ∃ j : Nat, j ≤ nn ∧ v15 = .int .i64 j ∧ v14 = .bool (ob0 || (names.take j).any fun n => decide (y.nm = fileO n)) ∧ Chg NoB wk0 wy) (fun _ v15 _ => nn - (intOf v15).toNat)
      case atStart => exact ⟨0, Nat.zero_le _, rfl, by simp [HOB.out], Chg.refl _ _⟩
      case round =>
        obtain ⟨j, hj, rfl, rfl, hcy⟩ := hrel
        have HCY := Go.Lib.hid hcy
        clear hcy
        obtain ⟨ow, how⟩ : ∃ b, (ob0 || (names.take j).any fun n => decide (y.nm = fileO n)) = b := ⟨_, rfl⟩
        rw [how]
        have HOW := Go.Lib.hid how
        clear how
        by_cases hjl : j < nn
        · obtain ⟨x, hx⟩ : ∃ x, names[j]? = some x := ⟨_, List.getElem?_eq_getElem (by rw [HNN.out]; exact hjl)⟩
          have HX := Go.Lib.hid hx
          cases ow with
          | true =>
            clear hx
            go_wp2_with fail
            go_quiet (fail)
            go_wp2_with fail
            go_roundw
            case rel => exact ⟨j + 1, by omega, by go_num, by rw [any_snoc HX.out, ← Bool.or_assoc, HOW.out]; rfl, HCY.out.drewN _⟩
            case measure => simp [intOf]; omega
          | false =>
            obtain ⟨xb, xo, hnA, hxc⟩ := HNRK.out.flat (by rw [List.length_map, HNN.out]; omega)
            have x0 := keepQ HCY.out (hxc j (.string x) (by rw [List.getElem?_map, hx]; rfl))
            obtain ⟨f3, _⟩ := HY3.out _ HCY.out
            have hxs := HSMALL.out x (List.mem_of_getElem? hx)
            obtain ⟨xsz, hxsz⟩ : ∃ z, x.size = z := ⟨_, rfl⟩
            rw [hxsz] at hxs
            subst hnA
            obtain ⟨eb, heb⟩ : ∃ b, decide (y.nm = fileO x) = b := ⟨_, rfl⟩
            have hcmp : (y.nm.toList == (x ++ (⟨#[46, 111]⟩ : ByteArray)).toList) = eb := by rw [eq_bytes, ← heb]; rfl
            have HEB := Go.Lib.hid heb
            clear hx hxc heb
            cases eb with
            | true =>
              go_wp2_with fail
              go_quiet (fail)
              go_wp2_with fail
              go_roundw
              case rel => exact ⟨j + 1, by omega, by go_num, by rw [any_snoc HX.out, ← Bool.or_assoc, HOW.out, HEB.out]; rfl, HCY.out.drewN _⟩
              case measure => simp [intOf]; omega
            | false =>
              go_wp2_with fail
              go_quiet (fail)
              go_wp2_with fail
              go_roundw
              case rel => exact ⟨j + 1, by omega, by go_num, by rw [any_snoc HX.out, ← Bool.or_assoc, HOW.out, HEB.out]; rfl, HCY.out.drewN _⟩
              case measure => simp [intOf]; omega
        · have hjn : j = nn := by omega
          have HOW2 : Hid ((ob0 || names.any fun n => decide (y.nm = fileO n)) = ow) := Go.Lib.hid (by
            rw [← HOW.out, List.take_of_length_le (by rw [HNN.out]; omega)])
          subst hjn
          cases ow with
          | true =>
            go_wp2_with fail
            go_roundw
            case rel => exact ⟨k + 1, by omega, by go_num, vk, Fk, HSK.out.quiet HCY.out, HAL.out, HCR.out.trans (HCY.out.mono fun _ _ h => h.elim), HFK.out⟩
            case measure => simp [intOf]; omega
          | false =>
            have hor := HOW2.out
            rw [Bool.or_eq_false_iff] at hor
            have ho0 : oer = 0 := by
              have h1 := hor.1
              rw [← HOB.out] at h1
              simpa using h1
            have HALP : Hid (Alo v nm oer (vk.put y.nm y.b).2) := Go.Lib.hid (HAL.out.put ho0 fun d hd o ho hf => by
              rcases HRES.out with ⟨h1, _⟩ | ⟨d2, h1, h2, _⟩
              · rw [hd] at h1
                cases h1
              · rw [hd] at h1
                injection h1 with h1
                subst h1
                have h3 := List.any_eq_false.1 hor.2 o.name (by rw [h2]; exact List.mem_map.2 ⟨o, ho, rfl⟩)
                exact h3 (by simpa using hf.symm))
            obtain ⟨f3, f4⟩ := HY3.out _ HCY.out
            have hput := put_v (A := y.A) (c := y.c) ((HSK.out.quiet HCY.out).quiet (Chg.refl NoB wr).drew) y.nm HOK.out.1.nm HOK.out.1.nil ((far_cells HOK.out.1.cells HC5.out HCR.out HLOW.out).chg (HCY.out.trans (Chg.refl NoB wr).drew) fun _ _ => id)
            unfold ptr at hput
            have HPUT := Go.Lib.hid hput
            obtain ⟨yl, hyl⟩ : ∃ z, y.b.length = z := ⟨_, rfl⟩
            rw [hyl] at f4 HPUT
            have HYL := Go.Lib.hid hyl
            clear hput hor ho0 hyl
            go_wp2_with fail
            set_option maxRecDepth 100000 in go_still_tail 11, (by kernel_rfl)
            go_wp2_with fail
            refine HPUT.out.mono ?_
            rintro e wp ⟨rfl, F1, hs1, hcp, hf1⟩
            have HS1 := Go.Lib.hid hs1
            have HCW : Hid (Chg Fk wr wp) := Go.Lib.hid (((Chg.refl NoB wr).drew.mono fun _ _ h => h.elim).trans hcp)
            have HF1 := Go.Lib.hid hf1
            clear hs1 hcp hf1 HPUT
            go_wp2_with fail
            go_roundw
            case rel =>
              have h5 : Chg F w5 wr := HCR.out.trans (HCY.out.mono fun _ _ h => h.elim)
              exact ⟨k + 1, by omega, by go_num, _, F1, HS1.out, HALP.out, h5.step HCW.out fun j hj hf => HFK.out j hf hj, fun j hf hj => HFK.out j (HF1.out j hf (Nat.lt_of_lt_of_le hj h5.size)) hj⟩
            case measure => simp [intOf]; omega
    · have hkm : k = m0 := by omega
      subst hkm
      have HW5 : Hid (Chg NoB W wr) := Go.Lib.hid (HC5.out.step HCR.out fun j hj hf => by have := HLOW.out j hf; omega)
      go_wp2_with fail
      have hlk := link_c HSK.out HN2.out
      rw [HAL.out.link HNM.out] at hlk
      refine hlk.mono ?_
      clear hlk
      rintro e w6 hp6
      obtain ⟨hc6, er2, i2, vA, vc, pA, pc, l2, rfl, hr6, hlm6, hq1, hq2, hent6⟩ := hp6.form
      have hsame : er2 = er ∧ i2 = i := by
        rcases HR.out.1 with ⟨a1, a2⟩ | ⟨a1, a2⟩
        · rcases hr6 with ⟨b1, b2⟩ | ⟨b1, b2⟩
          · rw [a1] at b1
            injection b1 with b1
            exact ⟨b1.symm, by rw [a2, b2]⟩
          · rw [a1] at b1
            cases b1
        · rcases hr6 with ⟨b1, b2⟩ | ⟨b1, b2⟩
          · rw [a1] at b1
            cases b1
          · rw [a1] at b1
            injection b1 with b1
            exact ⟨by rw [a2, b2], b1.symm⟩
      obtain ⟨rfl, rfl⟩ := hsame
      rw [HR.out.2.2.1] at hq1
      rw [HR.out.2.2.2] at hq2
      rw [HR.out.2.2.1, HR.out.2.2.2]
      obtain ⟨w7, hw⟩ : ∃ w, w6.alloc (.cells #[.slice vA wl vc, .slice pA ml pc] IMT) = w := ⟨_, rfl⟩
      have hc7 : Chg NoB w6 w7 := by rw [← hw]; exact (Chg.refl NoB _).alloc _
      have hb7 : Blk w7 w6.heap.size IMT #[.slice vA wl vc, .slice pA ml pc] := by rw [← hw]; exact Blk.new _ _ _
      have h67 := hc6.trans hc7
      -- the first image, still there
      have hb9 : Blk wr b9 IMT #[.slice wA wl wc, .slice mA ml mc] := HB5.out.1.chg HCR.out fun hf => by have := HLT.out _ hf; have := HB5.out.2; omega
      have hb9' := hb9.chg h67 id
      have hlow2 : ∀ j, F j → j < w2.heap.size := HLT.out
      have g1 := HROW5.out.1
      have g2 := HROW5.out.2.1
      rw [HR.out.2.2.1] at g1
      rw [HR.out.2.2.2] at g2
      have k1 := own_cells_ (far_own g1 HCR.out hlow2)
      have k2 := own_cells_ (far_own g2 HCR.out hlow2)
      have k3 : ∀ x ∈ l, EntAt wr x.1 x.2 := fun x hx => far_ent (HROW5.out.2.2 x hx) HCR.out fun k cs fr hk => HSV5.out.no_int hk
      have hsm : i2.words.length ≤ maxLen ∧ i2.mods.length ≤ maxLen := by
        rcases HR.out.1 with ⟨a1, a2⟩ | ⟨a1, a2⟩
        · rw [a2]
          exact ⟨Nat.zero_le _, Nat.zero_le _⟩
        · exact img_small (get := getV v) a1
      have hsame := fun w' (hw' : Chg NoB w7 w') => sameIm_c (W := w') (wc := wc) (vc := vc) (mc := mc) (nc := pc) HR.out.2.1 hlm6 (k1.chg (h67.trans hw') fun _ _ => id) ((own_cells_ hq1).chg (hc7.trans hw') fun _ _ => id) (k2.chg (h67.trans hw') fun _ _ => id) ((own_cells_ hq2).chg (hc7.trans hw') fun _ _ => id) (fun x hx => (k3 x hx).quiet (h67.trans hw')) (fun x hx => (hent6 x hx).quiet (hc7.trans hw')) hsm
      rw [HR.out.2.2.1, HR.out.2.2.2] at hsame
      have HSAME := Go.Lib.hid hsame
      have HW7 := Go.Lib.hid (HW5.out.trans h67)
      have x0 : w7.cell? ⟨b9, 0, none⟩ = some (.slice wA wl wc) := hb9'.cell 0
      have x1 : w7.cell? ⟨b9, 1, none⟩ = some (.slice mA ml mc) := hb9'.cell 1
      have y0 : w7.cell? ⟨w6.heap.size, 0, none⟩ = some (.slice vA wl vc) := hb7.cell 0
      have y1 : w7.cell? ⟨w6.heap.size, 1, none⟩ = some (.slice pA ml pc) := hb7.cell 1
      have HXY := Go.Lib.hid (And.intro x0 (And.intro x1 (And.intro y0 y1)))
      clear hp6 hc6 hr6 hlm6 hq1 hq2 hent6 hc7 hb7 h67 hb9 hb9' hlow2 g1 g2 k1 k2 k3 hsm hsame x0 x1 y0 y1
      go_upto_region 19 with fail
      try rw [hw]
      clear hw
      generalize w6.heap.size = b16 at *
      obtain ⟨x0, x1, y0, y1⟩ := HXY.out
      go_wp2_with fail
      refine (num9_c _ _).mono ?_
      rintro e wz ⟨rfl, hz⟩
      obtain rfl := hz
      go_wp2_with fail
      refine (num9_c _ _).mono ?_
      rintro e wz ⟨rfl, hz⟩
      obtain rfl := hz
      go_wp2_with fail
      refine (HSAME.out w7 (Chg.refl _ _)).mono ?_
      rintro e w8 ⟨rfl, hc8⟩
      have HW8 := Go.Lib.hid (HW7.out.trans hc8)
      clear hc8 HSAME x0 x1 y0 y1
      go_wp2_with fail
      refine (known_c _).mono ?_
      rintro e wk ⟨rfl, hck⟩
      have HCK := Go.Lib.hid (HW8.out.trans hck)
      clear hck
      go_wp2_with fail
      go_ret
      exact ⟨rfl, HCK.out⟩
theorem linkAlone_walk {W : World} (A : Option Addr) (L : List (Ob × OA)) (c : Nat) (hA : CellsAt W A (L.flatMap fun x => (obArr x.1 x.2).toList)) (hO : ∀ x ∈ L, ObIs W x.1 x.2) (hL : L.length ≤ maxLen) (B : Option Addr) (fs : List Fi) (cb : Nat) (hF : FisRaw W B fs) (_ : True) (hm : fs.length ≤ maxLen) (nm : ByteArray) (hn : nm.size ≤ maxLen) : Calls Try.prog 8 #[.slice A L.length c, .slice B fs.length cb, .string nm] W fun e w' => e = .returned (.bool true) ∧ Chg NoB W w' :=
  linkAlone_c hA hO hL hF hm hn
end Go.Proofs.Yteleglkoagnmcaa
