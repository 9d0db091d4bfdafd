/- What is proved: link.lay lays objects as the plain function says. Conditions: the memory holds the objects, which stand in order. -/
import Derived.Test.YteleglkoagnmcaaGLkZ
set_option linter.unusedSimpArgs false
set_option linter.unusedVariables false
namespace Go.Proofs.Yteleglkoagnmcaa
open Go Go.RowKit
theorem plinfo : (Try.prog.info? PLT).map (fun i => (i.zero, i.size, i.bytes)) = some (some (.agg #[.string ⟨#[]⟩, .int .u32 0, .int .i64 0, .int .i64 0, .slice none 0 0]), 5, 64) := by kernel_rfl
/-- what holds while objects are laid: the image, the result's box -/
structure LyI (B W : World) (rb ib : Nat) (wv mv : Value) (ws : List Nat) (l : List (Pl × PA)) : Prop where
  im : ImB B W ib wv mv ws l
  rbx : Blk W rb IMT #[.slice none 0 0, .slice none 0 0]
  ne : rb ≠ ib
  rlo : B.heap.size ≤ rb
section
variable {B W W1 : World} {rb ib g c : Nat} {wv mv wv1 mv1 : Value} {ws m : List Nat} {l : List (Pl × PA)} {x : Pl × PA}
theorem LyI.quiet (h : LyI B W rb ib wv mv ws l) (hc : Chg NoB W W1) : LyI B W1 rb ib wv mv ws l := ⟨h.im.quiet hc, h.rbx.chg hc id, h.ne, h.rlo⟩
theorem LyI.pushM (h : LyI B W rb ib wv mv ws l) (own : W1.ownsRow B.heap.size PLT 5 mv1 (l.length + 1) (plsCells l ++ (plArr x.1 x.2).toList)) (gr : W.grownBy W1 mv.ownBlock) (he : EntAt W x.1 x.2) : LyI B (W1.setCell ⟨ib, 1, none⟩ mv1) rb ib wv mv1 ws (l ++ [x]) :=
  ⟨h.im.pushM own gr he, (h.rbx.chg (grown_own gr) fun e => own_blk_ne h.im.mods h.rbx (by decide) e).far (p := ⟨ib, 1, none⟩) h.ne _, h.ne, h.rlo⟩
theorem LyI.pushW (h : LyI B W rb ib wv mv ws l) (own : W1.ownsRow B.heap.size U32T 1 wv1 (ws.length + m.length) (codeCells ws ++ codeCells m)) (gr : W.grownBy W1 wv.ownBlock) (hm : ∀ x ∈ m, x < 4294967296) : LyI B (W1.setCell ⟨ib, 0, none⟩ wv1) rb ib wv1 mv (ws ++ m) l :=
  ⟨h.im.pushW own gr hm, (h.rbx.chg (grown_own gr) fun e => own_blk_ne h.im.row h.rbx (by decide) e).far (p := ⟨ib, 0, none⟩) h.ne _, h.ne, h.rlo⟩
end
theorem LyI.setD {B W : World} {rb ib g c : Nat} {wv : Value} {ws : List Nat} {l : List (Pl × PA)} {x : Pl × PA} (h : LyI B W rb ib wv (.slice (some ⟨g, 0, none⟩) l.length c) ws l) {i : Nat} (hx : l[i]? = some x) (d : Nat) : LyI B (W.setCell ⟨g, i * 5 + 3, none⟩ (.int .i64 (d : Int))) rb ib wv (.slice (some ⟨g, 0, none⟩) l.length c) ws (l.set i ({ x.1 with data := d }, x.2)) :=
  ⟨h.im.setD hx d, h.rbx.far (p := ⟨g, i * 5 + 3, none⟩) (fun e => own_blk_ne h.im.mods h.rbx (by decide) (by rw [e]; rfl)) _, h.ne, h.rlo⟩
theorem fillAll_app {ps : List Pl} : ∀ (l : List Ob) (r : List Pl) (l2 : List Ob) (r2 : List Pl) (ws : List Nat), l.length = r.length → fillAll ps (l ++ l2) (r ++ r2) ws = (fillAll ps l r ws).bind (fillAll ps l2 r2)
  | [], [], l2, r2, ws, _ => by simp [fillAll]
  | [], p :: r, _, _, _, h => by simp at h
  | o :: l, [], _, _, _, h => by simp at h
  | o :: l, p :: r, l2, r2, ws, h => by
    rw [List.cons_append, List.cons_append, fillAll, fillAll]
    cases fillO ps o p o.fixs ws with
    | none => rfl
    | some w => exact fillAll_app l r l2 r2 w (by simpa using h)
theorem fillAll_snoc {ps : List Pl} {l : List Ob} {r : List Pl} {k : Nat} {o : Ob} {p : Pl} {ws w1 w2 : List Nat} (hlen : l.length = r.length) (h : fillAll ps (l.take k) (r.take k) ws = some w1) (ho : l[k]? = some o) (hp : r[k]? = some p) (hf : fillO ps o p o.fixs w1 = some w2) : fillAll ps (l.take (k + 1)) (r.take (k + 1)) ws = some w2 := by
  rw [take_succ_some ho, take_succ_some hp, fillAll_app _ _ _ _ _ (by rw [List.length_take, List.length_take, hlen]), h]
  show fillAll ps [o] [p] w1 = some w2
  rw [fillAll, hf]
  rfl
theorem fillAll_stop {ps : List Pl} {l : List Ob} {r : List Pl} {k : Nat} {o : Ob} {p : Pl} {ws w1 : List Nat} (hlen : l.length = r.length) (h : fillAll ps (l.take k) (r.take k) ws = some w1) (ho : l[k]? = some o) (hp : r[k]? = some p) (hf : fillO ps o p o.fixs w1 = none) : fillAll ps l r ws = none := by
  have h1 := (List.getElem?_eq_some_iff.1 ho).1
  have h2 := (List.getElem?_eq_some_iff.1 hp).1
  have e1 : l = l.take k ++ o :: l.drop (k + 1) := by
    have h3 : l[k] = o := (List.getElem?_eq_some_iff.1 ho).2
    rw [← h3, ← List.drop_eq_getElem_cons h1, List.take_append_drop]
  have e2 : r = r.take k ++ p :: r.drop (k + 1) := by
    have h3 : r[k] = p := (List.getElem?_eq_some_iff.1 hp).2
    rw [← h3, ← List.drop_eq_getElem_cons h2, List.take_append_drop]
  rw [e1, e2, fillAll_app _ _ _ _ _ (by rw [List.length_take, List.length_take, hlen]), h]
  show fillAll ps (o :: _) (p :: _) w1 = none
  rw [fillAll, hf]
  rfl
theorem dataW_app : ∀ (l : List Ob) (o : Ob), dataW (l ++ [o]) = dataW l ++ (List.replicate (o.vars.toNat / 4) 0 ++ wordsOf o.text)
  | [], o => by simp [dataW]
  | q :: l, o => by
    rw [List.cons_append, dataW, dataW_app l o, dataW]
    simp
theorem wordsOf_lt : ∀ (l : List UInt8), ∀ x ∈ wordsOf l, x < 4294967296
  | [], x, h => by simp [wordsOf] at h
  | [_], x, h => by simp [wordsOf] at h
  | [_, _], x, h => by simp [wordsOf] at h
  | [_, _, _], x, h => by simp [wordsOf] at h
  | a :: b :: c :: d :: l, x, h => by
    rw [wordsOf, List.mem_cons] at h
    rcases h with h | h
    · have h1 := a.toNat_lt
      have h2 := b.toNat_lt
      have h3 := c.toNat_lt
      have h4 := d.toNat_lt
      omega
    · exact wordsOf_lt l x h
theorem LyI.fill {B W W1 : World} {rb ib g c n : Nat} {mv : Value} {ws ws' : List Nat} {l : List (Pl × PA)} (h : LyI B W rb ib (.slice (some ⟨g, 0, none⟩) n c) mv ws l) (h1 : ImB B W1 ib (.slice (some ⟨g, 0, none⟩) n c) mv ws' l) (hc : Chg (fun k => k = g) W W1) : LyI B W1 rb ib (.slice (some ⟨g, 0, none⟩) n c) mv ws' l :=
  ⟨h1, h.rbx.chg hc fun e => own_blk_ne h.im.row h.rbx (by decide) (by rw [e]; rfl), h.ne, h.rlo⟩
def LayPost (B : World) (r : Int ⊕ Img) (e : Ending) (w' : World) : Prop :=
  Chg NoB B w' ∧ match r with
  | .inl er => e = .returned (.tuple #[.agg #[.slice none 0 0, .slice none 0 0], .int .i64 er])
  | .inr i => ∃ (wv mv : Value) (l : List (Pl × PA)), l.map (·.1) = i.mods ∧ e = .returned (.tuple #[.agg #[wv, mv], .int .i64 0]) ∧ w'.ownsRow B.heap.size U32T 1 wv i.words.length (codeCells i.words) ∧ w'.ownsRow B.heap.size PLT 5 mv l.length (plsCells l) ∧ ∀ x ∈ l, EntAt w' x.1 x.2
set_option maxRecDepth 100000 in
set_option maxHeartbeats 32000000 in
theorem lay_c {W : World} {L : List (Ob × OA)} {A : Option Addr} {c : Nat} (hA : CellsAt W A (allCells L)) (hO : ∀ x ∈ L, ObIs W x.1 x.2) (hL : Laid (L.map (·.1))) (hn : L.length ≤ 1000) : Calls Try.prog 32 #[.slice A L.length c] W (LayPost W (imgP haltW (L.map (·.1)))) := by
  obtain ⟨n, hln⟩ : ∃ n, L.length = n := ⟨_, rfl⟩
  obtain ⟨d, hd⟩ : ∃ d, L.map (·.1) = d := ⟨_, rfl⟩
  have hdn : d.length = n := by rw [← hd, List.length_map, hln]
  obtain ⟨wA, hwA⟩ : ∃ wA, (W.alloc (.cells #[.slice none 0 0, .slice none 0 0] IMT)).alloc (.cells #[.slice none 0 0, .slice none 0 0] IMT) = wA := ⟨_, rfl⟩
  have hcA : Chg NoB W wA := by rw [← hwA]; exact ((Chg.refl NoB W).alloc _).alloc _
  have hb1 : Blk wA W.heap.size IMT #[.slice none 0 0, .slice none 0 0] := by rw [← hwA]; exact (Blk.new W IMT _).alloc _
  have hb2 : Blk wA (W.heap.size + 1) IMT #[.slice none 0 0, .slice none 0 0] := by
    rw [← hwA]
    have := Blk.new (W.alloc (.cells #[.slice none 0 0, .slice none 0 0] IMT)) IMT #[.slice none 0 0, .slice none 0 0]
    rwa [size_al] at this
  have hly : LyI W wA W.heap.size (W.heap.size + 1) (.slice none 0 0) (.slice none 0 0) [] [] :=
    ⟨⟨hb2, World.ownsRow_nil _ _ _ _, World.ownsRow_nil _ _ _ _, by simp, hcA, by omega, by simp⟩, hb1, by omega, Nat.le_refl _⟩
  have HLY := Go.Lib.hid hly
  have HA := Go.Lib.hid hA
  have HO := Go.Lib.hid hO
  have HL : Hid (Laid d) := Go.Lib.hid (by rw [← hd]; exact hL)
  have HD := Go.Lib.hid hd
  have HDN := Go.Lib.hid hdn
  have HLN := Go.Lib.hid hln
  have HWA := Go.Lib.hid hwA
  obtain ⟨u0, hu0, uz0, uz1, uz2⟩ := info_parts u32info
  have Hu := Go.Lib.hid (And.intro hu0 (And.intro uz0 (And.intro uz1 uz2)))
  obtain ⟨n0, hn0, nz0, nz1, nz2⟩ := info_parts intinfo
  have Hn := Go.Lib.hid (And.intro hn0 (And.intro nz0 (And.intro nz1 nz2)))
  obtain ⟨p0, hp0, pz0, pz1, pz2⟩ := info_parts plinfo
  have Hp := Go.Lib.hid (And.intro hp0 (And.intro pz0 (And.intro pz1 pz2)))
  rw [hd]
  rw [hln] at hn ⊢
  have HCL : Hid (∀ k, cLen (d.take k) ≤ 16384000) := Go.Lib.hid fun k => by
    have h1 : ∀ l : List Ob, (∀ o ∈ l, MayP o) → cLen l ≤ l.length * 16384 := fun l => by
      induction l with
      | nil => intro _; simp [cLen]
      | cons o l ih =>
        intro h
        have h1 := ih fun q hq => h q (List.mem_cons_of_mem _ hq)
        have h2 := (h o (List.mem_cons_self ..)).cl
        rw [cLen_cons, List.length_cons]
        omega
    have h2 := h1 (d.take k) fun o ho => HL.out.may o (List.mem_of_mem_take ho)
    rw [List.length_take] at h2
    omega
  clear hA hO hL hd hdn hln hwA hcA hb1 hb2 hly hu0 uz0 uz1 uz2 hn0 nz0 nz1 nz2 hp0 pz0 pz1 pz2
  go_enter Try.func32, Try.ntmps32
  go_wp2_with fail
  rw [HWA.out]
  clear HWA
  generalize W.heap.size + 1 = ib at *
  generalize W.heap.size = rb at *
  go_loopw [28, 5, 7, 8, 10] (fun v28 v5 v7 v8 v10 wr => ∃ (i wc : Nat) (mv : Value) (l : List (Pl × PA)), i ≤ n ∧ v28 = .int .i64 i ∧ v5 = .int .i64 wc ∧ n + 2 + cLen (d.take i) = wc ∧ LyI W wr rb ib (.slice none 0 0) mv [] l ∧ l.map (·.1) = pls0 (d.take i) (n + 2)) (fun v28 _ _ _ _ _ => n - (intOf v28).toNat)
  case atStart => exact ⟨0, n + 2, _, [], Nat.zero_le _, rfl, rfl, by simp [cLen], HLY.out, rfl⟩
  case round =>
    clear HLY
    obtain ⟨i, wc, mv, l, hi, rfl, rfl, hwc, hly, hlm⟩ := hrel
    have HLY := Go.Lib.hid hly
    have HLM := Go.Lib.hid hlm
    have hwb : wc ≤ 16390000 := by have := HCL.out i; omega
    have HWC := Go.Lib.hid hwc
    clear hly hlm hwc
    by_cases hlt : i < n
    · skip
      obtain ⟨x, hx⟩ : ∃ x, L[i]? = some x := ⟨_, List.getElem?_eq_getElem (by rw [HLN.out]; exact hlt)⟩
      have hdx : d[i]? = some x.1 := by rw [← HD.out, List.getElem?_map, hx]; rfl
      obtain ⟨ab, ao, rfl, hcell⟩ := (HA.out.chg HLY.out.im.chg fun _ _ => id).flat (by rw [allCells_len, HLN.out]; omega)
      have hq : ∀ k u, k < 8 → (obArr x.1 x.2)[k]? = some u → wr.cell? ⟨ab, ao + i * 8 + k, none⟩ = some u := fun k u hk hu => by
        have := hcell (i * 8 + k) u ((allCells_get L i x hx k hk).trans hu)
        rwa [← Nat.add_assoc] at this
      obtain ⟨ob, oa⟩ := x
      have x0 : wr.cell? ⟨ab, ao + i * 8, none⟩ = some (.string ob.name) := hq 0 _ (by omega) rfl
      have x1 : wr.cell? ⟨ab, ao + i * 8 + 1, none⟩ = some (.int .u32 ob.key) := hq 1 _ (by omega) rfl
      have x2 : wr.cell? ⟨ab, ao + i * 8 + 2, none⟩ = some (.slice oa.iA ob.imps.length oa.ic) := hq 2 _ (by omega) rfl
      have x3 : wr.cell? ⟨ab, ao + i * 8 + 3, none⟩ = some (.int .i64 ob.vars) := hq 3 _ (by omega) rfl
      have x4 : wr.cell? ⟨ab, ao + i * 8 + 4, none⟩ = some (.slice oa.tA ob.text.length oa.tc) := hq 4 _ (by omega) rfl
      have x5 : wr.cell? ⟨ab, ao + i * 8 + 5, none⟩ = some (.slice oa.cA ob.code.length oa.cc) := hq 5 _ (by omega) rfl
      have x6 : wr.cell? ⟨ab, ao + i * 8 + 6, none⟩ = some (.slice oa.eA ob.ents.length oa.ec) := hq 6 _ (by omega) rfl
      have x7 : wr.cell? ⟨ab, ao + i * 8 + 7, none⟩ = some (.slice oa.fA ob.fixs.length oa.fc) := hq 7 _ (by omega) rfl
      have HX : Hid (d[i]? = some ob) := Go.Lib.hid hdx
      have HOB : Hid (ObIs W ob oa) := Go.Lib.hid (HO.out _ (List.mem_of_getElem? hx))
      have HMAY : Hid (MayP ob) := Go.Lib.hid (HL.out.may ob (List.mem_of_getElem? hdx))
      clear hcell hq hx hdx
      go_upto_region 6 with fail
      clear x0 x1 x2 x3 x4 x5 x6 x7
      obtain ⟨w1, hw1⟩ : ∃ w, wr.alloc (.cells #[.string ob.name, .int .u32 ob.key, .slice oa.iA ob.imps.length oa.ic, .int .i64 ob.vars, .slice oa.tA ob.text.length oa.tc, .slice oa.cA ob.code.length oa.cc, .slice oa.eA ob.ents.length oa.ec, .slice oa.fA ob.fixs.length oa.fc] OT) = w := ⟨_, rfl⟩
      have HC1 : Hid (Chg NoB wr w1) := Go.Lib.hid (by rw [← hw1]; exact (Chg.refl NoB wr).alloc _)
      have HB7 : Hid (Blk w1 wr.heap.size OT (obArr ob oa)) := Go.Lib.hid (by rw [← hw1]; exact Blk.new wr OT _)
      rw [hw1]
      clear hw1
      obtain ⟨b7, h7⟩ : ∃ b, wr.heap.size = b := ⟨_, rfl⟩
      have H7 : Hid (wr.heap.size ≤ b7 ∧ b7 < w1.heap.size) := Go.Lib.hid ⟨by omega, by have := HB7.out.lt; omega⟩
      rw [h7] at HB7 ⊢
      clear h7
      have e0 : w1.cell? ⟨b7, 0, none⟩ = some (.string ob.name) := HB7.out.cell 0
      have e1 : w1.cell? ⟨b7, 1, none⟩ = some (.int .u32 ob.key) := HB7.out.cell 1
      go_upto_region 7 with fail
      clear e0 e1
      obtain ⟨w2, hw2⟩ : ∃ w, w1.alloc (.cells #[.string ob.name, .int .u32 ob.key, .int .i64 wc, .int .i64 0, .slice none 0 0] PLT) = w := ⟨_, rfl⟩
      have HC2 : Hid (Chg NoB wr w2) := Go.Lib.hid (by rw [← hw2]; exact HC1.out.alloc _)
      have HB8 : Hid (Blk w2 w1.heap.size PLT #[.string ob.name, .int .u32 ob.key, .int .i64 wc, .int .i64 0, .slice none 0 0]) := Go.Lib.hid (by rw [← hw2]; exact Blk.new w1 PLT _)
      have HB72 : Hid (Blk w2 b7 OT (obArr ob oa)) := Go.Lib.hid (by rw [← hw2]; exact HB7.out.alloc _)
      rw [hw2]
      clear hw2
      obtain ⟨b8, h8⟩ : ∃ b, w1.heap.size = b := ⟨_, rfl⟩
      have H8 : Hid (wr.heap.size ≤ b8 ∧ b7 ≠ b8) := Go.Lib.hid ⟨by have := HC1.out.size; omega, by have := H7.out.2; omega⟩
      rw [h8] at HB8 ⊢
      clear h8 HB7 HC1 H7
      obtain ⟨el, hel⟩ : ∃ k, ob.ents.length = k := ⟨_, rfl⟩
      have helb : el ≤ 201 := by rw [← hel]; exact HMAY.out.e2
      have HEL := Go.Lib.hid hel
      have e6 : w2.cell? ⟨b7, 6, none⟩ = some (.slice oa.eA el oa.ec) := by rw [← hel]; exact HB72.out.cell 6
      obtain ⟨eA, heA⟩ : ∃ k, oa.eA = k := ⟨_, rfl⟩
      obtain ⟨ec, hec⟩ : ∃ k, oa.ec = k := ⟨_, rfl⟩
      rw [heA, hec] at e6
      have HEA := Go.Lib.hid heA
      clear hel heA hec
      go_wp2_with fail
      clear e6
      obtain ⟨wo, rfl⟩ : ∃ wo, wo = wr := ⟨wr, rfl⟩
      have HENT : Hid (0 < el → ∃ eb eo, eA = some ⟨eb, eo, none⟩ ∧ ∀ (j : Nat) v, ob.ents[j]? = some v → ∀ W', Chg NoB W W' → W'.cell? ⟨eb, eo + j, none⟩ = some (.int .i64 v)) := Go.Lib.hid (by
        have h1 := HOB.out.ent
        rw [HEL.out, HEA.out] at h1
        exact h1)
      go_loopw [41, 10] (fun v41 v10 wr => ∃ (j : Nat) (ev : Value), j ≤ el ∧ v41 = .int .i64 j ∧ Chg NoB wo wr ∧ Blk wr b7 OT (obArr ob oa) ∧ Blk wr b8 PLT #[.string ob.name, .int .u32 ob.key, .int .i64 wc, .int .i64 0, ev] ∧ wr.ownsRow wo.heap.size INT 1 ev j (entCells ((ob.ents.take j).map fun e => (wc : Int) + e))) (fun v41 _ _ => el - (intOf v41).toNat)
      case atStart => exact ⟨0, .slice none 0 0, Nat.zero_le _, rfl, HC2.out, HB72.out, HB8.out, World.ownsRow_nil _ _ _ _⟩
      case round =>
        clear HC2 HB72 HB8
        obtain ⟨j, ev, hj, rfl, hcq, hbo, hbp, hev⟩ := hrel
        have HCQ := Go.Lib.hid hcq
        have HBO := Go.Lib.hid hbo
        have HBP := Go.Lib.hid hbp
        have HEV := Go.Lib.hid hev
        clear hcq hbo hbp hev
        by_cases hjt : j < el
        · obtain ⟨y, hy⟩ : ∃ y, ob.ents[j]? = some y := ⟨_, List.getElem?_eq_getElem (by rw [HEL.out]; exact hjt)⟩
          obtain ⟨eb, eo, rfl, hec⟩ := HENT.out (by omega)
          have y0 := hec j y hy wr (HLY.out.im.chg.trans HCQ.out)
          have hyb := HMAY.out.en y (List.mem_of_getElem? hy)
          have hyc := HMAY.out.cl
          have hy0 : 0 ≤ y := hyb.1
          have hy1 : y < 16384 := by omega
          have HYT : Hid (entCells ((ob.ents.take (j + 1)).map fun e => (wc : Int) + e) = entCells ((ob.ents.take j).map fun e => (wc : Int) + e) ++ [.int .i64 ((wc : Int) + y)]) := Go.Lib.hid (by
            rw [List.take_add_one, hy]
            simp [entCells])
          have hev1 := HEV.out
          have p4 : wr.cell? ⟨b8, 4, none⟩ = some ev := HBP.out.cell 4
          clear hy hec hyb hyc hev1
          go_wp2_with (at_builtin; go_must (refine wpList_appK _ rfl (.tmp 46) (.tmp 50) _ rfl wo.heap.size INT n0 (.int .i64 0) 1 8 Try.underlying41 Hn.out.1 Hn.out.2.1 Hn.out.2.2.1 Hn.out.2.2.2 rfl (by decide) ev j (entCells ((ob.ents.take j).map fun e => (wc : Int) + e)) (by rfl) (own_chg HEV.out ((Chg.refl NoB wr).alloc _) (fun _ _ => id)) (some ⟨wr.heap.size, 0, none⟩) 1 1 [.int .i64 ((wc : Int) + y)] (by rfl) rfl (cells_of_blk (Blk.new wr _ _)) (by simp [Value.oneCell']) (by unfold maxLen; omega) (by omega) (by have := HCQ.out.size; simp; omega) ?_); go_must (
            intro v1 w4 own1 gr1 _
            obtain ⟨Ae, ce, rfl⟩ := own_slice own1
            have hb8 : Blk w4 b8 PLT #[.string ob.name, .int .u32 ob.key, .int .i64 wc, .int .i64 0, ev] := (HBP.out.alloc (.cells #[.int .i64 ((wc : Int) + y)] INT)).grown gr1 (fun e => own_blk_ne HEV.out HBP.out (by decide) e.symm)
            have hb7 : Blk w4 b7 OT (obArr ob oa) := (HBO.out.alloc (.cells #[.int .i64 ((wc : Int) + y)] INT)).grown gr1 (fun e => own_blk_ne HEV.out HBO.out (by decide) e.symm)
            have hc4 : Chg NoB wo w4 := (HCQ.out.alloc _).grown gr1 (fun k hk hlt => by have := own_at_ HEV.out hk; omega)
            have HB84 := Go.Lib.hid hb8
            have HB74 := Go.Lib.hid hb7
            have HC4 := Go.Lib.hid hc4
            have HO4 := Go.Lib.hid own1
            have p4 : w4.cell? ⟨b8, 4, none⟩ = some ev := hb8.cell 4
            have pf : w4.frozen? ⟨b8, 4, none⟩ = false := hb8.frozen 4
            clear own1 gr1 hb8 hb7 hc4 y0))
          go_roundw
          case rel =>
            refine ⟨j + 1, (.slice Ae (j + 1) ce), by omega, by go_num, HC4.out.setCell (p := ⟨b8, 4, none⟩) (fun h => absurd h (by have := H8.out.1; simp; omega)) (.slice Ae (j + 1) ce), HB74.out.far (p := ⟨b8, 4, none⟩) H8.out.2 (.slice Ae (j + 1) ce), HB84.out.set_ 4 (.slice Ae (j + 1) ce), ?_⟩
            rw [HYT.out]
            exact own_chg HO4.out ((Chg.refl (fun k => k = b8) w4).setCell (p := ⟨b8, 4, none⟩) (fun _ => rfl) (.slice Ae (j + 1) ce)) (fun k hk e => own_blk_ne HO4.out HB84.out (by decide) (by rw [← e]; exact hk))
          case measure => simp [intOf]; omega
        · obtain rfl : j = el := by omega
          go_upto_region 12 with fail
          obtain ⟨Ae, ce, rfl⟩ := own_slice HEV.out
          obtain ⟨Am, cm, rfl⟩ := own_slice HLY.out.im.mods
          have HLR := Go.Lib.hid (HLY.out.quiet HCQ.out)
          have hke : (ob.ents.take j).map (fun e => (wc : Int) + e) = (plOf ob wc 0).ents := by rw [List.take_of_length_le (by rw [HEL.out]; exact Nat.le_refl _)]; rfl
          have hkl : (plOf ob wc 0).ents.length = j := by rw [← hke, List.length_map, List.length_take, HEL.out]; omega
          have hev1 := HEV.out
          rw [hke] at hev1
          have HEA1 : Hid (EntAt wr (plOf ob wc 0) (Ae, ce)) := Go.Lib.hid ⟨own_cells_ hev1, by rw [hkl]; exact own_cap hev1, fun ad ha => own_tag' hev1 ha⟩
          have HPL : Hid ((plArr (plOf ob wc 0) (Ae, ce)).toList = [.string ob.name, .int .u32 ob.key, .int .i64 wc, .int .i64 0, .slice Ae j ce]) := Go.Lib.hid (by
            unfold plArr
            rw [hkl]
            rfl)
          have HLL : Hid (l.length = i) := Go.Lib.hid (by
            have := congrArg List.length HLM.out
            rw [List.length_map, pls0_len, List.length_take, HDN.out] at this
            omega)
          obtain ⟨cl, hcl⟩ : ∃ k, ob.code.length = k := ⟨_, rfl⟩
          obtain ⟨cA, hcA⟩ : ∃ k, oa.cA = k := ⟨_, rfl⟩
          obtain ⟨cc, hcc⟩ : ∃ k, oa.cc = k := ⟨_, rfl⟩
          have hclb : cl ≤ 16384 := by rw [← hcl]; exact HMAY.out.cl
          have HCC := Go.Lib.hid hcl
          have hoc : obArr ob oa = #[.string ob.name, .int .u32 ob.key, .slice oa.iA ob.imps.length oa.ic, .int .i64 ob.vars, .slice oa.tA ob.text.length oa.tc, .slice cA cl cc, .slice oa.eA ob.ents.length oa.ec, .slice oa.fA ob.fixs.length oa.fc] := by rw [← hcl, ← hcA, ← hcc]; rfl
          have HOC := Go.Lib.hid hoc
          have hli : l.length = i := HLL.out
          have q0 : wr.cell? ⟨b8, 0, none⟩ = some (.string ob.name) := HBP.out.cell 0
          have q1 : wr.cell? ⟨b8, 1, none⟩ = some (.int .u32 ob.key) := HBP.out.cell 1
          have q2 : wr.cell? ⟨b8, 2, none⟩ = some (.int .i64 wc) := HBP.out.cell 2
          have q3 : wr.cell? ⟨b8, 3, none⟩ = some (.int .i64 0) := HBP.out.cell 3
          have q4 : wr.cell? ⟨b8, 4, none⟩ = some (.slice Ae j ce) := HBP.out.cell 4
          have m1 : wr.cell? ⟨ib, 1, none⟩ = some (.slice Am i cm) := by rw [← hli]; exact HLR.out.im.box.cell 1
          clear hke hkl hev1 hcl hcA hcc hoc hli
          go_wp2_with (at_builtin; go_must (refine wpList_appK _ rfl (.tmp 55) (.tmp 57) _ rfl W.heap.size PLT p0 (.agg #[.string ⟨#[]⟩, .int .u32 0, .int .i64 0, .int .i64 0, .slice none 0 0]) 5 64 Try.underlying34 Hp.out.1 Hp.out.2.1 Hp.out.2.2.1 Hp.out.2.2.2 rfl (by decide) (.slice Am i cm) i (plsCells l) (by rfl) (by have h1 := own_chg HLR.out.im.mods ((Chg.refl NoB wr).alloc (.cells #[.string ob.name, .int .u32 ob.key, .int .i64 wc, .int .i64 0, .slice Ae j ce] PLT)) (fun _ _ => id); rw [HLL.out] at h1; exact h1) (some ⟨wr.heap.size, 0, none⟩) 1 1 [.string ob.name, .int .u32 ob.key, .int .i64 wc, .int .i64 0, .slice Ae j ce] (by rfl) rfl (cells_of_blk (Blk.new wr _ _)) (by simp [Value.oneCell']) (by unfold maxLen; omega) (by omega) (by have := HLR.out.im.chg.size; simp; omega) ?_); go_must (
            intro v1 w4 own1 gr1 _
            obtain ⟨Am1, cm1, rfl⟩ := own_slice own1
            have hq := HLR.out.quiet ((Chg.refl NoB wr).alloc (.cells #[.string ob.name, .int .u32 ob.key, .int .i64 wc, .int .i64 0, .slice Ae j ce] PLT))
            have hp : LyI W (w4.setCell ⟨ib, 1, none⟩ (.slice Am1 (i + 1) cm1)) rb ib (.slice none 0 0) (.slice Am1 (i + 1) cm1) [] (l ++ [(plOf ob wc 0, (Ae, ce))]) := hq.pushM (x := (plOf ob wc 0, (Ae, ce))) (by rw [HPL.out, HLL.out]; exact own1) (by rw [HLL.out]; exact gr1) (HEA1.out.quiet ((Chg.refl NoB wr).alloc _))
            have HP := Go.Lib.hid hp
            have hb7 : Blk w4 b7 OT (obArr ob oa) := (HBO.out.alloc (.cells #[.string ob.name, .int .u32 ob.key, .int .i64 wc, .int .i64 0, .slice Ae j ce] PLT)).grown gr1 (fun e => own_blk_ne (by have h1 := hq.im.mods; rw [HLL.out] at h1; exact h1) (HBO.out.alloc _) (by decide) e.symm)
            have hbi : Blk w4 ib IMT #[.slice none 0 0, .slice Am i cm] := by
              have h1 := hq.im.box
              rw [HLL.out] at h1
              exact h1.grown gr1 (fun e => own_blk_ne (by have h1 := hq.im.mods; rw [HLL.out] at h1; exact h1) h1 (by decide) e.symm)
            have hne1 : ¬ ib = b7 := hbi.ne_ hb7 (by decide)
            have hne2 : ¬ b7 = ib := fun e => hne1 e.symm
            rw [HOC.out] at hb7
            have m1 : w4.cell? ⟨ib, 1, none⟩ = some (.slice Am i cm) := hbi.cell 1
            have mf : w4.frozen? ⟨ib, 1, none⟩ = false := hbi.frozen 1
            have e5 : w4.cell? ⟨b7, 5, none⟩ = some (.slice cA cl cc) := hb7.cell 5
            clear own1 gr1 hq hp hb7 hbi q0 q1 q2 q3 q4))
          go_roundw
          case rel =>
            refine ⟨i + 1, wc + cl, _, _, by omega, by go_num, by go_num, ?_, HP.out, ?_⟩
            · rw [take_succ_some HX.out, cLen_app, ← HCC.out, ← HWC.out]
              simp [cLen]
              omega
            · rw [List.map_append, HLM.out, take_succ_some HX.out, pls0_snoc, ← HWC.out]
              rfl
          case measure => simp [intOf]; omega
    · obtain rfl : i = n := by omega
      have htk : d.take i = d := List.take_of_length_le (by rw [HDN.out]; exact Nat.le_refl _)
      have hlk : l.map (·.1) = plsK d 0 := by rw [HLM.out, plsK_zero, htk, HDN.out]
      have hwm : i + 2 + cLen d = wc := by rw [← HWC.out, htk]
      have HDE : Hid (∀ k, dataEnd (d.take k) wc ≤ 82000000) := Go.Lib.hid fun k => by
        have h1 : ∀ (l : List Ob) (m : Nat), (∀ o ∈ l, MayP o) → dataEnd l m ≤ m + l.length * 65536 := fun l => by
          induction l with
          | nil => intro m _; simp [dataEnd]
          | cons o l ih =>
            intro m h
            have h1 := ih (m + (o.vars.toNat + o.text.length) / 4) fun q hq => h q (List.mem_cons_of_mem _ hq)
            have h2 := (h o (List.mem_cons_self ..)).vt
            have h3 := (h o (List.mem_cons_self ..)).v0
            rw [dataEnd, List.length_cons]
            omega
        have h2 := h1 (d.take k) wc fun o ho => HL.out.may o (List.mem_of_mem_take ho)
        have h3 := HDN.out
        rw [List.length_take] at h2
        omega
      have HLK := Go.Lib.hid hlk
      have HWM := Go.Lib.hid hwm
      obtain ⟨n, rfl⟩ : ∃ n, n = i := ⟨i, rfl⟩
      clear htk hlk hwm HWC HLM
      go_wp2_with fail
      go_loopw [68, 5, 11, 12] (fun v68 v5 v11 v12 wr => ∃ (i wd : Nat) (l : List (Pl × PA)), i ≤ n ∧ v68 = .int .i64 i ∧ v5 = .int .i64 wd ∧ dataEnd (d.take i) wc = wd ∧ LyI W wr rb ib (.slice none 0 0) mv [] l ∧ l.map (·.1) = plsK d i) (fun v68 _ _ _ _ => n - (intOf v68).toNat)
      case atStart => exact ⟨0, wc, l, Nat.zero_le _, rfl, rfl, rfl, HLY.out, HLK.out⟩
      case round =>
        clear HLY HLK
        obtain ⟨i, wd, l, hi, rfl, rfl, hwd, hly, hlk⟩ := hrel
        have HLY := Go.Lib.hid hly
        have HLK := Go.Lib.hid hlk
        have hwb : wd ≤ 82000000 := by have := HDE.out i; omega
        have HWD := Go.Lib.hid hwd
        clear hly hlk hwd
        by_cases hlt : i < n
        · skip
          obtain ⟨x, hx⟩ : ∃ x, L[i]? = some x := ⟨_, List.getElem?_eq_getElem (by rw [HLN.out]; exact hlt)⟩
          have hdx : d[i]? = some x.1 := by rw [← HD.out, List.getElem?_map, hx]; rfl
          obtain ⟨ab, ao, rfl, hcell⟩ := (HA.out.chg HLY.out.im.chg fun _ _ => id).flat (by rw [allCells_len, HLN.out]; omega)
          have hq : ∀ k u, k < 8 → (obArr x.1 x.2)[k]? = some u → wr.cell? ⟨ab, ao + i * 8 + k, none⟩ = some u := fun k u hk hu => by
            have := hcell (i * 8 + k) u ((allCells_get L i x hx k hk).trans hu)
            rwa [← Nat.add_assoc] at this
          obtain ⟨ob, oa⟩ := x
          have x0 : wr.cell? ⟨ab, ao + i * 8, none⟩ = some (.string ob.name) := hq 0 _ (by omega) rfl
          have x1 : wr.cell? ⟨ab, ao + i * 8 + 1, none⟩ = some (.int .u32 ob.key) := hq 1 _ (by omega) rfl
          have x2 : wr.cell? ⟨ab, ao + i * 8 + 2, none⟩ = some (.slice oa.iA ob.imps.length oa.ic) := hq 2 _ (by omega) rfl
          have x3 : wr.cell? ⟨ab, ao + i * 8 + 3, none⟩ = some (.int .i64 ob.vars) := hq 3 _ (by omega) rfl
          have x4 : wr.cell? ⟨ab, ao + i * 8 + 4, none⟩ = some (.slice oa.tA ob.text.length oa.tc) := hq 4 _ (by omega) rfl
          have x5 : wr.cell? ⟨ab, ao + i * 8 + 5, none⟩ = some (.slice oa.cA ob.code.length oa.cc) := hq 5 _ (by omega) rfl
          have x6 : wr.cell? ⟨ab, ao + i * 8 + 6, none⟩ = some (.slice oa.eA ob.ents.length oa.ec) := hq 6 _ (by omega) rfl
          have x7 : wr.cell? ⟨ab, ao + i * 8 + 7, none⟩ = some (.slice oa.fA ob.fixs.length oa.fc) := hq 7 _ (by omega) rfl
          have HX : Hid (d[i]? = some ob) := Go.Lib.hid hdx
          have HOB : Hid (ObIs W ob oa) := Go.Lib.hid (HO.out _ (List.mem_of_getElem? hx))
          have HMAY : Hid (MayP ob) := Go.Lib.hid (HL.out.may ob (List.mem_of_getElem? hdx))
          clear hcell hq hx hdx
          go_upto_region 18 with fail
          clear x0 x1 x2 x3 x4 x5 x6 x7
          obtain ⟨w1, hw1⟩ : ∃ w, wr.alloc (.cells #[.string ob.name, .int .u32 ob.key, .slice oa.iA ob.imps.length oa.ic, .int .i64 ob.vars, .slice oa.tA ob.text.length oa.tc, .slice oa.cA ob.code.length oa.cc, .slice oa.eA ob.ents.length oa.ec, .slice oa.fA ob.fixs.length oa.fc] OT) = w := ⟨_, rfl⟩
          have HC1 : Hid (Chg NoB wr w1) := Go.Lib.hid (by rw [← hw1]; exact (Chg.refl NoB wr).alloc _)
          have HB7 : Hid (Blk w1 wr.heap.size OT (obArr ob oa)) := Go.Lib.hid (by rw [← hw1]; exact Blk.new wr OT _)
          rw [hw1]
          clear hw1
          obtain ⟨b12, h7⟩ : ∃ b, wr.heap.size = b := ⟨_, rfl⟩
          have H7 : Hid (wr.heap.size ≤ b12 ∧ b12 < w1.heap.size) := Go.Lib.hid ⟨by omega, by have := HB7.out.lt; omega⟩
          rw [h7] at HB7 ⊢
          clear h7
          have HLL : Hid (l.length = n) := Go.Lib.hid (by
            have := congrArg List.length HLK.out
            unfold plsK at this
            rw [List.length_map, List.length_append, List.length_take, List.length_drop, placed_len, pls0_len, HDN.out] at this
            omega)
          have HL1 := Go.Lib.hid (HLY.out.quiet HC1.out)
          obtain ⟨gm, cm, rfl, _, _⟩ := HLY.out.im.mods.form (by have := HLL.out; omega)
          obtain ⟨x, hx⟩ : ∃ x, l[i]? = some x := ⟨_, List.getElem?_eq_getElem (by rw [HLL.out]; exact hlt)⟩
          have hxp : x.1 = plOf ob (cAt d i) 0 := by
            have h1 := plsK_get HX.out
            rw [← HLK.out, List.getElem?_map, hx] at h1
            injection h1
          have hcell : w1.cell? ⟨gm, i * 5 + 3, none⟩ = some (.int .i64 x.1.data) ∧ w1.frozen? ⟨gm, i * 5 + 3, none⟩ = false := own_cellK HL1.out.im.mods ((plsCells_get l i x hx 3 (by omega)).trans rfl)
          have hx3 : x.1.data = 0 := by rw [hxp]; rfl
          rw [hx3] at hcell
          have k3 : w1.cell? ⟨gm, i * 5 + 3, none⟩ = some (.int .i64 (0 : Nat)) := hcell.1
          have kf : w1.frozen? ⟨gm, i * 5 + 3, none⟩ = false := hcell.2
          have hsd := HL1.out.setD hx (4 * wd)
          have HSD := Go.Lib.hid hsd
          have hll := HLL.out
          have m1 : w1.cell? ⟨ib, 1, none⟩ = some (.slice (some ⟨gm, 0, none⟩) n cm) := by rw [← hll]; exact HL1.out.im.box.cell 1
          obtain ⟨vn, hvn⟩ : ∃ v : Nat, ob.vars = (v : Int) := ⟨ob.vars.toNat, by have := HMAY.out.v0; omega⟩
          obtain ⟨tl, htl⟩ : ∃ k, ob.text.length = k := ⟨_, rfl⟩
          obtain ⟨tA, htA⟩ : ∃ k, oa.tA = k := ⟨_, rfl⟩
          obtain ⟨tc, htc⟩ : ∃ k, oa.tc = k := ⟨_, rfl⟩
          obtain ⟨dw, hdw⟩ : ∃ k, (vn + tl) / 4 = k := ⟨_, rfl⟩
          have hvb : vn + tl ≤ 262144 := by have := HMAY.out.vt; omega
          have hdv : ((vn : Int) + (tl : Int)).tdiv 4 = (dw : Int) := by rw [Int.tdiv_eq_ediv_of_nonneg (by omega)]; omega
          have hdv2 : ((vn : Int) + (tl : Int)) / 4 = (dw : Int) := by omega
          have hdwb : dw ≤ 65536 := by omega
          have HDW : Hid ((ob.vars.toNat + ob.text.length) / 4 = dw) := Go.Lib.hid (by rw [hvn, htl]; simpa using hdw)
          have e3 : w1.cell? ⟨b12, 3, none⟩ = some (.int .i64 vn) := by rw [← hvn]; exact HB7.out.cell 3
          have e4 : w1.cell? ⟨b12, 4, none⟩ = some (.slice tA tl tc) := by rw [← htl, ← htA, ← htc]; exact HB7.out.cell 4
          have hne1 : ¬ gm = b12 := fun e => own_blk_ne HL1.out.im.mods HB7.out (by decide) (by rw [e]; rfl)
          have hne2 : ¬ b12 = gm := fun e => hne1 e.symm
          have HXP := Go.Lib.hid (And.intro hx hxp)
          clear hx hxp hcell hx3 hsd hll hvn htl htA htc hdw
          go_wp2_with fail
          go_roundw
          case rel =>
            refine ⟨i + 1, wd + dw, _, by omega, by go_num, by go_num, ?_, HSD.out, ?_⟩
            · rw [take_succ_some HX.out, dataEnd_app, HWD.out, dataEnd, dataEnd, HDW.out]
            · rw [List.map_set, HLK.out]
              show (plsK d i).set i { x.1 with data := 4 * wd } = plsK d (i + 1)
              rw [← plsK_set HX.out, HXP.out.2]
              have h9 : dAt d i = 4 * wd := by
                unfold dAt
                rw [HDN.out, HWM.out, HWD.out]
              rw [h9]
              rfl
          case measure => simp [intOf]; omega
        · obtain rfl : i = n := by omega
          obtain ⟨n, rfl⟩ : ∃ n, n = i := ⟨i, rfl⟩
          have htk : d.take n = d := List.take_of_length_le (by rw [HDN.out]; exact Nat.le_refl _)
          have hpl : l.map (·.1) = placed d := by rw [HLK.out, ← HDN.out, plsK_all]
          have HPD := Go.Lib.hid hpl
          have HWE : Hid (dataEnd d wc = wd) := Go.Lib.hid (by rw [← HWD.out, htk])
          have hll : l.length = n := by rw [← List.length_map (f := fun x : Pl × PA => x.1), hpl, placed_len, HDN.out]
          have HLL := Go.Lib.hid hll
          obtain ⟨Am, cm, rfl⟩ := own_slice HLY.out.im.mods
          have hly := HLY.out
          rw [hll] at hly
          have HLY := Go.Lib.hid hly
          have m1 : wr.cell? ⟨ib, 1, none⟩ = some (.slice Am n cm) := hly.im.box.cell 1
          clear htk hpl hll HLK HWD hly
          go_wp2_with fail
          clear m1
          go_loopw [93, 13, 14] (fun v93 v13 v14 wr => ∃ (i : Nat) (wv : Value), i ≤ n ∧ v93 = .int .i64 i ∧ LyI W wr rb ib wv (.slice Am n cm) ((jumps (placed d) 0).take i) l) (fun v93 _ _ _ => n - (intOf v93).toNat)
          case atStart => exact ⟨0, _, Nat.zero_le _, rfl, HLY.out⟩
          case round =>
            clear HLY
            obtain ⟨i, wv, hi, rfl, hly⟩ := hrel
            have HLY := Go.Lib.hid hly
            clear hly
            by_cases hlt : i < n
            · obtain ⟨y, hy⟩ : ∃ y, l[i]? = some y := ⟨_, List.getElem?_eq_getElem (by rw [HLL.out]; exact hlt)⟩
              obtain ⟨gm, cm2, hmm, hmd⟩ := HLY.out.im.mod (by rw [HLL.out]; omega)
              injection hmm with hmA hm2 hm3
              subst hmA
              obtain ⟨y0, y1, y2, y3, y4⟩ := hmd i y hy wr (Chg.refl _ _)
              obtain ⟨ob, hob⟩ : ∃ ob, d[i]? = some ob := ⟨_, List.getElem?_eq_getElem (by rw [HDN.out]; exact hlt)⟩
              have hyp : y.1 = plOf ob (cAt d i) (dAt d i) := by
                have h1 := placed_get hob
                rw [← HPD.out, List.getElem?_map, hy] at h1
                injection h1
              have hmay := HL.out.may ob (List.mem_of_getElem? hob)
              obtain ⟨en, hen⟩ : ∃ k, y.1.ents.length = k := ⟨_, rfl⟩
              have hen2 : ob.ents.length = en := by rw [← hen, hyp]; simp [plOf]
              have hen0 : 0 < en := by have := hmay.e1; omega
              obtain ⟨e0, he0⟩ : ∃ e, y.1.ents[0]? = some e := ⟨_, List.getElem?_eq_getElem (by rw [hen]; exact hen0)⟩
              have heb : 0 ≤ e0 ∧ e0 ≤ 100000000 := by
                rw [hyp] at he0
                have h1 : (ob.ents.map fun e => ((cAt d i : Nat) : Int) + e)[0]? = some e0 := he0
                rw [List.getElem?_map] at h1
                cases h2 : ob.ents[0]? with
                | none => rw [h2] at h1; cases h1
                | some z =>
                  rw [h2] at h1
                  simp at h1
                  obtain ⟨z0, z1⟩ := hmay.en z (List.mem_of_getElem? h2)
                  have z2 := hmay.cl
                  have z3 := cAt_le d i
                  have z4 := HCL.out d.length
                  rw [List.take_of_length_le (Nat.le_refl _)] at z4
                  have z5 := HDN.out
                  omega
              have hea := HLY.out.im.ent y (List.mem_of_getElem? hy)
              obtain ⟨eb, eo, heA, hec⟩ := hea.row.flat (by simp [entCells]; omega)
              have hcel0 : wr.cell? ⟨eb, eo, none⟩ = some (.int .i64 e0) := hec 0 _ (by simp [entCells, he0])
              obtain ⟨ec, hecc⟩ : ∃ k, y.2.2 = k := ⟨_, rfl⟩
              rw [heA, hen, hecc] at y4
              have HJ : Hid ((jumps (placed d) 0).take (i + 1) = (jumps (placed d) 0).take i ++ [jumpW (e0 - (i : Int) - 1)]) := Go.Lib.hid (by
                rw [take_succ_some (jumps_get (placed d) 0 i y.1 (by rw [← HPD.out, List.getElem?_map, hy]; rfl)), List.getD_eq_getElem?_getD, he0, Nat.zero_add]
                rfl)
              have HCE := Go.Lib.hid hcel0
              have HEN : Hid (EntAt wr y.1 (some ⟨eb, eo, none⟩, ec)) := Go.Lib.hid (by rw [← heA, ← hecc]; exact hea)
              clear hy hmd hm2 hm3 hob hyp hmay hen hen2 he0 hea heA hec hecc hcel0
              go_upto_region 24 with fail
              clear y0 y1 y2 y3 y4
              obtain ⟨w1, hw1⟩ : ∃ w, wr.alloc (.cells #[.string y.1.name, .int .u32 y.1.key, .int .i64 y.1.code, .int .i64 y.1.data, .slice (some ⟨eb, eo, none⟩) en ec] PLT) = w := ⟨_, rfl⟩
              have HC1 : Hid (Chg NoB wr w1) := Go.Lib.hid (by rw [← hw1]; exact (Chg.refl NoB wr).alloc _)
              have HB14 : Hid (Blk w1 wr.heap.size PLT #[.string y.1.name, .int .u32 y.1.key, .int .i64 y.1.code, .int .i64 y.1.data, .slice (some ⟨eb, eo, none⟩) en ec]) := Go.Lib.hid (by rw [← hw1]; exact Blk.new wr PLT _)
              rw [hw1]
              clear hw1
              generalize wr.heap.size = b14 at *
              have HL1 := Go.Lib.hid (HLY.out.quiet HC1.out)
              have HE1 := Go.Lib.hid (HEN.out.quiet HC1.out)
              have hS : w1.cell? ⟨ib, 0, none⟩ = some wv ∧ w1.cell? ⟨b14, 4, none⟩ = some (.slice (some ⟨eb, eo, none⟩) en ec) ∧ w1.cell? ⟨eb, eo, none⟩ = some (.int .i64 e0) := ⟨HL1.out.im.box.cell 0, HB14.out.cell 4, keepQ HC1.out HCE.out⟩
              have HS := Go.Lib.hid hS
              clear hS HCE HEN HLY HC1
              obtain ⟨he1, he2⟩ := heb
              refine regionT 13 (fun V' => V'.cell? ⟨ib, 0, none⟩ = some wv ∧ V'.cell? ⟨b14, 4, none⟩ = some (.slice (some ⟨eb, eo, none⟩) en ec) ∧ V'.cell? ⟨eb, eo, none⟩ = some (.int .i64 e0)) (by kernel_rfl) (by decide) HS.out (fun inv hHeld => ?_)
              refine tkT 0 98 ?v1519 inv hHeld ?h1519 ?_
              case h1519 => (intro V' hSw; obtain ⟨s1, s2, s3⟩ := hSw; go_simp; first | done | with_reducible rfl | (rw [IntKind.wrap_i64]; omega))
              clear inv; intro inv; try simp only [sw1, sw2, sw3]
              refine tkT 1 99 ?v1520 inv hHeld ?h1520 ?_
              case h1520 => (intro V' hSw; obtain ⟨s1, s2, s3⟩ := hSw; go_simp; first | done | with_reducible rfl | (rw [IntKind.wrap_i64]; omega))
              clear inv; intro inv; try simp only [sw1, sw2, sw3]
              refine tkT 2 100 ?v1521 inv hHeld ?h1521 ?_
              case h1521 => (intro V' hSw; obtain ⟨s1, s2, s3⟩ := hSw; go_simp; first | done | with_reducible rfl | (rw [IntKind.wrap_i64]; omega))
              clear inv; intro inv; try simp only [sw1, sw2, sw3]
              refine tkT 3 101 ?v1522 inv hHeld ?h1522 ?_
              case h1522 => (intro V' hSw; obtain ⟨s1, s2, s3⟩ := hSw; go_simp; first | done | with_reducible rfl | (rw [IntKind.wrap_i64]; omega))
              clear inv; intro inv; try simp only [sw1, sw2, sw3]
              refine tkT 4 102 ?v1523 inv hHeld ?h1523 ?_
              case h1523 => (intro V' hSw; obtain ⟨s1, s2, s3⟩ := hSw; go_simp; first | done | with_reducible rfl | (rw [IntKind.wrap_i64]; omega))
              clear inv; intro inv; try simp only [sw1, sw2, sw3]
              refine tkT 5 103 ?v1524 inv hHeld ?h1524 ?_
              case h1524 => (intro V' hSw; obtain ⟨s1, s2, s3⟩ := hSw; go_simp; first | done | with_reducible rfl | (rw [IntKind.wrap_i64]; omega))
              clear inv; intro inv; try simp only [sw1, sw2, sw3]
              refine tkT 6 104 ?v1525 inv hHeld ?h1525 ?_
              case h1525 => (intro V' hSw; obtain ⟨s1, s2, s3⟩ := hSw; go_simp; first | done | with_reducible rfl | (rw [IntKind.wrap_i64]; omega))
              clear inv; intro inv; try simp only [sw1, sw2, sw3]
              refine tkT 7 105 (.int .i64 (e0 - (i : Int))) inv hHeld ?h1526 ?_
              case h1526 => (intro V' hSw; obtain ⟨s1, s2, s3⟩ := hSw; go_simp; first | done | with_reducible rfl | (rw [IntKind.wrap_i64]; omega))
              clear inv; intro inv; try simp only [sw1, sw2, sw3]
              refine tkT 8 106 (.int .i64 (e0 - (i : Int) - 1)) inv hHeld ?h1527 ?_
              case h1527 => (intro V' hSw; obtain ⟨s1, s2, s3⟩ := hSw; go_simp; first | done | with_reducible rfl | (rw [IntKind.wrap_i64]; omega))
              clear inv; intro inv; try simp only [sw1, sw2, sw3]
              refine callT (i := 9) (t := 107) (f := 62) (args := #[.int .i64 (e0 - (i : Int) - 1)]) rfl (by kernel_rfl) rfl (by rfl) ?hxc inv (by decide) ?hcc
              case hxc => (go_simp; try rfl)
              case hcc =>
                refine (jump_c _ _).mono ?_
                rintro e w5 ⟨rfl, hc5⟩
                refine ⟨_, rfl, ⟨keepQ hc5 hHeld.1, keepQ hc5 hHeld.2.1, keepQ hc5 hHeld.2.2⟩, fun inv2 hHeld2 => ?_⟩
                have HL5 := Go.Lib.hid (HL1.out.quiet (((Chg.refl NoB w1).drew).trans hc5))
                have HB5 := Go.Lib.hid (HB14.out.chg (((Chg.refl NoB w1).drew).trans hc5) id)
                have HE5 := Go.Lib.hid (HE1.out.quiet (((Chg.refl NoB w1).drew).trans hc5))
                clear inv hHeld hc5
                have inv := inv2
                have hHeld := hHeld2
                clear inv2 hHeld2
                obtain ⟨J, hJ⟩ : ∃ J, jumpW (e0 - (i : Int) - 1) = J := ⟨_, rfl⟩
                have HJB : Hid (J < 4294967296) := Go.Lib.hid (by rw [← hJ]; unfold jumpW; omega)
                rw [hJ] at HJ ⊢
                clear hJ
                try simp only [sw1, sw2, sw3]
                refine valT (i := 10) (t := 108) (v := .slice (some ⟨w5.heap.size, 0, none⟩) 1 1) (w' := w5.alloc (.cells #[.int .u32 (J : Int)] U32T)) rfl (by kernel_rfl) rfl (by rfl) ?hxb inv (by decide) ⟨keepQ ((Chg.refl NoB w5).alloc _) hHeld.1, keepQ ((Chg.refl NoB w5).alloc _) hHeld.2.1, keepQ ((Chg.refl NoB w5).alloc _) hHeld.2.2⟩ ?rb
                case hxb => (go_simp; try rfl)
                case rb =>
                  intro inv2 hHeld2
                  clear inv hHeld
                  have inv := inv2
                  have hHeld := hHeld2
                  clear inv2 hHeld2
                  try simp only [sw1, sw2, sw3]
                  have HL6 := Go.Lib.hid (HL5.out.quiet ((Chg.refl NoB w5).alloc (.cells #[.int .u32 (J : Int)] U32T)))
                  have HB6 := Go.Lib.hid (HB5.out.alloc (.cells #[.int .u32 (J : Int)] U32T))
                  have HE6 := Go.Lib.hid (HE5.out.quiet ((Chg.refl NoB w5).alloc (.cells #[.int .u32 (J : Int)] U32T)))
                  have HSR : Hid (CellsAt (w5.alloc (.cells #[.int .u32 (J : Int)] U32T)) (some ⟨w5.heap.size, 0, none⟩) (codeCells [J])) := Go.Lib.hid (cells_of_blk (Blk.new w5 U32T #[.int .u32 (J : Int)]))
                  have HJL : Hid (((jumps (placed d) 0).take i).length ≤ 1000) := Go.Lib.hid (by rw [List.length_take]; omega)
                  generalize (jumps (placed d) 0).take i = ws at *
                  refine wpT (i := 11) rfl (by kernel_rfl) (by rfl) inv (by decide) (fun inv2 => ?_)
                  clear inv
                  have inv := inv2
                  clear inv2
                  refine wp_appD _ 109 rfl (.tmp 99) (.tmp 108) _ rfl W.heap.size U32T u0 (.int .u32 0) 1 4 Try.underlying33 Hu.out.1 Hu.out.2.1 Hu.out.2.2.1 Hu.out.2.2.2 rfl (by decide) wv (List.length ws) (codeCells ws) (by rfl) HL6.out.im.row (some ⟨w5.heap.size, 0, none⟩) (List.length [J]) 1 (codeCells [J]) (by rfl) (cc_len1 _) HSR.out (cc_one _) (by have := HJL.out; unfold maxLen; simp; omega) (by have := HJL.out; simp; omega) HL6.out.im.chg.size ?_
                  intro v7 w7 own7 gr7 _
                  obtain ⟨A7, c7, rfl⟩ := own_slice own7
                  have hp := HL6.out.pushW (m := [J]) own7 gr7 (by intro z hz; rw [List.mem_singleton] at hz; rw [hz]; exact HJB.out)
                  have HP := Go.Lib.hid hp
                  have hbi : Blk w7 ib IMT #[wv, .slice (some ⟨gm, 0, none⟩) n cm] := HL6.out.im.box.grown gr7 (fun e => own_blk_ne HL6.out.im.row HL6.out.im.box (by decide) e.symm)
                  have hb14 : Blk w7 b14 PLT _ := HB6.out.grown gr7 (fun e => own_blk_ne HL6.out.im.row HB6.out (by decide) e.symm)
                  have hhe := HE6.out.off (grown_own gr7) (off_own HL6.out.im.row (by decide))
                  have hs3 : w7.cell? ⟨eb, eo, none⟩ = some (.int .i64 e0) := by
                    have hne : ∀ ad, (some ⟨eb, eo, none⟩ : Option Addr) = some ad → ¬ (wv.ownBlock = some ad.block) := fun ad ha hk => by
                      obtain ⟨cs, fr, h1⟩ := HE6.out.tag ad ha
                      obtain ⟨cs2, fr2, h2⟩ := own_tag HL6.out.im.row hk
                      rw [h1] at h2
                      injection h2 with h2
                      injection h2 with _ h2
                      exact absurd h2 (by decide)
                    exact (World.cell?_of_block (a := ⟨eb, eo, none⟩) ((grown_own gr7).block eb (block_lt_of_cell hHeld.2.2) (hne _ rfl))).trans hHeld.2.2
                  have HH : Hid (w7.cell? ⟨ib, 0, none⟩ = some wv ∧ w7.cell? ⟨b14, 4, none⟩ = some (.slice (some ⟨eb, eo, none⟩) en ec) ∧ w7.cell? ⟨eb, eo, none⟩ = some (.int .i64 e0)) := Go.Lib.hid ⟨hbi.cell 0, hb14.cell 4, hs3⟩
                  have HF := Go.Lib.hid (hbi.frozen 0)
                  clear own7 gr7 hp hbi hb14 hhe hs3
                  refine ⟨fun _ => HH.out, ?_⟩
                  clear hHeld
                  have hHeld := HH.out
                  try simp only [sw1, sw2, sw3]
                  refine tkV 12 110 ?v1528 inv hHeld ?_
                  clear inv; intro inv; try simp only [sw1, sw2, sw3]
                  refine lastT (i := 13) (w' := w7.setCell ⟨ib, 0, none⟩ (.slice A7 (List.length ws + List.length [J]) c7)) rfl (by kernel_rfl) rfl (by rfl) ?hxl (by decide) (by kernel_rfl) ?_
                  case hxl => (obtain ⟨s1, s2, s3⟩ := HH.out; have hf := HF.out; go_simp; try with_reducible rfl)
                  clear inv hHeld HH
                  go_wp2_with fail
                  go_roundw
                  case rel => exact ⟨i + 1, _, by omega, by go_num, by rw [HJ.out]; exact HP.out⟩
                  case measure => simp [intOf]; omega
            · obtain rfl : i = n := by omega
              obtain ⟨n, rfl⟩ : ∃ n, n = i := ⟨i, rfl⟩
              have hjt : (jumps (placed d) 0).take n = jumps (placed d) 0 := List.take_of_length_le (by rw [jumps_len, placed_len, HDN.out]; exact Nat.le_refl _)
              have hly := HLY.out
              rw [hjt] at hly
              have HLY := Go.Lib.hid hly
              have hjl : (jumps (placed d) 0).length = n := by rw [jumps_len, placed_len, HDN.out]
              obtain ⟨J0, hJ0⟩ : ∃ J, jumps (placed d) 0 = J := ⟨_, rfl⟩
              have HJ0 := Go.Lib.hid hJ0
              rw [hJ0] at hjl HLY
              have HJL := Go.Lib.hid hjl
              clear hjt hly hjl hJ0
              go_upto_region 26 with fail
              refine regionT 5 (fun V' => V'.cell? ⟨ib, 0, none⟩ = some wv) (by kernel_rfl) (by decide) (HLY.out.im.box.drew.cell 0) (fun inv hHeld => ?_)
              refine tkT 0 112 ?v1529 inv hHeld ?h1529 ?_
              case h1529 => (intro V' hSw; go_simp; try with_reducible rfl)
              clear inv; intro inv; try simp only [sw1, sw2, sw3]
              refine tkT 1 113 ?v1530 inv hHeld ?h1530 ?_
              case h1530 => (intro V' hSw; go_simp; try with_reducible rfl)
              clear inv; intro inv; try simp only [sw1, sw2, sw3]
              refine callT (i := 2) (t := 114) (f := 63) (args := #[]) rfl (by kernel_rfl) rfl (by rfl) ?hxc inv (by decide) ?hcc
              case hxc => (go_simp; try rfl)
              case hcc =>
                refine (halt_c _).mono ?_
                rintro e w5 ⟨Ah, rfl, hch, hc5⟩
                refine ⟨_, rfl, keepQ hc5 hHeld, fun inv2 hHeld2 => ?_⟩
                have HL5 := Go.Lib.hid (HLY.out.quiet (((Chg.refl NoB wr).drew).trans hc5))
                have HSR : Hid (CellsAt w5 Ah (codeCells haltW)) := Go.Lib.hid hch
                clear inv hHeld hc5 hch HLY
                have inv := inv2
                have hHeld := hHeld2
                clear inv2 hHeld2
                try simp only [sw1, sw2, sw3]
                refine wpT (i := 3) rfl (by kernel_rfl) (by rfl) inv (by decide) (fun inv2 => ?_)
                clear inv
                have inv := inv2
                clear inv2
                refine wp_appD _ 115 rfl (.tmp 113) (.tmp 114) _ rfl W.heap.size U32T u0 (.int .u32 0) 1 4 Try.underlying33 Hu.out.1 Hu.out.2.1 Hu.out.2.2.1 Hu.out.2.2.2 rfl (by decide) wv (List.length J0) (codeCells J0) (by rfl) HL5.out.im.row Ah 2 2 (codeCells haltW) (by rfl) (by rfl) HSR.out (cc_one _) (by have := HJL.out; unfold maxLen; omega) (by have := HJL.out; omega) HL5.out.im.chg.size ?_
                intro v7 w7 own7 gr7 _
                obtain ⟨A7, c7, rfl⟩ := own_slice own7
                have hp := HL5.out.pushW (m := haltW) own7 gr7 (by decide)
                have HP := Go.Lib.hid hp
                have hbi : Blk w7 ib IMT #[wv, .slice Am n cm] := HL5.out.im.box.grown gr7 (fun e => own_blk_ne HL5.out.im.row HL5.out.im.box (by decide) e.symm)
                have HBI := Go.Lib.hid hbi
                have HH : Hid (w7.cell? ⟨ib, 0, none⟩ = some wv) := Go.Lib.hid (hbi.cell 0)
                have HF := Go.Lib.hid (hbi.frozen 0)
                clear own7 gr7 hp hbi
                refine ⟨fun _ => HH.out, ?_⟩
                clear hHeld
                have hHeld := HH.out
                try simp only [sw1, sw2, sw3]
                refine tkV 4 116 ?v1531 inv hHeld ?_
                clear inv; intro inv; try simp only [sw1, sw2, sw3]
                refine lastT (i := 5) (w' := w7.setCell ⟨ib, 0, none⟩ (.slice A7 (List.length J0 + 2) c7)) rfl (by kernel_rfl) rfl (by rfl) ?hxl (by decide) (by kernel_rfl) ?_
                case hxl => (have s1 := HH.out; have hf := HF.out; go_simp; try with_reducible rfl)
                clear inv hHeld HH HF HBI HL5
                have HLY : Hid (LyI W (w7.setCell ⟨ib, 0, none⟩ (.slice A7 (List.length J0 + 2) c7)) rb ib (.slice A7 (List.length J0 + 2) c7) (.slice Am n cm) (J0 ++ haltW) l) := HP
                clear HP
                obtain ⟨w8, hw8⟩ : ∃ w, w7.setCell ⟨ib, 0, none⟩ (.slice A7 (List.length J0 + 2) c7) = w := ⟨_, rfl⟩
                rw [hw8] at HLY ⊢
                clear hw8
                generalize (Value.slice A7 (List.length J0 + 2) c7) = wv0 at *
                go_wp2_with fail
                go_loopw [119, 16] (fun v119 v16 wr => ∃ (i : Nat) (wv : Value), i ≤ n ∧ v119 = .int .i64 i ∧ LyI W wr rb ib wv (.slice Am n cm) (J0 ++ haltW ++ (d.take i).flatMap (·.code)) l) (fun v119 _ _ => n - (intOf v119).toNat)
                case atStart => exact ⟨0, _, Nat.zero_le _, rfl, by simpa using HLY.out⟩
                case round =>
                  clear HLY
                  obtain ⟨i, wv, hi, rfl, hly⟩ := hrel
                  have HLY := Go.Lib.hid hly
                  clear hly
                  by_cases hlt : i < n
                  · skip
                    obtain ⟨x, hx⟩ : ∃ x, L[i]? = some x := ⟨_, List.getElem?_eq_getElem (by rw [HLN.out]; exact hlt)⟩
                    have hdx : d[i]? = some x.1 := by rw [← HD.out, List.getElem?_map, hx]; rfl
                    obtain ⟨ab, ao, rfl, hcell⟩ := (HA.out.chg HLY.out.im.chg fun _ _ => id).flat (by rw [allCells_len, HLN.out]; omega)
                    have hq : ∀ k u, k < 8 → (obArr x.1 x.2)[k]? = some u → wr.cell? ⟨ab, ao + i * 8 + k, none⟩ = some u := fun k u hk hu => by
                      have := hcell (i * 8 + k) u ((allCells_get L i x hx k hk).trans hu)
                      rwa [← Nat.add_assoc] at this
                    obtain ⟨ob, oa⟩ := x
                    have x0 : wr.cell? ⟨ab, ao + i * 8, none⟩ = some (.string ob.name) := hq 0 _ (by omega) rfl
                    have x1 : wr.cell? ⟨ab, ao + i * 8 + 1, none⟩ = some (.int .u32 ob.key) := hq 1 _ (by omega) rfl
                    have x2 : wr.cell? ⟨ab, ao + i * 8 + 2, none⟩ = some (.slice oa.iA ob.imps.length oa.ic) := hq 2 _ (by omega) rfl
                    have x3 : wr.cell? ⟨ab, ao + i * 8 + 3, none⟩ = some (.int .i64 ob.vars) := hq 3 _ (by omega) rfl
                    have x4 : wr.cell? ⟨ab, ao + i * 8 + 4, none⟩ = some (.slice oa.tA ob.text.length oa.tc) := hq 4 _ (by omega) rfl
                    have x5 : wr.cell? ⟨ab, ao + i * 8 + 5, none⟩ = some (.slice oa.cA ob.code.length oa.cc) := hq 5 _ (by omega) rfl
                    have x6 : wr.cell? ⟨ab, ao + i * 8 + 6, none⟩ = some (.slice oa.eA ob.ents.length oa.ec) := hq 6 _ (by omega) rfl
                    have x7 : wr.cell? ⟨ab, ao + i * 8 + 7, none⟩ = some (.slice oa.fA ob.fixs.length oa.fc) := hq 7 _ (by omega) rfl
                    have HX : Hid (d[i]? = some ob) := Go.Lib.hid hdx
                    have HOB : Hid (ObIs W ob oa) := Go.Lib.hid (HO.out _ (List.mem_of_getElem? hx))
                    have HMAY : Hid (MayP ob) := Go.Lib.hid (HL.out.may ob (List.mem_of_getElem? hdx))
                    clear hcell hq hx hdx
                    go_upto_region 30 with fail
                    clear x0 x1 x2 x3 x4 x5 x6 x7
                    obtain ⟨w1, hw1⟩ : ∃ w, wr.alloc (.cells #[.string ob.name, .int .u32 ob.key, .slice oa.iA ob.imps.length oa.ic, .int .i64 ob.vars, .slice oa.tA ob.text.length oa.tc, .slice oa.cA ob.code.length oa.cc, .slice oa.eA ob.ents.length oa.ec, .slice oa.fA ob.fixs.length oa.fc] OT) = w := ⟨_, rfl⟩
                    have HC1 : Hid (Chg NoB wr w1) := Go.Lib.hid (by rw [← hw1]; exact (Chg.refl NoB wr).alloc _)
                    have HB7 : Hid (Blk w1 wr.heap.size OT (obArr ob oa)) := Go.Lib.hid (by rw [← hw1]; exact Blk.new wr OT _)
                    rw [hw1]
                    clear hw1
                    obtain ⟨b16, h7⟩ : ∃ b, wr.heap.size = b := ⟨_, rfl⟩
                    have H7 : Hid (wr.heap.size ≤ b16 ∧ b16 < w1.heap.size) := Go.Lib.hid ⟨by omega, by have := HB7.out.lt; omega⟩
                    rw [h7] at HB7 ⊢
                    clear h7
                    have HL1 := Go.Lib.hid (HLY.out.quiet HC1.out)
                    have hwl : (J0 ++ haltW ++ (d.take i).flatMap (·.code)).length ≤ 17000000 := by
                      have h1 := HCL.out i
                      have h2 := HJL.out
                      unfold cLen at h1
                      rw [List.length_append, List.length_append, h2]
                      show n + 2 + _ ≤ _
                      omega
                    have HT : Hid (J0 ++ haltW ++ (d.take (i + 1)).flatMap (·.code) = J0 ++ haltW ++ (d.take i).flatMap (·.code) ++ ob.code) := Go.Lib.hid (by
                      rw [take_succ_some HX.out, List.flatMap_append]
                      simp)
                    have HNUM : Hid (∀ z ∈ ob.code, z < 4294967296) := Go.Lib.hid (HL.out.num ob (List.mem_of_getElem? HX.out)).2
                    have HOB1 := Go.Lib.hid (HOB.out.quiet HL1.out.im.chg)
                    have hcl := HMAY.out.cl
                    have HLN2 := Go.Lib.hid (And.intro hwl hcl)
                    have e5 : w1.cell? ⟨b16, 5, none⟩ = some (.slice oa.cA ob.code.length oa.cc) := HB7.out.cell 5
                    have e0 : w1.cell? ⟨ib, 0, none⟩ = some wv := HL1.out.im.box.cell 0
                    generalize (J0 ++ haltW ++ (d.take i).flatMap (·.code)) = ws at *
                    clear hwl hcl
                    go_wp2_with (at_builtin; go_must (refine wpList_appK _ rfl (.tmp 124) (.tmp 126) _ rfl W.heap.size U32T u0 (.int .u32 0) 1 4 Try.underlying33 Hu.out.1 Hu.out.2.1 Hu.out.2.2.1 Hu.out.2.2.2 rfl (by decide) wv (List.length ws) (codeCells ws) (by rfl) HL1.out.im.row oa.cA ob.code.length oa.cc (codeCells ob.code) (by rfl) (cc_len1 _) HOB1.out.code (cc_one _) (by have := HLN2.out; unfold maxLen; omega) (by have := HLN2.out; omega) HL1.out.im.chg.size ?_); go_must (
                      intro v7 w7 own7 gr7 _
                      obtain ⟨A7, c7, rfl⟩ := own_slice own7
                      have hp := HL1.out.pushW (m := ob.code) own7 gr7 HNUM.out
                      have HP := Go.Lib.hid hp
                      have hbi : Blk w7 ib IMT #[wv, .slice Am n cm] := HL1.out.im.box.grown gr7 (fun e => own_blk_ne HL1.out.im.row HL1.out.im.box (by decide) e.symm)
                      have m0 : w7.cell? ⟨ib, 0, none⟩ = some wv := hbi.cell 0
                      have mf : w7.frozen? ⟨ib, 0, none⟩ = false := hbi.frozen 0
                      clear own7 gr7 hp hbi e5 e0))
                    go_roundw
                    case rel => exact ⟨i + 1, _, by omega, by go_num, by rw [HT.out]; exact HP.out⟩
                    case measure => simp [intOf]; omega
                  · obtain rfl : i = n := by omega
                    obtain ⟨n, rfl⟩ : ∃ n, n = i := ⟨i, rfl⟩
                    have htk : d.take n = d := List.take_of_length_le (by rw [HDN.out]; exact Nat.le_refl _)
                    have hbase : J0 ++ haltW ++ d.flatMap (·.code) = base0 haltW d := by rw [← HJ0.out]; rfl
                    have hbl : (base0 haltW d).length = wc := by rw [base0_len rfl, HDN.out]; exact HWM.out
                    have hly := HLY.out
                    rw [htk, hbase] at hly
                    obtain ⟨gw, cw, rfl, _, _⟩ := hly.im.row.form (by rw [hbl]; have := HWM.out; omega)
                    rw [hbl] at hly
                    try rw [hbl]
                    have HLY := Go.Lib.hid hly
                    have HBL := Go.Lib.hid hbl
                    clear htk hbase hbl hly
                    go_wp2_with fail
                    go_loopw [132, 17, 18] (fun v132 v17 v18 wr => ∃ (i : Nat) (ws1 : List Nat), i ≤ n ∧ v132 = .int .i64 i ∧ fillAll (placed d) (d.take i) ((placed d).take i) (base0 haltW d) = some ws1 ∧ ws1.length = wc ∧ LyI W wr rb ib (.slice (some ⟨gw, 0, none⟩) wc cw) (.slice Am n cm) ws1 l) (fun v132 _ _ _ => n - (intOf v132).toNat)
                    case atStart => exact ⟨0, _, Nat.zero_le _, rfl, by simp [fillAll], HBL.out, HLY.out⟩
                    case round =>
                      clear HLY
                      obtain ⟨i, ws1, hi, rfl, hfa, hwl, hly⟩ := hrel
                      have HLY := Go.Lib.hid hly
                      have HFA := Go.Lib.hid hfa
                      have HWL := Go.Lib.hid hwl
                      clear hly hfa hwl
                      by_cases hlt : i < n
                      · skip
                        obtain ⟨x, hx⟩ : ∃ x, L[i]? = some x := ⟨_, List.getElem?_eq_getElem (by rw [HLN.out]; exact hlt)⟩
                        have hdx : d[i]? = some x.1 := by rw [← HD.out, List.getElem?_map, hx]; rfl
                        obtain ⟨ab, ao, rfl, hcell⟩ := (HA.out.chg HLY.out.im.chg fun _ _ => id).flat (by rw [allCells_len, HLN.out]; omega)
                        have hq : ∀ k u, k < 8 → (obArr x.1 x.2)[k]? = some u → wr.cell? ⟨ab, ao + i * 8 + k, none⟩ = some u := fun k u hk hu => by
                          have := hcell (i * 8 + k) u ((allCells_get L i x hx k hk).trans hu)
                          rwa [← Nat.add_assoc] at this
                        obtain ⟨ob, oa⟩ := x
                        have x0 : wr.cell? ⟨ab, ao + i * 8, none⟩ = some (.string ob.name) := hq 0 _ (by omega) rfl
                        have x1 : wr.cell? ⟨ab, ao + i * 8 + 1, none⟩ = some (.int .u32 ob.key) := hq 1 _ (by omega) rfl
                        have x2 : wr.cell? ⟨ab, ao + i * 8 + 2, none⟩ = some (.slice oa.iA ob.imps.length oa.ic) := hq 2 _ (by omega) rfl
                        have x3 : wr.cell? ⟨ab, ao + i * 8 + 3, none⟩ = some (.int .i64 ob.vars) := hq 3 _ (by omega) rfl
                        have x4 : wr.cell? ⟨ab, ao + i * 8 + 4, none⟩ = some (.slice oa.tA ob.text.length oa.tc) := hq 4 _ (by omega) rfl
                        have x5 : wr.cell? ⟨ab, ao + i * 8 + 5, none⟩ = some (.slice oa.cA ob.code.length oa.cc) := hq 5 _ (by omega) rfl
                        have x6 : wr.cell? ⟨ab, ao + i * 8 + 6, none⟩ = some (.slice oa.eA ob.ents.length oa.ec) := hq 6 _ (by omega) rfl
                        have x7 : wr.cell? ⟨ab, ao + i * 8 + 7, none⟩ = some (.slice oa.fA ob.fixs.length oa.fc) := hq 7 _ (by omega) rfl
                        have HX : Hid (d[i]? = some ob) := Go.Lib.hid hdx
                        have HOB : Hid (ObIs W ob oa) := Go.Lib.hid (HO.out _ (List.mem_of_getElem? hx))
                        have HMAY : Hid (MayP ob) := Go.Lib.hid (HL.out.may ob (List.mem_of_getElem? hdx))
                        clear hcell hq hx hdx
                        go_upto_region 35 with fail
                        clear x0 x1 x2 x3 x4 x5 x6 x7
                        obtain ⟨w1, hw1⟩ : ∃ w, wr.alloc (.cells #[.string ob.name, .int .u32 ob.key, .slice oa.iA ob.imps.length oa.ic, .int .i64 ob.vars, .slice oa.tA ob.text.length oa.tc, .slice oa.cA ob.code.length oa.cc, .slice oa.eA ob.ents.length oa.ec, .slice oa.fA ob.fixs.length oa.fc] OT) = w := ⟨_, rfl⟩
                        have HC1 : Hid (Chg NoB wr w1) := Go.Lib.hid (by rw [← hw1]; exact (Chg.refl NoB wr).alloc _)
                        have HB7 : Hid (Blk w1 wr.heap.size OT (obArr ob oa)) := Go.Lib.hid (by rw [← hw1]; exact Blk.new wr OT _)
                        rw [hw1]
                        clear hw1
                        obtain ⟨b18, h7⟩ : ∃ b, wr.heap.size = b := ⟨_, rfl⟩
                        have H7 : Hid (wr.heap.size ≤ b18 ∧ b18 < w1.heap.size) := Go.Lib.hid ⟨by omega, by have := HB7.out.lt; omega⟩
                        rw [h7] at HB7 ⊢
                        clear h7
                        have HL1 := Go.Lib.hid (HLY.out.quiet HC1.out)
                        obtain ⟨y, hy⟩ : ∃ y, l[i]? = some y := ⟨_, List.getElem?_eq_getElem (by rw [HLL.out]; exact hlt)⟩
                        have hpy : (placed d)[i]? = some y.1 := by rw [← HPD.out, List.getElem?_map, hy]; rfl
                        have hyp : y.1 = plOf ob (cAt d i) (dAt d i) := by
                          have h1 := placed_get HX.out
                          rw [hpy] at h1
                          injection h1
                        have hfo : FillOk ob y.1 y.2 wc l := by
                          have hwm := HWM.out
                          have hdn := HDN.out
                          refine ⟨HMAY.out, fun f hf => ?_, fun f hf hm => ?_, List.mem_of_getElem? hy, fun z hz => ?_, by have := HCL.out d.length; rw [List.take_of_length_le (Nat.le_refl _)] at this; omega, by rw [HLL.out]; exact hn⟩
                          · obtain ⟨h1, h2⟩ := HL.out.fixAt HX.out hf
                            have h3 := cAt_lt HX.out h1
                            rw [hyp]
                            show cAt d i + _ < wc ∧ (_ → cAt d i + _ + 1 < wc)
                            exact ⟨by omega, fun h0 => by have := cAt_lt HX.out (h2 h0); omega⟩
                          · obtain ⟨k, hk⟩ := List.mem_iff_getElem?.1 hf
                            obtain ⟨x, j, p, h1, h2, h3, h4, _⟩ := HL.out.to HX.out hk hm
                            refine ⟨x, h1, ?_⟩
                            have h5 := placed_get h3
                            rw [← HPD.out, List.getElem?_map] at h5
                            cases h6 : l[j]? with
                            | none => rw [h6] at h5; cases h5
                            | some q =>
                              rw [h6] at h5
                              injection h5 with h5
                              change q.1 = _ at h5
                              exact ⟨q, List.mem_of_getElem? h6, by rw [h5]; exact h4⟩
                          · obtain ⟨j, hj⟩ := List.mem_iff_getElem?.1 hz
                            have hjl := (List.getElem?_eq_some_iff.1 hj).1
                            rw [HLL.out] at hjl
                            obtain ⟨q, hq⟩ : ∃ q, d[j]? = some q := ⟨_, List.getElem?_eq_getElem (by rw [HDN.out]; exact hjl)⟩
                            have h1 := placed_get hq
                            rw [← HPD.out, List.getElem?_map, hj] at h1
                            injection h1 with h1
                            change z.1 = _ at h1
                            rw [h1]
                            have h2 := HDE.out j
                            have h3 := HL.out.may q (List.mem_of_getElem? hq)
                            refine ⟨?_, fun e he => ?_⟩
                            · show dAt d j < _
                              unfold dAt
                              rw [hdn, hwm]
                              omega
                            · obtain ⟨e', he', rfl⟩ := List.mem_map.1 he
                              obtain ⟨h4, h5⟩ := h3.en e' he'
                              have h6 := h3.cl
                              have h7 := cAt_le d j
                              have h8 := HCL.out d.length
                              rw [List.take_of_length_le (Nat.le_refl _)] at h8
                              omega
                        have hbx : ∀ V', Chg NoB w1 V' → V'.cell? ⟨b18, 0, none⟩ = some (.string ob.name) ∧ V'.cell? ⟨b18, 1, none⟩ = some (.int .u32 ob.key) ∧ V'.cell? ⟨b18, 2, none⟩ = some (.slice oa.iA ob.imps.length oa.ic) ∧ V'.cell? ⟨b18, 3, none⟩ = some (.int .i64 ob.vars) ∧ V'.cell? ⟨b18, 4, none⟩ = some (.slice oa.tA ob.text.length oa.tc) ∧ V'.cell? ⟨b18, 5, none⟩ = some (.slice oa.cA ob.code.length oa.cc) ∧ V'.cell? ⟨b18, 6, none⟩ = some (.slice oa.eA ob.ents.length oa.ec) ∧ V'.cell? ⟨b18, 7, none⟩ = some (.slice oa.fA ob.fixs.length oa.fc) := fun V' hV => ⟨keepQ hV (HB7.out.cell 0), keepQ hV (HB7.out.cell 1), keepQ hV (HB7.out.cell 2), keepQ hV (HB7.out.cell 3), keepQ hV (HB7.out.cell 4), keepQ hV (HB7.out.cell 5), keepQ hV (HB7.out.cell 6), keepQ hV (HB7.out.cell 7)⟩
                        obtain ⟨gm, cm2, hmm, hmd⟩ := HL1.out.im.mod (by rw [HLL.out]; omega)
                        injection hmm with hmA hm2 hm3
                        subst hmA
                        have hmx : ∀ V', Chg NoB w1 V' → V'.cell? ⟨ib, 1, none⟩ = some (.slice (some ⟨gm, 0, none⟩) n cm) ∧ V'.cell? ⟨gm, i * 5, none⟩ = some (.string y.1.name) ∧ V'.cell? ⟨gm, i * 5 + 1, none⟩ = some (.int .u32 y.1.key) ∧ V'.cell? ⟨gm, i * 5 + 2, none⟩ = some (.int .i64 y.1.code) ∧ V'.cell? ⟨gm, i * 5 + 3, none⟩ = some (.int .i64 y.1.data) ∧ V'.cell? ⟨gm, i * 5 + 4, none⟩ = some (.slice y.2.1 y.1.ents.length y.2.2) := fun V' hV => ⟨keepQ hV (HL1.out.im.box.cell 1), hmd i y hy V' hV⟩
                        have hfc : ∀ V', Chg NoB w1 V' → Calls Try.prog 64 #[.pointer (some ⟨ib, 0, none⟩), obVal ob oa, .agg (plArr y.1 y.2)] V' (FillPost W V' ib gw wc cw (.slice (some ⟨gm, 0, none⟩) n cm) ob y.1 ws1 l) := fun V' hV => by
                          have h1 := (HL1.out.quiet hV).im
                          have hwl := HWL.out
                          have h2 := fill_c (W := V') (ws := ws1) (wc := cw) (g := gw) (by rw [hwl]; exact h1) HOB.out (h1.ent y (List.mem_of_getElem? hy)) (by rw [hwl]; exact hfo)
                          rw [hwl] at h2
                          exact h2
                        have HBX := Go.Lib.hid hbx
                        have HMX := Go.Lib.hid hmx
                        have HFC := Go.Lib.hid hfc
                        have HIL : Hid ((i : Int) < (n : Int)) := Go.Lib.hid (by omega)
                        have HPY := Go.Lib.hid hpy
                        clear hy hpy hyp hfo hbx hm2 hm3 hmd hmx hfc
                        refine regionT 6 (fun V' => Chg NoB w1 V') (by kernel_rfl) (by decide) ((Chg.refl NoB w1).drew) (fun inv hHeld => ?_)
                        refine tkT 0 137 (obVal ob oa) inv hHeld ?h1532 ?_
                        case h1532 => (intro V' hSw; obtain ⟨x0, x1, x2, x3, x4, x5, x6, x7⟩ := HBX.out V' hSw; obtain ⟨m1, y0, y1, y2, y3, y4⟩ := HMX.out V' hSw; have hil := HIL.out; clear hSw; go_simp; first | done | rfl)
                        clear inv; intro inv; try simp only [sw1, sw2, sw3]
                        refine tkT 1 138 ?v1533 inv hHeld ?h1533 ?_
                        case h1533 => (intro V' hSw; obtain ⟨x0, x1, x2, x3, x4, x5, x6, x7⟩ := HBX.out V' hSw; obtain ⟨m1, y0, y1, y2, y3, y4⟩ := HMX.out V' hSw; have hil := HIL.out; clear hSw; go_simp; first | done | rfl)
                        clear inv; intro inv; try simp only [sw1, sw2, sw3]
                        refine tkT 2 139 ?v1534 inv hHeld ?h1534 ?_
                        case h1534 => (intro V' hSw; obtain ⟨x0, x1, x2, x3, x4, x5, x6, x7⟩ := HBX.out V' hSw; obtain ⟨m1, y0, y1, y2, y3, y4⟩ := HMX.out V' hSw; have hil := HIL.out; clear hSw; go_simp; first | done | rfl)
                        clear inv; intro inv; try simp only [sw1, sw2, sw3]
                        refine tkT 3 140 ?v1535 inv hHeld ?h1535 ?_
                        case h1535 => (intro V' hSw; obtain ⟨x0, x1, x2, x3, x4, x5, x6, x7⟩ := HBX.out V' hSw; obtain ⟨m1, y0, y1, y2, y3, y4⟩ := HMX.out V' hSw; have hil := HIL.out; clear hSw; go_simp; first | done | rfl)
                        clear inv; intro inv; try simp only [sw1, sw2, sw3]
                        refine tkT 4 141 ?v1536 inv hHeld ?h1536 ?_
                        case h1536 => (intro V' hSw; obtain ⟨x0, x1, x2, x3, x4, x5, x6, x7⟩ := HBX.out V' hSw; obtain ⟨m1, y0, y1, y2, y3, y4⟩ := HMX.out V' hSw; have hil := HIL.out; clear hSw; go_simp; first | done | rfl)
                        clear inv; intro inv; try simp only [sw1, sw2, sw3]
                        refine tkT 5 142 (.agg (plArr y.1 y.2)) inv hHeld ?h1537 ?_
                        case h1537 => (intro V' hSw; obtain ⟨x0, x1, x2, x3, x4, x5, x6, x7⟩ := HBX.out V' hSw; obtain ⟨m1, y0, y1, y2, y3, y4⟩ := HMX.out V' hSw; have hil := HIL.out; clear hSw; go_simp; first | done | rfl)
                        clear inv; intro inv; try simp only [sw1, sw2, sw3]
                        refine callE (i := 6) (t := 143) (f := 64) (args := #[.pointer (some ⟨ib, 0, none⟩), obVal ob oa, .agg (plArr y.1 y.2)]) rfl (by kernel_rfl) rfl (by rfl) ?hxc (by decide) ?hcc
                        case hxc => (go_simp; try rfl)
                        case hcc =>
                          refine (HFC.out _ hHeld).mono ?_
                          rintro e w5 ⟨ws2, him, hwl2, hfr, hres⟩
                          have hly5 := LyI.fill (HL1.out.quiet (Chg.refl NoB w1).drew) him hfr
                          have HL5 := Go.Lib.hid hly5
                          clear inv hHeld him hfr hly5
                          rcases hres with ⟨hf2, rfl⟩ | ⟨hf2, rfl⟩
                          · have hsn := fillAll_snoc (by rw [placed_len]) HFA.out HX.out HPY.out (by rw [← HPD.out]; exact hf2)
                            have HSN := Go.Lib.hid hsn
                            have HW2 := Go.Lib.hid hwl2
                            clear hf2 hsn hwl2
                            refine ⟨_, rfl, ?_⟩
                            try simp only [sw1, sw2, sw3]
                            refine lastV (i := 7) (t := 144) (v := .bool false) (w' := w5) rfl (by kernel_rfl) rfl (by rfl) ?hxl (by decide) (by kernel_rfl) ?_
                            case hxl => (go_simp; try rfl)
                            try simp only [sw1, sw2, sw3]
                            go_wp2_with fail
                            go_roundw
                            case rel => exact ⟨i + 1, ws2, by omega, by go_num, HSN.out, HW2.out, HL5.out⟩
                            case measure => simp [intOf]; omega
                          · have hst := fillAll_stop (by rw [placed_len]) HFA.out HX.out HPY.out (by rw [← HPD.out]; exact hf2)
                            have HST := Go.Lib.hid hst
                            clear hf2 hst hwl2
                            refine ⟨_, rfl, ?_⟩
                            try simp only [sw1, sw2, sw3]
                            refine lastV (i := 7) (t := 144) (v := .bool true) (w' := w5) rfl (by kernel_rfl) rfl (by rfl) ?hxl (by decide) (by kernel_rfl) ?_
                            case hxl => (go_simp; try rfl)
                            try simp only [sw1, sw2, sw3]
                            have HRB := Go.Lib.hid HL5.out.rbx
                            go_wp2_with (refine wpList_store_row rfl IMT (.tmp 2) (.tmp 145) rfl rb #[.slice none 0 0, .slice none 0 0] rfl rfl IMT #[.slice none 0 0, .slice none 0 0] HRB.out (by kernel_rfl) (by rfl) (by kernel_rfl) ?_)
                            refine bodyPost_ret (results_cellTmp rfl _ _ rfl rfl (HRB.out.rowSet #[.slice none 0 0, .slice none 0 0]) Try.underlying36 rfl (by kernel_rfl)) rfl ?_
                            refine ⟨HL5.out.im.chg.rowSet (fun h => absurd h (by have := HL5.out.rlo; omega)) _, ?_⟩
                            have himg : imgP haltW d = .inl 4 := by
                              unfold imgP
                              rw [show jumps (placed d) 0 ++ haltW ++ d.flatMap (·.code) = base0 haltW d from rfl, HST.out]
                            rw [himg]
                            rfl
                      · obtain rfl : i = n := by omega
                        obtain ⟨n, rfl⟩ : ∃ n, n = i := ⟨i, rfl⟩
                        have htk : d.take n = d := List.take_of_length_le (by rw [HDN.out]; exact Nat.le_refl _)
                        have htp : (placed d).take n = placed d := List.take_of_length_le (by rw [placed_len, HDN.out]; exact Nat.le_refl _)
                        have hfa := HFA.out
                        rw [htk, htp] at hfa
                        have HFB := Go.Lib.hid hfa
                        clear HFA
                        have hdn9 := HDN.out
                        have hend : dataEnd d (codeEnd d (d.length + 2)) = wd := by rw [codeEnd_eq, hdn9, HWM.out, HWE.out]
                        have HEND := Go.Lib.hid hend
                        have hwdb : wd ≤ 82000000 := by have := HDE.out n; rw [htk, HWE.out] at this; exact this
                        have HTK := Go.Lib.hid htk
                        clear htk htp hfa hend hdn9
                        by_cases hbig : 4194304 < wd
                        · have hbig2 : decide (4194304 < wd) = true := decide_eq_true hbig
                          have HRB := Go.Lib.hid HLY.out.rbx
                          go_wp2_with (refine wpList_store_row rfl IMT (.tmp 2) (.tmp 149) rfl rb #[.slice none 0 0, .slice none 0 0] rfl rfl IMT #[.slice none 0 0, .slice none 0 0] HRB.out (by kernel_rfl) (by rfl) (by kernel_rfl) ?_)
                          refine bodyPost_ret (results_cellTmp rfl _ _ rfl rfl (HRB.out.rowSet #[.slice none 0 0, .slice none 0 0]) Try.underlying36 rfl (by kernel_rfl)) rfl ?_
                          refine ⟨HLY.out.im.chg.rowSet (fun h => absurd h (by have := HLY.out.rlo; omega)) _, ?_⟩
                          have himg : imgP haltW d = .inl 10 := by
                            unfold imgP
                            rw [show jumps (placed d) 0 ++ haltW ++ d.flatMap (·.code) = base0 haltW d from rfl, HFB.out]
                            simp only
                            rw [HEND.out, if_pos hbig]
                          rw [himg]
                          rfl
                        · have hbig2 : decide (4194304 < wd) = false := decide_eq_false hbig
                          go_wp2_with fail
                          go_loopw [152, 20, 21, 22] (fun v152 v20 v21 v22 wr => ∃ (i : Nat) (wv : Value), i ≤ n ∧ v152 = .int .i64 i ∧ LyI W wr rb ib wv (.slice Am n cm) (ws1 ++ dataW (d.take i)) l) (fun v152 _ _ _ _ => n - (intOf v152).toNat)
                          case atStart => exact ⟨0, _, Nat.zero_le _, rfl, by simpa [dataW] using HLY.out⟩
                          case round =>
                            clear HLY
                            obtain ⟨i, wv, hi, rfl, hly⟩ := hrel
                            have HLY := Go.Lib.hid hly
                            clear hly
                            by_cases hlt : i < n
                            · skip
                              obtain ⟨x, hx⟩ : ∃ x, L[i]? = some x := ⟨_, List.getElem?_eq_getElem (by rw [HLN.out]; exact hlt)⟩
                              have hdx : d[i]? = some x.1 := by rw [← HD.out, List.getElem?_map, hx]; rfl
                              obtain ⟨ab, ao, rfl, hcell⟩ := (HA.out.chg HLY.out.im.chg fun _ _ => id).flat (by rw [allCells_len, HLN.out]; omega)
                              have hq : ∀ k u, k < 8 → (obArr x.1 x.2)[k]? = some u → wr.cell? ⟨ab, ao + i * 8 + k, none⟩ = some u := fun k u hk hu => by
                                have := hcell (i * 8 + k) u ((allCells_get L i x hx k hk).trans hu)
                                rwa [← Nat.add_assoc] at this
                              obtain ⟨ob, oa⟩ := x
                              have x0 : wr.cell? ⟨ab, ao + i * 8, none⟩ = some (.string ob.name) := hq 0 _ (by omega) rfl
                              have x1 : wr.cell? ⟨ab, ao + i * 8 + 1, none⟩ = some (.int .u32 ob.key) := hq 1 _ (by omega) rfl
                              have x2 : wr.cell? ⟨ab, ao + i * 8 + 2, none⟩ = some (.slice oa.iA ob.imps.length oa.ic) := hq 2 _ (by omega) rfl
                              have x3 : wr.cell? ⟨ab, ao + i * 8 + 3, none⟩ = some (.int .i64 ob.vars) := hq 3 _ (by omega) rfl
                              have x4 : wr.cell? ⟨ab, ao + i * 8 + 4, none⟩ = some (.slice oa.tA ob.text.length oa.tc) := hq 4 _ (by omega) rfl
                              have x5 : wr.cell? ⟨ab, ao + i * 8 + 5, none⟩ = some (.slice oa.cA ob.code.length oa.cc) := hq 5 _ (by omega) rfl
                              have x6 : wr.cell? ⟨ab, ao + i * 8 + 6, none⟩ = some (.slice oa.eA ob.ents.length oa.ec) := hq 6 _ (by omega) rfl
                              have x7 : wr.cell? ⟨ab, ao + i * 8 + 7, none⟩ = some (.slice oa.fA ob.fixs.length oa.fc) := hq 7 _ (by omega) rfl
                              have HX : Hid (d[i]? = some ob) := Go.Lib.hid hdx
                              have HOB : Hid (ObIs W ob oa) := Go.Lib.hid (HO.out _ (List.mem_of_getElem? hx))
                              have HMAY : Hid (MayP ob) := Go.Lib.hid (HL.out.may ob (List.mem_of_getElem? hdx))
                              clear hcell hq hx hdx
                              go_upto_region 43 with fail
                              clear x0 x1 x2 x3 x4 x5 x6 x7
                              obtain ⟨w1, hw1⟩ : ∃ w, wr.alloc (.cells #[.string ob.name, .int .u32 ob.key, .slice oa.iA ob.imps.length oa.ic, .int .i64 ob.vars, .slice oa.tA ob.text.length oa.tc, .slice oa.cA ob.code.length oa.cc, .slice oa.eA ob.ents.length oa.ec, .slice oa.fA ob.fixs.length oa.fc] OT) = w := ⟨_, rfl⟩
                              have HC1 : Hid (Chg NoB wr w1) := Go.Lib.hid (by rw [← hw1]; exact (Chg.refl NoB wr).alloc _)
                              have HB7 : Hid (Blk w1 wr.heap.size OT (obArr ob oa)) := Go.Lib.hid (by rw [← hw1]; exact Blk.new wr OT _)
                              rw [hw1]
                              clear hw1
                              obtain ⟨b20, h7⟩ : ∃ b, wr.heap.size = b := ⟨_, rfl⟩
                              have H7 : Hid (wr.heap.size ≤ b20 ∧ b20 < w1.heap.size) := Go.Lib.hid ⟨by omega, by have := HB7.out.lt; omega⟩
                              rw [h7] at HB7 ⊢
                              clear h7
                              have HL1 := Go.Lib.hid (HLY.out.quiet HC1.out)
                              have hwl : (ws1 ++ dataW (d.take i)).length ≤ 82000000 := by
                                have h1 := dataW_len (d.take i) wc fun o ho => ⟨(HL.out.may o (List.mem_of_mem_take ho)).v4, (HL.out.may o (List.mem_of_mem_take ho)).t4⟩
                                have h2 := HDE.out i
                                rw [List.length_append, HWL.out]
                                omega
                              have HT : Hid (ws1 ++ dataW (d.take (i + 1)) = (ws1 ++ dataW (d.take i)) ++ List.replicate (ob.vars.toNat / 4) 0 ++ wordsOf ob.text) := Go.Lib.hid (by
                                rw [take_succ_some HX.out, dataW_app]
                                simp)
                              have HOB1 := Go.Lib.hid (HOB.out.quiet HL1.out.im.chg)
                              obtain ⟨vn, hvn⟩ : ∃ v : Nat, ob.vars = (v : Int) := ⟨ob.vars.toNat, by have := HMAY.out.v0; omega⟩
                              obtain ⟨vq, hvq⟩ : ∃ k, vn / 4 = k := ⟨_, rfl⟩
                              have hvb : vn ≤ 262144 := by have := HMAY.out.vt; omega
                              have hdv : (vn : Int).tdiv 4 = (vq : Int) := by rw [Int.tdiv_eq_ediv_of_nonneg (by omega)]; omega
                              have hdv2 : (vn : Int) / 4 = (vq : Int) := by omega
                              have hvqb : vq ≤ 65536 := by omega
                              have HVQ : Hid (ob.vars.toNat / 4 = vq) := Go.Lib.hid (by rw [hvn]; simpa using hvq)
                              have e4 : w1.cell? ⟨b20, 4, none⟩ = some (.slice oa.tA ob.text.length oa.tc) := HB7.out.cell 4
                              have HLN2 : Hid ((ws1 ++ dataW (d.take i)).length ≤ 82000000 ∧ vq ≤ 65536) := Go.Lib.hid ⟨hwl, hvqb⟩
                              rw [HVQ.out] at HT
                              generalize (ws1 ++ dataW (d.take i)) = ws at *
                              have HVN := Go.Lib.hid hvn
                              clear hwl hvn hvq
                              go_wp2_with fail
                              refine (wordOf_c HOB1.out.text HMAY.out.t4 HMAY.out.tl HOB1.out.tcap).mono ?_
                              rintro e w3 ⟨Aw, cw3, rfl, hcw, hfr, hc3⟩
                              have HL3 := Go.Lib.hid (HL1.out.quiet hc3)
                              have HB3 := Go.Lib.hid (HB7.out.chg hc3 id)
                              have HCW := Go.Lib.hid hcw
                              have HFR := Go.Lib.hid hfr
                              obtain ⟨wl, hwl⟩ : ∃ k, (wordsOf ob.text).length = k := ⟨_, rfl⟩
                              have hwlb : wl ≤ 2048 := by
                                have h1 := HMAY.out.t4
                                have h2 := HMAY.out.tl
                                rw [wordsOf_len (ob.text.length / 4) ob.text (by omega)] at hwl
                                omega
                              have HWW := Go.Lib.hid hwl
                              rw [hwl]
                              clear hcw hc3 hfr e4 hwl
                              have e3 : w3.cell? ⟨b20, 3, none⟩ = some (.int .i64 vn) := by rw [← HVN.out]; exact HB3.out.cell 3
                              have e0 : w3.cell? ⟨ib, 0, none⟩ = some wv := HL3.out.im.box.cell 0
                              go_upto_region 45 with (at_builtin; go_must (refine wpList_zerosB _ rfl (.tmp 163) (.tmp 166) _ _ rfl W.heap.size U32T u0 (.int .u32 0) .i64 Try.underlying33 Try.underlying3 Hu.out.1 Hu.out.2.1 Hu.out.2.2.1 4 Hu.out.2.2.2 rfl rfl wv (List.length ws) (codeCells ws) (by rfl) HL3.out.im.row .i64 vq (by rfl) (by have := HLN2.out; omega) (by have := HLN2.out; omega) HL3.out.im.chg.size ?_); go_must (
                                intro v7 w7 own7 gr7
                                obtain ⟨A7, c7, rfl⟩ := own_slice own7
                                have hp := HL3.out.pushW (m := List.replicate vq 0) (by rw [List.length_replicate]; simpa [codeCells] using own7) gr7 (by intro z hz; rw [(List.mem_replicate.1 hz).2]; decide)
                                have HP := Go.Lib.hid hp
                                have hbi : Blk w7 ib IMT #[wv, .slice Am n cm] := HL3.out.im.box.grown gr7 (fun e => own_blk_ne HL3.out.im.row HL3.out.im.box (by decide) e.symm)
                                have m0 : w7.cell? ⟨ib, 0, none⟩ = some wv := hbi.cell 0
                                have mf : w7.frozen? ⟨ib, 0, none⟩ = false := hbi.frozen 0
                                have hch : Chg (fun k => k < w1.heap.size) w3 w7 := (Chg.refl _ w3).grown gr7 (fun k hk _ => by
                                  obtain ⟨cs, fr, h1⟩ := own_tag HL1.out.im.row hk
                                  exact (Array.getElem?_eq_some_iff.1 h1).1)
                                have HCH := Go.Lib.hid (hch.setCell (p := ⟨ib, 0, none⟩) (fun _ => HL1.out.im.box.lt) (.slice A7 (List.length ws + vq) c7))
                                clear own7 gr7 hp hbi e3 e0 hch))
                              clear m0 mf
                              have HL8 : Hid (LyI W (w7.setCell ⟨ib, 0, none⟩ (.slice A7 (List.length ws + vq) c7)) rb ib (.slice A7 (List.length ws + vq) c7) (.slice Am n cm) (ws ++ List.replicate vq 0) l) := HP
                              have HC8 : Hid (CellsAt (w7.setCell ⟨ib, 0, none⟩ (.slice A7 (List.length ws + vq) c7)) Aw (codeCells (wordsOf ob.text))) := Go.Lib.hid (HCW.out.chg HCH.out fun ad ha hk => by have := HFR.out ad ha; omega)
                              have HWS : Hid ((ws ++ List.replicate vq 0).length = ws.length + vq) := Go.Lib.hid (by simp)
                              clear HP HCH HCW HFR
                              obtain ⟨w8, hw8⟩ : ∃ w, w7.setCell ⟨ib, 0, none⟩ (.slice A7 (List.length ws + vq) c7) = w := ⟨_, rfl⟩
                              rw [hw8] at HL8 HC8 ⊢
                              clear hw8
                              generalize (Value.slice A7 (List.length ws + vq) c7) = wv8 at *
                              obtain ⟨ws8, hws8⟩ : ∃ k, ws ++ List.replicate vq 0 = k := ⟨_, rfl⟩
                              rw [hws8] at HL8 HT HWS
                              clear hws8
                              have e0 : w8.cell? ⟨ib, 0, none⟩ = some wv8 := HL8.out.im.box.cell 0
                              go_wp2_with (at_builtin; go_must (refine wpList_appK _ rfl (.tmp 170) (.tmp 171) _ rfl W.heap.size U32T u0 (.int .u32 0) 1 4 Try.underlying33 Hu.out.1 Hu.out.2.1 Hu.out.2.2.1 Hu.out.2.2.2 rfl (by decide) wv8 (List.length ws8) (codeCells ws8) (by rfl) HL8.out.im.row Aw wl cw3 (codeCells (wordsOf ob.text)) (by rfl) (by rw [cc_len1, HWW.out]) HC8.out (cc_one _) (by have := HLN2.out; have := HWS.out; unfold maxLen; omega) (by have := HLN2.out; have := HWS.out; omega) HL8.out.im.chg.size ?_); go_must (
                                intro v9 w9 own9 gr9 _
                                obtain ⟨A9, c9, rfl⟩ := own_slice own9
                                have hp := HL8.out.pushW (m := wordsOf ob.text) (by rw [HWW.out]; exact own9) gr9 (wordsOf_lt _)
                                have HP := Go.Lib.hid hp
                                have hbi : Blk w9 ib IMT #[wv8, .slice Am n cm] := HL8.out.im.box.grown gr9 (fun e => own_blk_ne HL8.out.im.row HL8.out.im.box (by decide) e.symm)
                                have m0 : w9.cell? ⟨ib, 0, none⟩ = some wv8 := hbi.cell 0
                                have mf : w9.frozen? ⟨ib, 0, none⟩ = false := hbi.frozen 0
                                clear own9 gr9 hp hbi e0))
                              go_roundw
                              case rel => exact ⟨i + 1, _, by omega, by go_num, by rw [HT.out]; exact HP.out⟩
                              case measure => simp [intOf]; omega
                            · obtain rfl : i = n := by omega
                              have hly := HLY.out
                              rw [HTK.out] at hly
                              obtain ⟨wA, wcc, rfl⟩ := own_slice hly.im.row
                              have HLY := Go.Lib.hid hly
                              clear hly
                              obtain ⟨wl, hwl⟩ : ∃ k, (ws1 ++ dataW d).length = k := ⟨_, rfl⟩
                              rw [hwl] at HLY
                              have HWLL := Go.Lib.hid hwl
                              clear hwl
                              have HRB := Go.Lib.hid HLY.out.rbx
                              have e0 : wr.cell? ⟨ib, 0, none⟩ = some (.slice wA wl wcc) := HLY.out.im.box.cell 0
                              have e1 : wr.cell? ⟨ib, 1, none⟩ = some (.slice Am i cm) := HLY.out.im.box.cell 1
                              go_wp2_with (refine wpList_store_row rfl IMT (.tmp 2) (.tmp 175) rfl rb #[.slice wA wl wcc, .slice Am i cm] rfl rfl IMT #[.slice none 0 0, .slice none 0 0] HRB.out (by kernel_rfl) (by rfl) (by kernel_rfl) ?_)
                              refine bodyPost_ret (results_cellTmp rfl _ _ rfl rfl (HRB.out.rowSet #[.slice wA wl wcc, .slice Am i cm]) Try.underlying36 rfl (by kernel_rfl)) rfl ?_
                              have hcr : Chg (fun k => k = rb) wr (wr.setRow rb #[.slice wA wl wcc, .slice Am i cm]) := (Chg.refl (fun k => k = rb) wr).rowSet (fun _ => rfl) _
                              refine ⟨HLY.out.im.chg.rowSet (fun h => absurd h (by have := HLY.out.rlo; omega)) _, ?_⟩
                              have himg : imgP haltW d = .inr ⟨ws1 ++ dataW d, placed d⟩ := by
                                unfold imgP
                                rw [show jumps (placed d) 0 ++ haltW ++ d.flatMap (·.code) = base0 haltW d from rfl, HFB.out]
                                simp only
                                rw [HEND.out, if_neg hbig]
                              rw [himg]
                              refine ⟨.slice wA wl wcc, .slice Am i cm, l, HPD.out, rfl, ?_, ?_, fun x hx => ?_⟩
                              · exact own_chg HLY.out.im.row hcr fun k hk e => own_blk_ne HLY.out.im.row HRB.out (by decide) (by rw [← e]; exact hk)
                              · rw [HLL.out]
                                have h1 := own_chg HLY.out.im.mods hcr fun k hk e => own_blk_ne HLY.out.im.mods HRB.out (by decide) (by rw [← e]; exact hk)
                                rw [HLL.out] at h1
                                exact h1
                              · exact (HLY.out.im.ent x hx).off hcr (off_blk HRB.out (by decide))
end Go.Proofs.Yteleglkoagnmcaa
