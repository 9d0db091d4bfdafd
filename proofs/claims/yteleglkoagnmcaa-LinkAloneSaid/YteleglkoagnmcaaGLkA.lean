/- What is proved: link.Load tells a module's object, or the error that the plain function says. Conditions: the memory holds a store. · What is proved: slices.IndexFunc over objects with the closure of link.loaded. Conditions: the memory holds the row. · What is proved: what holds while modules are loaded: the boxes, the names that are open, the objects so far. Conditions: as each theorem says. · What is proved: the closure of link.loaded loads a module and what it needs, as the plain function says. Conditions: the memory is as LdI says, and the plain function's fuel is enough. -/
import Derived.Test.YteleglkoagnmcaaLkJ
import Derived.Test.YteleglkoagnmcaaLkB
import Derived.Test.YteleglkoagnmcaaStoreX0
import Derived.Test.YteleglkoagnmcaaStoreS
import Derived.Test.YteleglkoagnmcaaMaps
import Derived.WalkMore
set_option linter.unusedSimpArgs false
set_option linter.unusedVariables false
namespace Go.Proofs.Yteleglkoagnmcaa
open Go Go.RowKit
def getV (v : V) (nm : ByteArray) : Option (List UInt8) := if mayName nm = true then (lookD nm v.dir).map v.bytes else none
def LdPost (r : Int ⊕ Ob) (W : World) (e : Ending) (w' : World) : Prop :=
  Chg NoB W w' ∧ (match r with
    | .inl n => e = .returned (.tuple #[obVal ob0 oa0, .int .i64 n])
    | .inr o => ∃ a, e = .returned (.tuple #[obVal o a, .int .i64 0]) ∧ ObT w' o a)
section
variable {base : Nat} {w w0 : World} {s : Nat} {v : V} {F : Nat → Prop}
theorem StoreV.bytes_le (h : StoreV base w s v F) {nm : ByteArray} {n : Nat} (hl : lookD nm v.dir = some n) : (v.bytes n).length ≤ 67108864 := by
  obtain ⟨S, φ, h1, h2, _⟩ := h
  have hlt := h2.look_lt hl
  obtain ⟨A, c, hfl⟩ := h2.fl n hlt
  have hd := lookD_mem (show lookD nm S.dir = some (φ.getD n 0) by rw [h2.look, hl]; rfl)
  have hheld : φ.getD n 0 ∈ S.held := by
    unfold Sto.held
    exact List.mem_append.2 (.inl (List.mem_map.2 ⟨_, hd, rfl⟩))
  have := h1.len_le hheld
  have e : S.len (φ.getD n 0) = (v.bytes n).length := by
    unfold Sto.len
    rw [getD_lt hlt, hfl]
    rfl
  omega
theorem own_bytes {b : Nat} {A : Option Addr} {c : Nat} {l : List UInt8} (h : w.ownsRow b 5 1 (.slice A l.length c) l.length (bv l)) : A = none → l = [] ∧ c = 0 := fun hA => by
  rcases h.2 with ⟨h1, h2⟩ | ⟨g, cap, cur, h1, _⟩
  · injection h1 with h3 h4 h5
    exact ⟨List.eq_nil_of_length_eq_zero h2, h5⟩
  · injection h1 with h4
    rw [hA] at h4
    cases h4
theorem drop_nil (h : StoreV base w s v F) : Calls Try.prog 33 #[ptr s, .string ⟨#[]⟩] w fun e w' => e = .returned (.int .i64 2) ∧ Chg NoB w w' := by
  obtain ⟨S, φ, h1, h2, _⟩ := h
  exact (drop_no h1 (by show 0 ≤ maxLen; unfold maxLen; omega) (.inl ⟨by decide +kernel, rfl⟩)).mono fun e w' ⟨he, hc⟩ => ⟨he, hc⟩
theorem getno_q (h : StoreV base w s v F) {nm : ByteArray} (hsz : nm.size ≤ maxLen) (n : Nat) (hn : mayName nm = false ∧ n = 2 ∨ mayName nm = true ∧ lookD nm v.dir = none ∧ n = 6) :
    Calls Try.prog 35 #[ptr s, .string nm] w fun e w' => e = .returned (.tuple #[.slice none 0 0, .int .i64 n]) ∧ Chg NoB w w' := by
  obtain ⟨S, φ, h1, h2, _⟩ := h
  refine (get_no h1 hsz (n := (n : Int)) ?_).mono fun e w' ⟨he, hch⟩ => ⟨he, hch⟩
  rcases hn with ⟨a, b⟩ | ⟨a, b, c⟩
  · exact .inl ⟨a, by omega⟩
  · exact .inr ⟨a, by rw [h2.look, b]; rfl, by omega⟩
set_option maxRecDepth 100000 in
set_option maxHeartbeats 16000000 in
theorem load_c (h : StoreV base w0 s v F) {nm : ByteArray} (hn : nm.size + 2 ≤ maxLen) : Calls Try.prog 16 #[.pointer (some ⟨s, 0, none⟩), .string nm] w0 (LdPost (ldO (getV v) nm) w0) := by
  have HS := Go.Lib.hid h
  have HNm := Go.Lib.hid hn
  obtain ⟨wA, hwA⟩ : ∃ wA, w0.alloc (Obj.cells (obArr ob0 oa0) OT) = wA := ⟨_, rfl⟩
  have hCA : Chg NoB w0 wA := by rw [← hwA]; exact (Chg.refl NoB w0).alloc _
  have hBA : Blk wA w0.heap.size OT (obArr ob0 oa0) := by rw [← hwA]; exact Blk.new _ _ _
  have HA := Go.Lib.hid (And.intro hCA hBA)
  have HwA := Go.Lib.hid hwA
  have HD := Go.Lib.hid (drop_nil (HS.out.quiet HA.out.1))
  unfold ptr at HD
  clear h hn hCA hBA hwA
  go_enter Try.func16, Try.ntmps16
  go_wp2_with fail
  change Calls _ _ _ (w0.alloc (Obj.cells (obArr ob0 oa0) OT)) _
  rw [HwA.out]
  clear HwA
  refine HD.out.mono ?_
  rintro e w1 ⟨rfl, hc1⟩
  have HC1 := Go.Lib.hid hc1
  clear hc1 HD
  go_wp2_with fail
  refine (objName_c nm (by have := HNm.out; omega) w1).mono ?_
  rintro e w2 ⟨rfl, rfl⟩
  obtain ⟨nb, hnb⟩ : ∃ b, objName nm = b := ⟨_, rfl⟩
  rw [hnb]
  have HNB := Go.Lib.hid hnb
  clear hnb
  cases nb with
  | false =>
    have HE : Hid (ldO (getV v) nm = .inl 2) := Go.Lib.hid (by unfold ldO; rw [if_neg (by rw [HNB.out]; simp)])
    have HRB := Go.Lib.hid (HA.out.2.chg HC1.out id)
    go_wp2_with (refine wpList_store_row rfl OT (.tmp 4) (.tmp 18) rfl w0.heap.size (obArr ob0 oa0) rfl rfl OT (obArr ob0 oa0) HRB.out (by kernel_rfl) (by rfl) (by kernel_rfl) ?_)
    refine bodyPost_ret (results_cellTmp rfl _ _ rfl rfl (HRB.out.rowSet (obArr ob0 oa0)) Try.underlying50 rfl (by kernel_rfl)) rfl ?_
    exact ⟨(HA.out.1.trans HC1.out).rowSet (fun h => absurd h (by omega)) _, by rw [HE.out]; rfl⟩
  | true =>
    go_wp2_with fail
    refine (objFile_c nm HNm.out w1).mono ?_
    rintro e w2 ⟨rfl, rfl⟩
    obtain ⟨fn, hfn⟩ : ∃ f, nm ++ (⟨#[46, 111]⟩ : ByteArray) = f := ⟨_, rfl⟩
    have hfs : fn.size ≤ maxLen := by
      rw [← hfn]
      have : (nm ++ (⟨#[46, 111]⟩ : ByteArray)).size = nm.size + 2 := by simp [ByteArray.size_append]; rfl
      have := HNm.out
      omega
    rw [hfn]
    have HFN := Go.Lib.hid hfn
    clear hfn
    go_wp2_with fail
    have hno : getV v fn = none → ldO (getV v) nm = .inl 6 := fun hg => by
      unfold ldO
      rw [if_pos HNB.out]
      unfold fileO
      rw [HFN.out, hg]
    have HNO := Go.Lib.hid hno
    clear hno
    by_cases hmn : mayName fn = true
    · cases hlk : lookD fn v.dir with
      | none =>
        have HE : Hid (ldO (getV v) nm = .inl 6) := Go.Lib.hid (HNO.out (by unfold getV; rw [if_pos hmn, hlk]; rfl))
        refine (getno_q (HS.out.quiet (HA.out.1.trans HC1.out)) hfs 6 (.inr ⟨hmn, hlk, rfl⟩)).mono ?_
        rintro e w2 ⟨rfl, hc2⟩
        have HC2 := Go.Lib.hid (HC1.out.trans hc2)
        clear hc2 hmn hlk
        have HRB := Go.Lib.hid (HA.out.2.chg HC2.out id)
        go_wp2_with (refine wpList_store_row rfl OT (.tmp 4) (.tmp 28) rfl w0.heap.size (obArr ob0 oa0) rfl rfl OT (obArr ob0 oa0) HRB.out (by kernel_rfl) (by rfl) (by kernel_rfl) ?_)
        refine bodyPost_ret (results_cellTmp rfl _ _ rfl rfl (HRB.out.rowSet (obArr ob0 oa0)) Try.underlying50 rfl (by kernel_rfl)) rfl ?_
        exact ⟨(HA.out.1.trans HC2.out).rowSet (fun h => absurd h (by omega)) _, by rw [HE.out]; rfl⟩
      | some fnum =>
        have hget : getV v fn = some (v.bytes fnum) := by unfold getV; rw [if_pos hmn, hlk]; rfl
        have HST := HS.out.quiet (HA.out.1.trans HC1.out)
        have hbl := HS.out.bytes_le hlk
        refine (get_v HST hfs hmn hlk).mono ?_
        rintro e w2 ⟨A2, c2, rfl, own2, _, hc2⟩
        have HOF := Go.Lib.hid (of_c (w0 := w2) (A0 := A2) (c0 := c2) (l := v.bytes fnum) (by omega) (own_bytes own2) (CellsAt.of_own own2))
        have HC2 := Go.Lib.hid (HC1.out.trans hc2)
        have HLD : Hid (ldO (getV v) nm = match ofO (v.bytes fnum) with | none => .inl 4 | some o => if o.name = nm then .inr o else .inl 4) := Go.Lib.hid (by
          unfold ldO
          rw [if_pos HNB.out]
          unfold fileO
          rw [HFN.out, hget]
          rfl)
        generalize v.bytes fnum = bl at *
        clear hc2 own2 hmn hlk hget HST hbl
        go_wp2_with fail
        refine HOF.out.mono ?_
        rintro e w3 ⟨hc3, ⟨ho, rfl⟩ | ⟨o, a, ho, rfl, hT⟩⟩
        · have HE : Hid (ldO (getV v) nm = .inl 4) := Go.Lib.hid (by rw [HLD.out, ho])
          generalize hov : obVal ob0 oa0 = ov
          obtain ⟨oz, az, rfl⟩ : ∃ oz az, ov = obVal oz az := ⟨_, _, hov.symm⟩
          have HC3 := Go.Lib.hid ((HC2.out.trans hc3).alloc (Obj.cells (obArr oz az) OT))
          clear hc3 ho HOF hov
          unfold obVal obArr
          unfold obArr at HC3
          have HRB := Go.Lib.hid (HA.out.2.chg HC3.out id)
          go_wp2_with (refine wpList_store_row rfl OT (.tmp 4) (.tmp 42) rfl w0.heap.size (obArr ob0 oa0) rfl rfl OT (obArr ob0 oa0) HRB.out (by kernel_rfl) (by rfl) (by kernel_rfl) ?_)
          refine bodyPost_ret (results_cellTmp rfl _ _ rfl rfl (HRB.out.rowSet (obArr ob0 oa0)) Try.underlying50 rfl (by kernel_rfl)) rfl ?_
          exact ⟨(HA.out.1.trans HC3.out).rowSet (fun h => absurd h (by omega)) _, by rw [HE.out]; rfl⟩
        · have hC3 := (HC2.out.trans hc3)
          have hb8 := Blk.new w3 OT (obArr o a)
          have HC3 := Go.Lib.hid (hC3.alloc (Obj.cells (obArr o a) OT))
          have HT3 := Go.Lib.hid (hT.off ((Chg.refl NoB w3).alloc (Obj.cells (obArr o a) OT)) (fun t _ => off_no))
          have HB8 := Go.Lib.hid hb8
          clear hc3 hC3 hb8 hT HOF
          have HRB := Go.Lib.hid (HA.out.2.chg HC3.out id)
          unfold obVal
          generalize hww : w3.alloc (Obj.cells (obArr o a) OT) = ww at HC3 HT3 HB8 HRB
          unfold obArr at hww
          subst hww
          unfold obArr
          by_cases hnm : o.name = nm
          · have HE : Hid (ldO (getV v) nm = .inr o) := Go.Lib.hid (by rw [HLD.out, ho]; exact if_pos hnm)
            have hbe : (o.name.toList == nm.toList) = true := by rw [hnm]; simp
            clear hnm ho
            have HRB := Go.Lib.hid (HA.out.2.chg HC3.out id)
            go_wp2_with (refine wpList_store_row rfl OT (.tmp 4) (.tmp 43) rfl w0.heap.size (obArr o a) rfl rfl OT (obArr ob0 oa0) HRB.out (by kernel_rfl) (by rfl) (by kernel_rfl) ?_)
            refine bodyPost_ret (results_cellTmp rfl _ _ rfl rfl (HRB.out.rowSet (obArr o a)) Try.underlying50 rfl (by kernel_rfl)) rfl ?_
            refine ⟨(HA.out.1.trans HC3.out).rowSet (fun h => absurd h (by omega)) _, ?_⟩
            rw [HE.out]
            exact ⟨a, rfl, HT3.out.off (F := fun k => k = w0.heap.size) ((Chg.refl (fun k => k = w0.heap.size) _).rowSet (b := w0.heap.size) (fun _ => rfl) _) (fun t ht => off_blk HRB.out (by rcases ht with rfl | rfl | rfl | rfl | rfl <;> decide))⟩
          · have HE : Hid (ldO (getV v) nm = .inl 4) := Go.Lib.hid (by rw [HLD.out, ho]; exact if_neg hnm)
            have hbe : (o.name.toList == nm.toList) = false := by
              simp only [beq_eq_false_iff_ne, ne_eq]
              exact fun e => hnm (bytes_ext e)
            clear hnm ho
            have HRB := Go.Lib.hid (HA.out.2.chg HC3.out id)
            go_wp2_with (refine wpList_store_row rfl OT (.tmp 4) (.tmp 42) rfl w0.heap.size (obArr ob0 oa0) rfl rfl OT (obArr ob0 oa0) HRB.out (by kernel_rfl) (by rfl) (by kernel_rfl) ?_)
            refine bodyPost_ret (results_cellTmp rfl _ _ rfl rfl (HRB.out.rowSet (obArr ob0 oa0)) Try.underlying50 rfl (by kernel_rfl)) rfl ?_
            exact ⟨(HA.out.1.trans HC3.out).rowSet (fun h => absurd h (by omega)) _, by rw [HE.out]; rfl⟩
    · have HE : Hid (ldO (getV v) nm = .inl 6) := Go.Lib.hid (HNO.out (by unfold getV; rw [if_neg hmn]))
      refine (getno_q (HS.out.quiet (HA.out.1.trans HC1.out)) hfs 2 (.inl ⟨by simpa using hmn, rfl⟩)).mono ?_
      rintro e w2 ⟨rfl, hc2⟩
      have HC2 := Go.Lib.hid (HC1.out.trans hc2)
      clear hc2 hmn
      have HRB := Go.Lib.hid (HA.out.2.chg HC2.out id)
      go_wp2_with (refine wpList_store_row rfl OT (.tmp 4) (.tmp 28) rfl w0.heap.size (obArr ob0 oa0) rfl rfl OT (obArr ob0 oa0) HRB.out (by kernel_rfl) (by rfl) (by kernel_rfl) ?_)
      refine bodyPost_ret (results_cellTmp rfl _ _ rfl rfl (HRB.out.rowSet (obArr ob0 oa0)) Try.underlying50 rfl (by kernel_rfl)) rfl ?_
      exact ⟨(HA.out.1.trans HC2.out).rowSet (fun h => absurd h (by omega)) _, by rw [HE.out]; rfl⟩
end
end Go.Proofs.Yteleglkoagnmcaa
set_option linter.unusedSimpArgs false
set_option linter.unusedVariables false
namespace Go.Proofs.Yteleglkoagnmcaa
open Go Go.RowKit
set_option maxRecDepth 20000 in
set_option maxHeartbeats 4000000 in
theorem idxOb_c {W : World} {l : List (Ob × OA)} {A : Option Addr} {c : Nat} {p : Ob × OA → Bool} {cap : Value} (hcell : 0 < l.length → ∃ b o, A = some ⟨b, o, none⟩ ∧ ∀ (i : Nat) (x : Ob × OA), l[i]? = some x → ∀ W', Chg NoB W W' → W'.cell? ⟨b, o + i * 8, none⟩ = some (.string x.1.name) ∧ W'.cell? ⟨b, o + i * 8 + 1, none⟩ = some (.int .u32 x.1.key) ∧ W'.cell? ⟨b, o + i * 8 + 2, none⟩ = some (.slice x.2.iA x.1.imps.length x.2.ic) ∧ W'.cell? ⟨b, o + i * 8 + 3, none⟩ = some (.int .i64 x.1.vars) ∧ W'.cell? ⟨b, o + i * 8 + 4, none⟩ = some (.slice x.2.tA x.1.text.length x.2.tc) ∧ W'.cell? ⟨b, o + i * 8 + 5, none⟩ = some (.slice x.2.cA x.1.code.length x.2.cc) ∧ W'.cell? ⟨b, o + i * 8 + 6, none⟩ = some (.slice x.2.eA x.1.ents.length x.2.ec) ∧ W'.cell? ⟨b, o + i * 8 + 7, none⟩ = some (.slice x.2.fA x.1.fixs.length x.2.fc)) (hn : l.length ≤ 9223372036854775807)
    (hf : ∀ W', Chg NoB W W' → ∀ x : Ob × OA, Calls Try.prog 61 #[.agg #[.string x.1.name, .int .u32 x.1.key, .slice x.2.iA x.1.imps.length x.2.ic, .int .i64 x.1.vars, .slice x.2.tA x.1.text.length x.2.tc, .slice x.2.cA x.1.code.length x.2.cc, .slice x.2.eA x.1.ents.length x.2.ec, .slice x.2.fA x.1.fixs.length x.2.fc], cap] W' (Quiet (.bool (p x)) W')) :
    Calls Try.prog 60 #[.slice A l.length c, .func (.func 61) #[] #[cap]] W (IdxPost p l W) := by
  have HL := Go.Lib.hid hcell
  have HF := Go.Lib.hid hf
  obtain ⟨n, hnl⟩ : ∃ n, l.length = n := ⟨_, rfl⟩
  have HE := Go.Lib.hid hnl
  rw [hnl] at hn HL ⊢
  clear hcell hf hnl
  go_enter Try.func60, Try.ntmps60
  go_wp2_with fail
  go_loopw [8] (fun v8 wr => ∃ i : Nat, i ≤ n ∧ v8 = .int .i64 i ∧ (∀ (j : Nat) y, j < i → l[j]? = some y → p y = false) ∧ Chg NoB W wr) (fun v8 _ => n - (intOf v8).toNat)
  case atStart => exact ⟨0, Nat.zero_le _, rfl, fun j y h => by omega, Chg.refl _ _⟩
  case round =>
    obtain ⟨i, hi, rfl, hun, hc⟩ := hrel
    have HC := Go.Lib.hid hc
    have HU := Go.Lib.hid hun
    clear hc hun
    by_cases hlt : i < n
    · obtain ⟨b, o, rfl, hcell⟩ := HL.out (by omega)
      obtain ⟨x, hx⟩ : ∃ x, l[i]? = some x := ⟨_, List.getElem?_eq_getElem (by rw [HE.out]; exact hlt)⟩
      have hxc := hcell i x hx wr HC.out
      obtain ⟨hx0, hx1, hx2, hx3, hx4, hx5, hx6, hx7⟩ := hxc
      have HX := Go.Lib.hid hx
      have HQ := Go.Lib.hid (HF.out wr HC.out x)
      clear hcell hx
      obtain ⟨bb, hbb⟩ : ∃ bb, p x = bb := ⟨_, rfl⟩
      have HBB := Go.Lib.hid hbb
      rw [hbb] at HQ
      clear hbb
      go_wp2_with fail
      refine HQ.out.mono ?_
      rintro e w1 ⟨rfl, hc⟩
      have HC2 := Go.Lib.hid (HC.out.trans hc)
      clear hc
      cases bb with
      | true =>
        go_wp2_with fail
        go_ret
        exact ⟨HC2.out, .inl ⟨i, x, HX.out, HBB.out, HU.out, rfl⟩⟩
      | false =>
        go_wp2_with fail
        go_roundw
        case rel => exact ⟨i + 1, by omega, by go_num, fun j y hj hy => by
          rcases Nat.lt_or_ge j i with h | h
          · exact HU.out j y h hy
          · obtain rfl : j = i := by omega
            rw [HX.out] at hy
            injection hy with hy
            rw [← hy]
            exact HBB.out, HC2.out⟩
        case measure => simp [intOf]; omega
    · obtain rfl : i = n := by omega
      go_wp2_with fail
      go_ret
      exact ⟨HC.out, .inr ⟨fun y hy => by
        obtain ⟨j, hj⟩ := List.mem_iff_getElem?.1 hy
        exact HU.out j y (by have := (List.getElem?_eq_some_iff.1 hj).1; rw [HE.out] at this; exact this) hj, rfl⟩⟩
section
variable {W : World}
theorem obEq_c {xb : Nat} {nm : ByteArray} (h : W.cell? ⟨xb, 0, none⟩ = some (.string nm)) (x : Ob × OA) : Calls Try.prog 61 #[.agg #[.string x.1.name, .int .u32 x.1.key, .slice x.2.iA x.1.imps.length x.2.ic, .int .i64 x.1.vars, .slice x.2.tA x.1.text.length x.2.tc, .slice x.2.cA x.1.code.length x.2.cc, .slice x.2.eA x.1.ents.length x.2.ec, .slice x.2.fA x.1.fixs.length x.2.fc], .pointer (some ⟨xb, 0, none⟩)] W (Quiet (.bool (decide (x.1.name = nm))) W) := by
  have hq := fun ob => keepQ ((Chg.refl NoB W).alloc ob) h
  rw [← eq_bytes]
  go_enter Try.func61, Try.ntmps61
  go_wp2_with fail
  go_ret
  exact ⟨rfl, (Chg.refl NoB W).alloc _⟩
def allCells (l : List (Ob × OA)) : List Value := l.flatMap fun x => (obArr x.1 x.2).toList
theorem allCells_len : ∀ l : List (Ob × OA), (allCells l).length = l.length * 8
  | [] => rfl
  | x :: l => by
    have := allCells_len l
    simp only [allCells, List.flatMap_cons, List.length_append, List.length_cons] at this ⊢
    rw [this]
    simp [obArr]
    omega
theorem allCells_get : ∀ (l : List (Ob × OA)) (i : Nat) (x : Ob × OA), l[i]? = some x → ∀ k, k < 8 → (allCells l)[i * 8 + k]? = (obArr x.1 x.2)[k]?
  | [], i, x, h, _, _ => by simp at h
  | y :: l, 0, x, h, k, hk => by
    simp at h
    subst h
    simp only [allCells, List.flatMap_cons, Nat.zero_mul, Nat.zero_add]
    rw [List.getElem?_append_left (by simpa [obArr] using hk)]
    simp
  | y :: l, i + 1, x, h, k, hk => by
    have := allCells_get l i x (by simpa using h) k hk
    simp only [allCells, List.flatMap_cons] at this ⊢
    rw [List.getElem?_append_right (by simp [obArr]; omega), ← this]
    congr 1
    simp [obArr]
    omega
theorem find_c {l : List (Ob × OA)} {A : Option Addr} {c xb : Nat} {nm : ByteArray} (h : W.cell? ⟨xb, 0, none⟩ = some (.string nm)) (hl : CellsAt W A (allCells l)) (hn : l.length ≤ 9223372036854775807) :
    Calls Try.prog 60 #[.slice A l.length c, .func (.func 61) #[] #[.pointer (some ⟨xb, 0, none⟩)]] W (IdxPost (fun x => decide (x.1.name = nm)) l W) :=
  idxOb_c (fun h0 => by
    obtain ⟨b, o, h1, h2⟩ := hl.flat (by rw [allCells_len]; omega)
    refine ⟨b, o, h1, fun i x hx W' hW => ?_⟩
    have hg := allCells_get l i x hx
    have hq : ∀ k u, k < 8 → (obArr x.1 x.2)[k]? = some u → W'.cell? ⟨b, o + i * 8 + k, none⟩ = some u := fun k u hk hu => keepQ hW (by have := h2 _ _ ((hg k hk).trans hu); rwa [← Nat.add_assoc] at this)
    exact ⟨hq 0 _ (by omega) rfl, hq 1 _ (by omega) rfl, hq 2 _ (by omega) rfl, hq 3 _ (by omega) rfl, hq 4 _ (by omega) rfl, hq 5 _ (by omega) rfl, hq 6 _ (by omega) rfl, hq 7 _ (by omega) rfl⟩) hn (fun W' hW y => obEq_c (keepQ hW h) y)
end
end Go.Proofs.Yteleglkoagnmcaa
set_option linter.unusedSimpArgs false
set_option linter.unusedVariables false
namespace Go.Proofs.Yteleglkoagnmcaa
open Go Go.RowKit
abbrev AT : TypeId := 45
abbrev STT : TypeId := 25
abbrev MT : TypeId := 118
abbrev LT : TypeId := 119
theorem oinfo : (Try.prog.info? OT).map (fun i => (i.zero, i.size, i.bytes)) = some (some (.agg #[.string ⟨#[]⟩, .int .u32 0, .slice none 0 0, .int .i64 0, .slice none 0 0, .slice none 0 0, .slice none 0 0, .slice none 0 0]), 8, 152) := by kernel_rfl
abbrev TV : Value := .agg #[.bool true]
def ents (l : List ByteArray) : List (ByteArray × Value) := l.map fun x => (x, TV)
theorem beq_ba (a b : ByteArray) : (a == b) = decide (a = b) := by
  by_cases h : a = b
  · rw [(MapKept.bytes_beq a b).2 h, decide_eq_true h]
  · rw [decide_eq_false h]
    cases hb : (a == b) with
    | false => rfl
    | true => exact absurd ((MapKept.bytes_beq a b).1 hb) h
theorem look_ents (k : ByteArray) : ∀ l : List ByteArray, (k ∈ l → lookS k (ents l) = some TV) ∧ (k ∉ l → lookS k (ents l) = none)
  | [] => ⟨fun h => by simp at h, fun _ => rfl⟩
  | x :: l => by
    have := look_ents k l
    unfold ents at this ⊢
    rw [List.map_cons]
    unfold lookS
    rw [beq_ba]
    by_cases h : k = x
    · rw [decide_eq_true h]
      exact ⟨fun _ => rfl, fun hn => absurd (by rw [h]; exact List.mem_cons_self ..) hn⟩
    · rw [decide_eq_false h]
      refine ⟨fun hm => this.1 ?_, fun hn => this.2 (fun hm => hn (List.mem_cons_of_mem _ hm))⟩
      rcases List.mem_cons.1 hm with h2 | h2
      · exact absurd h2 h
      · exact h2
theorem put_ents (k : ByteArray) : ∀ l : List ByteArray, k ∉ l → putS k TV (ents l) = ents (l ++ [k])
  | [], _ => rfl
  | x :: l, h => by
    have := put_ents k l (fun hm => h (List.mem_cons_of_mem _ hm))
    have hx : k ≠ x := fun e => h (by rw [e]; exact List.mem_cons_self ..)
    unfold ents at this ⊢
    rw [List.map_cons, List.cons_append, List.map_cons]
    unfold putS
    rw [this, beq_ba, decide_eq_false hx]
    rfl
theorem del_ents (k : ByteArray) : ∀ l : List ByteArray, k ∉ l → delS k (ents (l ++ [k])) = ents l
  | [], _ => by
    show (if (k == k) = true then _ else _) = _
    rw [beq_ba, decide_eq_true rfl]
    rfl
  | x :: l, h => by
    have := del_ents k l (fun hm => h (List.mem_cons_of_mem _ hm))
    have hx : k ≠ x := fun e => h (by rw [e]; exact List.mem_cons_self ..)
    unfold ents at this ⊢
    rw [List.cons_append, List.map_cons, List.map_cons]
    unfold delS
    rw [this, beq_ba, decide_eq_false hx]
    rfl
theorem lookD_mem_keys {nm : ByteArray} {n : Nat} {d : List (ByteArray × Nat)} (h : lookD nm d = some n) : nm ∈ d.map (·.1) := List.mem_map.2 ⟨_, lookD_mem h, rfl⟩
theorem file_inj {a b : ByteArray} (h : fileO a = fileO b) : a = b := by
  unfold fileO at h
  have h2 := congrArg (fun x : ByteArray => x.data.toList) h
  simp only [ByteArray.data_append, Array.toList_append] at h2
  exact ByteArray.ext (Array.ext' (List.append_cancel_right h2))
theorem nodup_le {α : Type} : ∀ (l m : List α), l.Nodup → (∀ x ∈ l, x ∈ m) → l.length ≤ m.length
  | [], _, _, _ => Nat.zero_le _
  | x :: l, m, h1, h2 => by
    obtain ⟨s, t, rfl⟩ := List.append_of_mem (h2 x (List.mem_cons_self ..))
    rw [List.nodup_cons] at h1
    have := nodup_le l (s ++ t) h1.2 (fun y hy => by
      have h3 := h2 y (List.mem_cons_of_mem _ hy)
      rw [List.mem_append, List.mem_cons] at h3
      rw [List.mem_append]
      rcases h3 with h3 | h3 | h3
      · exact .inl h3
      · exact absurd (h3 ▸ hy) h1.1
      · exact .inr h3)
    simp at this ⊢
    omega
theorem map_nodup {α β : Type} {f : α → β} (hf : ∀ a b, f a = f b → a = b) {l : List α} (h : l.Nodup) : (l.map f).Nodup := List.pairwise_map.2 (h.imp fun hne e => hne (hf _ _ e))
theorem StoreV.dir_le {base : Nat} {w : World} {s : Nat} {v : V} {F : Nat → Prop} (h : StoreV base w s v F) : v.dir.length ≤ 200 := by
  obtain ⟨S, φ, h1, h2, _⟩ := h
  have := h1.ndir
  have e := congrArg List.length h2.dir
  simp at e
  omega
/-- what a load changes -/
def FrA (ba m : Nat) (A : Option Addr) : Nat → Prop := fun k => k = ba ∨ k = m ∨ ∃ a, A = some a ∧ a.block = k
structure LdStep (ba m : Nat) (W W' : World) (A A' : Option Addr) : Prop where
  chg : Chg (FrA ba m A) W W'
  row : ∀ a', A' = some a' → (∃ a, A = some a ∧ a.block = a'.block) ∨ W.heap.size ≤ a'.block
theorem LdStep.trans {ba m : Nat} {W W1 W2 : World} {A A1 A2 : Option Addr} (h : LdStep ba m W W1 A A1) (k : LdStep ba m W1 W2 A1 A2) : LdStep ba m W W2 A A2 where
  chg := h.chg.step k.chg fun i hi hf => by
    rcases hf with h1 | h1 | ⟨a1, ha, hb⟩
    · exact .inl h1
    · exact .inr (.inl h1)
    · rcases h.row a1 ha with ⟨a, h2, h3⟩ | h2
      · exact .inr (.inr ⟨a, h2, h3.trans hb⟩)
      · omega
  row := fun a2 ha2 => by
    rcases k.row a2 ha2 with ⟨a1, h1, h2⟩ | h1
    · rcases h.row a1 h1 with ⟨a, h3, h4⟩ | h3
      · exact .inl ⟨a, h3, h4.trans h2⟩
      · exact .inr (by omega)
    · exact .inr (by have := h.chg.size; omega)
theorem LdStep.quiet {ba m : Nat} {W W1 : World} {A : Option Addr} (h : Chg NoB W W1) : LdStep ba m W W1 A A :=
  ⟨h.mono (fun _ _ hk => hk.elim), fun a ha => .inl ⟨a, ha, rfl⟩⟩
structure LdI (B0 sp bs ba m bo bl : Nat) (v : V) (F : Nat → Prop) (W : World) (done : List (Ob × OA)) (A : Option Addr) (c : Nat) (op : List ByteArray) : Prop where
  store : StoreV B0 W sp v F ∨ ∃ b, StoreV b W sp v F
  low : ∀ k, F k → k < B0
  bsq : Blk W bs STT #[.pointer (some ⟨sp, 0, none⟩)]
  baq : Blk W ba AT #[.slice A done.length c]
  boq : Blk W bo MT #[.map (some m)]
  blq : Blk W bl LT #[.func (.func 59) #[] #[.pointer (some ⟨ba, 0, none⟩), .pointer (some ⟨bs, 0, none⟩), .pointer (some ⟨bo, 0, none⟩), .pointer (some ⟨bl, 0, none⟩)]]
  mp : MapIs W m (strs (ents op))
  row : W.ownsRow B0 OT 8 (.slice A done.length c) done.length (allCells done)
  obs : ∀ x ∈ done, ObT W x.1 x.2
  lo : B0 ≤ bs ∧ B0 ≤ ba ∧ B0 ≤ bo ∧ B0 ≤ bl ∧ B0 ≤ m
  opn : op.Nodup
  opf : ∀ b ∈ op, ∃ x, lookD (fileO b) v.dir = some x
  dnn : (done.map (fun x => x.1.name)).Nodup
  dnf : ∀ x ∈ done, ∃ k, lookD (fileO x.1.name) v.dir = some k
  dis : ∀ x ∈ done, x.1.name ∉ op
section
variable {B0 sp bs ba m bo bl : Nat} {v : V} {F : Nat → Prop} {W W' : World} {done : List (Ob × OA)} {A : Option Addr} {c : Nat} {op : List ByteArray}
theorem LdI.st (h : LdI B0 sp bs ba m bo bl v F W done A c op) : ∃ b, StoreV b W sp v F := by
  rcases h.store with h | h
  · exact ⟨_, h⟩
  · exact h
theorem LdI.dlen (h : LdI B0 sp bs ba m bo bl v F W done A c op) : done.length ≤ 200 := by
  obtain ⟨b, hs⟩ := h.st
  have h1 : (done.map (fun x => fileO x.1.name)).length ≤ (v.dir.map (·.1)).length := nodup_le _ _ (by
    have := h.dnn
    rw [show done.map (fun x => fileO x.1.name) = (done.map (fun x => x.1.name)).map fileO from by rw [List.map_map]; rfl]
    exact map_nodup (fun a b e => file_inj e) this) (fun x hx => by
    obtain ⟨y, hy, rfl⟩ := List.mem_map.1 hx
    obtain ⟨k, hk⟩ := h.dnf y hy
    exact lookD_mem_keys hk)
  simp at h1
  have := hs.dir_le
  omega
theorem LdI.olen (h : LdI B0 sp bs ba m bo bl v F W done A c op) : op.length ≤ v.dir.length := by
  have h1 : (op.map fileO).length ≤ (v.dir.map (·.1)).length := nodup_le _ _ (map_nodup (fun a b e => file_inj e) h.opn) (fun x hx => by
    obtain ⟨y, hy, rfl⟩ := List.mem_map.1 hx
    obtain ⟨k, hk⟩ := h.opf y hy
    exact lookD_mem_keys hk)
  simpa using h1
theorem LdI.quiet (h : LdI B0 sp bs ba m bo bl v F W done A c op) (hc : Chg NoB W W') : LdI B0 sp bs ba m bo bl v F W' done A c op where
  store := by
    obtain ⟨b, hs⟩ := h.st
    exact .inr ⟨b, hs.quiet hc⟩
  low := h.low
  bsq := h.bsq.chg hc id
  baq := h.baq.chg hc id
  boq := h.boq.chg hc id
  blq := h.blq.chg hc id
  mp := h.mp.chg hc id
  row := own_chg h.row hc fun _ _ => id
  obs := fun x hx => (h.obs x hx).off hc fun _ _ => off_no
  lo := h.lo
  opn := h.opn
  opf := h.opf
  dnn := h.dnn
  dnf := h.dnf
  dis := h.dis
/-- blocks that a load leaves -/
theorem LdI.apart (h : LdI B0 sp bs ba m bo bl v F W done A c op) {k : Nat} {cs : Array Value} {t : TypeId} {fr : Nat × Nat} (hk : W.heap[k]? = some (.cells cs t fr)) (h1 : t ≠ AT) (h2 : t ≠ OT) : ¬ FrA ba m A k := by
  rintro (rfl | rfl | ⟨a, ha, rfl⟩)
  · have := h.baq
    unfold Blk at this
    rw [hk] at this
    injection this with this
    injection this with _ this
    exact h1 this
  · obtain ⟨es, cl, hm, _⟩ := h.mp
    rw [hk] at hm
    cases hm
  · obtain ⟨cs2, fr2, h3⟩ := own_tag' h.row ha
    rw [hk] at h3
    injection h3 with h3
    injection h3 with _ h3
    exact h2 h3
theorem ObT.chg' {o : Ob} {a : OA} (h : ObT W o a) {G : Nat → Prop} (hc : Chg G W W') (hF : ∀ k cs t fr, W.heap[k]? = some (.cells cs t fr) → (t = IT ∨ t = U8T ∨ t = U32T ∨ t = INT ∨ t = FT) → ¬ G k) : ObT W' o a := by
  have key : ∀ ad, (a.iA = some ad ∨ a.tA = some ad ∨ a.cA = some ad ∨ a.eA = some ad ∨ a.fA = some ad) → ¬ G ad.block := fun ad ha => by
    obtain ⟨cs, t, fr, h1, h2⟩ := h.tag ad ha
    exact hF _ _ _ _ h1 h2
  have hi := h.is_
  refine ⟨⟨hi.imps.chg hc fun ad ha => key ad (.inl ha), hi.text.chg hc fun ad ha => key ad (.inr (.inl ha)), hi.code.chg hc fun ad ha => key ad (.inr (.inr (.inl ha))), hi.ents.chg hc fun ad ha => key ad (.inr (.inr (.inr (.inl ha)))), hi.fixs.chg hc fun ad ha => key ad (.inr (.inr (.inr (.inr ha)))), hi.icap, hi.tcap, hi.ccap, hi.ecap, hi.fcap, hi.nm, hi.key, hi.vars, hi.inm, hi.cn, hi.en, hi.fn⟩, fun ad ha => ?_⟩
  obtain ⟨cs, t, fr, h1, h2⟩ := h.tag ad ha
  exact ⟨cs, t, fr, (hc.block _ (Array.getElem?_eq_some_iff.1 h1).1 (key ad ha)).trans h1, h2⟩
theorem LdI.ob (h : LdI B0 sp bs ba m bo bl v F W done A c op) {o : Ob} {a : OA} (ho : ObT W o a) (hc : Chg (FrA ba m A) W W') : ObT W' o a :=
  ho.chg' hc fun k cs t fr hk ht => h.apart hk (by rcases ht with rfl | rfl | rfl | rfl | rfl <;> decide) (by rcases ht with rfl | rfl | rfl | rfl | rfl <;> decide)
theorem LdI.box (h : LdI B0 sp bs ba m bo bl v F W done A c op) {g : Nat} {t : TypeId} {cs : Array Value} (hg : Blk W g t cs) (h1 : t ≠ AT) (h2 : t ≠ OT) (hc : Chg (FrA ba m A) W W') : Blk W' g t cs :=
  hg.chg hc (h.apart hg h1 h2)
/-- a block that is new is left as well -/
theorem LdI.fresh (h : LdI B0 sp bs ba m bo bl v F W done A c op) {g : Nat} (hg : W.heap.size ≤ g) : ¬ FrA ba m A g := by
  rintro (rfl | rfl | ⟨a, ha, rfl⟩)
  · have := h.baq.lt; omega
  · have := h.mp.lt; omega
  · obtain ⟨cs2, fr2, h3⟩ := own_tag' h.row ha
    have := (Array.getElem?_eq_some_iff.1 h3).1
    omega
/-- behind a change of the map of open names -/
theorem LdI.setM (h : LdI B0 sp bs ba m bo bl v F W done A c op) {op' : List ByteArray} (hm : MapIs W' m (strs (ents op'))) (hc : Chg (fun k => k = m) W W') (hn : op'.Nodup) (hf : ∀ b ∈ op', ∃ x, lookD (fileO b) v.dir = some x) (hd : ∀ x ∈ done, x.1.name ∉ op') : LdI B0 sp bs ba m bo bl v F W' done A c op' where
  store := by
    obtain ⟨b, hs⟩ := h.st
    exact .inr ⟨b, hs.chg hc fun k hk e => by have := h.low k hk; have := h.lo; omega⟩
  low := h.low
  bsq := h.bsq.chg hc fun e => h.mp.blk_ne h.bsq e.symm
  baq := h.baq.chg hc fun e => h.mp.blk_ne h.baq e.symm
  boq := h.boq.chg hc fun e => h.mp.blk_ne h.boq e.symm
  blq := h.blq.chg hc fun e => h.mp.blk_ne h.blq e.symm
  mp := hm
  row := own_chg h.row hc fun k hk e => h.mp.own_ne h.row (by rw [hk, e])
  obs := fun x hx => (h.obs x hx).chg' hc fun k cs t fr hk _ e => by
    subst e
    obtain ⟨es, cl, hm, _⟩ := h.mp
    rw [hk] at hm
    cases hm
  lo := h.lo
  opn := hn
  opf := hf
  dnn := h.dnn
  dnf := h.dnf
  dis := hd
theorem own_sl {base : Nat} {e : TypeId} {size n : Nat} {u : Value} {xs : List Value} (h : W.ownsRow base e size u (n + 1) xs) : ∃ A8 c8, u = .slice A8 (n + 1) c8 := by
  rcases h.2 with ⟨h1, h2⟩ | ⟨g, cap, cur, h1, _⟩
  · omega
  · exact ⟨_, _, h1⟩
/-- behind a module that is loaded -/
theorem LdI.push (h : LdI B0 sp bs ba m bo bl v F W done A c op) {o : Ob} {a : OA} (ho : ObT W o a) {A8 : Option Addr} {c8 : Nat} (own : W'.ownsRow B0 OT 8 (.slice A8 (done.length + 1) c8) (done.length + 1) (allCells done ++ (obArr o a).toList))
    (hc : Chg (fun k => (Value.slice A done.length c).ownBlock = some k) W W') (hat : (Value.slice A8 (done.length + 1) c8).ownBlock = (Value.slice A done.length c).ownBlock ∨ (Value.slice A8 (done.length + 1) c8).ownBlock = some (W.heap.size + 1))
    (hnd : ∀ x ∈ done, x.1.name ≠ o.name) (hno : o.name ∉ op) (hf : ∃ k, lookD (fileO o.name) v.dir = some k) :
    LdI B0 sp bs ba m bo bl v F (W'.setCell ⟨ba, 0, none⟩ (.slice A8 (done.length + 1) c8)) (done ++ [(o, a)]) A8 c8 op ∧ LdStep ba m W (W'.setCell ⟨ba, 0, none⟩ (.slice A8 (done.length + 1) c8)) A A8 := by
  have hlt : B0 ≤ ba := h.lo.2.1
  have hbaq := h.baq.chg hc fun e => own_blk_ne h.row h.baq (by decide) e
  have hblk : ∀ {g : Nat} {t : TypeId} {cs : Array Value}, Blk W g t cs → t ≠ OT → t ≠ AT → Blk (W'.setCell ⟨ba, 0, none⟩ (.slice A8 (done.length + 1) c8)) g t cs := fun hg h1 h2 =>
    (hg.chg hc fun e => own_blk_ne h.row hg (fun e => h1 e.symm) e).far (p := ⟨ba, 0, none⟩) (fun e => h.baq.ne_ hg (fun e => h2 e.symm) e.symm) _
  have hb : ∀ k, (Value.slice A done.length c).ownBlock = some k → ∃ ad, A = some ad ∧ ad.block = k := fun k hk => by
    rcases h.row.2 with ⟨h1, h2⟩ | ⟨g, cap, cur, h1, _⟩
    · injection h1 with h3
      rw [h3] at hk
      simp [Value.ownBlock] at hk
    · injection h1 with h3
      rw [h3] at hk
      refine ⟨_, h3, ?_⟩
      simpa [Value.ownBlock] using hk
  have hca : Chg (FrA ba m A) W (W'.setCell ⟨ba, 0, none⟩ (.slice A8 (done.length + 1) c8)) := (hc.mono (fun k _ hk => .inr (.inr (hb k hk)))).setCell (p := ⟨ba, 0, none⟩) (fun _ => .inl rfl) _
  have hset : Chg (fun k => k = ba) W' (W'.setCell ⟨ba, 0, none⟩ (.slice A8 (done.length + 1) c8)) := (Chg.refl (fun k => k = ba) W').setCell (p := ⟨ba, 0, none⟩) (fun _ => rfl) _
  refine ⟨⟨?_, h.low, hblk h.bsq (by decide) (by decide), ?_, hblk h.boq (by decide) (by decide), hblk h.blq (by decide) (by decide), ?_, ?_, ?_, h.lo, h.opn, h.opf, ?_, ?_, ?_⟩, hca, ?_⟩
  · obtain ⟨b, hs⟩ := h.st
    refine .inr ⟨b, (hs.chg hc fun k hk e => ?_).chg hset fun k hk e => by have := h.low k hk; omega⟩
    have h5 := h.low k hk
    rcases h.row.2 with ⟨h1, h2⟩ | ⟨g, cap, cur, h1, h6, _⟩
    · rw [h1] at e
      simp [Value.ownBlock] at e
    · rw [h1] at e
      have : g = k := by simpa [Value.ownBlock] using e
      omega
  · have := hbaq.set_ 0 (.slice A8 (done.length + 1) c8)
    simpa using this
  · exact (h.mp.chg hc fun e => h.mp.own_ne h.row e).chg hset fun e => by
      have h1 := h.mp.blk_ne h.baq
      exact h1 e
  · have e1 : allCells (done ++ [(o, a)]) = allCells done ++ (obArr o a).toList := by simp [allCells]
    rw [e1, show (done ++ [(o, a)]).length = done.length + 1 from by simp]
    exact own_chg own hset fun k hk e => own_blk_ne own hbaq (by decide) (by rw [hk, e])
  · intro x hx
    rcases List.mem_append.1 hx with hx | hx
    · exact h.ob (h.obs x hx) hca
    · rw [List.mem_singleton] at hx
      subst hx
      exact h.ob ho hca
  · rw [List.map_append, List.nodup_append]
    refine ⟨h.dnn, by simp, fun x hx y hy e => ?_⟩
    obtain ⟨z, hz, rfl⟩ := List.mem_map.1 hx
    simp at hy
    exact hnd z hz (by rw [← hy]; exact e)
  · intro x hx
    rcases List.mem_append.1 hx with hx | hx
    · exact h.dnf x hx
    · rw [List.mem_singleton] at hx
      subst hx
      exact hf
  · intro x hx
    rcases List.mem_append.1 hx with hx | hx
    · exact h.dis x hx
    · rw [List.mem_singleton] at hx
      subst hx
      exact hno
  · intro a8 ha8
    subst ha8
    have hob : ∃ k, (Value.slice (some a8) (done.length + 1) c8).ownBlock = some k ∧ k = a8.block := by
      rcases own.2 with ⟨h1, h2⟩ | ⟨g, cap, cur, h1, _⟩
      · omega
      · injection h1 with h3
        injection h3 with h3
        subst h3
        exact ⟨_, rfl, rfl⟩
    obtain ⟨k, hk, rfl⟩ := hob
    rcases hat with h1 | h1
    · exact .inl (hb _ (by rw [← h1]; exact hk))
    · rw [hk] at h1
      injection h1 with h1
      exact .inr (by omega)
end
end Go.Proofs.Yteleglkoagnmcaa
set_option linter.unusedSimpArgs false
set_option linter.unusedVariables false
namespace Go.Proofs.Yteleglkoagnmcaa
open Go Go.RowKit
abbrev STR : TypeId := 9
def LoadPost (B0 sp bs ba m bo bl : Nat) (v : V) (F : Nat → Prop) (busy : List ByteArray) (nm : ByteArray) (W : World) (A : Option Addr) (r : Int ⊕ List Ob) (e : Ending) (w' : World) : Prop :=
  match r with
  | .inl er => er ≠ 0 ∧ e = .returned (.tuple #[.int .u32 0, .int .i64 er]) ∧ Chg (FrA ba m A) W w'
  | .inr d => ∃ done' A' c' key, done'.map (·.1) = d ∧ e = .returned (.tuple #[.int .u32 (key : Nat), .int .i64 0]) ∧ (findO d nm).map (·.key) = some key ∧ LdI B0 sp bs ba m bo bl v F w' done' A' c' busy.reverse ∧ LdStep ba m W w' A A'
def LoadC (B0 sp bs ba m bo bl : Nat) (v : V) (F : Nat → Prop) (n : Nat) : Prop :=
  ∀ (W : World) (done : List (Ob × OA)) (A : Option Addr) (c : Nat) (busy : List ByteArray) (nm : ByteArray), LdI B0 sp bs ba m bo bl v F W done A c busy.reverse → nm ∉ busy → nm.size + 2 ≤ maxLen → v.dir.length < n + busy.length →
    Calls Try.prog 59 #[.string nm, .pointer (some ⟨ba, 0, none⟩), .pointer (some ⟨bs, 0, none⟩), .pointer (some ⟨bo, 0, none⟩), .pointer (some ⟨bl, 0, none⟩)] W (LoadPost B0 sp bs ba m bo bl v F busy nm W A (ldAll (getV v) n busy (done.map (·.1)) nm))
theorem findO_first {nm : ByteArray} {x : Ob × OA} : ∀ {l : List (Ob × OA)} {i : Nat}, l[i]? = some x → decide (x.1.name = nm) = true → (∀ (j : Nat) y, j < i → l[j]? = some y → decide (y.1.name = nm) = false) → findO (l.map (·.1)) nm = some x.1
  | [], i, h, _, _ => by simp at h
  | y :: l, 0, h, hx, _ => by
    simp at h
    subst h
    simp only [findO, List.map_cons, List.find?_cons, hx]
  | y :: l, i + 1, h, hx, hno => by
    have hy := hno 0 y (by omega) rfl
    have ih := findO_first (l := l) (i := i) (by simpa using h) hx (fun j z hj hz => hno (j + 1) z (by omega) (by simpa using hz))
    simp only [findO, List.map_cons, List.find?_cons, hy] at ih ⊢
    exact ih
theorem findO_none {nm : ByteArray} : ∀ {l : List (Ob × OA)}, (∀ y ∈ l, decide (y.1.name = nm) = false) → findO (l.map (·.1)) nm = none
  | [], _ => rfl
  | y :: l, h => by
    have hy := h y (List.mem_cons_self ..)
    have ih := findO_none (l := l) (fun z hz => h z (List.mem_cons_of_mem _ hz))
    simp only [findO, List.map_cons, List.find?_cons, hy] at ih ⊢
    exact ih
theorem ldO_ne {get : ByteArray → Option (List UInt8)} {nm : ByteArray} {er : Int} (h : ldO get nm = .inl er) : er ≠ 0 := by
  unfold ldO at h
  split at h
  · split at h
    · injection h with h; omega
    · split at h
      · injection h with h; omega
      · split at h
        · cases h
        · injection h with h; omega
  · injection h with h; omega
theorem ldO_ok {v : V} {nm : ByteArray} {o : Ob} (h : ldO (getV v) nm = .inr o) : o.name = nm ∧ mayO o = true ∧ ∃ k, lookD (fileO nm) v.dir = some k := by
  unfold ldO at h
  split at h
  · split at h
    · cases h
    · rename_i b hb
      split at h
      · cases h
      · rename_i o' ho
        split at h
        · rename_i hn
          injection h with h
          subst h
          refine ⟨hn, ?_, ?_⟩
          · unfold ofO at ho
            split at ho
            · simp only at ho
              split at ho
              · rename_i hq
                injection ho with ho
                rw [← ho]
                exact hq.2.2
              · cases ho
            · cases ho
          · unfold getV at hb
            split at hb
            · cases hl : lookD (fileO nm) v.dir with
              | none => rw [hl] at hb; cases hb
              | some k => exact ⟨k, rfl⟩
            · cases hb
        · cases h
  · cases h
theorem imp_small {o : Ob} (h : mayO o = true) {x : ByteArray × Nat} (hx : x ∈ o.imps) : x.1.size + 2 ≤ maxLen := by
  have h1 : impsOk o.name o.imps = true := by
    simp only [mayO, Bool.and_eq_true] at h
    exact h.1.1.1.1.1.1.1.1.1.1.1
  simp only [impsOk, Bool.and_eq_true, List.all_eq_true] at h1
  have h2 := (h1.1.1.1 x hx).1
  simp only [objName, Bool.and_eq_true, decide_eq_true_eq] at h2
  have := h2.2
  unfold maxLen
  omega
section
variable {B0 sp bs ba m bo bl : Nat} {v : V} {F : Nat → Prop}
set_option maxRecDepth 100000 in
theorem run_field_lk (b : Bool) (W : World) : (Instr.field 121 (.agg #[.bool b]) 0).run Try.prog W = .ok (.bool b) W := rfl
theorem LdI.look_in {W : World} {done : List (Ob × OA)} {A : Option Addr} {c : Nat} {op : List ByteArray} (h : LdI B0 sp bs ba m bo bl v F W done A c op) {s : ByteArray} (hs : s ∈ op) : (Instr.lookup MT (.map (some m)) (.string s) false).run Try.prog W = .ok (.agg #[.bool true]) W := by
  have := run_lookup_str (P := Try.prog) (t := MT) (k := 9) (z := .agg #[.bool false]) Try.underlying118 Try.underlying9 (by kernel_rfl) h.mp s
  rw [(look_ents s op).1 hs] at this
  exact this
theorem LdI.look_no {W : World} {done : List (Ob × OA)} {A : Option Addr} {c : Nat} {op : List ByteArray} (h : LdI B0 sp bs ba m bo bl v F W done A c op) {s : ByteArray} (hs : s ∉ op) : (Instr.lookup MT (.map (some m)) (.string s) false).run Try.prog W = .ok (.agg #[.bool false]) W := by
  have := run_lookup_str (P := Try.prog) (t := MT) (k := 9) (z := .agg #[.bool false]) Try.underlying118 Try.underlying9 (by kernel_rfl) h.mp s
  rw [(look_ents s op).2 hs] at this
  exact this
set_option maxRecDepth 100000 in
set_option maxHeartbeats 16000000 in
theorem load_step {n : Nat} (ih : LoadC B0 sp bs ba m bo bl v F n) : LoadC B0 sp bs ba m bo bl v F (n + 1) := by
  intro W done A c busy nm h hnb hsz hfu
  have IH := Go.Lib.hid ih
  have HB := Go.Lib.hid (And.intro hnb (And.intro hsz hfu))
  obtain ⟨w1, hw1⟩ : ∃ w1, W.alloc (Obj.cells #[.string nm] STR) = w1 := ⟨_, rfl⟩
  have hc1 : Chg NoB W w1 := by rw [← hw1]; exact (Chg.refl NoB W).alloc _
  have hb5 : Blk w1 W.heap.size STR #[.string nm] := by rw [← hw1]; exact Blk.new _ _ _
  have hlen := h.dlen
  have HI := Go.Lib.hid (h.quiet hc1)
  have HB5 := Go.Lib.hid hb5
  have HC1 := Go.Lib.hid hc1
  have HW1 := Go.Lib.hid hw1
  have HQ := Go.Lib.hid (LdStep.quiet (ba := ba) (m := m) (A := A) hc1)
  obtain ⟨n0, hn0⟩ : ∃ n0, done.length = n0 := ⟨_, rfl⟩
  rw [hn0] at hlen
  have HN0 := Go.Lib.hid hn0
  have hfind := find_c (l := done) (A := A) (c := c) (nm := nm) (hb5.cell 0) (own_cells_ HI.out.row) (by rw [hn0]; omega)
  rw [hn0] at hfind
  have HF := Go.Lib.hid hfind
  have xa := HI.out.baq.cell 0
  have x5 := hb5.cell 0
  rw [hn0] at xa
  simp only [List.getElem?_toArray, List.getElem?_cons_zero] at xa x5
  clear h ih hnb hsz hfu hc1 hb5 hw1 hn0 hfind
  go_enter Try.func59, Try.ntmps59
  obtain ⟨res, hres⟩ : ∃ res, ldAll (getV v) (n + 1) busy (done.map (·.1)) nm = res := ⟨_, rfl⟩
  rw [hres]
  have HR := Go.Lib.hid hres
  clear hres
  go_wp2_with fail
  rw [HW1.out]
  clear HW1
  refine wp_scope_straight ?_
  go_wp2_with fail
  refine HF.out.mono ?_
  rintro e w2 ⟨hc2, ⟨i, x, h1, h2, h3, rfl⟩ | ⟨h1, rfl⟩⟩
  · have HX : Hid (findO (done.map (·.1)) nm = some x.1) := Go.Lib.hid (findO_first h1 h2 h3)
    have hil := (List.getElem?_eq_some_iff.1 h1).1
    rw [HN0.out] at hil
    have HI2 := Go.Lib.hid (HI.out.quiet hc2)
    have HQ2 := Go.Lib.hid (HQ.out.trans (LdStep.quiet hc2))
    obtain ⟨b, o, rfl, hcell⟩ := (own_cells_ HI2.out.row).flat (by rw [allCells_len, HN0.out]; omega)
    have xk := hcell (i * 8 + 1) _ ((allCells_get done i x h1 1 (by omega)).trans rfl)
    rw [← Nat.add_assoc] at xk
    have xa2 := HI2.out.baq.cell 0
    rw [HN0.out] at xa2
    simp only [List.getElem?_toArray, List.getElem?_cons_zero] at xa2
    have HE : Hid (res = .inr (done.map (·.1))) := Go.Lib.hid (by rw [← HR.out]; show (match findO _ nm with | some _ => _ | none => _) = _; rw [HX.out])
    clear h1 h2 h3 hc2 hcell HF
    obtain ⟨key, hkey⟩ : ∃ key, x.1.key = key := ⟨_, rfl⟩
    have HK := Go.Lib.hid hkey
    unfold obArr at xk
    rw [hkey] at xk
    clear hkey
    go_wp2_with fail
    refine bodyPost_ret (results_tmp2 rfl _ _ _) rfl ?_
    rw [HE.out]
    exact ⟨done, some ⟨b, o, none⟩, c, key, rfl, rfl, by rw [HX.out, ← HK.out]; rfl, HI2.out, HQ2.out⟩
  · have HX : Hid (findO (done.map (·.1)) nm = none) := Go.Lib.hid (findO_none h1)
    have HX0 := HX
    have HI2 := Go.Lib.hid (HI.out.quiet hc2)
    have HQ2 := Go.Lib.hid (HQ.out.trans (LdStep.quiet hc2))
    have HB5 := Go.Lib.hid (HB5.out.chg hc2 id)
    have HFR := Go.Lib.hid h1
    obtain ⟨sb, hst⟩ := HI2.out.st
    have HLD := Go.Lib.hid (load_c hst HB.out.2.1)
    have y5 := HB5.out.cell 0
    have ys := HI2.out.bsq.cell 0
    simp only [List.getElem?_toArray, List.getElem?_cons_zero] at y5 ys
    clear h1 hc2 hst x5 xa
    go_wp2_with fail
    refine HLD.out.mono ?_
    rintro e w3 ⟨hc3, hp⟩
    have HI3 := Go.Lib.hid (HI2.out.quiet hc3)
    have HQ3 := Go.Lib.hid (HQ2.out.trans (LdStep.quiet hc3))
    have HB53 := Go.Lib.hid (HB5.out.chg hc3 id)
    clear HLD
    obtain ⟨ro, hro⟩ : ∃ ro, ldO (getV v) nm = ro := ⟨_, rfl⟩
    rw [hro] at hp
    have HRO := Go.Lib.hid hro
    clear hro
    cases ro with
    | inl er =>
      simp only at hp
      subst hp
      have hne := ldO_ne HRO.out
      have HE : Hid (res = .inl er) := Go.Lib.hid (by rw [← HR.out]; show (match findO _ nm with | some _ => _ | none => _) = _; rw [HX.out, HRO.out])
      generalize hov : obVal ob0 oa0 = ov
      obtain ⟨oz, az, rfl⟩ : ∃ oz az, ov = obVal oz az := ⟨_, _, hov.symm⟩
      have HC3 := Go.Lib.hid (HQ3.out.chg.alloc (Obj.cells (obArr oz az) OT))
      have hbe : (er == 0) = false := by simpa using hne
      have HNE := Go.Lib.hid hne
      clear hc3 hov hne y5 ys
      unfold obVal obArr
      unfold obArr at HC3
      go_wp2_with fail
      refine bodyPost_ret (results_tmp2 rfl _ _ _) rfl ?_
      rw [HE.out]
      exact ⟨HNE.out, rfl, HC3.out⟩
    | inr o =>
      obtain ⟨a, rfl, hT⟩ := hp
      have HOK := Go.Lib.hid (ldO_ok HRO.out)
      obtain ⟨w4, hw4⟩ : ∃ w4, w3.alloc (Obj.cells (obArr o a) OT) = w4 := ⟨_, rfl⟩
      have hc4 : Chg NoB w3 w4 := by rw [← hw4]; exact (Chg.refl NoB w3).alloc _
      have hb9 : Blk w4 w3.heap.size OT (obArr o a) := by rw [← hw4]; exact Blk.new _ _ _
      have HT4 := Go.Lib.hid (hT.off hc4 (fun t _ => off_no))
      have HI4 := Go.Lib.hid (HI3.out.quiet hc4)
      have HQ4 := Go.Lib.hid (HQ3.out.trans (LdStep.quiet hc4))
      have HB54 := Go.Lib.hid (HB53.out.chg hc4 id)
      have HB9 := Go.Lib.hid hb9
      have h39 : W.heap.size < w3.heap.size := HB53.out.lt
      obtain ⟨g9, hg9⟩ : ∃ g9, w3.heap.size = g9 := ⟨_, rfl⟩
      rw [hg9] at HB9 h39
      have HG9 := Go.Lib.hid hg9
      have HA9 : Hid (∀ ad, A = some ad → ad.block ≠ g9) := Go.Lib.hid fun ad had => by
        obtain ⟨cs2, fr2, h3⟩ := own_tag' HI3.out.row had
        have := (Array.getElem?_eq_some_iff.1 h3).1
        omega
      have z5 := HB54.out.cell 0
      have zo := HI4.out.boq.cell 0
      simp only [List.getElem?_toArray, List.getElem?_cons_zero] at z5 zo
      unfold obVal
      unfold obArr at hw4
      have HW4 := Go.Lib.hid hw4
      rw [← hw4] at z5 zo
      clear hc3 y5 ys hT hc4 hb9 hw4 hg9
      unfold obArr
      go_wp2_with (at_mapUpdate; go_must (refine wpList_update_str _ rfl _ _ _ _ rfl 9 _ Try.underlying118 Try.underlying9 m (ents busy.reverse) nm TV rfl rfl rfl (by rw [HW4.out]; exact HI4.out.mp) ?_); intro w5 hm5 hc5 hz5)
      rw [HW4.out] at hc5
      rw [HG9.out]
      have hnr : nm ∉ busy.reverse := fun hm => HB.out.1 (List.mem_reverse.1 hm)
      rw [put_ents nm _ hnr, ← List.reverse_cons] at hm5
      have hq5 : LdStep ba m w4 w5 A A := ⟨hc5.mono (fun _ _ e => .inr (.inl e)), fun x hx => .inl ⟨x, hx, rfl⟩⟩
      have HI5 := Go.Lib.hid (HI4.out.setM hm5 hc5 (by rw [List.reverse_cons, List.nodup_append]; exact ⟨HI4.out.opn, by simp, fun x hx y hy e => by rw [List.mem_singleton] at hy; exact hnr (by rw [← hy, ← e]; exact hx)⟩) (fun b hb => by
        rw [List.mem_reverse, List.mem_cons] at hb
        rcases hb with rfl | hb
        · exact HOK.out.2.2
        · exact HI4.out.opf b (List.mem_reverse.2 hb)) (fun x hx hm => by
        rw [List.mem_reverse, List.mem_cons] at hm
        rcases hm with hm | hm
        · exact of_decide_eq_false (HFR.out x hx) hm
        · exact HI4.out.dis x hx (List.mem_reverse.2 hm)))
      have HQ5 := Go.Lib.hid (HQ4.out.trans hq5)
      have HB55 := Go.Lib.hid (HI4.out.box HB54.out (by decide) (by decide) hq5.chg)
      have HB95 := Go.Lib.hid (HB9.out.chg hc5 fun e => HI4.out.mp.blk_ne HB9.out e.symm)
      have HT5 := Go.Lib.hid (HI4.out.ob HT4.out hq5.chg)
      obtain ⟨ni, hni⟩ : ∃ ni, o.imps.length = ni := ⟨_, rfl⟩
      have HNI := Go.Lib.hid hni
      have y2 := HB95.out.cell 2
      unfold obArr at y2
      simp only [List.getElem?_toArray, List.getElem?_cons_zero, List.getElem?_cons_succ] at y2
      rw [hni] at y2 ⊢
      obtain ⟨iA, hiA⟩ : ∃ iA, a.iA = iA := ⟨_, rfl⟩
      have HIA := Go.Lib.hid hiA
      rw [hiA] at y2 ⊢
      clear hiA
      have hnic : ni ≤ a.ic ∧ a.ic ≤ maxLen := by rw [← hni]; exact HT5.out.is_.icap
      unfold maxLen at hnic
      clear hm5 hc5 hz5 hq5 hni hnr z5 zo HW4 HG9 HI4 HT4 HB54 HB9 HQ4 HI3 HQ3 HB53 HI2 HQ2
      refine wp_label ?_
      go_wp2_with fail
      have hstart : Hid (ldImps (fun d i => ldAll (getV v) n (nm :: busy) d i) (nm :: busy) o.imps (done.map (·.1)) = ldImps (fun d i => ldAll (getV v) n (nm :: busy) d i) (nm :: busy) (o.imps.drop 0) (done.map (·.1))) := Go.Lib.hid (by rw [List.drop_zero])
      go_loopw [40, 10] (fun v40 v10 wr => ∃ (i : Nat) (dn : List (Ob × OA)) (Ac : Option Addr) (cc : Nat), i ≤ ni ∧ v40 = .int .i64 i ∧ v10 = .int .i64 0 ∧ LdI B0 sp bs ba m bo bl v F wr dn Ac cc (nm :: busy).reverse ∧ LdStep ba m w5 wr A Ac ∧ ldImps (fun d i => ldAll (getV v) n (nm :: busy) d i) (nm :: busy) o.imps (done.map (·.1)) = ldImps (fun d i => ldAll (getV v) n (nm :: busy) d i) (nm :: busy) (o.imps.drop i) (dn.map (·.1))) (fun v40 _ _ => ni - (intOf v40).toNat)
      case atStart => exact ⟨0, done, A, c, Nat.zero_le _, rfl, rfl, HI5.out, LdStep.quiet (Chg.refl _ _), hstart.out⟩
      case round =>
        clear hstart
        obtain ⟨i, dn, Ac, cc, hi, rfl, rfl, hI, hQ, hL⟩ := hrel
        have HIr := Go.Lib.hid hI
        have HQr := Go.Lib.hid hQ
        have HLr := Go.Lib.hid hL
        have HB5r := Go.Lib.hid (HI5.out.box HB55.out (by decide) (by decide) hQ.chg)
        have HTr := Go.Lib.hid (HI5.out.ob HT5.out hQ.chg)
        have hn9 : ¬ FrA ba m A g9 := by
          rintro (e | e | ⟨ad, had, e⟩)
          · exact (HI5.out.baq.ne_ HB95.out (by decide)) e.symm
          · exact HI5.out.mp.blk_ne HB95.out e.symm
          · exact HA9.out ad had e
        have HB9r := Go.Lib.hid (HB95.out.chg hQ.chg hn9)
        clear hI hQ hL hn9
        by_cases hlt : i < ni
        · obtain ⟨x, hx⟩ : ∃ x, o.imps[i]? = some x := ⟨_, List.getElem?_eq_getElem (by rw [HNI.out]; exact hlt)⟩
          have hxm := List.mem_of_getElem? hx
          have him := HTr.out.is_.imps
          rw [HIA.out] at him
          obtain ⟨ib, io, rfl, hcell⟩ := him.flat (by rw [impCells_len, HNI.out]; omega)
          obtain ⟨g1, g2⟩ := impCells_get o.imps i x hx
          have hx0 := hcell _ _ g1
          have hx1 := hcell _ _ g2
          rw [← Nat.add_assoc] at hx1
          have HDR : Hid (o.imps.drop i = x :: o.imps.drop (i + 1)) := Go.Lib.hid (by
            obtain ⟨hlt', he⟩ := List.getElem?_eq_some_iff.1 hx
            rw [← he, List.drop_eq_getElem_cons])
          have HXS := Go.Lib.hid (imp_small HOK.out.2.1 hxm)
          have hcx : Chg NoB wr (wr.alloc (Obj.cells #[.string x.1, .int .u32 x.2] IT)) := (Chg.refl NoB wr).alloc _
          have HIx := Go.Lib.hid (HIr.out.quiet hcx)
          have HCX := Go.Lib.hid hcx
          have hbx := Blk.new wr IT #[.string x.1, .int .u32 x.2]
          have HBX := Go.Lib.hid hbx
          have x0 := hbx.cell 0
          have x1 := hbx.cell 1
          have xo := HIx.out.boq.cell 0
          have xl := HIx.out.blq.cell 0
          simp only [List.getElem?_toArray, List.getElem?_cons_zero, List.getElem?_cons_succ] at x0 x1 xo xl
          have HX := Go.Lib.hid hx
          clear him hcell g1 g2 hx hxm hcx hbx
          by_cases hopen : x.1 ∈ nm :: busy
          · have hlk := HIx.out.look_in (List.mem_reverse.2 hopen)
            have HE : Hid (res = .inl 9) := Go.Lib.hid (by
              have e1 : ldImps (fun d i => ldAll (getV v) n (nm :: busy) d i) (nm :: busy) o.imps (done.map (·.1)) = .inl 9 := by
                rw [HLr.out, HDR.out]
                unfold ldImps
                rw [if_pos (List.any_eq_true.2 ⟨x.1, hopen, decide_eq_true rfl⟩)]
              rw [← HR.out]
              show (match findO _ nm with | some _ => _ | none => _) = _
              rw [HX0.out, HRO.out]
              show (match ldImps _ _ _ _ with | .inl e => _ | .inr d => _) = _
              rw [e1])
            clear hopen
            have hfd := run_field_lk
            go_wp2_with fail
            refine bodyPost_ret (results_tmp2 rfl _ _ _) rfl ?_
            rw [HE.out]
            exact ⟨by decide, rfl, (HQ5.out.trans (HQr.out.trans (LdStep.quiet HCX.out))).chg⟩
          · have hlk := HIx.out.look_no (fun hm => hopen (List.mem_reverse.1 hm))
            have hany : (nm :: busy).any (fun b => decide (b = x.1)) = false := by
              rw [List.any_eq_false]
              intro y hy hyx
              exact hopen (by rw [← of_decide_eq_true hyx]; exact hy)
            have HANY := Go.Lib.hid hany
            have hcall := IH.out _ dn Ac cc (nm :: busy) x.1 HIx.out hopen HXS.out (by have := HB.out.2.2; rw [List.length_cons]; omega)
            obtain ⟨r, hr⟩ : ∃ r, ldAll (getV v) n (nm :: busy) (dn.map (·.1)) x.1 = r := ⟨_, rfl⟩
            rw [hr] at hcall
            have HCALL := Go.Lib.hid hcall
            have HRR := Go.Lib.hid hr
            have hfd := run_field_lk
            clear hopen hany hcall hr
            have hlk2 := hlk
            go_wp2_with fail
            refine HCALL.out.mono ?_
            clear HCALL hlk hlk2
            cases r with
            | inl er =>
              rintro e w6 ⟨hne, rfl, hc6⟩
              have HE : Hid (res = .inl er) := Go.Lib.hid (by
                have e1 : ldImps (fun d i => ldAll (getV v) n (nm :: busy) d i) (nm :: busy) o.imps (done.map (·.1)) = .inl er := by
                  rw [HLr.out, HDR.out]
                  unfold ldImps
                  rw [if_neg (by rw [HANY.out]; simp)]
                  simp only [HRR.out]
                rw [← HR.out]
                show (match findO _ nm with | some _ => _ | none => _) = _
                rw [HX0.out, HRO.out]
                show (match ldImps _ _ _ _ with | .inl e => _ | .inr d => _) = _
                rw [e1])
              have hbe : (er == 0) = false := by simpa using hne
              have HNE := Go.Lib.hid hne
              have hq6 : LdStep ba m (wr.alloc (Obj.cells #[.string x.1, .int .u32 x.2] IT)) w6 Ac none := ⟨hc6, fun a' h => by cases h⟩
              have HC6 := Go.Lib.hid (HQ5.out.trans ((HQr.out.trans (LdStep.quiet HCX.out)).trans hq6)).chg
              clear hne hc6 hq6 x0 x1 xo xl hx0 hx1
              go_wp2_with fail
              refine bodyPost_ret (results_tmp2 rfl _ _ _) rfl ?_
              rw [HE.out]
              exact ⟨HNE.out, rfl, HC6.out⟩
            | inr d =>
              rintro e w6 ⟨dn', A6, c6, key, rfl, rfl, hfk, hI6, hq6⟩
              have HBX6 := HIx.out.box HBX.out (by decide) (by decide) hq6.chg
              have q1 := HBX6.cell 1
              simp only [List.getElem?_toArray, List.getElem?_cons_zero, List.getElem?_cons_succ] at q1
              have HI6 := Go.Lib.hid hI6
              have HQ6 := Go.Lib.hid ((HQr.out.trans (LdStep.quiet HCX.out)).trans hq6)
              have HFK := Go.Lib.hid hfk
              clear hI6 hq6 hfk HBX6 x0 x1 xo xl hx0 hx1
              by_cases hk : key = x.2
              · have HL6 : Hid (ldImps (fun d i => ldAll (getV v) n (nm :: busy) d i) (nm :: busy) o.imps (done.map (·.1)) = ldImps (fun d i => ldAll (getV v) n (nm :: busy) d i) (nm :: busy) (o.imps.drop (i + 1)) (dn'.map (·.1))) := Go.Lib.hid (by
                  rw [HLr.out, HDR.out]
                  conv => lhs; unfold ldImps
                  rw [if_neg (by rw [HANY.out]; simp)]
                  simp only [HRR.out]
                  rw [if_pos (by rw [HFK.out, hk])])
                have hbe : ((key : Int) == (x.2 : Int)) = true := by rw [hk]; simp
                clear hk
                go_wp2_with fail
                go_roundw
                case rel => exact ⟨i + 1, dn', A6, c6, by omega, by go_num, rfl, HI6.out, HQ6.out, HL6.out⟩
                case measure => simp [intOf]; omega
              · have HE : Hid (res = .inl 8) := Go.Lib.hid (by
                  have e1 : ldImps (fun d i => ldAll (getV v) n (nm :: busy) d i) (nm :: busy) o.imps (done.map (·.1)) = .inl 8 := by
                    rw [HLr.out, HDR.out]
                    unfold ldImps
                    rw [if_neg (by rw [HANY.out]; simp)]
                    simp only [HRR.out]
                    rw [if_neg (by rw [HFK.out]; intro e; injection e with e; exact hk e)]
                  rw [← HR.out]
                  show (match findO _ nm with | some _ => _ | none => _) = _
                  rw [HX0.out, HRO.out]
                  show (match ldImps _ _ _ _ with | .inl e => _ | .inr d => _) = _
                  rw [e1])
                have hbe : ((key : Int) == (x.2 : Int)) = false := by simpa using fun e => hk (by omega)
                clear hk
                go_wp2_with fail
                refine bodyPost_ret (results_tmp2 rfl _ _ _) rfl ?_
                rw [HE.out]
                exact ⟨by decide, rfl, (HQ5.out.trans HQ6.out).chg⟩
        · obtain rfl : i = ni := by omega
          have e5 := HB5r.out.cell 0
          have eo := HIr.out.boq.cell 0
          simp only [List.getElem?_toArray, List.getElem?_cons_zero, List.getElem?_cons_succ] at e5 eo
          have hres : res = .inr (dn.map (·.1) ++ [o]) := by
            have e1 : ldImps (fun d i => ldAll (getV v) n (nm :: busy) d i) (nm :: busy) o.imps (done.map (·.1)) = .inr (dn.map (·.1)) := by
              rw [HLr.out, List.drop_eq_nil_of_le (by rw [HNI.out]; exact Nat.le_refl _)]
              rfl
            rw [← HR.out]
            show (match findO _ nm with | some _ => _ | none => _) = _
            rw [HX0.out, HRO.out]
            show (match ldImps _ _ _ _ with | .inl e => _ | .inr d => _) = _
            rw [e1]
          have HE := Go.Lib.hid hres
          have hnr : nm ∉ busy.reverse := fun hm => HB.out.1 (List.mem_reverse.1 hm)
          have HNR := Go.Lib.hid hnr
          have hng : ∀ ad, Ac = some ad → ad.block ≠ g9 := fun ad had e => by
            rcases HQr.out.row ad had with ⟨a', h1, h2⟩ | h1
            · exact HA9.out a' h1 (h2.trans e)
            · have := HB95.out.lt
              omega
          have HNG := Go.Lib.hid hng
          obtain ⟨dl, hdl⟩ : ∃ dl, dn.length = dl := ⟨_, rfl⟩
          have HDL := Go.Lib.hid hdl
          have hdl2 := HIr.out.dlen
          have HDL2 := Go.Lib.hid hdl2
          obtain ⟨i0, hi0, hz0, hz1, hz2⟩ := info_parts oinfo
          have Hi := Go.Lib.hid (And.intro hi0 (And.intro hz0 (And.intro hz1 hz2)))
          clear hres hnr hng hdl hdl2 hi0 hz0 hz1 hz2
          have HND : Hid (busy.reverse.Nodup) := Go.Lib.hid (by
            have := HIr.out.opn
            rw [List.reverse_cons, List.nodup_append] at this
            exact this.1)
          have HFI : Hid (∀ b ∈ busy.reverse, ∃ x, lookD (fileO b) v.dir = some x) := Go.Lib.hid fun b hb => HIr.out.opf b (by rw [List.reverse_cons]; exact List.mem_append_left _ hb)
          have HDI : Hid (∀ x ∈ dn, x.1.name ∉ busy.reverse) := Go.Lib.hid fun x hx hm => HIr.out.dis x hx (by rw [List.reverse_cons]; exact List.mem_append_left _ hm)
          have HDJ : Hid (∀ x ∈ dn, x.1.name ≠ o.name) := Go.Lib.hid fun x hx e => HIr.out.dis x hx (by rw [List.reverse_cons, e, HOK.out.1]; simp)
          go_wp2_with (first
            | (at_delete; go_must (refine wpList_delete_str _ rfl _ _ _ _ rfl _ Try.underlying118 Try.underlying9 m (ents (nm :: busy).reverse) nm rfl rfl HIr.out.mp ?_); go_must (
                intro w7 hm7 hc7 hz7
                rw [List.reverse_cons, del_ents nm _ HNR.out] at hm7
                have HI7 := Go.Lib.hid (HIr.out.setM hm7 hc7 HND.out HFI.out HDI.out)
                have HB97 := Go.Lib.hid (HB9r.out.chg hc7 fun e => HIr.out.mp.blk_ne HB9r.out e.symm)
                have HT7 := Go.Lib.hid (HIr.out.ob HTr.out (hc7.mono (fun _ _ e => .inr (.inl e))))
                have HQ7 : Hid (LdStep ba m w5 w7 A Ac) := Go.Lib.hid (HQr.out.trans ⟨hc7.mono (fun _ _ e => .inr (.inl e)), fun x hx => .inl ⟨x, hx, rfl⟩⟩)
                have fa := HI7.out.baq.cell 0
                rw [HDL.out] at fa
                have d0 := HB97.out.cell 0
                have d1 := HB97.out.cell 1
                have d2 := HB97.out.cell 2
                have d3 := HB97.out.cell 3
                have d4 := HB97.out.cell 4
                have d5 := HB97.out.cell 5
                have d6 := HB97.out.cell 6
                have d7 := HB97.out.cell 7
                unfold obArr at d0 d1 d2 d3 d4 d5 d6 d7
                simp only [List.getElem?_toArray, List.getElem?_cons_zero, List.getElem?_cons_succ] at fa d0 d1 d2 d3 d4 d5 d6 d7
                rw [HIA.out, HNI.out] at d2
                clear hm7 hc7 hz7))
            | (at_builtin; go_must (refine wpList_appK _ rfl (.tmp 71) (.tmp 73) _ rfl B0 OT i0 _ 8 152 Try.underlying45 Hi.out.1 Hi.out.2.1 Hi.out.2.2.1 Hi.out.2.2.2 rfl (by decide) (.slice Ac dl cc) dl (allCells dn) (by rfl) (by rw [← HDL.out]; exact own_chg HI7.out.row ((Chg.refl NoB _).alloc _) (fun _ _ => id)) (some ⟨w7.heap.size, 0, none⟩) 1 1 [.string o.name, .int .u32 o.key, .slice iA i a.ic, .int .i64 o.vars, .slice a.tA o.text.length a.tc, .slice a.cA o.code.length a.cc, .slice a.eA o.ents.length a.ec, .slice a.fA o.fixs.length a.fc] (by rfl) rfl (cells_of_blk (Blk.new w7 _ _)) (by simp [Value.oneCell']) (by have := HDL2.out; have := HDL.out; unfold maxLen; omega) (by have := HDL2.out; have := HDL.out; omega) (by have := HI7.out.lo.2.1; have := HI7.out.baq.lt; simp; omega) ?_); go_must (
                intro v8 w8 own8 gr8 at8
                obtain ⟨A8, c8, rfl⟩ := own_sl own8
                have hcg : Chg (fun k => (Value.slice Ac dl cc).ownBlock = some k) w7 w8 := ((Chg.refl _ w7).alloc _).grown gr8 (fun k hk _ => hk)
                have hrow := HI7.out.row
                rw [HDL.out] at hrow
                have hbq := HI7.out.baq.chg hcg (fun e => own_blk_ne hrow HI7.out.baq (by decide) e)
                have hb98 := HB97.out.chg hcg (fun e => by
                  rcases hrow.2 with ⟨h1, h2⟩ | ⟨g, cap, cur, h1, _⟩
                  · rw [h1] at e
                    simp [Value.ownBlock] at e
                  · injection h1 with h3
                    subst h3
                    exact HNG.out _ rfl (by simpa [Value.ownBlock] using e))
                have hpush := HI7.out.push HT7.out (A8 := A8) (c8 := c8) (W' := w8) (by
                  have := own8
                  rw [← HIA.out, ← HNI.out] at this
                  rw [HDL.out]
                  exact this) (by rw [HDL.out]; exact hcg) (by rw [HDL.out]; rcases at8 with h | h; exact .inl h; exact .inr (by rw [h]; simp)) HDJ.out (by rw [HOK.out.1]; exact HNR.out) (by rw [HOK.out.1]; exact HOK.out.2.2)
                rw [HDL.out] at hpush
                have HPU := Go.Lib.hid hpush
                have f8 := hbq.cell 0
                have z8 := hbq.frozen 0
                rw [HDL.out] at f8
                have k8 := (hb98.far (p := ⟨ba, 0, none⟩) (fun e => HIr.out.baq.ne_ HB9r.out (by decide) e.symm) (.slice A8 (dl + 1) c8)).cell 1
                unfold obArr at k8
                simp only [List.getElem?_toArray, List.getElem?_cons_zero, List.getElem?_cons_succ] at f8 k8
                clear own8 gr8 at8 hcg hrow hbq hb98 hpush fa d0 d1 d2 d3 d4 d5 d6 d7)))
          refine bodyPost_ret (results_tmp2 rfl _ _ _) rfl ?_
          rw [HE.out]
          refine ⟨dn ++ [(o, a)], A8, c8, o.key, by simp, rfl, ?_, HPU.out.1, HQ5.out.trans (HQ7.out.trans HPU.out.2)⟩
          have hfn : findO (dn.map (·.1) ++ [o]) nm = some o := by
            unfold findO
            rw [List.find?_append]
            have h1 : (dn.map (·.1)).find? (fun o => decide (o.name = nm)) = none := by
              have := findO_none (l := dn) (nm := nm) (fun y hy => decide_eq_false (by rw [← HOK.out.1]; exact HDJ.out y hy))
              exact this
            rw [h1]
            simp [HOK.out.1]
          rw [hfn]
          rfl
end
end Go.Proofs.Yteleglkoagnmcaa
