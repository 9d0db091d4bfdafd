/- What is proved: bytes as a string; the reference's Same. Conditions: the memory holds both stores. -/
import Derived.Test.YtlglnebnldmceaaPlA
import Derived.Laws.BytesArg
set_option linter.unusedSimpArgs false
set_option linter.unusedVariables false
namespace Go.Proofs.Ytlglnebnldmceaa
open Go Go.RowKit
theorem run_text {w : World} {A : Option Addr} {l : List UInt8} {c n : Nat} (hn : l.length = n) (h : CellsAt w A (bv l)) : (convert 43 9 (.slice A n c)).run Try.prog w = .ok (.string ⟨l.toArray⟩) w := by
  cases l with
  | nil =>
    subst hn
    rw [List.length_nil, run_convert_bytes_string w _ _ _ A 0 c Try.underlying43 Try.underlying5 Try.underlying9]
    cases A with
    | none => simp [Conv.bytesToString]; rfl
    | some ad =>
      have := run_bytesToString (P := Try.prog) w ad 0 c [] (by simpa using run_loadCells_list (P := Try.prog) w ad [] (by simp))
      exact this
  | cons b l' =>
    obtain ⟨ad, rfl, hc⟩ := h (by simp [bv])
    have hl := run_loadCells_list (P := Try.prog) w ad (bv (b :: l')) (fun j v hj => hc j v hj)
    have e : bv (b :: l') = ((b :: l').map fun c => (c.toNat : Int)).map (Value.int .u8) := by simp [bv]
    rw [run_convert_bytes_string w _ _ _ (some ad) n c Try.underlying43 Try.underlying5 Try.underlying9, run_bytesToString w ad n c ((b :: l').map fun c => (c.toNat : Int)) (by rw [← e, ← hn, show (b :: l').length = (bv (b :: l')).length from (bv_length _).symm]; exact hl), foldl_push_bytes]
    simp [ByteArray.empty, ByteArray.emptyWithCapacity, Function.comp_def]
    rfl
theorem text_beq (l m : List UInt8) : ((⟨l.toArray⟩ : ByteArray).toList == (⟨m.toArray⟩ : ByteArray).toList) = decide (l = m) := by
  rw [toList_data, toList_data]
  show (l.toArray.toList == m.toArray.toList) = decide (l = m)
  rw [Bool.eq_iff_iff]
  simp
section
variable {W W' : World} {r r2 : Nat} {U U2 : V} {X X2 : Nat → Prop} {a a2 : RA}
theorem cont_get (U : V) {i : Nat} (hi : i < U.dir.length) : U.cont[i]? = some (U.dir[i].1, U.bytes U.dir[i].2) := by
  unfold V.cont
  rw [List.getElem?_map, List.getElem?_eq_getElem hi]
  rfl
theorem cont_len (U : V) : U.cont.length = U.dir.length := by unfold V.cont; rw [List.length_map]
theorem take_more {α : Type} {l m : List α} {i : Nat} {x : α} (h : l.take i = m.take i) (hl : l[i]? = some x) (hm : m[i]? = some x) : l.take (i + 1) = m.take (i + 1) := by
  rw [List.take_add_one, List.take_add_one, h, hl, hm]
set_option maxRecDepth 100000 in
set_option maxHeartbeats 4000000 in
theorem rsame_c (h : RefAt W r U X a) (h2 : RefAt W r2 U2 X2 a2) (hd : U.dir.length < 1000000) (hd2 : U2.dir.length < 1000000) : Calls Try.prog 14 #[.pointer (some ⟨r, 0, none⟩), .pointer (some ⟨r2, 0, none⟩)] W (Quiet (.bool (decide (U.cont = U2.cont))) W) := by
  have HE := Go.Lib.hid (fun (i : Nat) (hi : i < U.dir.length) => h.entry (List.getElem?_eq_getElem hi))
  have HE2 := Go.Lib.hid (fun (i : Nat) (hi : i < U2.dir.length) => h2.entry (List.getElem?_eq_getElem hi))
  have HF := Go.Lib.hid (fun (i : Nat) (hi : i < U.dir.length) => h.file (h.dbytes (List.getElem_mem hi)))
  have HF2 := Go.Lib.hid (fun (i : Nat) (hi : i < U2.dir.length) => h2.file (h2.dbytes (List.getElem_mem hi)))
  have HDB := Go.Lib.hid (fun (i : Nat) (hi : i < U.dir.length) => h.db _ (List.getElem_mem hi))
  have HDB2 := Go.Lib.hid (fun (i : Nat) (hi : i < U2.dir.length) => h2.db _ (List.getElem_mem hi))
  obtain ⟨AD, cD, hD⟩ := own_slice h.D
  obtain ⟨AD2, cD2, hD2⟩ := own_slice h2.D
  obtain ⟨AF, cF, hF⟩ := own_slice h.F
  obtain ⟨AF2, cF2, hF2⟩ := own_slice h2.F
  obtain ⟨c0, c1, _, _⟩ := h.cells
  obtain ⟨d0, d1, _, _⟩ := h2.cells
  rw [hD] at c1
  rw [hF] at c0
  rw [hD2] at d1
  rw [hF2] at d0
  have K1 := Go.Lib.hid c1
  have K3 := Go.Lib.hid d1
  have K5 := Go.Lib.hid c0
  have K8 := Go.Lib.hid d0
  have HV := Go.Lib.hid (And.intro hD (And.intro hD2 (And.intro hF hF2)))
  clear h h2 hD hD2 hF hF2 c0 c1 d0 d1
  obtain ⟨n, hn⟩ : ∃ n, U.dir.length = n := ⟨_, rfl⟩
  obtain ⟨n2, hn2⟩ : ∃ n, U2.dir.length = n := ⟨_, rfl⟩
  have HN := Go.Lib.hid (And.intro hn hn2)
  rw [hn] at K1 hd
  rw [hn2] at K3 hd2
  clear hn hn2
  by_cases hnn : n = n2
  · have hnb : (((n : Int) == (n2 : Int))) = true := by rw [hnn]; simp
    go_enter Try.func14, Try.ntmps14
    go_wp2_with fail
    refine regionH (fun V' => Chg NoB W V') (by kernel_rfl) (Chg.refl NoB W).drew (fun hS => ?_)
    refine takeH (i := 0) (t := 6) (v := ?v0y151) rfl (by kernel_rfl) (by kernel_rfl) (by kernel_rfl) (fun _ _ _ h => h) rfl (Or.inl ⟨by rfl, ?h0y151⟩) hS ?r0y151
    case h0y151 => (intro V' hSw; clear hSw; go_simp; try with_reducible rfl)
    try simp only [List.setIfInBounds_toArray, List.set_cons_zero, List.set_cons_succ]
    refine takeH (i := 1) (t := 7) (v := ?v1y152) rfl (by kernel_rfl) (by kernel_rfl) (by kernel_rfl) (fun _ _ _ h => h) rfl (Or.inl ⟨by rfl, ?h1y152⟩) hS ?r1y152
    case h1y152 => (intro V' hSw; clear hSw; go_simp; try with_reducible rfl)
    try simp only [List.setIfInBounds_toArray, List.set_cons_zero, List.set_cons_succ]
    refine takeH (i := 2) (t := 8) (v := ?v2y153) rfl (by kernel_rfl) (by kernel_rfl) (by kernel_rfl) (fun _ _ _ h => h) rfl (Or.inl ⟨by rfl, ?h2y153⟩) hS ?r2y153
    case h2y153 => (intro V' hSw; clear hSw; go_simp; try with_reducible rfl)
    try simp only [List.setIfInBounds_toArray, List.set_cons_zero, List.set_cons_succ]
    refine takeH (i := 3) (t := 9) (v := ?v3y154) rfl (by kernel_rfl) (by kernel_rfl) (by kernel_rfl) (fun _ _ _ h => h) rfl (Or.inl ⟨by rfl, ?h3y154⟩) hS ?r3y154
    case h3y154 => (intro V' hSw; have q := cell_q hSw K1.out; clear hSw; go_simp; try with_reducible rfl)
    try simp only [List.setIfInBounds_toArray, List.set_cons_zero, List.set_cons_succ]
    refine takeH (i := 4) (t := 10) (v := ?v4y155) rfl (by kernel_rfl) (by kernel_rfl) (by kernel_rfl) (fun _ _ _ h => h) rfl (Or.inl ⟨by rfl, ?h4y155⟩) hS ?r4y155
    case h4y155 => (intro V' hSw; clear hSw; go_simp; try with_reducible rfl)
    try simp only [List.setIfInBounds_toArray, List.set_cons_zero, List.set_cons_succ]
    refine takeH (i := 5) (t := 11) (v := ?v5y156) rfl (by kernel_rfl) (by kernel_rfl) (by kernel_rfl) (fun _ _ _ h => h) rfl (Or.inl ⟨by rfl, ?h5y156⟩) hS ?r5y156
    case h5y156 => (intro V' hSw; clear hSw; go_simp; try with_reducible rfl)
    try simp only [List.setIfInBounds_toArray, List.set_cons_zero, List.set_cons_succ]
    refine takeH (i := 6) (t := 12) (v := ?v6y157) rfl (by kernel_rfl) (by kernel_rfl) (by kernel_rfl) (fun _ _ _ h => h) rfl (Or.inl ⟨by rfl, ?h6y157⟩) hS ?r6y157
    case h6y157 => (intro V' hSw; clear hSw; go_simp; try with_reducible rfl)
    try simp only [List.setIfInBounds_toArray, List.set_cons_zero, List.set_cons_succ]
    refine takeH (i := 7) (t := 13) (v := ?v7y158) rfl (by kernel_rfl) (by kernel_rfl) (by kernel_rfl) (fun _ _ _ h => h) rfl (Or.inl ⟨by rfl, ?h7y158⟩) hS ?r7y158
    case h7y158 => (intro V' hSw; clear hSw; go_simp; try with_reducible rfl)
    try simp only [List.setIfInBounds_toArray, List.set_cons_zero, List.set_cons_succ]
    refine takeH (i := 8) (t := 14) (v := ?v8y159) rfl (by kernel_rfl) (by kernel_rfl) (by kernel_rfl) (fun _ _ _ h => h) rfl (Or.inl ⟨by rfl, ?h8y159⟩) hS ?r8y159
    case h8y159 => (intro V' hSw; have q := cell_q hSw K3.out; clear hSw; go_simp; try with_reducible rfl)
    try simp only [List.setIfInBounds_toArray, List.set_cons_zero, List.set_cons_succ]
    refine takeH (i := 9) (t := 15) (v := ?v9y160) rfl (by kernel_rfl) (by kernel_rfl) (by kernel_rfl) (fun _ _ _ h => h) rfl (Or.inl ⟨by rfl, ?h9y160⟩) hS ?r9y160
    case h9y160 => (intro V' hSw; clear hSw; go_simp; try with_reducible rfl)
    try simp only [List.setIfInBounds_toArray, List.set_cons_zero, List.set_cons_succ]
    refine takeH (i := 10) (t := 16) (v := .bool false) rfl (by kernel_rfl) (by kernel_rfl) (by kernel_rfl) (fun _ _ _ h => h) rfl (Or.inl ⟨by rfl, ?h10y161⟩) hS ?r10y161
    case h10y161 => (intro V' hSw; clear hSw; go_simp; (try simp only [hnb, Bool.not_true, Bool.not_false]); (try omega))
    try simp only [List.setIfInBounds_toArray, List.set_cons_zero, List.set_cons_succ]
    refine wpAnyH_done (by kernel_rfl) ?_ _
    have HS := Go.Lib.hid hS
    clear hS
    go_wp2_with fail
    subst hnn
    go_loopw [5] (fun v5 wr => ∃ i : Nat, i ≤ n ∧ v5 = .int .i64 i ∧ U.cont.take i = U2.cont.take i ∧ Chg NoB W wr) (fun v5 _ => n - (intOf v5).toNat)
    case atStart => exact ⟨0, Nat.zero_le _, rfl, rfl, HS.out⟩
    case round =>
      obtain ⟨i, hi, rfl, ht, hc⟩ := hrel
      have q1 := cell_q hc K1.out
      have HC := Go.Lib.hid hc
      clear hc
      by_cases hlt : i < n
      · have gl : decide ((i : Int) < (n : Int)) = true := by simp; omega
        have hi1 : i < U.dir.length := by rw [HN.out.1]; exact hlt
        have hi2 : i < U2.dir.length := by rw [HN.out.2]; exact hlt
        obtain ⟨g, c', e1, k2, k6⟩ := HE.out i hi1
        obtain ⟨g2, c2', e2, k4, k9⟩ := HE2.out i hi2
        obtain ⟨gF, cF', A, cc, e3, k7, ho⟩ := HF.out i hi1
        obtain ⟨gF2, cF2', A2, cc2, e4, k10, ho2⟩ := HF2.out i hi2
        have hx1 := HDB.out i hi1
        have hx2 := HDB2.out i hi2
        rw [HV.out.1, HN.out.1] at e1
        rw [HV.out.2.1, HN.out.2] at e2
        rw [HV.out.2.2.1] at e3
        rw [HV.out.2.2.2] at e4
        obtain rfl : AD = some ⟨g, 0, none⟩ := by injection e1
        obtain rfl : AD2 = some ⟨g2, 0, none⟩ := by injection e2
        obtain rfl : AF = some ⟨gF, 0, none⟩ := by injection e3
        obtain rfl : AF2 = some ⟨gF2, 0, none⟩ := by injection e4
        obtain ⟨s1, hs1⟩ : ∃ s : ByteArray, s = ⟨(U.bytes U.dir[i].2).toArray⟩ := ⟨_, rfl⟩
        obtain ⟨s2, hs2⟩ : ∃ s : ByteArray, s = ⟨(U2.bytes U2.dir[i].2).toArray⟩ := ⟨_, rfl⟩
        have CVA : Hid (∀ W', Chg NoB W W' → (convert 43 9 (.slice A (U.bytes U.dir[i].2).length cc)).run Try.prog W' = .ok (.string s1) W') := Go.Lib.hid fun W' hc => by rw [hs1]; exact run_text rfl ((cells_ownK ho).chg hc (fun _ _ => id))
        have CVB : Hid (∀ W', Chg NoB W W' → (convert 43 9 (.slice A2 (U2.bytes U2.dir[i].2).length cc2)).run Try.prog W' = .ok (.string s2) W') := Go.Lib.hid fun W' hc => by rw [hs2]; exact run_text rfl ((cells_ownK ho2).chg hc (fun _ _ => id))
        have HTB : Hid ((s1.toList == s2.toList) = decide (U.bytes U.dir[i].2 = U2.bytes U2.dir[i].2)) := Go.Lib.hid (by rw [hs1, hs2, text_beq])
        have hct := cont_get U hi1
        have hct2 := cont_get U2 hi2
        have HCT := Go.Lib.hid (And.intro hct hct2)
        have HTK := Go.Lib.hid ht
        clear e1 e2 e3 e4 ho ho2 hct hct2 ht hs1 hs2
        generalize U.bytes U.dir[i].2 = l1 at *
        generalize U2.bytes U2.dir[i].2 = l2 at *
        generalize U.dir[i].1 = nm1 at *
        generalize U2.dir[i].1 = nm2 at *
        generalize U.dir[i].2 = x1 at *
        generalize U2.dir[i].2 = x2 at *
        have K2 := Go.Lib.hid k2
        have K4 := Go.Lib.hid k4
        have K6 := Go.Lib.hid k6
        have K7 := Go.Lib.hid k7
        have K9 := Go.Lib.hid k9
        have K10 := Go.Lib.hid k10
        clear k2 k4 k6 k7 k9 k10
        generalize hbl : U.F.length = bl at *
        generalize hbl2 : U2.F.length = bl2 at *
        clear hbl hbl2
        by_cases hnm : nm1 = nm2
        · have hb1 : (nm1.toList == nm2.toList) = true := by rw [hnm]; simp
          by_cases htx : l1 = l2
          · have hb2 : (s1.toList == s2.toList) = true := by rw [HTB.out]; simpa using htx
            have HT : Hid (U.cont.take (i + 1) = U2.cont.take (i + 1)) := Go.Lib.hid (take_more HTK.out HCT.out.1 (by rw [HCT.out.2, hnm, htx]))
            clear hnm htx
            go_wp2_with fail
            refine regionH (fun V' => Chg NoB W V') (by kernel_rfl) HC.out.drew (fun hS => ?_)
            refine takeH (i := 0) (t := 26) (v := ?v0y1) rfl (by kernel_rfl) (by kernel_rfl) (by kernel_rfl) (fun _ _ _ h => h) rfl (Or.inl ⟨by rfl, ?h0y1⟩) hS ?r0y1
            case h0y1 => (intro V' hSw; clear hSw; go_simp; try with_reducible rfl)
            try simp only [List.setIfInBounds_toArray, List.set_cons_zero, List.set_cons_succ]
            refine takeH (i := 1) (t := 27) (v := ?v1y2) rfl (by kernel_rfl) (by kernel_rfl) (by kernel_rfl) (fun _ _ _ h => h) rfl (Or.inl ⟨by rfl, ?h1y2⟩) hS ?r1y2
            case h1y2 => (intro V' hSw; clear hSw; go_simp; try with_reducible rfl)
            try simp only [List.setIfInBounds_toArray, List.set_cons_zero, List.set_cons_succ]
            refine takeH (i := 2) (t := 28) (v := ?v2y3) rfl (by kernel_rfl) (by kernel_rfl) (by kernel_rfl) (fun _ _ _ h => h) rfl (Or.inl ⟨by rfl, ?h2y3⟩) hS ?r2y3
            case h2y3 => (intro V' hSw; clear hSw; go_simp; try with_reducible rfl)
            try simp only [List.setIfInBounds_toArray, List.set_cons_zero, List.set_cons_succ]
            refine takeH (i := 3) (t := 29) (v := ?v3y4) rfl (by kernel_rfl) (by kernel_rfl) (by kernel_rfl) (fun _ _ _ h => h) rfl (Or.inl ⟨by rfl, ?h3y4⟩) hS ?r3y4
            case h3y4 => (intro V' hSw; have q := cell_q hSw K1.out; clear hSw; go_simp; try with_reducible rfl)
            try simp only [List.setIfInBounds_toArray, List.set_cons_zero, List.set_cons_succ]
            refine takeH (i := 4) (t := 30) (v := ?v4y5) rfl (by kernel_rfl) (by kernel_rfl) (by kernel_rfl) (fun _ _ _ h => h) rfl (Or.inl ⟨by rfl, ?h4y5⟩) hS ?r4y5
            case h4y5 => (intro V' hSw; clear hSw; go_simp; try with_reducible rfl)
            try simp only [List.setIfInBounds_toArray, List.set_cons_zero, List.set_cons_succ]
            refine takeH (i := 5) (t := 31) (v := ?v5y6) rfl (by kernel_rfl) (by kernel_rfl) (by kernel_rfl) (fun _ _ _ h => h) rfl (Or.inl ⟨by rfl, ?h5y6⟩) hS ?r5y6
            case h5y6 => (intro V' hSw; clear hSw; go_simp; try with_reducible rfl)
            try simp only [List.setIfInBounds_toArray, List.set_cons_zero, List.set_cons_succ]
            refine takeH (i := 6) (t := 32) (v := ?v6y7) rfl (by kernel_rfl) (by kernel_rfl) (by kernel_rfl) (fun _ _ _ h => h) rfl (Or.inl ⟨by rfl, ?h6y7⟩) hS ?r6y7
            case h6y7 => (intro V' hSw; clear hSw; go_simp; try with_reducible rfl)
            try simp only [List.setIfInBounds_toArray, List.set_cons_zero, List.set_cons_succ]
            refine takeH (i := 7) (t := 33) (v := ?v7y8) rfl (by kernel_rfl) (by kernel_rfl) (by kernel_rfl) (fun _ _ _ h => h) rfl (Or.inl ⟨by rfl, ?h7y8⟩) hS ?r7y8
            case h7y8 => (intro V' hSw; have q := cell_q hSw K2.out; clear hSw; go_simp; try with_reducible rfl)
            try simp only [List.setIfInBounds_toArray, List.set_cons_zero, List.set_cons_succ]
            refine takeH (i := 8) (t := 34) (v := ?v8y9) rfl (by kernel_rfl) (by kernel_rfl) (by kernel_rfl) (fun _ _ _ h => h) rfl (Or.inl ⟨by rfl, ?h8y9⟩) hS ?r8y9
            case h8y9 => (intro V' hSw; clear hSw; go_simp; try with_reducible rfl)
            try simp only [List.setIfInBounds_toArray, List.set_cons_zero, List.set_cons_succ]
            refine takeH (i := 9) (t := 35) (v := ?v9y10) rfl (by kernel_rfl) (by kernel_rfl) (by kernel_rfl) (fun _ _ _ h => h) rfl (Or.inl ⟨by rfl, ?h9y10⟩) hS ?r9y10
            case h9y10 => (intro V' hSw; clear hSw; go_simp; try with_reducible rfl)
            try simp only [List.setIfInBounds_toArray, List.set_cons_zero, List.set_cons_succ]
            refine takeH (i := 10) (t := 36) (v := ?v10y11) rfl (by kernel_rfl) (by kernel_rfl) (by kernel_rfl) (fun _ _ _ h => h) rfl (Or.inl ⟨by rfl, ?h10y11⟩) hS ?r10y11
            case h10y11 => (intro V' hSw; clear hSw; go_simp; try with_reducible rfl)
            try simp only [List.setIfInBounds_toArray, List.set_cons_zero, List.set_cons_succ]
            refine takeH (i := 11) (t := 37) (v := ?v11y12) rfl (by kernel_rfl) (by kernel_rfl) (by kernel_rfl) (fun _ _ _ h => h) rfl (Or.inl ⟨by rfl, ?h11y12⟩) hS ?r11y12
            case h11y12 => (intro V' hSw; have q := cell_q hSw K3.out; clear hSw; go_simp; try with_reducible rfl)
            try simp only [List.setIfInBounds_toArray, List.set_cons_zero, List.set_cons_succ]
            refine takeH (i := 12) (t := 38) (v := ?v12y13) rfl (by kernel_rfl) (by kernel_rfl) (by kernel_rfl) (fun _ _ _ h => h) rfl (Or.inl ⟨by rfl, ?h12y13⟩) hS ?r12y13
            case h12y13 => (intro V' hSw; clear hSw; go_simp; try with_reducible rfl)
            try simp only [List.setIfInBounds_toArray, List.set_cons_zero, List.set_cons_succ]
            refine takeH (i := 13) (t := 39) (v := ?v13y14) rfl (by kernel_rfl) (by kernel_rfl) (by kernel_rfl) (fun _ _ _ h => h) rfl (Or.inl ⟨by rfl, ?h13y14⟩) hS ?r13y14
            case h13y14 => (intro V' hSw; clear hSw; go_simp; try with_reducible rfl)
            try simp only [List.setIfInBounds_toArray, List.set_cons_zero, List.set_cons_succ]
            refine takeH (i := 14) (t := 40) (v := ?v14y15) rfl (by kernel_rfl) (by kernel_rfl) (by kernel_rfl) (fun _ _ _ h => h) rfl (Or.inl ⟨by rfl, ?h14y15⟩) hS ?r14y15
            case h14y15 => (intro V' hSw; clear hSw; go_simp; try with_reducible rfl)
            try simp only [List.setIfInBounds_toArray, List.set_cons_zero, List.set_cons_succ]
            refine takeH (i := 15) (t := 41) (v := ?v15y16) rfl (by kernel_rfl) (by kernel_rfl) (by kernel_rfl) (fun _ _ _ h => h) rfl (Or.inl ⟨by rfl, ?h15y16⟩) hS ?r15y16
            case h15y16 => (intro V' hSw; have q := cell_q hSw K4.out; clear hSw; go_simp; try with_reducible rfl)
            try simp only [List.setIfInBounds_toArray, List.set_cons_zero, List.set_cons_succ]
            refine takeH (i := 16) (t := 42) (v := .bool false) rfl (by kernel_rfl) (by kernel_rfl) (by kernel_rfl) (fun _ _ _ h => h) rfl (Or.inl ⟨by rfl, ?h16y17⟩) hS ?r16y17
            case h16y17 => (intro V' hSw; clear hSw; go_simp; try simp only [hb1, Bool.not_true, Bool.not_false])
            try simp only [List.setIfInBounds_toArray, List.set_cons_zero, List.set_cons_succ]
            refine takeH (i := 17) (t := 43) (v := ?v17y18) rfl (by kernel_rfl) (by kernel_rfl) (by kernel_rfl) (fun _ _ _ h => h) rfl (Or.inl ⟨by rfl, ?h17y18⟩) hS ?r17y18
            case h17y18 => (intro V' hSw; clear hSw; go_simp; try with_reducible rfl)
            try simp only [List.setIfInBounds_toArray, List.set_cons_zero, List.set_cons_succ]
            refine takeH (i := 18) (t := 44) (v := ?v18y19) rfl (by kernel_rfl) (by kernel_rfl) (by kernel_rfl) (fun _ _ _ h => h) rfl (Or.inl ⟨by rfl, ?h18y19⟩) hS ?r18y19
            case h18y19 => (intro V' hSw; clear hSw; go_simp; try with_reducible rfl)
            try simp only [List.setIfInBounds_toArray, List.set_cons_zero, List.set_cons_succ]
            refine takeH (i := 19) (t := 45) (v := ?v19y20) rfl (by kernel_rfl) (by kernel_rfl) (by kernel_rfl) (fun _ _ _ h => h) rfl (Or.inl ⟨by rfl, ?h19y20⟩) hS ?r19y20
            case h19y20 => (intro V' hSw; clear hSw; go_simp; try with_reducible rfl)
            try simp only [List.setIfInBounds_toArray, List.set_cons_zero, List.set_cons_succ]
            refine takeH (i := 20) (t := 46) (v := ?v20y21) rfl (by kernel_rfl) (by kernel_rfl) (by kernel_rfl) (fun _ _ _ h => h) rfl (Or.inl ⟨by rfl, ?h20y21⟩) hS ?r20y21
            case h20y21 => (intro V' hSw; clear hSw; go_simp; try with_reducible rfl)
            try simp only [List.setIfInBounds_toArray, List.set_cons_zero, List.set_cons_succ]
            refine takeH (i := 21) (t := 47) (v := ?v21y22) rfl (by kernel_rfl) (by kernel_rfl) (by kernel_rfl) (fun _ _ _ h => h) rfl (Or.inl ⟨by rfl, ?h21y22⟩) hS ?r21y22
            case h21y22 => (intro V' hSw; have q := cell_q hSw K5.out; clear hSw; go_simp; try with_reducible rfl)
            try simp only [List.setIfInBounds_toArray, List.set_cons_zero, List.set_cons_succ]
            refine takeH (i := 22) (t := 48) (v := ?v22y23) rfl (by kernel_rfl) (by kernel_rfl) (by kernel_rfl) (fun _ _ _ h => h) rfl (Or.inl ⟨by rfl, ?h22y23⟩) hS ?r22y23
            case h22y23 => (intro V' hSw; clear hSw; go_simp; try with_reducible rfl)
            try simp only [List.setIfInBounds_toArray, List.set_cons_zero, List.set_cons_succ]
            refine takeH (i := 23) (t := 49) (v := ?v23y24) rfl (by kernel_rfl) (by kernel_rfl) (by kernel_rfl) (fun _ _ _ h => h) rfl (Or.inl ⟨by rfl, ?h23y24⟩) hS ?r23y24
            case h23y24 => (intro V' hSw; clear hSw; go_simp; try with_reducible rfl)
            try simp only [List.setIfInBounds_toArray, List.set_cons_zero, List.set_cons_succ]
            refine takeH (i := 24) (t := 50) (v := ?v24y25) rfl (by kernel_rfl) (by kernel_rfl) (by kernel_rfl) (fun _ _ _ h => h) rfl (Or.inl ⟨by rfl, ?h24y25⟩) hS ?r24y25
            case h24y25 => (intro V' hSw; clear hSw; go_simp; try with_reducible rfl)
            try simp only [List.setIfInBounds_toArray, List.set_cons_zero, List.set_cons_succ]
            refine takeH (i := 25) (t := 51) (v := ?v25y26) rfl (by kernel_rfl) (by kernel_rfl) (by kernel_rfl) (fun _ _ _ h => h) rfl (Or.inl ⟨by rfl, ?h25y26⟩) hS ?r25y26
            case h25y26 => (intro V' hSw; have q := cell_q hSw K1.out; clear hSw; go_simp; try with_reducible rfl)
            try simp only [List.setIfInBounds_toArray, List.set_cons_zero, List.set_cons_succ]
            refine takeH (i := 26) (t := 52) (v := ?v26y27) rfl (by kernel_rfl) (by kernel_rfl) (by kernel_rfl) (fun _ _ _ h => h) rfl (Or.inl ⟨by rfl, ?h26y27⟩) hS ?r26y27
            case h26y27 => (intro V' hSw; clear hSw; go_simp; try with_reducible rfl)
            try simp only [List.setIfInBounds_toArray, List.set_cons_zero, List.set_cons_succ]
            refine takeH (i := 27) (t := 53) (v := ?v27y28) rfl (by kernel_rfl) (by kernel_rfl) (by kernel_rfl) (fun _ _ _ h => h) rfl (Or.inl ⟨by rfl, ?h27y28⟩) hS ?r27y28
            case h27y28 => (intro V' hSw; clear hSw; go_simp; try with_reducible rfl)
            try simp only [List.setIfInBounds_toArray, List.set_cons_zero, List.set_cons_succ]
            refine takeH (i := 28) (t := 54) (v := ?v28y29) rfl (by kernel_rfl) (by kernel_rfl) (by kernel_rfl) (fun _ _ _ h => h) rfl (Or.inl ⟨by rfl, ?h28y29⟩) hS ?r28y29
            case h28y29 => (intro V' hSw; clear hSw; go_simp; try with_reducible rfl)
            try simp only [List.setIfInBounds_toArray, List.set_cons_zero, List.set_cons_succ]
            refine takeH (i := 29) (t := 55) (v := ?v29y30) rfl (by kernel_rfl) (by kernel_rfl) (by kernel_rfl) (fun _ _ _ h => h) rfl (Or.inl ⟨by rfl, ?h29y30⟩) hS ?r29y30
            case h29y30 => (intro V' hSw; have q := cell_q hSw K6.out; clear hSw; go_simp; try with_reducible rfl)
            try simp only [List.setIfInBounds_toArray, List.set_cons_zero, List.set_cons_succ]
            refine takeH (i := 30) (t := 56) (v := ?v30y31) rfl (by kernel_rfl) (by kernel_rfl) (by kernel_rfl) (fun _ _ _ h => h) rfl (Or.inl ⟨by rfl, ?h30y31⟩) hS ?r30y31
            case h30y31 => (intro V' hSw; clear hSw; go_simp; try with_reducible rfl)
            try simp only [List.setIfInBounds_toArray, List.set_cons_zero, List.set_cons_succ]
            refine takeH (i := 31) (t := 57) (v := ?v31y32) rfl (by kernel_rfl) (by kernel_rfl) (by kernel_rfl) (fun _ _ _ h => h) rfl (Or.inl ⟨by rfl, ?h31y32⟩) hS ?r31y32
            case h31y32 => (intro V' hSw; have q := cell_q hSw K7.out; clear hSw; go_simp; try with_reducible rfl)
            try simp only [List.setIfInBounds_toArray, List.set_cons_zero, List.set_cons_succ]
            refine takeH (i := 32) (t := 58) (v := .string s1) rfl (by kernel_rfl) (by kernel_rfl) (by kernel_rfl) (fun _ _ _ h => h) rfl (Or.inl ⟨by rfl, ?h32y33⟩) hS ?r32y33
            case h32y33 => (intro V' hSw; have q := CVA.out V' hSw; clear hSw; go_simp; try with_reducible rfl)
            try simp only [List.setIfInBounds_toArray, List.set_cons_zero, List.set_cons_succ]
            refine takeH (i := 33) (t := 59) (v := ?v33y34) rfl (by kernel_rfl) (by kernel_rfl) (by kernel_rfl) (fun _ _ _ h => h) rfl (Or.inl ⟨by rfl, ?h33y34⟩) hS ?r33y34
            case h33y34 => (intro V' hSw; clear hSw; go_simp; try with_reducible rfl)
            try simp only [List.setIfInBounds_toArray, List.set_cons_zero, List.set_cons_succ]
            refine takeH (i := 34) (t := 60) (v := ?v34y35) rfl (by kernel_rfl) (by kernel_rfl) (by kernel_rfl) (fun _ _ _ h => h) rfl (Or.inl ⟨by rfl, ?h34y35⟩) hS ?r34y35
            case h34y35 => (intro V' hSw; clear hSw; go_simp; try with_reducible rfl)
            try simp only [List.setIfInBounds_toArray, List.set_cons_zero, List.set_cons_succ]
            refine takeH (i := 35) (t := 61) (v := ?v35y36) rfl (by kernel_rfl) (by kernel_rfl) (by kernel_rfl) (fun _ _ _ h => h) rfl (Or.inl ⟨by rfl, ?h35y36⟩) hS ?r35y36
            case h35y36 => (intro V' hSw; clear hSw; go_simp; try with_reducible rfl)
            try simp only [List.setIfInBounds_toArray, List.set_cons_zero, List.set_cons_succ]
            refine takeH (i := 36) (t := 62) (v := ?v36y37) rfl (by kernel_rfl) (by kernel_rfl) (by kernel_rfl) (fun _ _ _ h => h) rfl (Or.inl ⟨by rfl, ?h36y37⟩) hS ?r36y37
            case h36y37 => (intro V' hSw; have q := cell_q hSw K8.out; clear hSw; go_simp; try with_reducible rfl)
            try simp only [List.setIfInBounds_toArray, List.set_cons_zero, List.set_cons_succ]
            refine takeH (i := 37) (t := 63) (v := ?v37y38) rfl (by kernel_rfl) (by kernel_rfl) (by kernel_rfl) (fun _ _ _ h => h) rfl (Or.inl ⟨by rfl, ?h37y38⟩) hS ?r37y38
            case h37y38 => (intro V' hSw; clear hSw; go_simp; try with_reducible rfl)
            try simp only [List.setIfInBounds_toArray, List.set_cons_zero, List.set_cons_succ]
            refine takeH (i := 38) (t := 64) (v := ?v38y39) rfl (by kernel_rfl) (by kernel_rfl) (by kernel_rfl) (fun _ _ _ h => h) rfl (Or.inl ⟨by rfl, ?h38y39⟩) hS ?r38y39
            case h38y39 => (intro V' hSw; clear hSw; go_simp; try with_reducible rfl)
            try simp only [List.setIfInBounds_toArray, List.set_cons_zero, List.set_cons_succ]
            refine takeH (i := 39) (t := 65) (v := ?v39y40) rfl (by kernel_rfl) (by kernel_rfl) (by kernel_rfl) (fun _ _ _ h => h) rfl (Or.inl ⟨by rfl, ?h39y40⟩) hS ?r39y40
            case h39y40 => (intro V' hSw; clear hSw; go_simp; try with_reducible rfl)
            try simp only [List.setIfInBounds_toArray, List.set_cons_zero, List.set_cons_succ]
            refine takeH (i := 40) (t := 66) (v := ?v40y41) rfl (by kernel_rfl) (by kernel_rfl) (by kernel_rfl) (fun _ _ _ h => h) rfl (Or.inl ⟨by rfl, ?h40y41⟩) hS ?r40y41
            case h40y41 => (intro V' hSw; have q := cell_q hSw K3.out; clear hSw; go_simp; try with_reducible rfl)
            try simp only [List.setIfInBounds_toArray, List.set_cons_zero, List.set_cons_succ]
            refine takeH (i := 41) (t := 67) (v := ?v41y42) rfl (by kernel_rfl) (by kernel_rfl) (by kernel_rfl) (fun _ _ _ h => h) rfl (Or.inl ⟨by rfl, ?h41y42⟩) hS ?r41y42
            case h41y42 => (intro V' hSw; clear hSw; go_simp; try with_reducible rfl)
            try simp only [List.setIfInBounds_toArray, List.set_cons_zero, List.set_cons_succ]
            refine takeH (i := 42) (t := 68) (v := ?v42y43) rfl (by kernel_rfl) (by kernel_rfl) (by kernel_rfl) (fun _ _ _ h => h) rfl (Or.inl ⟨by rfl, ?h42y43⟩) hS ?r42y43
            case h42y43 => (intro V' hSw; clear hSw; go_simp; try with_reducible rfl)
            try simp only [List.setIfInBounds_toArray, List.set_cons_zero, List.set_cons_succ]
            refine takeH (i := 43) (t := 69) (v := ?v43y44) rfl (by kernel_rfl) (by kernel_rfl) (by kernel_rfl) (fun _ _ _ h => h) rfl (Or.inl ⟨by rfl, ?h43y44⟩) hS ?r43y44
            case h43y44 => (intro V' hSw; clear hSw; go_simp; try with_reducible rfl)
            try simp only [List.setIfInBounds_toArray, List.set_cons_zero, List.set_cons_succ]
            refine takeH (i := 44) (t := 70) (v := ?v44y45) rfl (by kernel_rfl) (by kernel_rfl) (by kernel_rfl) (fun _ _ _ h => h) rfl (Or.inl ⟨by rfl, ?h44y45⟩) hS ?r44y45
            case h44y45 => (intro V' hSw; have q := cell_q hSw K9.out; clear hSw; go_simp; try with_reducible rfl)
            try simp only [List.setIfInBounds_toArray, List.set_cons_zero, List.set_cons_succ]
            refine takeH (i := 45) (t := 71) (v := ?v45y46) rfl (by kernel_rfl) (by kernel_rfl) (by kernel_rfl) (fun _ _ _ h => h) rfl (Or.inl ⟨by rfl, ?h45y46⟩) hS ?r45y46
            case h45y46 => (intro V' hSw; clear hSw; go_simp; try with_reducible rfl)
            try simp only [List.setIfInBounds_toArray, List.set_cons_zero, List.set_cons_succ]
            refine takeH (i := 46) (t := 72) (v := ?v46y47) rfl (by kernel_rfl) (by kernel_rfl) (by kernel_rfl) (fun _ _ _ h => h) rfl (Or.inl ⟨by rfl, ?h46y47⟩) hS ?r46y47
            case h46y47 => (intro V' hSw; have q := cell_q hSw K10.out; clear hSw; go_simp; try with_reducible rfl)
            try simp only [List.setIfInBounds_toArray, List.set_cons_zero, List.set_cons_succ]
            refine takeH (i := 47) (t := 73) (v := .string s2) rfl (by kernel_rfl) (by kernel_rfl) (by kernel_rfl) (fun _ _ _ h => h) rfl (Or.inl ⟨by rfl, ?h47y48⟩) hS ?r47y48
            case h47y48 => (intro V' hSw; have q := CVB.out V' hSw; clear hSw; go_simp; try with_reducible rfl)
            try simp only [List.setIfInBounds_toArray, List.set_cons_zero, List.set_cons_succ]
            refine takeH (i := 48) (t := 74) (v := .bool false) rfl (by kernel_rfl) (by kernel_rfl) (by kernel_rfl) (fun _ _ _ h => h) rfl (Or.inl ⟨by rfl, ?h48y49⟩) hS ?r48y49
            case h48y49 => (intro V' hSw; clear hSw; go_simp; try simp only [hb2, Bool.not_true, Bool.not_false])
            try simp only [List.setIfInBounds_toArray, List.set_cons_zero, List.set_cons_succ]
            refine takeH (i := 49) (t := 75) (v := ?v49y50) rfl (by kernel_rfl) (by kernel_rfl) (by kernel_rfl) (fun _ _ _ h => h) rfl (Or.inl ⟨by rfl, ?h49y50⟩) hS ?r49y50
            case h49y50 => (intro V' hSw; clear hSw; go_simp; try with_reducible rfl)
            try simp only [List.setIfInBounds_toArray, List.set_cons_zero, List.set_cons_succ]
            refine wpAnyH_done (by kernel_rfl) ?_ _
            have HS := Go.Lib.hid hS
            clear hS
            go_wp2_with fail
            refine ⟨⟨i + 1, hlt, rfl, HT.out, HS.out⟩, by simp only [intOf]; omega⟩
          · have hb2 : (s1.toList == s2.toList) = false := by rw [HTB.out]; simpa using htx
            have HR : Hid (decide (U.cont = U2.cont) = false) := Go.Lib.hid (by
              rw [decide_eq_false_iff_not]
              intro e
              have h5 := HCT.out.1
              rw [e, HCT.out.2] at h5
              injection h5 with h5
              injection h5 with h6 h7
              exact htx h7.symm)
            clear hnm htx
            go_wp2_with fail
            refine regionH (fun V' => Chg NoB W V') (by kernel_rfl) HC.out.drew (fun hS => ?_)
            refine takeH (i := 0) (t := 26) (v := ?v0y51) rfl (by kernel_rfl) (by kernel_rfl) (by kernel_rfl) (fun _ _ _ h => h) rfl (Or.inl ⟨by rfl, ?h0y51⟩) hS ?r0y51
            case h0y51 => (intro V' hSw; clear hSw; go_simp; try with_reducible rfl)
            try simp only [List.setIfInBounds_toArray, List.set_cons_zero, List.set_cons_succ]
            refine takeH (i := 1) (t := 27) (v := ?v1y52) rfl (by kernel_rfl) (by kernel_rfl) (by kernel_rfl) (fun _ _ _ h => h) rfl (Or.inl ⟨by rfl, ?h1y52⟩) hS ?r1y52
            case h1y52 => (intro V' hSw; clear hSw; go_simp; try with_reducible rfl)
            try simp only [List.setIfInBounds_toArray, List.set_cons_zero, List.set_cons_succ]
            refine takeH (i := 2) (t := 28) (v := ?v2y53) rfl (by kernel_rfl) (by kernel_rfl) (by kernel_rfl) (fun _ _ _ h => h) rfl (Or.inl ⟨by rfl, ?h2y53⟩) hS ?r2y53
            case h2y53 => (intro V' hSw; clear hSw; go_simp; try with_reducible rfl)
            try simp only [List.setIfInBounds_toArray, List.set_cons_zero, List.set_cons_succ]
            refine takeH (i := 3) (t := 29) (v := ?v3y54) rfl (by kernel_rfl) (by kernel_rfl) (by kernel_rfl) (fun _ _ _ h => h) rfl (Or.inl ⟨by rfl, ?h3y54⟩) hS ?r3y54
            case h3y54 => (intro V' hSw; have q := cell_q hSw K1.out; clear hSw; go_simp; try with_reducible rfl)
            try simp only [List.setIfInBounds_toArray, List.set_cons_zero, List.set_cons_succ]
            refine takeH (i := 4) (t := 30) (v := ?v4y55) rfl (by kernel_rfl) (by kernel_rfl) (by kernel_rfl) (fun _ _ _ h => h) rfl (Or.inl ⟨by rfl, ?h4y55⟩) hS ?r4y55
            case h4y55 => (intro V' hSw; clear hSw; go_simp; try with_reducible rfl)
            try simp only [List.setIfInBounds_toArray, List.set_cons_zero, List.set_cons_succ]
            refine takeH (i := 5) (t := 31) (v := ?v5y56) rfl (by kernel_rfl) (by kernel_rfl) (by kernel_rfl) (fun _ _ _ h => h) rfl (Or.inl ⟨by rfl, ?h5y56⟩) hS ?r5y56
            case h5y56 => (intro V' hSw; clear hSw; go_simp; try with_reducible rfl)
            try simp only [List.setIfInBounds_toArray, List.set_cons_zero, List.set_cons_succ]
            refine takeH (i := 6) (t := 32) (v := ?v6y57) rfl (by kernel_rfl) (by kernel_rfl) (by kernel_rfl) (fun _ _ _ h => h) rfl (Or.inl ⟨by rfl, ?h6y57⟩) hS ?r6y57
            case h6y57 => (intro V' hSw; clear hSw; go_simp; try with_reducible rfl)
            try simp only [List.setIfInBounds_toArray, List.set_cons_zero, List.set_cons_succ]
            refine takeH (i := 7) (t := 33) (v := ?v7y58) rfl (by kernel_rfl) (by kernel_rfl) (by kernel_rfl) (fun _ _ _ h => h) rfl (Or.inl ⟨by rfl, ?h7y58⟩) hS ?r7y58
            case h7y58 => (intro V' hSw; have q := cell_q hSw K2.out; clear hSw; go_simp; try with_reducible rfl)
            try simp only [List.setIfInBounds_toArray, List.set_cons_zero, List.set_cons_succ]
            refine takeH (i := 8) (t := 34) (v := ?v8y59) rfl (by kernel_rfl) (by kernel_rfl) (by kernel_rfl) (fun _ _ _ h => h) rfl (Or.inl ⟨by rfl, ?h8y59⟩) hS ?r8y59
            case h8y59 => (intro V' hSw; clear hSw; go_simp; try with_reducible rfl)
            try simp only [List.setIfInBounds_toArray, List.set_cons_zero, List.set_cons_succ]
            refine takeH (i := 9) (t := 35) (v := ?v9y60) rfl (by kernel_rfl) (by kernel_rfl) (by kernel_rfl) (fun _ _ _ h => h) rfl (Or.inl ⟨by rfl, ?h9y60⟩) hS ?r9y60
            case h9y60 => (intro V' hSw; clear hSw; go_simp; try with_reducible rfl)
            try simp only [List.setIfInBounds_toArray, List.set_cons_zero, List.set_cons_succ]
            refine takeH (i := 10) (t := 36) (v := ?v10y61) rfl (by kernel_rfl) (by kernel_rfl) (by kernel_rfl) (fun _ _ _ h => h) rfl (Or.inl ⟨by rfl, ?h10y61⟩) hS ?r10y61
            case h10y61 => (intro V' hSw; clear hSw; go_simp; try with_reducible rfl)
            try simp only [List.setIfInBounds_toArray, List.set_cons_zero, List.set_cons_succ]
            refine takeH (i := 11) (t := 37) (v := ?v11y62) rfl (by kernel_rfl) (by kernel_rfl) (by kernel_rfl) (fun _ _ _ h => h) rfl (Or.inl ⟨by rfl, ?h11y62⟩) hS ?r11y62
            case h11y62 => (intro V' hSw; have q := cell_q hSw K3.out; clear hSw; go_simp; try with_reducible rfl)
            try simp only [List.setIfInBounds_toArray, List.set_cons_zero, List.set_cons_succ]
            refine takeH (i := 12) (t := 38) (v := ?v12y63) rfl (by kernel_rfl) (by kernel_rfl) (by kernel_rfl) (fun _ _ _ h => h) rfl (Or.inl ⟨by rfl, ?h12y63⟩) hS ?r12y63
            case h12y63 => (intro V' hSw; clear hSw; go_simp; try with_reducible rfl)
            try simp only [List.setIfInBounds_toArray, List.set_cons_zero, List.set_cons_succ]
            refine takeH (i := 13) (t := 39) (v := ?v13y64) rfl (by kernel_rfl) (by kernel_rfl) (by kernel_rfl) (fun _ _ _ h => h) rfl (Or.inl ⟨by rfl, ?h13y64⟩) hS ?r13y64
            case h13y64 => (intro V' hSw; clear hSw; go_simp; try with_reducible rfl)
            try simp only [List.setIfInBounds_toArray, List.set_cons_zero, List.set_cons_succ]
            refine takeH (i := 14) (t := 40) (v := ?v14y65) rfl (by kernel_rfl) (by kernel_rfl) (by kernel_rfl) (fun _ _ _ h => h) rfl (Or.inl ⟨by rfl, ?h14y65⟩) hS ?r14y65
            case h14y65 => (intro V' hSw; clear hSw; go_simp; try with_reducible rfl)
            try simp only [List.setIfInBounds_toArray, List.set_cons_zero, List.set_cons_succ]
            refine takeH (i := 15) (t := 41) (v := ?v15y66) rfl (by kernel_rfl) (by kernel_rfl) (by kernel_rfl) (fun _ _ _ h => h) rfl (Or.inl ⟨by rfl, ?h15y66⟩) hS ?r15y66
            case h15y66 => (intro V' hSw; have q := cell_q hSw K4.out; clear hSw; go_simp; try with_reducible rfl)
            try simp only [List.setIfInBounds_toArray, List.set_cons_zero, List.set_cons_succ]
            refine takeH (i := 16) (t := 42) (v := .bool false) rfl (by kernel_rfl) (by kernel_rfl) (by kernel_rfl) (fun _ _ _ h => h) rfl (Or.inl ⟨by rfl, ?h16y67⟩) hS ?r16y67
            case h16y67 => (intro V' hSw; clear hSw; go_simp; try simp only [hb1, Bool.not_true, Bool.not_false])
            try simp only [List.setIfInBounds_toArray, List.set_cons_zero, List.set_cons_succ]
            refine takeH (i := 17) (t := 43) (v := ?v17y68) rfl (by kernel_rfl) (by kernel_rfl) (by kernel_rfl) (fun _ _ _ h => h) rfl (Or.inl ⟨by rfl, ?h17y68⟩) hS ?r17y68
            case h17y68 => (intro V' hSw; clear hSw; go_simp; try with_reducible rfl)
            try simp only [List.setIfInBounds_toArray, List.set_cons_zero, List.set_cons_succ]
            refine takeH (i := 18) (t := 44) (v := ?v18y69) rfl (by kernel_rfl) (by kernel_rfl) (by kernel_rfl) (fun _ _ _ h => h) rfl (Or.inl ⟨by rfl, ?h18y69⟩) hS ?r18y69
            case h18y69 => (intro V' hSw; clear hSw; go_simp; try with_reducible rfl)
            try simp only [List.setIfInBounds_toArray, List.set_cons_zero, List.set_cons_succ]
            refine takeH (i := 19) (t := 45) (v := ?v19y70) rfl (by kernel_rfl) (by kernel_rfl) (by kernel_rfl) (fun _ _ _ h => h) rfl (Or.inl ⟨by rfl, ?h19y70⟩) hS ?r19y70
            case h19y70 => (intro V' hSw; clear hSw; go_simp; try with_reducible rfl)
            try simp only [List.setIfInBounds_toArray, List.set_cons_zero, List.set_cons_succ]
            refine takeH (i := 20) (t := 46) (v := ?v20y71) rfl (by kernel_rfl) (by kernel_rfl) (by kernel_rfl) (fun _ _ _ h => h) rfl (Or.inl ⟨by rfl, ?h20y71⟩) hS ?r20y71
            case h20y71 => (intro V' hSw; clear hSw; go_simp; try with_reducible rfl)
            try simp only [List.setIfInBounds_toArray, List.set_cons_zero, List.set_cons_succ]
            refine takeH (i := 21) (t := 47) (v := ?v21y72) rfl (by kernel_rfl) (by kernel_rfl) (by kernel_rfl) (fun _ _ _ h => h) rfl (Or.inl ⟨by rfl, ?h21y72⟩) hS ?r21y72
            case h21y72 => (intro V' hSw; have q := cell_q hSw K5.out; clear hSw; go_simp; try with_reducible rfl)
            try simp only [List.setIfInBounds_toArray, List.set_cons_zero, List.set_cons_succ]
            refine takeH (i := 22) (t := 48) (v := ?v22y73) rfl (by kernel_rfl) (by kernel_rfl) (by kernel_rfl) (fun _ _ _ h => h) rfl (Or.inl ⟨by rfl, ?h22y73⟩) hS ?r22y73
            case h22y73 => (intro V' hSw; clear hSw; go_simp; try with_reducible rfl)
            try simp only [List.setIfInBounds_toArray, List.set_cons_zero, List.set_cons_succ]
            refine takeH (i := 23) (t := 49) (v := ?v23y74) rfl (by kernel_rfl) (by kernel_rfl) (by kernel_rfl) (fun _ _ _ h => h) rfl (Or.inl ⟨by rfl, ?h23y74⟩) hS ?r23y74
            case h23y74 => (intro V' hSw; clear hSw; go_simp; try with_reducible rfl)
            try simp only [List.setIfInBounds_toArray, List.set_cons_zero, List.set_cons_succ]
            refine takeH (i := 24) (t := 50) (v := ?v24y75) rfl (by kernel_rfl) (by kernel_rfl) (by kernel_rfl) (fun _ _ _ h => h) rfl (Or.inl ⟨by rfl, ?h24y75⟩) hS ?r24y75
            case h24y75 => (intro V' hSw; clear hSw; go_simp; try with_reducible rfl)
            try simp only [List.setIfInBounds_toArray, List.set_cons_zero, List.set_cons_succ]
            refine takeH (i := 25) (t := 51) (v := ?v25y76) rfl (by kernel_rfl) (by kernel_rfl) (by kernel_rfl) (fun _ _ _ h => h) rfl (Or.inl ⟨by rfl, ?h25y76⟩) hS ?r25y76
            case h25y76 => (intro V' hSw; have q := cell_q hSw K1.out; clear hSw; go_simp; try with_reducible rfl)
            try simp only [List.setIfInBounds_toArray, List.set_cons_zero, List.set_cons_succ]
            refine takeH (i := 26) (t := 52) (v := ?v26y77) rfl (by kernel_rfl) (by kernel_rfl) (by kernel_rfl) (fun _ _ _ h => h) rfl (Or.inl ⟨by rfl, ?h26y77⟩) hS ?r26y77
            case h26y77 => (intro V' hSw; clear hSw; go_simp; try with_reducible rfl)
            try simp only [List.setIfInBounds_toArray, List.set_cons_zero, List.set_cons_succ]
            refine takeH (i := 27) (t := 53) (v := ?v27y78) rfl (by kernel_rfl) (by kernel_rfl) (by kernel_rfl) (fun _ _ _ h => h) rfl (Or.inl ⟨by rfl, ?h27y78⟩) hS ?r27y78
            case h27y78 => (intro V' hSw; clear hSw; go_simp; try with_reducible rfl)
            try simp only [List.setIfInBounds_toArray, List.set_cons_zero, List.set_cons_succ]
            refine takeH (i := 28) (t := 54) (v := ?v28y79) rfl (by kernel_rfl) (by kernel_rfl) (by kernel_rfl) (fun _ _ _ h => h) rfl (Or.inl ⟨by rfl, ?h28y79⟩) hS ?r28y79
            case h28y79 => (intro V' hSw; clear hSw; go_simp; try with_reducible rfl)
            try simp only [List.setIfInBounds_toArray, List.set_cons_zero, List.set_cons_succ]
            refine takeH (i := 29) (t := 55) (v := ?v29y80) rfl (by kernel_rfl) (by kernel_rfl) (by kernel_rfl) (fun _ _ _ h => h) rfl (Or.inl ⟨by rfl, ?h29y80⟩) hS ?r29y80
            case h29y80 => (intro V' hSw; have q := cell_q hSw K6.out; clear hSw; go_simp; try with_reducible rfl)
            try simp only [List.setIfInBounds_toArray, List.set_cons_zero, List.set_cons_succ]
            refine takeH (i := 30) (t := 56) (v := ?v30y81) rfl (by kernel_rfl) (by kernel_rfl) (by kernel_rfl) (fun _ _ _ h => h) rfl (Or.inl ⟨by rfl, ?h30y81⟩) hS ?r30y81
            case h30y81 => (intro V' hSw; clear hSw; go_simp; try with_reducible rfl)
            try simp only [List.setIfInBounds_toArray, List.set_cons_zero, List.set_cons_succ]
            refine takeH (i := 31) (t := 57) (v := ?v31y82) rfl (by kernel_rfl) (by kernel_rfl) (by kernel_rfl) (fun _ _ _ h => h) rfl (Or.inl ⟨by rfl, ?h31y82⟩) hS ?r31y82
            case h31y82 => (intro V' hSw; have q := cell_q hSw K7.out; clear hSw; go_simp; try with_reducible rfl)
            try simp only [List.setIfInBounds_toArray, List.set_cons_zero, List.set_cons_succ]
            refine takeH (i := 32) (t := 58) (v := .string s1) rfl (by kernel_rfl) (by kernel_rfl) (by kernel_rfl) (fun _ _ _ h => h) rfl (Or.inl ⟨by rfl, ?h32y83⟩) hS ?r32y83
            case h32y83 => (intro V' hSw; have q := CVA.out V' hSw; clear hSw; go_simp; try with_reducible rfl)
            try simp only [List.setIfInBounds_toArray, List.set_cons_zero, List.set_cons_succ]
            refine takeH (i := 33) (t := 59) (v := ?v33y84) rfl (by kernel_rfl) (by kernel_rfl) (by kernel_rfl) (fun _ _ _ h => h) rfl (Or.inl ⟨by rfl, ?h33y84⟩) hS ?r33y84
            case h33y84 => (intro V' hSw; clear hSw; go_simp; try with_reducible rfl)
            try simp only [List.setIfInBounds_toArray, List.set_cons_zero, List.set_cons_succ]
            refine takeH (i := 34) (t := 60) (v := ?v34y85) rfl (by kernel_rfl) (by kernel_rfl) (by kernel_rfl) (fun _ _ _ h => h) rfl (Or.inl ⟨by rfl, ?h34y85⟩) hS ?r34y85
            case h34y85 => (intro V' hSw; clear hSw; go_simp; try with_reducible rfl)
            try simp only [List.setIfInBounds_toArray, List.set_cons_zero, List.set_cons_succ]
            refine takeH (i := 35) (t := 61) (v := ?v35y86) rfl (by kernel_rfl) (by kernel_rfl) (by kernel_rfl) (fun _ _ _ h => h) rfl (Or.inl ⟨by rfl, ?h35y86⟩) hS ?r35y86
            case h35y86 => (intro V' hSw; clear hSw; go_simp; try with_reducible rfl)
            try simp only [List.setIfInBounds_toArray, List.set_cons_zero, List.set_cons_succ]
            refine takeH (i := 36) (t := 62) (v := ?v36y87) rfl (by kernel_rfl) (by kernel_rfl) (by kernel_rfl) (fun _ _ _ h => h) rfl (Or.inl ⟨by rfl, ?h36y87⟩) hS ?r36y87
            case h36y87 => (intro V' hSw; have q := cell_q hSw K8.out; clear hSw; go_simp; try with_reducible rfl)
            try simp only [List.setIfInBounds_toArray, List.set_cons_zero, List.set_cons_succ]
            refine takeH (i := 37) (t := 63) (v := ?v37y88) rfl (by kernel_rfl) (by kernel_rfl) (by kernel_rfl) (fun _ _ _ h => h) rfl (Or.inl ⟨by rfl, ?h37y88⟩) hS ?r37y88
            case h37y88 => (intro V' hSw; clear hSw; go_simp; try with_reducible rfl)
            try simp only [List.setIfInBounds_toArray, List.set_cons_zero, List.set_cons_succ]
            refine takeH (i := 38) (t := 64) (v := ?v38y89) rfl (by kernel_rfl) (by kernel_rfl) (by kernel_rfl) (fun _ _ _ h => h) rfl (Or.inl ⟨by rfl, ?h38y89⟩) hS ?r38y89
            case h38y89 => (intro V' hSw; clear hSw; go_simp; try with_reducible rfl)
            try simp only [List.setIfInBounds_toArray, List.set_cons_zero, List.set_cons_succ]
            refine takeH (i := 39) (t := 65) (v := ?v39y90) rfl (by kernel_rfl) (by kernel_rfl) (by kernel_rfl) (fun _ _ _ h => h) rfl (Or.inl ⟨by rfl, ?h39y90⟩) hS ?r39y90
            case h39y90 => (intro V' hSw; clear hSw; go_simp; try with_reducible rfl)
            try simp only [List.setIfInBounds_toArray, List.set_cons_zero, List.set_cons_succ]
            refine takeH (i := 40) (t := 66) (v := ?v40y91) rfl (by kernel_rfl) (by kernel_rfl) (by kernel_rfl) (fun _ _ _ h => h) rfl (Or.inl ⟨by rfl, ?h40y91⟩) hS ?r40y91
            case h40y91 => (intro V' hSw; have q := cell_q hSw K3.out; clear hSw; go_simp; try with_reducible rfl)
            try simp only [List.setIfInBounds_toArray, List.set_cons_zero, List.set_cons_succ]
            refine takeH (i := 41) (t := 67) (v := ?v41y92) rfl (by kernel_rfl) (by kernel_rfl) (by kernel_rfl) (fun _ _ _ h => h) rfl (Or.inl ⟨by rfl, ?h41y92⟩) hS ?r41y92
            case h41y92 => (intro V' hSw; clear hSw; go_simp; try with_reducible rfl)
            try simp only [List.setIfInBounds_toArray, List.set_cons_zero, List.set_cons_succ]
            refine takeH (i := 42) (t := 68) (v := ?v42y93) rfl (by kernel_rfl) (by kernel_rfl) (by kernel_rfl) (fun _ _ _ h => h) rfl (Or.inl ⟨by rfl, ?h42y93⟩) hS ?r42y93
            case h42y93 => (intro V' hSw; clear hSw; go_simp; try with_reducible rfl)
            try simp only [List.setIfInBounds_toArray, List.set_cons_zero, List.set_cons_succ]
            refine takeH (i := 43) (t := 69) (v := ?v43y94) rfl (by kernel_rfl) (by kernel_rfl) (by kernel_rfl) (fun _ _ _ h => h) rfl (Or.inl ⟨by rfl, ?h43y94⟩) hS ?r43y94
            case h43y94 => (intro V' hSw; clear hSw; go_simp; try with_reducible rfl)
            try simp only [List.setIfInBounds_toArray, List.set_cons_zero, List.set_cons_succ]
            refine takeH (i := 44) (t := 70) (v := ?v44y95) rfl (by kernel_rfl) (by kernel_rfl) (by kernel_rfl) (fun _ _ _ h => h) rfl (Or.inl ⟨by rfl, ?h44y95⟩) hS ?r44y95
            case h44y95 => (intro V' hSw; have q := cell_q hSw K9.out; clear hSw; go_simp; try with_reducible rfl)
            try simp only [List.setIfInBounds_toArray, List.set_cons_zero, List.set_cons_succ]
            refine takeH (i := 45) (t := 71) (v := ?v45y96) rfl (by kernel_rfl) (by kernel_rfl) (by kernel_rfl) (fun _ _ _ h => h) rfl (Or.inl ⟨by rfl, ?h45y96⟩) hS ?r45y96
            case h45y96 => (intro V' hSw; clear hSw; go_simp; try with_reducible rfl)
            try simp only [List.setIfInBounds_toArray, List.set_cons_zero, List.set_cons_succ]
            refine takeH (i := 46) (t := 72) (v := ?v46y97) rfl (by kernel_rfl) (by kernel_rfl) (by kernel_rfl) (fun _ _ _ h => h) rfl (Or.inl ⟨by rfl, ?h46y97⟩) hS ?r46y97
            case h46y97 => (intro V' hSw; have q := cell_q hSw K10.out; clear hSw; go_simp; try with_reducible rfl)
            try simp only [List.setIfInBounds_toArray, List.set_cons_zero, List.set_cons_succ]
            refine takeH (i := 47) (t := 73) (v := .string s2) rfl (by kernel_rfl) (by kernel_rfl) (by kernel_rfl) (fun _ _ _ h => h) rfl (Or.inl ⟨by rfl, ?h47y98⟩) hS ?r47y98
            case h47y98 => (intro V' hSw; have q := CVB.out V' hSw; clear hSw; go_simp; try with_reducible rfl)
            try simp only [List.setIfInBounds_toArray, List.set_cons_zero, List.set_cons_succ]
            refine takeH (i := 48) (t := 74) (v := .bool true) rfl (by kernel_rfl) (by kernel_rfl) (by kernel_rfl) (fun _ _ _ h => h) rfl (Or.inl ⟨by rfl, ?h48y99⟩) hS ?r48y99
            case h48y99 => (intro V' hSw; clear hSw; go_simp; try simp only [hb2, Bool.not_true, Bool.not_false])
            try simp only [List.setIfInBounds_toArray, List.set_cons_zero, List.set_cons_succ]
            refine takeH (i := 49) (t := 75) (v := ?v49y100) rfl (by kernel_rfl) (by kernel_rfl) (by kernel_rfl) (fun _ _ _ h => h) rfl (Or.inl ⟨by rfl, ?h49y100⟩) hS ?r49y100
            case h49y100 => (intro V' hSw; clear hSw; go_simp; try with_reducible rfl)
            try simp only [List.setIfInBounds_toArray, List.set_cons_zero, List.set_cons_succ]
            refine wpAnyH_done (by kernel_rfl) ?_ _
            have HS := Go.Lib.hid hS
            clear hS
            go_wp2_with fail
            go_ret
            exact ⟨by rw [HR.out]; rfl, HS.out⟩
        · have hb1 : (nm1.toList == nm2.toList) = false := by
            rw [Bool.eq_false_iff]
            intro e
            exact hnm (toList_ne (eq_of_beq e))
          have HR : Hid (decide (U.cont = U2.cont) = false) := Go.Lib.hid (by
            rw [decide_eq_false_iff_not]
            intro e
            have h5 := HCT.out.1
            rw [e, HCT.out.2] at h5
            injection h5 with h5
            injection h5 with h6 h7
            exact hnm h6.symm)
          clear hnm
          go_wp2_with fail
          refine regionH (fun V' => Chg NoB W V') (by kernel_rfl) HC.out.drew (fun hS => ?_)
          refine takeH (i := 0) (t := 26) (v := ?v0y101) rfl (by kernel_rfl) (by kernel_rfl) (by kernel_rfl) (fun _ _ _ h => h) rfl (Or.inl ⟨by rfl, ?h0y101⟩) hS ?r0y101
          case h0y101 => (intro V' hSw; clear hSw; go_simp; try with_reducible rfl)
          try simp only [List.setIfInBounds_toArray, List.set_cons_zero, List.set_cons_succ]
          refine takeH (i := 1) (t := 27) (v := ?v1y102) rfl (by kernel_rfl) (by kernel_rfl) (by kernel_rfl) (fun _ _ _ h => h) rfl (Or.inl ⟨by rfl, ?h1y102⟩) hS ?r1y102
          case h1y102 => (intro V' hSw; clear hSw; go_simp; try with_reducible rfl)
          try simp only [List.setIfInBounds_toArray, List.set_cons_zero, List.set_cons_succ]
          refine takeH (i := 2) (t := 28) (v := ?v2y103) rfl (by kernel_rfl) (by kernel_rfl) (by kernel_rfl) (fun _ _ _ h => h) rfl (Or.inl ⟨by rfl, ?h2y103⟩) hS ?r2y103
          case h2y103 => (intro V' hSw; clear hSw; go_simp; try with_reducible rfl)
          try simp only [List.setIfInBounds_toArray, List.set_cons_zero, List.set_cons_succ]
          refine takeH (i := 3) (t := 29) (v := ?v3y104) rfl (by kernel_rfl) (by kernel_rfl) (by kernel_rfl) (fun _ _ _ h => h) rfl (Or.inl ⟨by rfl, ?h3y104⟩) hS ?r3y104
          case h3y104 => (intro V' hSw; have q := cell_q hSw K1.out; clear hSw; go_simp; try with_reducible rfl)
          try simp only [List.setIfInBounds_toArray, List.set_cons_zero, List.set_cons_succ]
          refine takeH (i := 4) (t := 30) (v := ?v4y105) rfl (by kernel_rfl) (by kernel_rfl) (by kernel_rfl) (fun _ _ _ h => h) rfl (Or.inl ⟨by rfl, ?h4y105⟩) hS ?r4y105
          case h4y105 => (intro V' hSw; clear hSw; go_simp; try with_reducible rfl)
          try simp only [List.setIfInBounds_toArray, List.set_cons_zero, List.set_cons_succ]
          refine takeH (i := 5) (t := 31) (v := ?v5y106) rfl (by kernel_rfl) (by kernel_rfl) (by kernel_rfl) (fun _ _ _ h => h) rfl (Or.inl ⟨by rfl, ?h5y106⟩) hS ?r5y106
          case h5y106 => (intro V' hSw; clear hSw; go_simp; try with_reducible rfl)
          try simp only [List.setIfInBounds_toArray, List.set_cons_zero, List.set_cons_succ]
          refine takeH (i := 6) (t := 32) (v := ?v6y107) rfl (by kernel_rfl) (by kernel_rfl) (by kernel_rfl) (fun _ _ _ h => h) rfl (Or.inl ⟨by rfl, ?h6y107⟩) hS ?r6y107
          case h6y107 => (intro V' hSw; clear hSw; go_simp; try with_reducible rfl)
          try simp only [List.setIfInBounds_toArray, List.set_cons_zero, List.set_cons_succ]
          refine takeH (i := 7) (t := 33) (v := ?v7y108) rfl (by kernel_rfl) (by kernel_rfl) (by kernel_rfl) (fun _ _ _ h => h) rfl (Or.inl ⟨by rfl, ?h7y108⟩) hS ?r7y108
          case h7y108 => (intro V' hSw; have q := cell_q hSw K2.out; clear hSw; go_simp; try with_reducible rfl)
          try simp only [List.setIfInBounds_toArray, List.set_cons_zero, List.set_cons_succ]
          refine takeH (i := 8) (t := 34) (v := ?v8y109) rfl (by kernel_rfl) (by kernel_rfl) (by kernel_rfl) (fun _ _ _ h => h) rfl (Or.inl ⟨by rfl, ?h8y109⟩) hS ?r8y109
          case h8y109 => (intro V' hSw; clear hSw; go_simp; try with_reducible rfl)
          try simp only [List.setIfInBounds_toArray, List.set_cons_zero, List.set_cons_succ]
          refine takeH (i := 9) (t := 35) (v := ?v9y110) rfl (by kernel_rfl) (by kernel_rfl) (by kernel_rfl) (fun _ _ _ h => h) rfl (Or.inl ⟨by rfl, ?h9y110⟩) hS ?r9y110
          case h9y110 => (intro V' hSw; clear hSw; go_simp; try with_reducible rfl)
          try simp only [List.setIfInBounds_toArray, List.set_cons_zero, List.set_cons_succ]
          refine takeH (i := 10) (t := 36) (v := ?v10y111) rfl (by kernel_rfl) (by kernel_rfl) (by kernel_rfl) (fun _ _ _ h => h) rfl (Or.inl ⟨by rfl, ?h10y111⟩) hS ?r10y111
          case h10y111 => (intro V' hSw; clear hSw; go_simp; try with_reducible rfl)
          try simp only [List.setIfInBounds_toArray, List.set_cons_zero, List.set_cons_succ]
          refine takeH (i := 11) (t := 37) (v := ?v11y112) rfl (by kernel_rfl) (by kernel_rfl) (by kernel_rfl) (fun _ _ _ h => h) rfl (Or.inl ⟨by rfl, ?h11y112⟩) hS ?r11y112
          case h11y112 => (intro V' hSw; have q := cell_q hSw K3.out; clear hSw; go_simp; try with_reducible rfl)
          try simp only [List.setIfInBounds_toArray, List.set_cons_zero, List.set_cons_succ]
          refine takeH (i := 12) (t := 38) (v := ?v12y113) rfl (by kernel_rfl) (by kernel_rfl) (by kernel_rfl) (fun _ _ _ h => h) rfl (Or.inl ⟨by rfl, ?h12y113⟩) hS ?r12y113
          case h12y113 => (intro V' hSw; clear hSw; go_simp; try with_reducible rfl)
          try simp only [List.setIfInBounds_toArray, List.set_cons_zero, List.set_cons_succ]
          refine takeH (i := 13) (t := 39) (v := ?v13y114) rfl (by kernel_rfl) (by kernel_rfl) (by kernel_rfl) (fun _ _ _ h => h) rfl (Or.inl ⟨by rfl, ?h13y114⟩) hS ?r13y114
          case h13y114 => (intro V' hSw; clear hSw; go_simp; try with_reducible rfl)
          try simp only [List.setIfInBounds_toArray, List.set_cons_zero, List.set_cons_succ]
          refine takeH (i := 14) (t := 40) (v := ?v14y115) rfl (by kernel_rfl) (by kernel_rfl) (by kernel_rfl) (fun _ _ _ h => h) rfl (Or.inl ⟨by rfl, ?h14y115⟩) hS ?r14y115
          case h14y115 => (intro V' hSw; clear hSw; go_simp; try with_reducible rfl)
          try simp only [List.setIfInBounds_toArray, List.set_cons_zero, List.set_cons_succ]
          refine takeH (i := 15) (t := 41) (v := ?v15y116) rfl (by kernel_rfl) (by kernel_rfl) (by kernel_rfl) (fun _ _ _ h => h) rfl (Or.inl ⟨by rfl, ?h15y116⟩) hS ?r15y116
          case h15y116 => (intro V' hSw; have q := cell_q hSw K4.out; clear hSw; go_simp; try with_reducible rfl)
          try simp only [List.setIfInBounds_toArray, List.set_cons_zero, List.set_cons_succ]
          refine takeH (i := 16) (t := 42) (v := .bool true) rfl (by kernel_rfl) (by kernel_rfl) (by kernel_rfl) (fun _ _ _ h => h) rfl (Or.inl ⟨by rfl, ?h16y117⟩) hS ?r16y117
          case h16y117 => (intro V' hSw; clear hSw; go_simp; try simp only [hb1, Bool.not_true, Bool.not_false])
          try simp only [List.setIfInBounds_toArray, List.set_cons_zero, List.set_cons_succ]
          refine takeH (i := 17) (t := 43) (v := ?v17y118) rfl (by kernel_rfl) (by kernel_rfl) (by kernel_rfl) (fun _ _ _ h => h) rfl (Or.inl ⟨by rfl, ?h17y118⟩) hS ?r17y118
          case h17y118 => (intro V' hSw; clear hSw; go_simp; try with_reducible rfl)
          try simp only [List.setIfInBounds_toArray, List.set_cons_zero, List.set_cons_succ]
          refine takeH (i := 18) (t := 44) (v := undef) rfl (by kernel_rfl) (by kernel_rfl) (by kernel_rfl) (fun _ _ _ h => h) rfl (Or.inr ⟨by rfl, rfl⟩) hS ?r18y119
          try simp only [List.setIfInBounds_toArray, List.set_cons_zero, List.set_cons_succ]
          refine takeH (i := 19) (t := 45) (v := undef) rfl (by kernel_rfl) (by kernel_rfl) (by kernel_rfl) (fun _ _ _ h => h) rfl (Or.inr ⟨by rfl, rfl⟩) hS ?r19y120
          try simp only [List.setIfInBounds_toArray, List.set_cons_zero, List.set_cons_succ]
          refine takeH (i := 20) (t := 46) (v := undef) rfl (by kernel_rfl) (by kernel_rfl) (by kernel_rfl) (fun _ _ _ h => h) rfl (Or.inr ⟨by rfl, rfl⟩) hS ?r20y121
          try simp only [List.setIfInBounds_toArray, List.set_cons_zero, List.set_cons_succ]
          refine takeH (i := 21) (t := 47) (v := undef) rfl (by kernel_rfl) (by kernel_rfl) (by kernel_rfl) (fun _ _ _ h => h) rfl (Or.inr ⟨by rfl, rfl⟩) hS ?r21y122
          try simp only [List.setIfInBounds_toArray, List.set_cons_zero, List.set_cons_succ]
          refine takeH (i := 22) (t := 48) (v := undef) rfl (by kernel_rfl) (by kernel_rfl) (by kernel_rfl) (fun _ _ _ h => h) rfl (Or.inr ⟨by rfl, rfl⟩) hS ?r22y123
          try simp only [List.setIfInBounds_toArray, List.set_cons_zero, List.set_cons_succ]
          refine takeH (i := 23) (t := 49) (v := undef) rfl (by kernel_rfl) (by kernel_rfl) (by kernel_rfl) (fun _ _ _ h => h) rfl (Or.inr ⟨by rfl, rfl⟩) hS ?r23y124
          try simp only [List.setIfInBounds_toArray, List.set_cons_zero, List.set_cons_succ]
          refine takeH (i := 24) (t := 50) (v := undef) rfl (by kernel_rfl) (by kernel_rfl) (by kernel_rfl) (fun _ _ _ h => h) rfl (Or.inr ⟨by rfl, rfl⟩) hS ?r24y125
          try simp only [List.setIfInBounds_toArray, List.set_cons_zero, List.set_cons_succ]
          refine takeH (i := 25) (t := 51) (v := undef) rfl (by kernel_rfl) (by kernel_rfl) (by kernel_rfl) (fun _ _ _ h => h) rfl (Or.inr ⟨by rfl, rfl⟩) hS ?r25y126
          try simp only [List.setIfInBounds_toArray, List.set_cons_zero, List.set_cons_succ]
          refine takeH (i := 26) (t := 52) (v := undef) rfl (by kernel_rfl) (by kernel_rfl) (by kernel_rfl) (fun _ _ _ h => h) rfl (Or.inr ⟨by rfl, rfl⟩) hS ?r26y127
          try simp only [List.setIfInBounds_toArray, List.set_cons_zero, List.set_cons_succ]
          refine takeH (i := 27) (t := 53) (v := undef) rfl (by kernel_rfl) (by kernel_rfl) (by kernel_rfl) (fun _ _ _ h => h) rfl (Or.inr ⟨by rfl, rfl⟩) hS ?r27y128
          try simp only [List.setIfInBounds_toArray, List.set_cons_zero, List.set_cons_succ]
          refine takeH (i := 28) (t := 54) (v := undef) rfl (by kernel_rfl) (by kernel_rfl) (by kernel_rfl) (fun _ _ _ h => h) rfl (Or.inr ⟨by rfl, rfl⟩) hS ?r28y129
          try simp only [List.setIfInBounds_toArray, List.set_cons_zero, List.set_cons_succ]
          refine takeH (i := 29) (t := 55) (v := undef) rfl (by kernel_rfl) (by kernel_rfl) (by kernel_rfl) (fun _ _ _ h => h) rfl (Or.inr ⟨by rfl, rfl⟩) hS ?r29y130
          try simp only [List.setIfInBounds_toArray, List.set_cons_zero, List.set_cons_succ]
          refine takeH (i := 30) (t := 56) (v := undef) rfl (by kernel_rfl) (by kernel_rfl) (by kernel_rfl) (fun _ _ _ h => h) rfl (Or.inr ⟨by rfl, rfl⟩) hS ?r30y131
          try simp only [List.setIfInBounds_toArray, List.set_cons_zero, List.set_cons_succ]
          refine takeH (i := 31) (t := 57) (v := undef) rfl (by kernel_rfl) (by kernel_rfl) (by kernel_rfl) (fun _ _ _ h => h) rfl (Or.inr ⟨by rfl, rfl⟩) hS ?r31y132
          try simp only [List.setIfInBounds_toArray, List.set_cons_zero, List.set_cons_succ]
          refine takeH (i := 32) (t := 58) (v := undef) rfl (by kernel_rfl) (by kernel_rfl) (by kernel_rfl) (fun _ _ _ h => h) rfl (Or.inr ⟨by rfl, rfl⟩) hS ?r32y133
          try simp only [List.setIfInBounds_toArray, List.set_cons_zero, List.set_cons_succ]
          refine takeH (i := 33) (t := 59) (v := undef) rfl (by kernel_rfl) (by kernel_rfl) (by kernel_rfl) (fun _ _ _ h => h) rfl (Or.inr ⟨by rfl, rfl⟩) hS ?r33y134
          try simp only [List.setIfInBounds_toArray, List.set_cons_zero, List.set_cons_succ]
          refine takeH (i := 34) (t := 60) (v := undef) rfl (by kernel_rfl) (by kernel_rfl) (by kernel_rfl) (fun _ _ _ h => h) rfl (Or.inr ⟨by rfl, rfl⟩) hS ?r34y135
          try simp only [List.setIfInBounds_toArray, List.set_cons_zero, List.set_cons_succ]
          refine takeH (i := 35) (t := 61) (v := undef) rfl (by kernel_rfl) (by kernel_rfl) (by kernel_rfl) (fun _ _ _ h => h) rfl (Or.inr ⟨by rfl, rfl⟩) hS ?r35y136
          try simp only [List.setIfInBounds_toArray, List.set_cons_zero, List.set_cons_succ]
          refine takeH (i := 36) (t := 62) (v := undef) rfl (by kernel_rfl) (by kernel_rfl) (by kernel_rfl) (fun _ _ _ h => h) rfl (Or.inr ⟨by rfl, rfl⟩) hS ?r36y137
          try simp only [List.setIfInBounds_toArray, List.set_cons_zero, List.set_cons_succ]
          refine takeH (i := 37) (t := 63) (v := undef) rfl (by kernel_rfl) (by kernel_rfl) (by kernel_rfl) (fun _ _ _ h => h) rfl (Or.inr ⟨by rfl, rfl⟩) hS ?r37y138
          try simp only [List.setIfInBounds_toArray, List.set_cons_zero, List.set_cons_succ]
          refine takeH (i := 38) (t := 64) (v := undef) rfl (by kernel_rfl) (by kernel_rfl) (by kernel_rfl) (fun _ _ _ h => h) rfl (Or.inr ⟨by rfl, rfl⟩) hS ?r38y139
          try simp only [List.setIfInBounds_toArray, List.set_cons_zero, List.set_cons_succ]
          refine takeH (i := 39) (t := 65) (v := undef) rfl (by kernel_rfl) (by kernel_rfl) (by kernel_rfl) (fun _ _ _ h => h) rfl (Or.inr ⟨by rfl, rfl⟩) hS ?r39y140
          try simp only [List.setIfInBounds_toArray, List.set_cons_zero, List.set_cons_succ]
          refine takeH (i := 40) (t := 66) (v := undef) rfl (by kernel_rfl) (by kernel_rfl) (by kernel_rfl) (fun _ _ _ h => h) rfl (Or.inr ⟨by rfl, rfl⟩) hS ?r40y141
          try simp only [List.setIfInBounds_toArray, List.set_cons_zero, List.set_cons_succ]
          refine takeH (i := 41) (t := 67) (v := undef) rfl (by kernel_rfl) (by kernel_rfl) (by kernel_rfl) (fun _ _ _ h => h) rfl (Or.inr ⟨by rfl, rfl⟩) hS ?r41y142
          try simp only [List.setIfInBounds_toArray, List.set_cons_zero, List.set_cons_succ]
          refine takeH (i := 42) (t := 68) (v := undef) rfl (by kernel_rfl) (by kernel_rfl) (by kernel_rfl) (fun _ _ _ h => h) rfl (Or.inr ⟨by rfl, rfl⟩) hS ?r42y143
          try simp only [List.setIfInBounds_toArray, List.set_cons_zero, List.set_cons_succ]
          refine takeH (i := 43) (t := 69) (v := undef) rfl (by kernel_rfl) (by kernel_rfl) (by kernel_rfl) (fun _ _ _ h => h) rfl (Or.inr ⟨by rfl, rfl⟩) hS ?r43y144
          try simp only [List.setIfInBounds_toArray, List.set_cons_zero, List.set_cons_succ]
          refine takeH (i := 44) (t := 70) (v := undef) rfl (by kernel_rfl) (by kernel_rfl) (by kernel_rfl) (fun _ _ _ h => h) rfl (Or.inr ⟨by rfl, rfl⟩) hS ?r44y145
          try simp only [List.setIfInBounds_toArray, List.set_cons_zero, List.set_cons_succ]
          refine takeH (i := 45) (t := 71) (v := undef) rfl (by kernel_rfl) (by kernel_rfl) (by kernel_rfl) (fun _ _ _ h => h) rfl (Or.inr ⟨by rfl, rfl⟩) hS ?r45y146
          try simp only [List.setIfInBounds_toArray, List.set_cons_zero, List.set_cons_succ]
          refine takeH (i := 46) (t := 72) (v := undef) rfl (by kernel_rfl) (by kernel_rfl) (by kernel_rfl) (fun _ _ _ h => h) rfl (Or.inr ⟨by rfl, rfl⟩) hS ?r46y147
          try simp only [List.setIfInBounds_toArray, List.set_cons_zero, List.set_cons_succ]
          refine takeH (i := 47) (t := 73) (v := undef) rfl (by kernel_rfl) (by kernel_rfl) (by kernel_rfl) (fun _ _ _ h => h) rfl (Or.inr ⟨by rfl, rfl⟩) hS ?r47y148
          try simp only [List.setIfInBounds_toArray, List.set_cons_zero, List.set_cons_succ]
          refine takeH (i := 48) (t := 74) (v := undef) rfl (by kernel_rfl) (by kernel_rfl) (by kernel_rfl) (fun _ _ _ h => h) rfl (Or.inr ⟨by rfl, rfl⟩) hS ?r48y149
          try simp only [List.setIfInBounds_toArray, List.set_cons_zero, List.set_cons_succ]
          refine takeH (i := 49) (t := 75) (v := ?v49y150) rfl (by kernel_rfl) (by kernel_rfl) (by kernel_rfl) (fun _ _ _ h => h) rfl (Or.inl ⟨by rfl, ?h49y150⟩) hS ?r49y150
          case h49y150 => (intro V' hSw; clear hSw; go_simp; try with_reducible rfl)
          try simp only [List.setIfInBounds_toArray, List.set_cons_zero, List.set_cons_succ]
          refine wpAnyH_done (by kernel_rfl) ?_ _
          have HS := Go.Lib.hid hS
          clear hS
          go_wp2_with fail
          go_ret
          exact ⟨by rw [HR.out]; rfl, HS.out⟩
      · obtain rfl : i = n := by omega
        have gl : decide ((i : Int) < (i : Int)) = false := by simp
        have HR : Hid (decide (U.cont = U2.cont) = true) := Go.Lib.hid (by
          rw [decide_eq_true_eq]
          have h1 : U.cont.length = i := by rw [cont_len]; exact HN.out.1
          have h2 : U2.cont.length = i := by rw [cont_len]; exact HN.out.2
          have h3 := ht
          rw [List.take_of_length_le (by omega), List.take_of_length_le (by omega)] at h3
          exact h3)
        clear ht
        go_wp2_with fail
        go_ret
        exact ⟨by rw [HR.out]; rfl, HC.out⟩
  · have hnb : (((n : Int) == (n2 : Int))) = false := by simp; omega
    have hres : decide (U.cont = U2.cont) = false := by
      rw [decide_eq_false_iff_not]
      intro e
      have := congrArg List.length e
      rw [cont_len, cont_len, HN.out.1, HN.out.2] at this
      exact hnn this
    rw [hres]
    go_enter Try.func14, Try.ntmps14
    go_wp2_with fail
    refine regionH (fun V' => Chg NoB W V') (by kernel_rfl) (Chg.refl NoB W).drew (fun hS => ?_)
    refine takeH (i := 0) (t := 6) (v := ?v0y162) rfl (by kernel_rfl) (by kernel_rfl) (by kernel_rfl) (fun _ _ _ h => h) rfl (Or.inl ⟨by rfl, ?h0y162⟩) hS ?r0y162
    case h0y162 => (intro V' hSw; clear hSw; go_simp; try with_reducible rfl)
    try simp only [List.setIfInBounds_toArray, List.set_cons_zero, List.set_cons_succ]
    refine takeH (i := 1) (t := 7) (v := ?v1y163) rfl (by kernel_rfl) (by kernel_rfl) (by kernel_rfl) (fun _ _ _ h => h) rfl (Or.inl ⟨by rfl, ?h1y163⟩) hS ?r1y163
    case h1y163 => (intro V' hSw; clear hSw; go_simp; try with_reducible rfl)
    try simp only [List.setIfInBounds_toArray, List.set_cons_zero, List.set_cons_succ]
    refine takeH (i := 2) (t := 8) (v := ?v2y164) rfl (by kernel_rfl) (by kernel_rfl) (by kernel_rfl) (fun _ _ _ h => h) rfl (Or.inl ⟨by rfl, ?h2y164⟩) hS ?r2y164
    case h2y164 => (intro V' hSw; clear hSw; go_simp; try with_reducible rfl)
    try simp only [List.setIfInBounds_toArray, List.set_cons_zero, List.set_cons_succ]
    refine takeH (i := 3) (t := 9) (v := ?v3y165) rfl (by kernel_rfl) (by kernel_rfl) (by kernel_rfl) (fun _ _ _ h => h) rfl (Or.inl ⟨by rfl, ?h3y165⟩) hS ?r3y165
    case h3y165 => (intro V' hSw; have q := cell_q hSw K1.out; clear hSw; go_simp; try with_reducible rfl)
    try simp only [List.setIfInBounds_toArray, List.set_cons_zero, List.set_cons_succ]
    refine takeH (i := 4) (t := 10) (v := ?v4y166) rfl (by kernel_rfl) (by kernel_rfl) (by kernel_rfl) (fun _ _ _ h => h) rfl (Or.inl ⟨by rfl, ?h4y166⟩) hS ?r4y166
    case h4y166 => (intro V' hSw; clear hSw; go_simp; try with_reducible rfl)
    try simp only [List.setIfInBounds_toArray, List.set_cons_zero, List.set_cons_succ]
    refine takeH (i := 5) (t := 11) (v := ?v5y167) rfl (by kernel_rfl) (by kernel_rfl) (by kernel_rfl) (fun _ _ _ h => h) rfl (Or.inl ⟨by rfl, ?h5y167⟩) hS ?r5y167
    case h5y167 => (intro V' hSw; clear hSw; go_simp; try with_reducible rfl)
    try simp only [List.setIfInBounds_toArray, List.set_cons_zero, List.set_cons_succ]
    refine takeH (i := 6) (t := 12) (v := ?v6y168) rfl (by kernel_rfl) (by kernel_rfl) (by kernel_rfl) (fun _ _ _ h => h) rfl (Or.inl ⟨by rfl, ?h6y168⟩) hS ?r6y168
    case h6y168 => (intro V' hSw; clear hSw; go_simp; try with_reducible rfl)
    try simp only [List.setIfInBounds_toArray, List.set_cons_zero, List.set_cons_succ]
    refine takeH (i := 7) (t := 13) (v := ?v7y169) rfl (by kernel_rfl) (by kernel_rfl) (by kernel_rfl) (fun _ _ _ h => h) rfl (Or.inl ⟨by rfl, ?h7y169⟩) hS ?r7y169
    case h7y169 => (intro V' hSw; clear hSw; go_simp; try with_reducible rfl)
    try simp only [List.setIfInBounds_toArray, List.set_cons_zero, List.set_cons_succ]
    refine takeH (i := 8) (t := 14) (v := ?v8y170) rfl (by kernel_rfl) (by kernel_rfl) (by kernel_rfl) (fun _ _ _ h => h) rfl (Or.inl ⟨by rfl, ?h8y170⟩) hS ?r8y170
    case h8y170 => (intro V' hSw; have q := cell_q hSw K3.out; clear hSw; go_simp; try with_reducible rfl)
    try simp only [List.setIfInBounds_toArray, List.set_cons_zero, List.set_cons_succ]
    refine takeH (i := 9) (t := 15) (v := ?v9y171) rfl (by kernel_rfl) (by kernel_rfl) (by kernel_rfl) (fun _ _ _ h => h) rfl (Or.inl ⟨by rfl, ?h9y171⟩) hS ?r9y171
    case h9y171 => (intro V' hSw; clear hSw; go_simp; try with_reducible rfl)
    try simp only [List.setIfInBounds_toArray, List.set_cons_zero, List.set_cons_succ]
    refine takeH (i := 10) (t := 16) (v := .bool true) rfl (by kernel_rfl) (by kernel_rfl) (by kernel_rfl) (fun _ _ _ h => h) rfl (Or.inl ⟨by rfl, ?h10y172⟩) hS ?r10y172
    case h10y172 => (intro V' hSw; clear hSw; go_simp; (try simp only [hnb, Bool.not_true, Bool.not_false]); (try omega))
    try simp only [List.setIfInBounds_toArray, List.set_cons_zero, List.set_cons_succ]
    refine wpAnyH_done (by kernel_rfl) ?_ _
    have HS := Go.Lib.hid hS
    clear hS
    go_wp2_with fail
    go_ret
    exact ⟨rfl, HS.out⟩
end
end Go.Proofs.Ytlglnebnldmceaa
