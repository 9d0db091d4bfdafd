/- What is proved: the contract of a variable's Bytes, over its parts' bytes. Conditions: the memory holds the variable. -/
import Derived.Test.YtholeloedihkoaaVaW0
set_option linter.unusedSimpArgs false
set_option linter.unusedVariables false
namespace Go.Proofs.Ytholeloedihkoaa
open Go Go.RowKit
def padTo (n : Nat) (l : List Int) : List Int := l ++ List.replicate (n - l.length) 0
theorem padTo_len {n : Nat} {l : List Int} (h : l.length ≤ n) : (padTo n l).length = n := by
  simp [padTo]
  omega
/-- a record's bytes, up to its last field's end -/
def recB (l : List (Fd × List Int)) : List Int := l.foldl (fun acc q => padTo q.1.off acc ++ q.2) []
theorem recB_snoc (l : List (Fd × List Int)) (q : Fd × List Int) : recB (l ++ [q]) = padTo q.1.off (recB l) ++ q.2 := by simp [recB]
theorem u8s_app (a b : List Int) : u8s (a ++ b) = u8s a ++ u8s b := by simp [u8s]
theorem u8s_zero (n : Nat) : u8s (List.replicate n 0) = List.replicate n (.int .u8 0) := by simp [u8s]
section
variable {P : Program} {w : World}
theorem wpList_zeros {ops : Array Oper} {rest : List Oper} {o : Oper} {a : Act} {Q : Exit → Act → World → Prop} (hgd : o.guard = none) (s x : Operand) (t tn : TypeId)
    (ho : o.op = .call { callee := .builtin .append, args := #[s, x], argTypes := #[t, tn] })
    (base : Nat) (e : TypeId) (i : TypeInfo) (z : Value) (kn : IntKind) (ht : P.underlying t = some (.slice e)) (htn : P.underlying tn = some (.int kn)) (hi : P.info? e = some i) (hz : i.zero = some z)
    (hsize : i.size = 1) (hby : i.bytes = 1) (hzc : z.cells = #[z]) (hz1 : z.oneCell' = true)
    (v : Value) (n : Nat) (xs : List Value) (hs : a.eval s = v) (hown : w.ownsRow base e 1 v n xs) (kq : IntKind) (m : Nat) (hx : a.eval x = .int kq m) (hsmall : n + m ≤ 140737488355328) (hbase : base ≤ w.heap.size)
    (h : ∀ v' w', w'.ownsRow base e 1 v' (n + m) (xs ++ List.replicate m z) → w.grownBy w' v.ownBlock → wpList P ops Q rest (a.put o.dst v') w') : wpList P ops Q (o :: rest) a w := by
  refine wpList_plain hgd fun K hK => ?_
  rcases Nat.eq_zero_or_pos m with h0 | h0
  · subst h0
    have hrun := run_app_zero0 (P := P) w base t tn o.type e i z kn kq ht htn hi hz v n xs hown
    unfold Oper.wp execOp
    simp only [ho, resolve, invoke, builtin, Sem.run_bind, Sem.run_pure, Result.andThen_ok, List.map_toArray, List.map_cons, List.map_nil, hs, hx, Int.natCast_zero, hrun]
    exact hK _ _ (h v w (by simpa using hown) (World.grownBy.refl w _))
  · obtain ⟨v', w', hrun, h2, h3, h4⟩ := run_app_zeros (P := P) w base t tn o.type e i z kn ht htn hi hz hsize hby hzc hz1 v n xs hown kq m h0 hsmall hbase
    unfold Oper.wp execOp
    simp only [ho, resolve, invoke, builtin, Sem.run_bind, Sem.run_pure, Result.andThen_ok, List.map_toArray, List.map_cons, List.map_nil, hs, hx, hrun]
    exact hK _ _ (h v' w' h2 h3)
end
section
variable {w w' W W1 : World} {lo b tb c n : Nat} {x : Int} {p A : Option Addr} {T : Ti} {bs : List Nat} {L : List (List Int)}
/-- a row of bytes that grows -/
structure BR (w : World) (l : List Int) (v : Value) (W : World) : Prop where
  row : W.ownsRow w.heap.size U8 1 v l.length (u8s l)
  chg : Chg NoB w W
theorem BR.quiet {l : List Int} {v : Value} (h : BR w l v W) (hc : Chg NoB W W1) : BR w l v W1 := ⟨own_chg h.row hc fun _ _ => id, h.chg.trans hc⟩
theorem BR.grown {l l' : List Int} {v v' : Value} {W0 : World} {m : Nat} (h : BR w l v W) (hq : Chg NoB W W0) (hown : W1.ownsRow w.heap.size U8 1 v' (l.length + m) (u8s l ++ u8s l')) (hm : l'.length = m) (hg : W0.grownBy W1 v.ownBlock) : BR w (l ++ l') v' W1 := by
  refine ⟨by rw [u8s_app, List.length_append, hm]; exact hown, ((h.chg.trans hq).mono fun _ _ h => h).grown hg fun k hk hlt => ?_⟩
  have := (h.row.lt k hk).1
  omega
theorem make_br {i0 : TypeInfo} (Hi : Hid (Try.prog.info? U8 = some i0 ∧ i0.zero = some (.int .u8 0) ∧ i0.size = 1 ∧ i0.bytes = 1)) (w : World) (n : Nat) (hn : n ≤ 262144) :
    ∃ w', (Instr.makeSlice 51 (.int .i64 0) (.int .i64 n)).run Try.prog w = .ok (.slice (some ⟨w.heap.size, 0, none⟩) 0 n) w' ∧ BR w [] (.slice (some ⟨w.heap.size, 0, none⟩) 0 n) w' := by
  obtain ⟨w', h1, h2, h3⟩ := run_make_own (P := Try.prog) w w.heap.size 51 U8 i0 _ 1 Try.underlying51 Hi.out.1 Hi.out.2.1 Hi.out.2.2.1 .i64 .i64 n (by rw [Hi.out.2.2.2]; omega) (by unfold maxLen; omega) (Nat.le_refl _)
  exact ⟨w', h1, h2, (Chg.refl NoB w).grown h3 (fun k hk => by cases hk)⟩
theorem take_snoc {α : Type} {L : List α} {k : Nat} {l : α} (h : L[k]? = some l) : L.take (k + 1) = L.take k ++ [l] := by
  obtain ⟨hk, he⟩ := List.getElem?_eq_some_iff.1 h
  rw [List.take_succ_eq_append_getElem hk, he]
theorem take_flat {L : List (List Int)} {k : Nat} {l : List Int} (h : L[k]? = some l) : (L.take (k + 1)).flatten = (L.take k).flatten ++ l := by
  obtain ⟨hk, he⟩ := List.getElem?_eq_some_iff.1 h
  rw [List.take_succ_eq_append_getElem hk, he]
  simp
theorem flat_le {L : List (List Int)} (k : Nat) : (L.take k).flatten.length ≤ L.flatten.length := by
  have h : L.flatten = (L.take k).flatten ++ (L.drop k).flatten := by rw [← List.flatten_append, List.take_append_drop]
  rw [h, List.length_append]
  omega
set_option maxHeartbeats 2000000 in
set_option maxRecDepth 20000 in
theorem bytes_arr (h : VC w b tb x p A n c bs) (hT : TiAt lo w tb T) (hk : T.kind = 7) (hL : L.length = n) (hbs : bs.length = n) (hn : n ≤ 400000) (hs : L.flatten.length ≤ T.size)
    (IH : ∀ (j : Nat) kb l, bs[j]? = some kb → L[j]? = some l → ∀ W, Chg NoB w W → Calls Try.prog 21 #[ptr kb] W (BysPost l W)) :
    Calls Try.prog 21 #[ptr b] w (BysPost (padTo T.size L.flatten) w) := by
  obtain ⟨i0, hi0, hz0, hz1, hz2⟩ := info_parts3 u8info
  have Hi := Go.Lib.hid (And.intro hi0 (And.intro hz0 (And.intro hz1 hz2)))
  clear hi0 hz0 hz1 hz2
  have c0 : w.cell? ⟨b, 0, none⟩ = some (ptr tb) := h.blk.cell 0
  have c3 : w.cell? ⟨b, 3, none⟩ = some (.slice A n c) := h.blk.cell 3
  obtain ⟨t0, t1, _, _, _, t5⟩ := hT.cells
  rw [hk] at t0
  have hsz := hT.sz
  obtain ⟨s, hss⟩ : ∃ s, T.size = s := ⟨_, rfl⟩
  rw [hss] at t5 hsz hs ⊢
  have Hth := Go.Lib.hid (vthere_c h.blk)
  have HV := Go.Lib.hid h
  have HC := Go.Lib.hid IH
  have HLL := Go.Lib.hid (And.intro hL (And.intro hbs hs))
  obtain ⟨wm, hmk, hbr⟩ := make_br Hi w s (by omega)
  have HM := Go.Lib.hid hmk
  have c3' := keepC hbr.chg c3
  have t0' := keepC hbr.chg t0
  have c0' := keepC hbr.chg c0
  have HBR := Go.Lib.hid hbr
  clear h hT hk IH hL hbs hs hmk hbr
  unfold ptr at *
  go_enter Try.func21, Try.ntmps21
  go_wp2_with fail
  refine Hth.out.mono ?_
  rintro e w1 ⟨rfl, rfl⟩
  go_wp2_with fail
  rw [HM.out]
  go_wp2_with fail
  go_loopw [3, 5, 51] (fun v3 _ v51 wr => ∃ (k : Nat) (A' : Option Addr) (c' : Nat), k ≤ n ∧ v51 = .int .i64 k ∧ v3 = .slice A' (L.take k).flatten.length c' ∧ BR w (L.take k).flatten v3 wr) (fun _ _ v51 _ => n - (intOf v51).toNat)
  case atStart => exact ⟨0, _, _, Nat.zero_le _, rfl, rfl, HBR.out⟩
  case round =>
    obtain ⟨k, A3, c3s, hk, rfl, rfl, hI⟩ := hrel
    have HB3 := Go.Lib.hid hI
    have q0 := keepC hI.chg c0
    have q1 := keepC hI.chg t5
    have hfl := flat_le (L := L) k
    have HL3 := Go.Lib.hid (Nat.le_trans hfl HLL.out.2.2)
    clear hI hfl
    by_cases hlt : k < n
    · obtain ⟨kb, hkb⟩ : ∃ kb, bs[k]? = some kb := ⟨_, List.getElem?_eq_getElem (by have := HLL.out.2.1; omega)⟩
      obtain ⟨l, hl⟩ : ∃ l, L[k]? = some l := ⟨_, List.getElem?_eq_getElem (by have := HLL.out.1; omega)⟩
      obtain ⟨g, hg, cp⟩ := HV.out.part hkb (by omega)
      have q4 := keepC HB3.out.chg cp
      unfold ptr at q4
      have HIH := Go.Lib.hid (HC.out k kb l hkb hl wr HB3.out.chg)
      have HTK := Go.Lib.hid (take_flat hl)
      have HK1 := Go.Lib.hid (Nat.le_trans (flat_le (L := L) (k + 1)) HLL.out.2.2)
      subst hg
      clear hkb hl cp
      have hl3 := HL3.out
      obtain ⟨l3, hl3e⟩ : ∃ l3, (L.take k).flatten = l3 := ⟨_, rfl⟩
      rw [hl3e] at HB3 HL3 HTK hl3 ⊢
      rw [HTK.out, List.length_append] at HK1
      have hk1 := HK1.out
      go_wp2_with fail
      refine HIH.out.mono ?_
      rintro e w2 ⟨v2, rfl, own2, hc2⟩
      obtain ⟨A2, c2, rfl⟩ := own_slice1' own2
      have HB3' := Go.Lib.hid (HB3.out.quiet hc2)
      have HO2 := Go.Lib.hid own2
      clear own2 hc2
      go_wp2_with (at_builtin; go_must (refine wpList_app _ rfl (.tmp 55) (.tmp 57) _ rfl w.heap.size U8 i0 _ 1 Try.underlying51 Hi.out.1 Hi.out.2.1 Hi.out.2.2.1 Hi.out.2.2.2 rfl (.slice A3 l3.length c3s) l3.length (u8s l3) rfl HB3'.out.row A2 l.length c2 (u8s l) rfl (u8s_len l) (own_cells HO2.out) (fun u hu => by obtain ⟨y, _, rfl⟩ := List.mem_map.1 hu; rfl) (by unfold maxLen; omega) (by omega) (by have := HB3'.out.chg.size; omega) ?_); intro v4 w4 own4 gr4 at4)
      have hB4 := HB3'.out.grown (Chg.refl NoB _) own4 rfl gr4
      obtain ⟨A4, c4, rfl⟩ := own_slice1' own4
      refine ⟨⟨k + 1, A4, c4, by omega, by go_num, by rw [HTK.out, List.length_append], by rw [HTK.out]; exact hB4⟩, ?_⟩
      simp only [intOf]
      omega
    · obtain rfl : k = n := by omega
      have hLn : L.take k = L := List.take_of_length_le (by have := HLL.out.1; omega)
      rw [hLn] at HB3 HL3 ⊢
      obtain ⟨l3, hl3e⟩ : ∃ l3, L.flatten = l3 := ⟨_, rfl⟩
      rw [hl3e] at HB3 HL3 ⊢
      have hl3 := HL3.out
      clear HLL HC
      have Hpad := Go.Lib.hid (HB3.out)
      obtain ⟨m, hm⟩ : ∃ m, s = l3.length + m := ⟨s - l3.length, by have := HL3.out; omega⟩
      have hsub : (s : Int) - (l3.length : Int) = (m : Int) := by omega
      go_wp2_with (at_builtin; go_must (refine wpList_zeros rfl (.tmp 106) (.tmp 116) _ _ rfl w.heap.size U8 i0 (.int .u8 0) .i64 Try.underlying51 Try.underlying3 Hi.out.1 Hi.out.2.1 Hi.out.2.2.1 Hi.out.2.2.2 rfl rfl (.slice A3 l3.length c3s) l3.length (u8s l3) rfl HB3.out.row .i64 m (by first | rfl | (refine congrArg (Value.int .i64) ?_; omega)) (by omega) (by have := HB3.out.chg.size; omega) ?_); intro v4 w4 own4 gr4)
      go_ret
      have hB4 := HB3.out.grown (l' := List.replicate m 0) (m := m) (Chg.refl NoB _) (by rw [u8s_zero]; exact own4) (by simp) gr4
      refine ⟨_, rfl, ?_, hB4.chg⟩
      have e4 : padTo s l3 = l3 ++ List.replicate m 0 := by unfold padTo; rw [show s - l3.length = m by omega]
      have e5 := hB4.row
      rw [← e4, ← hl3e] at e5
      exact e5
set_option maxHeartbeats 2000000 in
set_option maxRecDepth 20000 in
theorem bytes_rec (h : VC w b tb x p A n c bs) (hT : TiAt lo w tb T) (hk : T.kind = 8) (hL : L.length = n) (hbs : bs.length = n) (hn : n ≤ 400000) (hfl : T.fs.length = n)
    (ho : ∀ (k : Nat) f, T.fs[k]? = some f → (recB ((T.fs.zip L).take k)).length ≤ f.off ∧ f.off ≤ 262144) (hs : ∀ k, (recB ((T.fs.zip L).take k)).length ≤ T.size)
    (IH : ∀ (j : Nat) kb l, bs[j]? = some kb → L[j]? = some l → ∀ W, Chg NoB w W → Calls Try.prog 21 #[ptr kb] W (BysPost l W)) :
    Calls Try.prog 21 #[ptr b] w (BysPost (padTo T.size (recB (T.fs.zip L))) w) := by
  obtain ⟨i0, hi0, hz0, hz1, hz2⟩ := info_parts3 u8info
  have Hi := Go.Lib.hid (And.intro hi0 (And.intro hz0 (And.intro hz1 hz2)))
  clear hi0 hz0 hz1 hz2
  have c0 : w.cell? ⟨b, 0, none⟩ = some (ptr tb) := h.blk.cell 0
  have c3 : w.cell? ⟨b, 3, none⟩ = some (.slice A n c) := h.blk.cell 3
  obtain ⟨t0, t1, _, _, _, t5⟩ := hT.cells
  rw [hk] at t0
  have hsz := hT.sz
  obtain ⟨s, hss⟩ : ∃ s, T.size = s := ⟨_, rfl⟩
  rw [hss] at t5 hsz hs ⊢
  have Hth := Go.Lib.hid (vthere_c h.blk)
  have HV := Go.Lib.hid h
  have HC := Go.Lib.hid IH
  have HLL := Go.Lib.hid (And.intro hL (And.intro hbs (And.intro hs (And.intro hfl ho))))
  obtain ⟨wm, hmk, hbr⟩ := make_br Hi w s (by omega)
  have HM := Go.Lib.hid hmk
  have c3' := keepC hbr.chg c3
  have t0' := keepC hbr.chg t0
  have c0' := keepC hbr.chg c0
  have HBR := Go.Lib.hid hbr
  have HT := Go.Lib.hid hT
  obtain ⟨_, _, _, t3, _⟩ := hT.cells
  clear h hT hk IH hL hbs hs hmk hbr hfl ho
  unfold ptr at *
  go_enter Try.func21, Try.ntmps21
  go_wp2_with fail
  refine Hth.out.mono ?_
  rintro e w1 ⟨rfl, rfl⟩
  go_wp2_with fail
  rw [HM.out]
  go_wp2_with fail
  go_loopw [3, 6, 7, 67] (fun v3 _ _ v67 wr => ∃ (k : Nat) (A' : Option Addr) (c' : Nat), k ≤ n ∧ v67 = .int .i64 k ∧ v3 = .slice A' (recB ((T.fs.zip L).take k)).length c' ∧ BR w (recB ((T.fs.zip L).take k)) v3 wr) (fun _ _ _ v67 _ => n - (intOf v67).toNat)
  case atStart => exact ⟨0, _, _, Nat.zero_le _, rfl, rfl, HBR.out⟩
  case round =>
    obtain ⟨k, A3, c3s, hk, rfl, rfl, hI⟩ := hrel
    have HB3 := Go.Lib.hid hI
    have q0 := keepC hI.chg c0
    have q1 := keepC hI.chg t5
    have HL3 := Go.Lib.hid (HLL.out.2.2.1 k)
    have hLl := HLL.out.1
    have hbl := HLL.out.2.1
    have hfll := HLL.out.2.2.2.1
    clear hI
    by_cases hlt : k < n
    · obtain ⟨kb, hkb⟩ : ∃ kb, bs[k]? = some kb := ⟨_, List.getElem?_eq_getElem (by omega)⟩
      obtain ⟨l, hl⟩ : ∃ l, L[k]? = some l := ⟨_, List.getElem?_eq_getElem (by omega)⟩
      obtain ⟨f, hf⟩ : ∃ f, T.fs[k]? = some f := ⟨_, List.getElem?_eq_getElem (by omega)⟩
      obtain ⟨g, hg, cp⟩ := HV.out.part hkb (by omega)
      obtain ⟨gf, hgf, cf⟩ := row_cells HT.out.row (by omega)
      have q5 := keepC HB3.out.chg (cf _ _ (flat3 T.fs k f hf))
      have q6 := keepC HB3.out.chg t3
      rw [hgf, hfll] at q6
      have q4 := keepC HB3.out.chg cp
      unfold ptr at q4
      have HIH := Go.Lib.hid (fun W hW => HC.out k kb l hkb hl W hW)
      have hz : (T.fs.zip L)[k]? = some (f, l) := List.getElem?_zip_eq_some.2 ⟨hf, hl⟩
      have HTK := Go.Lib.hid (take_snoc hz)
      have HK1 := Go.Lib.hid (HLL.out.2.2.1 (k + 1))
      have HO := Go.Lib.hid (HLL.out.2.2.2.2 k f hf)
      subst hg
      clear hkb hl cp hf hz hgf cf
      have hl3 := HL3.out
      have hoo := HO.out
      obtain ⟨l3, hl3e⟩ : ∃ l3, recB ((T.fs.zip L).take k) = l3 := ⟨_, rfl⟩
      rw [HTK.out, recB_snoc] at HK1
      have hk1 := HK1.out
      rw [hl3e] at HB3 HL3 hl3 hoo hk1 HK1 ⊢
      obtain ⟨m, hm⟩ : ∃ m, f.off = l3.length + m := ⟨f.off - l3.length, by omega⟩
      have hsub : (f.off : Int) - (l3.length : Int) = (m : Int) := by omega
      have hpad : padTo f.off l3 = l3 ++ List.replicate m 0 := by unfold padTo; rw [show f.off - l3.length = m by omega]
      have hlen4 : (padTo f.off l3).length = f.off := padTo_len (by omega)
      go_wp2_with (at_builtin; go_must (refine wpList_zeros rfl (.tmp 72) (.tmp 86) _ _ rfl w.heap.size U8 i0 (.int .u8 0) .i64 Try.underlying51 Try.underlying3 Hi.out.1 Hi.out.2.1 Hi.out.2.2.1 Hi.out.2.2.2 rfl rfl (.slice A3 l3.length c3s) l3.length (u8s l3) rfl HB3.out.row .i64 m (by first | rfl | (refine congrArg (Value.int .i64) ?_; omega)) (by omega) (by have := HB3.out.chg.size; omega) ?_); intro v4 w4 own4 gr4)
      have hB4 := HB3.out.grown (l' := List.replicate m 0) (m := m) (Chg.refl NoB _) (by rw [u8s_zero]; exact own4) (by simp) gr4
      rw [← hpad] at hB4
      obtain ⟨A4, c4, rfl⟩ := own_slice1' own4
      refine (HIH.out w4 hB4.chg).mono ?_
      rintro e w2 ⟨v2, rfl, own2, hc2⟩
      obtain ⟨A2, c2, rfl⟩ := own_slice1' own2
      have HB5 := Go.Lib.hid (hB4.quiet hc2)
      have HO2 := Go.Lib.hid own2
      have hr5 : w2.ownsRow w.heap.size U8 1 (.slice A4 (l3.length + m) c4) (l3.length + m) (u8s (padTo f.off l3)) := by have h := HB5.out.row; rw [hlen4] at h; rw [← hm]; rw [← hm] at h; exact h
      have HR5 := Go.Lib.hid hr5
      have hkl : f.off + l.length ≤ 262144 := by
        rw [List.length_append, hlen4] at hk1
        omega
      clear own2 hc2 hB4 own4 gr4 hr5
      go_wp2_with (at_builtin; go_must (refine wpList_app _ rfl (.tmp 88) (.tmp 90) _ rfl w.heap.size U8 i0 _ 1 Try.underlying51 Hi.out.1 Hi.out.2.1 Hi.out.2.2.1 Hi.out.2.2.2 rfl (.slice A4 (l3.length + m) c4) (l3.length + m) (u8s (padTo f.off l3)) rfl HR5.out A2 l.length c2 (u8s l) rfl (u8s_len l) (own_cells HO2.out) (fun u hu => by obtain ⟨y, _, rfl⟩ := List.mem_map.1 hu; rfl) (by unfold maxLen; omega) (by omega) (by have := HB5.out.chg.size; omega) ?_); intro v6 w6 own6 gr6 at6)
      have hB6 := HB5.out.grown (l' := l) (m := l.length) (Chg.refl NoB _) (by rw [hlen4]; rw [← hm] at own6; exact own6) rfl gr6
      obtain ⟨A6, c6, rfl⟩ := own_slice1' own6
      refine ⟨⟨k + 1, A6, c6, by omega, by go_num, by rw [HTK.out, recB_snoc, hl3e, List.length_append, hlen4, hm], by rw [HTK.out, recB_snoc, hl3e]; exact hB6⟩, ?_⟩
      simp only [intOf]
      omega
    · obtain rfl : k = n := by omega
      have hLn : (T.fs.zip L).take k = T.fs.zip L := List.take_of_length_le (by rw [List.length_zip]; omega)
      rw [hLn] at HB3 HL3 ⊢
      obtain ⟨l3, hl3e⟩ : ∃ l3, recB (T.fs.zip L) = l3 := ⟨_, rfl⟩
      rw [hl3e] at HB3 HL3 ⊢
      have hl3 := HL3.out
      clear HLL HC
      have Hpad := Go.Lib.hid (HB3.out)
      obtain ⟨m, hm⟩ : ∃ m, s = l3.length + m := ⟨s - l3.length, by have := HL3.out; omega⟩
      have hsub : (s : Int) - (l3.length : Int) = (m : Int) := by omega
      go_wp2_with (at_builtin; go_must (refine wpList_zeros rfl (.tmp 106) (.tmp 116) _ _ rfl w.heap.size U8 i0 (.int .u8 0) .i64 Try.underlying51 Try.underlying3 Hi.out.1 Hi.out.2.1 Hi.out.2.2.1 Hi.out.2.2.2 rfl rfl (.slice A3 l3.length c3s) l3.length (u8s l3) rfl HB3.out.row .i64 m (by first | rfl | (refine congrArg (Value.int .i64) ?_; omega)) (by omega) (by have := HB3.out.chg.size; omega) ?_); intro v4 w4 own4 gr4)
      go_ret
      have hB4 := HB3.out.grown (l' := List.replicate m 0) (m := m) (Chg.refl NoB _) (by rw [u8s_zero]; exact own4) (by simp) gr4
      refine ⟨_, rfl, ?_, hB4.chg⟩
      have e4 : padTo s l3 = l3 ++ List.replicate m 0 := by unfold padTo; rw [show s - l3.length = m by omega]
      have e5 := hB4.row
      rw [← e4, ← hl3e] at e5
      exact e5
end
end Go.Proofs.Ytholeloedihkoaa
