/- What is proved: the walk of the reference's Scan on a text that begins as a module's does. Conditions: as said. -/
import Derived.Test.YtcmeciekadepjaaScanL
import Derived.Test.YtcmeciekadepjaaScanD
import Derived.Test.YtcmeciekadepjaaScanQ
import Derived.Test.YtcmeciekadepjaaScanG
namespace Go.Proofs.Ytcmeciekadepjaa
open Go.RowKit
section
variable (t nm : ByteArray) (g c : Nat) (w : World)
set_option maxRecDepth 100000 in
set_option maxHeartbeats 8000000 in
theorem scan_c (hp : Pre t nm) (hc : t.size ≤ c) (hc2 : c ≤ maxLen) (ht : TextAt w g t) :
    Calls Try.prog 7 #[.slice (some ⟨g, 0, none⟩) t.size c] w (ScanPost nm w) := by
  have hsz := hp.size
  have HP := Go.Lib.hid hp
  have HT : Hid (∀ W, Chg NoB w W → TextAt W g t) := Go.Lib.hid fun W h => ht.chg h
  have hc3 := hc2
  unfold maxLen at hc3
  have O1 : Hid ((((w.alloc (.cells #[.slice none 0 0, .slice none 0 0, .int .i64 0, .int .i64 0] RT)).alloc (.cells (wordsB.map Value.string).toArray CT)).alloc (.cells (outsB.map Value.string).toArray CT)).ownsRow (w.heap.size + 1) CT 1 (.slice (some ⟨w.heap.size + 1, 0, none⟩) 29 29) 29 (wordsB.map Value.string)) := Go.Lib.hid (by
    have h := own_fresh (w.alloc (.cells #[.slice none 0 0, .slice none 0 0, .int .i64 0, .int .i64 0] RT)) (w.heap.size + 1) CT (wordsB.map Value.string) 29 rfl (by unfold maxLen; omega) (by simp)
    have e : (w.alloc (.cells #[.slice none 0 0, .slice none 0 0, .int .i64 0, .int .i64 0] RT)).heap.size = w.heap.size + 1 := by simp
    rw [e] at h
    exact own_chg (F := NoB) h ((Chg.refl _ _).alloc _) (fun _ _ => id))
  have O2 : Hid (∀ j u, (outsB.map Value.string)[j]? = some u → (((w.alloc (.cells #[.slice none 0 0, .slice none 0 0, .int .i64 0, .int .i64 0] RT)).alloc (.cells (wordsB.map Value.string).toArray CT)).alloc (.cells (outsB.map Value.string).toArray CT)).cell? ((⟨w.heap.size + 1 + 1, 0, none⟩ : Addr).add j) = some u) := Go.Lib.hid (fun j u hu => by
    have h := (Blk.new ((w.alloc (.cells #[.slice none 0 0, .slice none 0 0, .int .i64 0, .int .i64 0] RT)).alloc (.cells (wordsB.map Value.string).toArray CT)) CT (outsB.map Value.string).toArray).cell j
    have e : ((w.alloc (.cells #[.slice none 0 0, .slice none 0 0, .int .i64 0, .int .i64 0] RT)).alloc (.cells (wordsB.map Value.string).toArray CT)).heap.size = w.heap.size + 1 + 1 := by simp
    rw [e] at h
    rw [add_at, h, ← hu]
    simp)
  have hone : ∀ u ∈ outsB.map Value.string, u.oneCell' = true := fun u hu => by
    obtain ⟨b, _, rfl⟩ := List.mem_map.1 hu
    rfl
  obtain ⟨i0, hi, hz0, hz1, hz2⟩ := info_parts str_info
  have Hi := Go.Lib.hid hi
  have Hz0 := Go.Lib.hid hz0
  have Hz1 := Go.Lib.hid hz1
  have Hz2 := Go.Lib.hid hz2
  obtain ⟨i1, hj, hy0, hy1, hy2⟩ := info_parts sym_info
  have Hj := Go.Lib.hid hj
  have Hy0 := Go.Lib.hid hy0
  have Hy1 := Go.Lib.hid hy1
  have Hy2 := Go.Lib.hid hy2
  clear hj hy0 hy1 hy2
  have ht0 : Hid (TextAt w g t) := Go.Lib.hid ht
  clear hp ht hi hz0 hz1 hz2
  go_enter Try.func7, Try.ntmps7
  go_wp2_with fail
  refine (words_c _).mono ?_
  rintro e w1 ⟨rfl, rfl⟩
  go_wp2_with fail
  refine (outs_c _).mono ?_
  rintro e w1 ⟨rfl, rfl⟩
  go_wp2_with (at_builtin; refine wpList_append_own _ rfl _ _ 23 rfl (w.heap.size + 1) CT i0 (.string ⟨#[]⟩) 1 16 Try.underlying23 Hi.out Hz0.out Hz1.out Hz2.out rfl (by decide) _ 29 (wordsB.map Value.string) rfl ?ho ⟨w.heap.size + 1 + 1, 0, none⟩ 28 28 (outsB.map Value.string) rfl rfl ?hc ?h1 ?b1 ?b2 ?b3 ?hK)
  case ho => exact O1.out
  case hc => exact O2.out
  case h1 => exact hone
  case b1 => unfold maxLen; omega
  case b2 => omega
  case b3 => simp
  case hK =>
    intro v' w5 hown' hgrow _
    obtain ⟨g', c', rfl⟩ := ownsRow_succ (k := 56) hown'
    have hSI := SI.start t nm w w5 g' c' hown' hgrow
    clear hown' hgrow
    clear O1 O2 hone
    go_wp2_with fail
    obtain ⟨W6, hW6⟩ : ∃ W', w5.alloc (.cells #[.slice none 0 0, .slice (some ⟨g', 0, none⟩) 57 c', .int .i64 0, .int .i64 0] RT) = W' := ⟨_, rfl⟩
    rw [hW6] at hSI ⊢
    obtain ⟨bx, hbx⟩ : ∃ b, w5.heap.size = b := ⟨_, rfl⟩
    rw [hbx] at hSI ⊢
    clear hW6 hbx
    go_loopw [4] (fun v4 W => ∃ (n nl i : Nat) (v1 : Value) (g2 c2 : Nat) (names : List ByteArray) (cs : List Value), v4 = .int .i64 i ∧ n ≤ i ∧ i ≤ t.size ∧ SI t nm w bx n nl v1 g2 c2 names cs W ∧ PI nm n i names cs) (fun v4 _ => t.size - (intOf v4).toNat)
    case atStart => exact ⟨0, 57, 0, _, _, _, _, _, rfl, Nat.le_refl _, Nat.zero_le _, hSI, fun _ => ⟨rfl, rfl⟩, fun e => (by cases e), fun e => (by cases e), fun e => (by cases e), fun e => (by cases e)⟩
    case round =>
      clear hSI
      obtain ⟨n, nl, i, v1, g2, c2, names, cs, rfl, hni, hit, hSI, hPI⟩ := hrel
      have hcl := hSI.all.1
      have HS := Go.Lib.hid hSI
      have HPI := Go.Lib.hid hPI
      go_wp2_with fail
      refine (blank_c t g c _ hsz hc hc2 i hit (HT.out _ HS.out.chg)).mono ?_
      rintro e wr ⟨rfl, j, o, rfl, hj, hb1, hb2⟩
      rcases hj with ho | ⟨ho, hij, hjs⟩
      · have hn3 : 3 ≤ n := by
          rcases HP.out.first hPI hb1 hb2 with h | ⟨h, _⟩
          · exact h
          · omega
        clear hb1 hb2
        obtain ⟨m, rfl⟩ : ∃ m, n = m + 1 := ⟨n - 1, by omega⟩
        obtain ⟨g1, c1, rfl⟩ := ownsRow_succ hSI.all
        obtain ⟨⟨a1, a2⟩, a3, a4⟩ := err_facts hSI.box (.int .i64 5)
        obtain ⟨E1, E2, E3⟩ := hSI.err hPI hn3 5 o
        have HE := Go.Lib.hid E3
        obtain ⟨⟨r1, r2, r3, r4⟩, ⟨q1, q2⟩, ⟨q3, q4⟩, ⟨q5, q6⟩, ⟨q7, q8⟩, q9⟩ := ret_facts E1 E2
        have HB := Go.Lib.hid q9
        clear E1 E2 E3 q9 hSI hPI
        go_wp2_with fail
        exact ret_done HB.out (by rfl) rfl (HE.out _ (ret_chg _ _ _ _))
      · subst ho
        have hF : Fst nm n j names := by
          rcases HP.out.first hPI hb1 hb2 with h | ⟨_, h⟩
          · exact .inl h
          · exact h
        clear hb1 hb2
        have HF := Go.Lib.hid hF
        clear hF hSI hPI
        have hxs : Hid (SI t nm w bx n nl v1 g2 c2 names cs (wr.alloc (.cells #[.int .i64 0, .int .i64 j, .int .i32 0, .int .i64 0, .string ⟨#[]⟩] YT))) := Go.Lib.hid (HS.out.chg2 ((Chg.refl _ _).alloc _))
        have hxb : Hid (Blk (wr.alloc (.cells #[.int .i64 0, .int .i64 j, .int .i32 0, .int .i64 0, .string ⟨#[]⟩] YT)) wr.heap.size YT #[.int .i64 0, .int .i64 j, .int .i32 0, .int .i64 0, .string ⟨#[]⟩]) := Go.Lib.hid (Blk.new _ _ _)
        have hxn : Hid (v1.ownBlock ≠ some wr.heap.size) := Go.Lib.hid fun e => by
          have := HS.out.all.lt _ e
          omega
        have hbx1 : bx < wr.heap.size := HS.out.box.lt
        by_cases hend : j < t.size
        · have hend2 : (j : Int) < t.size := by omega
          go_upto_block 2 with fail
          obtain ⟨Wx, hWx⟩ : ∃ W', wr.alloc (.cells #[.int .i64 0, .int .i64 j, .int .i32 0, .int .i64 0, .string ⟨#[]⟩] YT) = W' := ⟨_, rfl⟩
          rw [hWx] at hxs hxb ⊢
          obtain ⟨xb, hxb0⟩ : ∃ b, wr.heap.size = b := ⟨_, rfl⟩
          rw [hxb0] at hxb hxn hbx1 ⊢
          clear hWx hxb0
          go_cut [4] (fun v4 W => Mid t nm w bx n v1 cs xb j v4 W)
          case first =>
            rename_i JJ KK hJJ hKK
            have HKK := Go.Lib.hid hKK
            have HJJ := Go.Lib.hid hJJ
            clear hKK hJJ
            have HQ : Hid (∀ (a : Act) (W : World) (v1 v2 v3 v4 : Value), a.tmps.getD 2 undef = .pointer (some ⟨w.heap.size, 0, none⟩) → a.defers = [] → Blk W w.heap.size RT #[v1, v2, v3, v4] → ScanPost nm w (.returned (.agg #[v1, v2, v3, v4])) W → bodyPost Try.prog Try.f7 (ScanPost nm w) .ret a W) := Go.Lib.hid fun a W v1 v2 v3 v4 h1 h2 h3 h4 => ret_done h3 h1 h2 h4
            cases hl : letterB (bt t j) with
            | true =>
              refine sw_letter t nm g c w hsz hc hc2 hc3 HP ht0 bx n nl g2 c2 i j xb v1 names cs hcl HPI hjs HF hend hend2 Wx hxs hbx1 hxn hxb KK _ _ _ _ _ _ _ _ _ _ _ _ _ _ _ _ _ _ _ _ _ _ _ _ _ _ _ _ _ _ _ _ _ _ _ _ _ _ _ _ _ _ _ _ _ _ _ _ _ _ _ _ _ _ _ _ _ _ _ _ _ _ _ _ _ _ _ _ _ _ _ _ _ _ _ _ _ _ _ _ _ _ _ _ _ _ _ _ _ _ _ _ _ _ _ _ _ _ _ _ _ _ _ _ _ _ _ _ _ _ _ _ _ _ _ _ _ _ _ _ _ _ _ _ _ _ _ _ _ _ _ _ _ _ _ _ _ _ _ _ _ _ _ _ _ _ _ _ _ _ _ _ _ _ _ _ _ _ _ _ _ _ _ _ _ _ _ _ _ _ _ _ _ _ _ _ _ _ _ _ _ _ _ _ _ _ _ _ _ _ _ _ _ _ _ _ _ _ _ _ _ _ _ _ _ _ _ _ _ _ _ _ _ _ _ _ _ _ _ _ _ _ _ _ _ _ _ _ _ _ _ _ _ _ (Go.Lib.hid ?_) HQ hl
              intro y4 y8 y9 y10 y11 y12 y13 y14 y15 y16 y17 y18 y55 y56 y57 y58 y59 y60 y61 y62 y63 y64 y65 y66 y67 y68 y69 y70 y71 y72 y73 y74 y75 y76 y77 y78 y79 y80 y81 y82 y83 y84 y85 y86 y87 y88 y89 y90 y91 y92 y93 y94 y95 y96 y97 y98 y99 y100 y101 y102 y103 y104 y105 y106 y107 y108 y109 y110 y111 y112 y113 y114 y115 y116 y117 y118 y119 y120 y121 y122 y123 y124 y125 y126 y127 y128 y129 y130 y131 y132 y133 y134 y135 y136 y137 y138 y139 y140 y141 y142 y143 y144 y145 y146 y147 y148 y149 y150 y151 y152 y153 y154 y155 y156 y157 y158 y159 y160 y161 y162 y163 y164 y165 y166 y167 y168 y169 y170 y171 y172 y173 y174 y175 y176 y177 y178 y179 y180 y181 y182 y183 y184 y185 y186 y187 y188 y189 y190 y191 y192 y193 y194 y195 y196 y197 y198 y199 y200 y201 y202 y203 y204 y205 y206 y207 y208 y209 y210 y211 y212 y213 y214 y215 y216 y217 y218 y219 y220 y221 y222 y223 y224 y225 y226 y227 y228 y229 y230 y231 y232 y233 W hM
              refine HKK.out _ _ ?_
              have hJJ := HJJ.out
              go_meet
              exact hM
            | false =>
              cases hdg : digitB (bt t j) with
              | true =>
                refine sw_digit t nm g c w hsz hc hc2 hc3 HP ht0 bx n nl g2 c2 i j xb v1 names cs hcl HPI hjs HF hend hend2 Wx hxs hbx1 hxn hxb KK _ _ _ _ _ _ _ _ _ _ _ _ _ _ _ _ _ _ _ _ _ _ _ _ _ _ _ _ _ _ _ _ _ _ _ _ _ _ _ _ _ _ _ _ _ _ _ _ _ _ _ _ _ _ _ _ _ _ _ _ _ _ _ _ _ _ _ _ _ _ _ _ _ _ _ _ _ _ _ _ _ _ _ _ _ _ _ _ _ _ _ _ _ _ _ _ _ _ _ _ _ _ _ _ _ _ _ _ _ _ _ _ _ _ _ _ _ _ _ _ _ _ _ _ _ _ _ _ _ _ _ _ _ _ _ _ _ _ _ _ _ _ _ _ _ _ _ _ _ _ _ _ _ _ _ _ _ _ _ _ _ _ _ _ _ _ _ _ _ _ _ _ _ _ _ _ _ _ _ _ _ _ _ _ _ _ _ _ _ _ _ _ _ _ _ _ _ _ _ _ _ _ _ _ _ _ _ _ _ _ _ _ _ _ _ _ _ _ _ _ _ _ _ _ _ _ _ _ _ _ _ _ _ _ (Go.Lib.hid ?_) HQ hl hdg
                intro y4 y8 y9 y10 y11 y12 y13 y14 y15 y16 y17 y18 y55 y56 y57 y58 y59 y60 y61 y62 y63 y64 y65 y66 y67 y68 y69 y70 y71 y72 y73 y74 y75 y76 y77 y78 y79 y80 y81 y82 y83 y84 y85 y86 y87 y88 y89 y90 y91 y92 y93 y94 y95 y96 y97 y98 y99 y100 y101 y102 y103 y104 y105 y106 y107 y108 y109 y110 y111 y112 y113 y114 y115 y116 y117 y118 y119 y120 y121 y122 y123 y124 y125 y126 y127 y128 y129 y130 y131 y132 y133 y134 y135 y136 y137 y138 y139 y140 y141 y142 y143 y144 y145 y146 y147 y148 y149 y150 y151 y152 y153 y154 y155 y156 y157 y158 y159 y160 y161 y162 y163 y164 y165 y166 y167 y168 y169 y170 y171 y172 y173 y174 y175 y176 y177 y178 y179 y180 y181 y182 y183 y184 y185 y186 y187 y188 y189 y190 y191 y192 y193 y194 y195 y196 y197 y198 y199 y200 y201 y202 y203 y204 y205 y206 y207 y208 y209 y210 y211 y212 y213 y214 y215 y216 y217 y218 y219 y220 y221 y222 y223 y224 y225 y226 y227 y228 y229 y230 y231 y232 y233 W hM
                refine HKK.out _ _ ?_
                have hJJ := HJJ.out
                go_meet
                exact hM
              | false =>
                by_cases hq : bt t j = 34
                · skip
                  refine sw_quote t nm g c w hsz hc hc2 hc3 HP ht0 bx n nl g2 c2 i j xb v1 names cs hcl HPI hjs HF hend hend2 Wx hxs hbx1 hxn hxb KK _ _ _ _ _ _ _ _ _ _ _ _ _ _ _ _ _ _ _ _ _ _ _ _ _ _ _ _ _ _ _ _ _ _ _ _ _ _ _ _ _ _ _ _ _ _ _ _ _ _ _ _ _ _ _ _ _ _ _ _ _ _ _ _ _ _ _ _ _ _ _ _ _ _ _ _ _ _ _ _ _ _ _ _ _ _ _ _ _ _ _ _ _ _ _ _ _ _ _ _ _ _ _ _ _ _ _ _ _ _ _ _ _ _ _ _ _ _ _ _ _ _ _ _ _ _ _ _ _ _ _ _ _ _ _ _ _ _ _ _ _ _ _ _ _ _ _ _ _ _ _ _ _ _ _ _ _ _ _ _ _ _ _ _ _ _ _ _ _ _ _ _ _ _ _ _ _ _ _ _ _ _ _ _ _ _ _ _ _ _ _ _ _ _ _ _ _ _ _ _ _ _ _ _ _ _ _ _ _ _ _ _ _ _ _ _ _ _ _ _ _ _ _ _ _ _ _ _ _ _ _ _ _ _ (Go.Lib.hid ?_) HQ hl hdg hq
                  intro y4 y8 y9 y10 y11 y12 y13 y14 y15 y16 y17 y18 y55 y56 y57 y58 y59 y60 y61 y62 y63 y64 y65 y66 y67 y68 y69 y70 y71 y72 y73 y74 y75 y76 y77 y78 y79 y80 y81 y82 y83 y84 y85 y86 y87 y88 y89 y90 y91 y92 y93 y94 y95 y96 y97 y98 y99 y100 y101 y102 y103 y104 y105 y106 y107 y108 y109 y110 y111 y112 y113 y114 y115 y116 y117 y118 y119 y120 y121 y122 y123 y124 y125 y126 y127 y128 y129 y130 y131 y132 y133 y134 y135 y136 y137 y138 y139 y140 y141 y142 y143 y144 y145 y146 y147 y148 y149 y150 y151 y152 y153 y154 y155 y156 y157 y158 y159 y160 y161 y162 y163 y164 y165 y166 y167 y168 y169 y170 y171 y172 y173 y174 y175 y176 y177 y178 y179 y180 y181 y182 y183 y184 y185 y186 y187 y188 y189 y190 y191 y192 y193 y194 y195 y196 y197 y198 y199 y200 y201 y202 y203 y204 y205 y206 y207 y208 y209 y210 y211 y212 y213 y214 y215 y216 y217 y218 y219 y220 y221 y222 y223 y224 y225 y226 y227 y228 y229 y230 y231 y232 y233 W hM
                  refine HKK.out _ _ ?_
                  have hJJ := HJJ.out
                  go_meet
                  exact hM
                · skip
                  refine sw_sign t nm g c w hsz hc hc2 hc3 HP ht0 bx n nl g2 c2 i j xb v1 names cs hcl HPI hjs HF hend hend2 Wx hxs hbx1 hxn hxb KK _ _ _ _ _ _ _ _ _ _ _ _ _ _ _ _ _ _ _ _ _ _ _ _ _ _ _ _ _ _ _ _ _ _ _ _ _ _ _ _ _ _ _ _ _ _ _ _ _ _ _ _ _ _ _ _ _ _ _ _ _ _ _ _ _ _ _ _ _ _ _ _ _ _ _ _ _ _ _ _ _ _ _ _ _ _ _ _ _ _ _ _ _ _ _ _ _ _ _ _ _ _ _ _ _ _ _ _ _ _ _ _ _ _ _ _ _ _ _ _ _ _ _ _ _ _ _ _ _ _ _ _ _ _ _ _ _ _ _ _ _ _ _ _ _ _ _ _ _ _ _ _ _ _ _ _ _ _ _ _ _ _ _ _ _ _ _ _ _ _ _ _ _ _ _ _ _ _ _ _ _ _ _ _ _ _ _ _ _ _ _ _ _ _ _ _ _ _ _ _ _ _ _ _ _ _ _ _ _ _ _ _ _ _ _ _ _ _ _ _ _ _ _ _ _ _ _ _ _ _ _ _ _ _ (Go.Lib.hid ?_) HQ hl hdg hq
                  intro y4 y8 y9 y10 y11 y12 y13 y14 y15 y16 y17 y18 y55 y56 y57 y58 y59 y60 y61 y62 y63 y64 y65 y66 y67 y68 y69 y70 y71 y72 y73 y74 y75 y76 y77 y78 y79 y80 y81 y82 y83 y84 y85 y86 y87 y88 y89 y90 y91 y92 y93 y94 y95 y96 y97 y98 y99 y100 y101 y102 y103 y104 y105 y106 y107 y108 y109 y110 y111 y112 y113 y114 y115 y116 y117 y118 y119 y120 y121 y122 y123 y124 y125 y126 y127 y128 y129 y130 y131 y132 y133 y134 y135 y136 y137 y138 y139 y140 y141 y142 y143 y144 y145 y146 y147 y148 y149 y150 y151 y152 y153 y154 y155 y156 y157 y158 y159 y160 y161 y162 y163 y164 y165 y166 y167 y168 y169 y170 y171 y172 y173 y174 y175 y176 y177 y178 y179 y180 y181 y182 y183 y184 y185 y186 y187 y188 y189 y190 y191 y192 y193 y194 y195 y196 y197 y198 y199 y200 y201 y202 y203 y204 y205 y206 y207 y208 y209 y210 y211 y212 y213 y214 y215 y216 y217 y218 y219 y220 y221 y222 y223 y224 y225 y226 y227 y228 y229 y230 y231 y232 y233 W hM
                  refine HKK.out _ _ ?_
                  have hJJ := HJJ.out
                  go_meet
                  exact hM
          case rest =>
            obtain ⟨nl, i', g2, c2, names, a, b, q, d, s, rfl, hji, hi', hSX, hXB, hPX⟩ := hcut
            have HSX := Go.Lib.hid hSX
            have HXB := Go.Lib.hid hXB
            have HPX := Go.Lib.hid hPX
            clear hSX hXB hPX
            obtain ⟨k0, k1, k2, k3, k4⟩ : wc.cell? ⟨xb, 0, none⟩ = some (.int .i64 a) ∧ wc.cell? ⟨xb, 1, none⟩ = some (.int .i64 b) ∧ wc.cell? ⟨xb, 2, none⟩ = some (.int .i32 q) ∧ wc.cell? ⟨xb, 3, none⟩ = some (.int .i64 d) ∧ wc.cell? ⟨xb, 4, none⟩ = some (.string s) := ⟨HXB.out.cell 0, HXB.out.cell 1, HXB.out.cell 2, HXB.out.cell 3, HXB.out.cell 4⟩
            have k5 : wc.cell? ⟨bx, 0, none⟩ = some v1 := HSX.out.box.cell 0
            have HR : Hid (∀ tmp, (wc.alloc tmp).ownsRow (bx + 1) YT 5 v1 n cs) := Go.Lib.hid fun tmp => own_chg HSX.out.all ((Chg.refl NoB _).alloc tmp) fun _ _ => id
            have HN : Hid (∀ jj u, ([.int .i64 a, .int .i64 b, .int .i32 q, .int .i64 d, .string s] : List Value)[jj]? = some u → (wc.alloc (.cells #[.int .i64 a, .int .i64 b, .int .i32 q, .int .i64 d, .string s] YT)).cell? ((⟨wc.heap.size, 0, none⟩ : Addr).add jj) = some u) := Go.Lib.hid fun jj u hu => by
              rw [add_at, (Blk.new wc YT #[.int .i64 a, .int .i64 b, .int .i32 q, .int .i64 d, .string s]).cell jj, ← hu]
              simp
            have HA : Hid (∀ (tmp : Obj) (v' : Value) (w1 : World), w1.ownsRow (bx + 1) YT 5 v' (n + 1) (cs ++ [.int .i64 a, .int .i64 b, .int .i32 q, .int .i64 d, .string s]) → (wc.alloc tmp).grownBy w1 v1.ownBlock → _) := Go.Lib.hid fun tmp v' w1 h1 h2 => HSX.out.add h1 h2
            have hbs : bx + 1 ≤ wc.heap.size := by have := HSX.out.box.lt; omega
            go_wp2_with (at_builtin; refine wpList_append_own _ rfl _ _ 27 rfl (bx + 1) YT i1 (.agg #[.int .i64 0, .int .i64 0, .int .i32 0, .int .i64 0, .string ⟨#[]⟩]) 5 48 Try.underlying27 Hj.out Hy0.out Hy1.out Hy2.out rfl (by decide) _ n cs rfl (HR.out _) ⟨wc.heap.size, 0, none⟩ 1 1 [.int .i64 a, .int .i64 b, .int .i32 q, .int .i64 d, .string s] rfl rfl HN.out (by simp [Value.oneCell']) (by unfold maxLen; omega) (by omega) (by simp; omega) ?_; intro v' w1 hown' hgrow _; obtain ⟨h1, h2⟩ := HA.out _ _ _ hown' hgrow; have y1 := h2.cell 0; have y2 := h2.frozen 0; have HH1 := Go.Lib.hid h1; obtain ⟨g', cap', rfl⟩ := ownsRow_succ hown'; simp only [List.getElem?_toArray, List.getElem?_cons_zero] at y1; skip; clear h1 h2 hown' hgrow)
            go_roundw
            case rel =>
              repeat apply Exists.intro
              exact ⟨⟨n + 1, _, i', _, _, _, _, _, rfl, by omega, hi', HH1.out, HPX.out⟩, rfl⟩
            case measure => simp [intOf]; omega
        · have hend2 : ¬ (j : Int) < t.size := by omega
          have hn3 : 3 ≤ n := by
            rcases HP.out.inside HF.out with h | h
            · exact h
            · omega
          have HPN : Hid (PI nm (n + 1) i names (cs ++ [.int .i64 0, .int .i64 j, .int .i32 0, .int .i64 0, .string ⟨#[]⟩])) := Go.Lib.hid (HPI.out.next hcl (fun e => by omega) (fun e => by omega) (.inl rfl))
          go_upto_region 13 with fail
          obtain ⟨Wx, hWx⟩ : ∃ W', wr.alloc (.cells #[.int .i64 0, .int .i64 j, .int .i32 0, .int .i64 0, .string ⟨#[]⟩] YT) = W' := ⟨_, rfl⟩
          rw [hWx] at hxs hxb ⊢
          obtain ⟨xb, hxb0⟩ : ∃ b, wr.heap.size = b := ⟨_, rfl⟩
          rw [hxb0] at hxb hxn hbx1 ⊢
          clear hWx hxb0
          have HSX := hxs
          have HXB := hxb
          obtain ⟨k0, k1, k2, k3, k4⟩ : Wx.cell? ⟨xb, 0, none⟩ = some (.int .i64 0) ∧ Wx.cell? ⟨xb, 1, none⟩ = some (.int .i64 j) ∧ Wx.cell? ⟨xb, 2, none⟩ = some (.int .i32 0) ∧ Wx.cell? ⟨xb, 3, none⟩ = some (.int .i64 0) ∧ Wx.cell? ⟨xb, 4, none⟩ = some (.string ⟨#[]⟩) := ⟨HXB.out.cell 0, HXB.out.cell 1, HXB.out.cell 2, HXB.out.cell 3, HXB.out.cell 4⟩
          have k5 : Wx.cell? ⟨bx, 0, none⟩ = some v1 := HSX.out.box.cell 0
          have HR : Hid (∀ tmp, (Wx.alloc tmp).ownsRow (bx + 1) YT 5 v1 n cs) := Go.Lib.hid fun tmp => own_chg HSX.out.all ((Chg.refl NoB _).alloc tmp) fun _ _ => id
          have HN : Hid (∀ jj u, ([.int .i64 0, .int .i64 j, .int .i32 0, .int .i64 0, .string ⟨#[]⟩] : List Value)[jj]? = some u → (Wx.alloc (.cells #[.int .i64 0, .int .i64 j, .int .i32 0, .int .i64 0, .string ⟨#[]⟩] YT)).cell? ((⟨Wx.heap.size, 0, none⟩ : Addr).add jj) = some u) := Go.Lib.hid fun jj u hu => by
            rw [add_at, (Blk.new Wx YT #[.int .i64 0, .int .i64 j, .int .i32 0, .int .i64 0, .string ⟨#[]⟩]).cell jj, ← hu]
            simp
          have HA : Hid (∀ (tmp : Obj) (v' : Value) (w1 : World), w1.ownsRow (bx + 1) YT 5 v' (n + 1) (cs ++ [.int .i64 0, .int .i64 j, .int .i32 0, .int .i64 0, .string ⟨#[]⟩]) → (Wx.alloc tmp).grownBy w1 v1.ownBlock → _) := Go.Lib.hid fun tmp v' w1 h1 h2 => HSX.out.add h1 h2
          have hbs : bx + 1 ≤ Wx.heap.size := by have := HSX.out.box.lt; omega
          go_wp2_with (at_builtin; refine wpList_append_own _ rfl _ _ 27 rfl (bx + 1) YT i1 (.agg #[.int .i64 0, .int .i64 0, .int .i32 0, .int .i64 0, .string ⟨#[]⟩]) 5 48 Try.underlying27 Hj.out Hy0.out Hy1.out Hy2.out rfl (by decide) _ n cs rfl (HR.out _) ⟨Wx.heap.size, 0, none⟩ 1 1 [.int .i64 0, .int .i64 j, .int .i32 0, .int .i64 0, .string ⟨#[]⟩] rfl rfl HN.out (by simp [Value.oneCell']) (by unfold maxLen; omega) (by omega) (by simp; omega) ?_; intro v' w1 hown' hgrow _; obtain ⟨h1, h2⟩ := HA.out _ _ _ hown' hgrow; have y1 := h2.cell 0; have y2 := h2.frozen 0; have HH1 := Go.Lib.hid h1; obtain ⟨g', cap', rfl⟩ := ownsRow_succ hown'; simp only [List.getElem?_toArray, List.getElem?_cons_zero] at y1; have z1 := h1.res; have z2 := h1.box; obtain ⟨⟨r1, r2, r3, r4⟩, ⟨q1, q2⟩, ⟨q3, q4⟩, ⟨q5, q6⟩, ⟨q7, q8⟩, q9⟩ := ret_facts z2 z1; have HB := Go.Lib.hid q9; clear z1 z2 q9; clear h1 h2 hown' hgrow)
          exact ret_done HB.out (by rfl) rfl (HH1.out.post HPN.out (by omega) (ret_chg _ _ _ _) 0 0)
end
end Go.Proofs.Ytcmeciekadepjaa
