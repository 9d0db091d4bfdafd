/- What is proved: a branch of the switch of the reference's Scan. Conditions: as said. -/
import Derived.Test.YtcmeciekadepjaaScanS
namespace Go.Proofs.Ytcmeciekadepjaa
open Go.RowKit
set_option maxRecDepth 1000000 in
set_option maxHeartbeats 8000000 in
theorem sw_quote (t nm : ByteArray) (g c : Nat) (w : World) (hsz : t.size ≤ 65535) (hc : t.size ≤ c) (hc2 : c ≤ maxLen) (hc3 : c ≤ 2 ^ 63 - 1) (HP : Hid (Pre t nm)) (ht0 : Hid (TextAt w g t))
    (bx n nl g2 c2 i j xb : Nat) (v1 : Value) (names : List ByteArray) (cs : List Value) (hcl : cs.length = n * 5) (HPI : Hid (PI nm n i names cs)) (hjs : j ≤ t.size) (HF : Hid (Fst nm n j names)) (hend : j < t.size) (hend2 : (j : Int) < t.size) (Wx : World)
    (hxs : Hid (SI t nm w bx n nl v1 g2 c2 names cs Wx)) (hbx1 : bx < xb) (hxn : Hid (v1.ownBlock ≠ some xb)) (hxb : Hid (Blk Wx xb YT #[.int .i64 0, .int .i64 j, .int .i32 0, .int .i64 0, .string ⟨#[]⟩]))
    (K : Act → World → Prop) (Q : Exit → Act → World → Prop) (x1 x8 x9 x10 x11 x12 x13 x14 x15 x16 x17 x18 x19 x20 x21 x22 x23 x24 x25 x26 x27 x28 x29 x30 x31 x32 x33 x34 x35 x36 x37 x38 x39 x40 x41 x42 x43 x44 x45 x46 x47 x48 x49 x50 x51 x52 x53 x54 x55 x56 x57 x58 x59 x60 x61 x62 x63 x64 x65 x66 x67 x68 x69 x70 x71 x72 x73 x74 x75 x76 x77 x78 x79 x80 x81 x82 x83 x84 x85 x86 x87 x88 x89 x90 x91 x92 x93 x94 x95 x96 x97 x98 x99 x100 x101 x102 x103 x104 x105 x106 x107 x108 x109 x110 x111 x112 x113 x114 x115 x116 x117 x118 x119 x120 x121 x122 x123 x124 x125 x126 x127 x128 x129 x130 x131 x132 x133 x134 x135 x136 x137 x138 x139 x140 x141 x142 x143 x144 x145 x146 x147 x148 x149 x150 x151 x152 x153 x154 x155 x156 x157 x158 x159 x160 x161 x162 x163 x164 x165 x166 x167 x168 x169 x170 x171 x172 x173 x174 x175 x176 x177 x178 x179 x180 x181 x182 x183 x184 x185 x186 x187 x188 x189 x190 x191 x192 x193 x194 x195 x196 x197 x198 x199 x200 x201 x202 x203 x204 x205 x206 x207 x208 x209 x210 x211 x212 x213 x214 x215 x216 x217 x218 x219 x220 x221 x222 x223 x224 x225 x226 x227 x228 x229 x230 x231 x232 x233 x234 x235 x236 x237 x238 x239 : Value)
    (HK : Hid (∀ (y4 y8 y9 y10 y11 y12 y13 y14 y15 y16 y17 y18 y55 y56 y57 y58 y59 y60 y61 y62 y63 y64 y65 y66 y67 y68 y69 y70 y71 y72 y73 y74 y75 y76 y77 y78 y79 y80 y81 y82 y83 y84 y85 y86 y87 y88 y89 y90 y91 y92 y93 y94 y95 y96 y97 y98 y99 y100 y101 y102 y103 y104 y105 y106 y107 y108 y109 y110 y111 y112 y113 y114 y115 y116 y117 y118 y119 y120 y121 y122 y123 y124 y125 y126 y127 y128 y129 y130 y131 y132 y133 y134 y135 y136 y137 y138 y139 y140 y141 y142 y143 y144 y145 y146 y147 y148 y149 y150 y151 y152 y153 y154 y155 y156 y157 y158 y159 y160 y161 y162 y163 y164 y165 y166 y167 y168 y169 y170 y171 y172 y173 y174 y175 y176 y177 y178 y179 y180 y181 y182 y183 y184 y185 y186 y187 y188 y189 y190 y191 y192 y193 y194 y195 y196 y197 y198 y199 y200 y201 y202 y203 y204 y205 y206 y207 y208 y209 y210 y211 y212 y213 y214 y215 y216 y217 y218 y219 y220 y221 y222 y223 y224 y225 y226 y227 y228 y229 y230 y231 y232 y233 : Value) (W : World), Mid t nm w bx n v1 cs xb j y4 W → K ⟨#[.slice (some ⟨g, 0, none⟩) t.size c, x1, .pointer (some ⟨w.heap.size, 0, none⟩), .pointer (some ⟨bx, 0, none⟩), y4, .int .i64 j, .int .i64 (-1), .pointer (some ⟨xb, 0, none⟩), y8, y9, y10, y11, y12, y13, y14, y15, y16, y17, y18, x19, x20, x21, x22, x23, x24, x25, x26, x27, x28, x29, x30, x31, x32, x33, x34, x35, x36, x37, x38, x39, x40, x41, x42, x43, x44, x45, x46, x47, x48, x49, x50, x51, x52, x53, x54, y55, y56, y57, y58, y59, y60, y61, y62, y63, y64, y65, y66, y67, y68, y69, y70, y71, y72, y73, y74, y75, y76, y77, y78, y79, y80, y81, y82, y83, y84, y85, y86, y87, y88, y89, y90, y91, y92, y93, y94, y95, y96, y97, y98, y99, y100, y101, y102, y103, y104, y105, y106, y107, y108, y109, y110, y111, y112, y113, y114, y115, y116, y117, y118, y119, y120, y121, y122, y123, y124, y125, y126, y127, y128, y129, y130, y131, y132, y133, y134, y135, y136, y137, y138, y139, y140, y141, y142, y143, y144, y145, y146, y147, y148, y149, y150, y151, y152, y153, y154, y155, y156, y157, y158, y159, y160, y161, y162, y163, y164, y165, y166, y167, y168, y169, y170, y171, y172, y173, y174, y175, y176, y177, y178, y179, y180, y181, y182, y183, y184, y185, y186, y187, y188, y189, y190, y191, y192, y193, y194, y195, y196, y197, y198, y199, y200, y201, y202, y203, y204, y205, y206, y207, y208, y209, y210, y211, y212, y213, y214, y215, y216, y217, y218, y219, y220, y221, y222, y223, y224, y225, y226, y227, y228, y229, y230, y231, y232, y233, x234, x235, x236, x237, x238, x239], []⟩ W))
    (HQ : Hid (∀ (a : Act) (W : World) (v1 v2 v3 v4 : Value), a.tmps.getD 2 undef = .pointer (some ⟨w.heap.size, 0, none⟩) → a.defers = [] → Blk W w.heap.size RT #[v1, v2, v3, v4] → ScanPost nm w (.returned (.agg #[v1, v2, v3, v4])) W → Q .ret a W))
    (hl : letterB (bt t j) = false) (hdg : digitB (bt t j) = false) (hq : bt t j = 34) : Code.wp Try.prog swC (Exit.then K (Exit.inBlock 1 Q)) ⟨#[.slice (some ⟨g, 0, none⟩) t.size c, x1, .pointer (some ⟨w.heap.size, 0, none⟩), .pointer (some ⟨bx, 0, none⟩), .int .i64 j, .int .i64 j, .int .i64 (-1), .pointer (some ⟨xb, 0, none⟩), x8, x9, x10, x11, x12, x13, x14, x15, x16, x17, x18, x19, x20, x21, x22, x23, x24, x25, x26, x27, x28, x29, x30, x31, x32, x33, x34, x35, x36, x37, x38, x39, x40, x41, x42, x43, x44, x45, x46, x47, x48, x49, x50, x51, x52, x53, x54, x55, x56, x57, x58, x59, x60, x61, x62, x63, x64, x65, x66, x67, x68, x69, x70, x71, x72, x73, x74, x75, x76, x77, x78, x79, x80, x81, x82, x83, x84, x85, x86, x87, x88, x89, x90, x91, x92, x93, x94, x95, x96, x97, x98, x99, x100, x101, x102, x103, x104, x105, x106, x107, x108, x109, x110, x111, x112, x113, x114, x115, x116, x117, x118, x119, x120, x121, x122, x123, x124, x125, x126, x127, x128, x129, x130, x131, x132, x133, x134, x135, x136, x137, x138, x139, x140, x141, x142, x143, x144, x145, x146, x147, x148, x149, x150, x151, x152, x153, x154, x155, x156, x157, x158, x159, x160, x161, x162, x163, x164, x165, x166, x167, x168, x169, x170, x171, x172, x173, x174, x175, x176, x177, x178, x179, x180, x181, x182, x183, x184, x185, x186, x187, x188, x189, x190, x191, x192, x193, x194, x195, x196, x197, x198, x199, x200, x201, x202, x203, x204, x205, x206, x207, x208, x209, x210, x211, x212, x213, x214, x215, x216, x217, x218, x219, x220, x221, x222, x223, x224, x225, x226, x227, x228, x229, x230, x231, x232, x233, x234, x235, x236, x237, x238, x239], []⟩ Wx := by
  have HT : Hid (∀ W, Chg NoB w W → TextAt W g t) := Go.Lib.hid fun W h => ht0.out.chg h
  obtain ⟨i0, hi, hz0, hz1, hz2⟩ := info_parts str_info
  have Hi := Go.Lib.hid hi
  have Hz0 := Go.Lib.hid hz0
  have Hz1 := Go.Lib.hid hz1
  have Hz2 := Go.Lib.hid hz2
  clear hi hz0 hz1 hz2
  conv => arg 2; whnf
  have hTx := HT.out _ hxs.out.chg
  have HTx := Go.Lib.hid hTx
  have hb := hTx j hend
  have hbr := bt_range t j
  have HA : Hid (∀ k : Int, 0 ≤ k ∧ k ≤ 100000 → Calls Try.prog 12 #[.slice (some ⟨g, 0, none⟩) t.size c, .int .i64 k] Wx fun e w' => e = .returned (.int .u8 (bt t k)) ∧ Wx = w') := Go.Lib.hid fun k hk => at_c t g c hsz hc k hk Wx hTx
  have HL : Hid (∀ k : Int, Calls Try.prog 11 #[.int .u8 (bt t k)] Wx fun e w' => e = .returned (.bool (letterB (bt t k))) ∧ Wx = w') := Go.Lib.hid fun k => letter_c (bt t k) (bt_range t k) Wx
  have HD : Hid (∀ k : Int, Calls Try.prog 13 #[.int .u8 (bt t k)] Wx fun e w' => e = .returned (.bool (digitB (bt t k))) ∧ Wx = w') := Go.Lib.hid fun k => digit_c (bt t k) (bt_range t k) Wx
  have HBy : Hid (Lib.Bytes Wx g 0 t) := Go.Lib.hid (bytes_text hTx)
  have hj5 : (j : Int) ≤ 65535 := by omega
  clear hTx
  have Hl0 := HL.out j
  rw [hl] at Hl0
  have HO := Go.Lib.hid (HP.out.other HF.out hl)
  have Hd0 := HD.out j
  rw [hdg] at Hd0
  have hn3 : 3 ≤ n := by
    rcases HO.out with h | ⟨_, h⟩
    · exact h
    · omega
  clear hdg hl
  rw [hq] at hb Hl0 Hd0
  have hj1 : IntKind.i64.wrap ((j : Int) + 1) = ((j + 1 : Nat) : Int) := by rw [IntWalk.i64_in _ (by omega)]; rfl
  go_wp2_with (first
    | (go_at_call 11; (with_reducible refine Hl0.mono ?_); rintro e w1 ⟨rfl, rfl⟩)
    | (go_at_call 13; (with_reducible refine Hd0.mono ?_); rintro e w1 ⟨rfl, rfl⟩))
  clear Hl0 Hd0
  go_loopw [16] (fun v16 W => ∃ k : Nat, v16 = .int .i64 k ∧ j + 1 ≤ k ∧ k ≤ t.size ∧ W = Wx) (fun v16 _ => t.size - (intOf v16).toNat)
  case atStart => exact ⟨j + 1, by go_num, Nat.le_refl _, by omega, rfl⟩
  case round =>
    obtain ⟨k, rfl, hjk, hkt, hW⟩ := hrel
    subst hW
    have hk5 : (k : Int) ≤ 65535 := by omega
    have Ha0 := HA.out k (by omega)
    have hbk := bt_range t k
    have hbo := bt_out t k
    by_cases h32 : 32 ≤ bt t k
    · have hkl : k < t.size := by
        rcases Nat.lt_or_ge k t.size with h | h
        · exact h
        · rw [hbo (by omega)] at h32
          omega
      have hkl2 : (k : Int) < t.size := by omega
      have hck := HTx.out k hkl
      clear hbo
      by_cases h127 : bt t k < 127
      · by_cases h34 : bt t k = 34
        · rw [h34] at Ha0 hck
          have Ha := Go.Lib.hid Ha0
          clear h34 h127 h32 hbk Ha0
          by_cases h63 : 63 < (k : Int) - j - 1
          · obtain ⟨m', rfl⟩ : ∃ m', n = m' + 1 := ⟨n - 1, by omega⟩
            obtain ⟨g1, c1, rfl⟩ := ownsRow_succ hxs.out.all
            obtain ⟨⟨a1, a2⟩, a3, a4⟩ := err_facts hxs.out.box (.int .i64 4)
            obtain ⟨E1, E2, E3⟩ := hxs.out.err HPI.out hn3 4 j
            have HE := Go.Lib.hid E3
            obtain ⟨⟨r1, r2, r3, r4⟩, ⟨q1, q2⟩, ⟨q3, q4⟩, ⟨q5, q6⟩, ⟨q7, q8⟩, q9⟩ := ret_facts E1 E2
            have HB := Go.Lib.hid q9
            clear E1 E2 E3 q9
            go_wp2_with (first
              | (go_at_call 12; (with_reducible refine Ha.out.mono ?_); rintro e w1 ⟨rfl, rfl⟩))
            exact HQ.out _ _ _ _ _ _ (by rfl) rfl HB.out (HE.out _ (ret_chg _ _ _ _))
          · have h63b : ¬ 63 < (k : Int) - j - 1 := h63
            obtain ⟨s, hs⟩ : ∃ s, nameAt t (j + 1) k = s := ⟨_, rfl⟩
            have HC : Hid (∀ W, Chg (fun b => b = xb) wr W → (convert 31 9 (.slice (some ⟨g, j + 1, none⟩) (k - (j + 1)) (c - (j + 1)))).run Try.prog W = .ok (.string s) W) := Go.Lib.hid fun W hW => by
              have hgx : g < w.heap.size := block_lt_of_cell (ht0.out j hend)
              have hgb := hxs.out.bxl
              have hTW : TextAt W g t := fun q hq => hW.cell_ (HTx.out q hq) (fun e => by have e : g = xb := e; omega)
              have := Lib.run_convert_window (P := Try.prog) W 31 5 9 Try.underlying31 Try.underlying5 Try.underlying9 g 0 t (bytes_text hTW) (j + 1) (k - (j + 1)) (c - (j + 1)) (by omega)
              rw [Nat.zero_add, show (j + 1) + (k - (j + 1)) = k by omega] at this
              rw [← hs]
              exact this
            clear hs
            have hone : ((k : Int) - j - 1 == 1) = true ∨ ((k : Int) - j - 1 == 1) = false := by cases ((k : Int) - j - 1 == 1) <;> simp
            have B1 := hxb.out.set_ 0 (.int .i64 28)
            have B2 := B1.set_ 4 (.string s)
            have HB2 := Go.Lib.hid B2
            obtain ⟨f1, f2⟩ : wr.cell? ⟨xb, 0, none⟩ = some (.int .i64 0) ∧ wr.frozen? ⟨xb, 0, none⟩ = false := ⟨hxb.out.cell 0, hxb.out.frozen 0⟩
            obtain ⟨f3, f4⟩ : (wr.setCell ⟨xb, 0, none⟩ (.int .i64 28)).cell? ⟨xb, 4, none⟩ = some (.string ⟨#[]⟩) ∧ (wr.setCell ⟨xb, 0, none⟩ (.int .i64 28)).frozen? ⟨xb, 4, none⟩ = false := ⟨B1.cell 4, B1.frozen 4⟩
            obtain ⟨f5, f6⟩ : wr.cell? ⟨xb, 4, none⟩ = some (.string ⟨#[]⟩) ∧ wr.frozen? ⟨xb, 4, none⟩ = false := ⟨hxb.out.cell 4, hxb.out.frozen 4⟩
            clear B1 B2
            have b1 : (0 : Int) ≤ ((j + 1 : Nat) : Int) := by omega
            have b2 : ((j + 1 : Nat) : Int) ≤ k := by omega
            have b3 : (k : Int) ≤ c := by omega
            have b6 : ¬ c = j + 1 := by omega
            have K0 := Go.Lib.hid (HC.out _ (Chg.refl (fun b => b = xb) wr).drew)
            have K1 := Go.Lib.hid (HC.out _ ((Chg.refl (fun b => b = xb) wr).setCell (p := ⟨xb, 0, none⟩) (fun _ => rfl) (.int .i64 28)).drew)
            have K2 := Go.Lib.hid (HC.out _ (((Chg.refl (fun b => b = xb) wr).setCell (p := ⟨xb, 0, none⟩) (fun _ => rfl) (.int .i64 28)).setCell (p := ⟨xb, 4, none⟩) (fun _ => rfl) (.string s)).drew)
            have b4 : (0 : Int) ≤ (j : Int) + 1 := by omega
            have b5 : (j : Int) + 1 ≤ k := by omega
            have HSI2 : Hid (SI t nm w bx n nl v1 g2 c2 names cs (((wr.setCell ⟨xb, 0, none⟩ (.int .i64 28)).setCell ⟨xb, 4, none⟩ (.string s)).drew)) := Go.Lib.hid (((hxs.out.set_ hbx1 hxb.out hxn.out 0 _).set_ hbx1 (hxb.out.set_ 0 _) hxn.out 4 _).chg2 (Chg.refl _ _).drew)
            have HB3 : Hid (Blk (((wr.setCell ⟨xb, 0, none⟩ (.int .i64 28)).setCell ⟨xb, 4, none⟩ (.string s)).drew) xb YT #[.int .i64 28, .int .i64 j, .int .i32 0, .int .i64 0, .string s]) := Go.Lib.hid HB2.out.drew
            have HT2 : Hid (TextAt (((wr.setCell ⟨xb, 0, none⟩ (.int .i64 28)).setCell ⟨xb, 4, none⟩ (.string s)).drew) g t) := Go.Lib.hid (HT.out _ HSI2.out.chg)
            have hk1 : IntKind.i64.wrap ((k : Int) + 1) = ((k + 1 : Nat) : Int) := by rw [IntWalk.i64_in _ (by omega)]; rfl
            rcases hone with h1 | h1
            · have hj2 : j + 1 < t.size := by have := eq_of_beq h1; omega
              go_wp2_with (first
                | (go_at_call 12; (with_reducible refine Ha.out.mono ?_); rintro e w1 ⟨rfl, rfl⟩))
              go_region_held3 (fun W => (convert 31 9 (.slice (some ⟨g, j + 1, none⟩) (k - (j + 1)) (c - (j + 1)))).run Try.prog W = .ok (.string s) W) (first | exact K0.out | exact K1.out | exact K2.out) (fail)
              obtain ⟨W2, hW2⟩ : ∃ W', ((wr.setCell ⟨xb, 0, none⟩ (.int .i64 28)).setCell ⟨xb, 4, none⟩ (.string s)).drew = W' := ⟨_, rfl⟩
              rw [hW2] at HSI2 HB3 HT2 ⊢
              clear hW2 K0 K1 K2 f1 f2 f3 f4 f5 f6
              have HPN : ∀ v : Int, Hid (PI nm (n + 1) (k + 1) names (cs ++ [.int .i64 28, .int .i64 j, .int .i32 v, .int .i64 0, .string s])) := fun v => Go.Lib.hid (HPI.out.next hcl (fun e => by omega) (fun e => by omega) (.inl rfl))
              have f7 := HT2.out (j + 1) hj2
              obtain ⟨f8, f9⟩ : W2.cell? ⟨xb, 2, none⟩ = some (.int .i32 0) ∧ W2.frozen? ⟨xb, 2, none⟩ = false := ⟨HB3.out.cell 2, HB3.out.frozen 2⟩
              have hbq := bt_range t ((j + 1 : Nat) : Int)
              have hjt : ((j + 1 : Nat) : Int) < t.size := by omega
              have hjt1 : (j : Int) + 1 < t.size := by omega
              go_wp2_with fail
              refine HK.out _ _ _ _ _ _ _ _ _ _ _ _ _ _ _ _ _ _ _ _ _ _ _ _ _ _ _ _ _ _ _ _ _ _ _ _ _ _ _ _ _ _ _ _ _ _ _ _ _ _ _ _ _ _ _ _ _ _ _ _ _ _ _ _ _ _ _ _ _ _ _ _ _ _ _ _ _ _ _ _ _ _ _ _ _ _ _ _ _ _ _ _ _ _ _ _ _ _ _ _ _ _ _ _ _ _ _ _ _ _ _ _ _ _ _ _ _ _ _ _ _ _ _ _ _ _ _ _ _ _ _ _ _ _ _ _ _ _ _ _ _ _ _ _ _ _ _ _ _ _ _ _ _ _ _ _ _ _ _ _ _ _ _ _ _ _ _ _ _ _ _ _ _ _ _ _ _ _ _ _ _ _ _ _ _ _ _ _ _ _ _ _ ?_
              exact ⟨nl, k + 1, g2, c2, names, 28, j, _, 0, s, by go_num, by omega, by omega, HSI2.out.set_ hbx1 HB3.out hxn.out 2 _, HB3.out.set_ 2 _, (HPN _).out⟩
            · go_wp2_with (first
                | (go_at_call 12; (with_reducible refine Ha.out.mono ?_); rintro e w1 ⟨rfl, rfl⟩))
              go_region_held3 (fun W => (convert 31 9 (.slice (some ⟨g, j + 1, none⟩) (k - (j + 1)) (c - (j + 1)))).run Try.prog W = .ok (.string s) W) (first | exact K0.out | exact K1.out | exact K2.out) (fail)
              obtain ⟨W2, hW2⟩ : ∃ W', ((wr.setCell ⟨xb, 0, none⟩ (.int .i64 28)).setCell ⟨xb, 4, none⟩ (.string s)).drew = W' := ⟨_, rfl⟩
              rw [hW2] at HSI2 HB3 HT2 ⊢
              clear hW2 K0 K1 K2 f1 f2 f3 f4 f5 f6
              have HPN : Hid (PI nm (n + 1) (k + 1) names (cs ++ [.int .i64 28, .int .i64 j, .int .i32 0, .int .i64 0, .string s])) := Go.Lib.hid (HPI.out.next hcl (fun e => by omega) (fun e => by omega) (.inl rfl))
              go_wp2_with fail
              refine HK.out _ _ _ _ _ _ _ _ _ _ _ _ _ _ _ _ _ _ _ _ _ _ _ _ _ _ _ _ _ _ _ _ _ _ _ _ _ _ _ _ _ _ _ _ _ _ _ _ _ _ _ _ _ _ _ _ _ _ _ _ _ _ _ _ _ _ _ _ _ _ _ _ _ _ _ _ _ _ _ _ _ _ _ _ _ _ _ _ _ _ _ _ _ _ _ _ _ _ _ _ _ _ _ _ _ _ _ _ _ _ _ _ _ _ _ _ _ _ _ _ _ _ _ _ _ _ _ _ _ _ _ _ _ _ _ _ _ _ _ _ _ _ _ _ _ _ _ _ _ _ _ _ _ _ _ _ _ _ _ _ _ _ _ _ _ _ _ _ _ _ _ _ _ _ _ _ _ _ _ _ _ _ _ _ _ _ _ _ _ _ _ _ ?_
              exact ⟨nl, k + 1, g2, c2, names, 28, j, 0, 0, s, by go_num, by omega, by omega, HSI2.out, HB3.out, HPN.out⟩
        · have h34c : (bt t k != 34) = true := bne_iff_ne.2 h34
          have Ha := Go.Lib.hid Ha0
          clear Ha0
          go_wp2_with (first
            | (go_at_call 12; (with_reducible refine Ha.out.mono ?_); rintro e w1 ⟨rfl, rfl⟩))
          go_roundw
          case rel => exact ⟨k + 1, by go_num, by omega, by omega, by trivial⟩
          case measure => simp [intOf]; omega
      · have h34n : ¬ bt t k = 34 := fun h => h127 (by rw [h]; decide)
        have h34c : (bt t k != 34) = true := bne_iff_ne.2 h34n
        have h34d : (bt t k == 34) = false := beq_eq_false_iff_ne.2 h34n
        have d32 : decide (32 ≤ bt t k) = true := decide_eq_true h32
        have d127 : decide (bt t k < 127) = false := decide_eq_false h127
        clear h34n hbk h32 h127
        have Ha := Go.Lib.hid Ha0
        clear Ha0
        obtain ⟨m', rfl⟩ : ∃ m', n = m' + 1 := ⟨n - 1, by omega⟩
        obtain ⟨g1, c1, rfl⟩ := ownsRow_succ hxs.out.all
        obtain ⟨⟨a1, a2⟩, a3, a4⟩ := err_facts hxs.out.box (.int .i64 4)
        obtain ⟨E1, E2, E3⟩ := hxs.out.err HPI.out hn3 4 j
        have HE := Go.Lib.hid E3
        obtain ⟨⟨r1, r2, r3, r4⟩, ⟨q1, q2⟩, ⟨q3, q4⟩, ⟨q5, q6⟩, ⟨q7, q8⟩, q9⟩ := ret_facts E1 E2
        have HB := Go.Lib.hid q9
        clear E1 E2 E3 q9
        go_wp2_with (first
          | (go_at_call 12; (with_reducible refine Ha.out.mono ?_); rintro e w1 ⟨rfl, rfl⟩))
        exact HQ.out _ _ _ _ _ _ (by rfl) rfl HB.out (HE.out _ (ret_chg _ _ _ _))
    · have h34n : ¬ bt t k = 34 := fun h => h32 (by rw [h]; decide)
      have h34c : (bt t k != 34) = true := bne_iff_ne.2 h34n
      have h34d : (bt t k == 34) = false := beq_eq_false_iff_ne.2 h34n
      have d32 : decide (32 ≤ bt t k) = false := decide_eq_false h32
      clear h34n hbo hbk h32
      have Ha := Go.Lib.hid Ha0
      clear Ha0
      obtain ⟨m', rfl⟩ : ∃ m', n = m' + 1 := ⟨n - 1, by omega⟩
      obtain ⟨g1, c1, rfl⟩ := ownsRow_succ hxs.out.all
      obtain ⟨⟨a1, a2⟩, a3, a4⟩ := err_facts hxs.out.box (.int .i64 4)
      obtain ⟨E1, E2, E3⟩ := hxs.out.err HPI.out hn3 4 j
      have HE := Go.Lib.hid E3
      obtain ⟨⟨r1, r2, r3, r4⟩, ⟨q1, q2⟩, ⟨q3, q4⟩, ⟨q5, q6⟩, ⟨q7, q8⟩, q9⟩ := ret_facts E1 E2
      have HB := Go.Lib.hid q9
      clear E1 E2 E3 q9
      go_wp2_with (first
        | (go_at_call 12; (with_reducible refine Ha.out.mono ?_); rintro e w1 ⟨rfl, rfl⟩))
      exact HQ.out _ _ _ _ _ _ (by rfl) rfl HB.out (HE.out _ (ret_chg _ _ _ _))
end Go.Proofs.Ytcmeciekadepjaa
