/- What is proved: LinkBytes holds, walked. Conditions: the memory holds the bytes. -/
import Derived.Test.YteleglkoagnmcaaGLlC
import Derived.Test.YteleglkoagnmcaaLwI
set_option linter.unusedSimpArgs false
set_option linter.unusedVariables false
namespace Go.Proofs.Yteleglkoagnmcaa
open Go Go.RowKit
def StepT : TypeId := 31
set_option maxRecDepth 100000 in
set_option maxHeartbeats 32000000 in
theorem linkBytes_c {W : World} {l : List UInt8} {A : Option Addr} {c : Nat} (hl : CellsAt W A (bv l)) (hnil : A = none → l = [] ∧ c = 0) (hlen : l.length ≤ maxLen) {nm : ByteArray} (hn : nm.size ≤ maxLen) : Calls Try.prog 3 #[.slice A l.length c, .string nm] W fun e w' => e = .returned (.bool true) ∧ Chg NoB W w' := by
  have HL := Go.Lib.hid (And.intro hl hnil)
  obtain ⟨n, hln⟩ : ∃ n, l.length = n := ⟨_, rfl⟩
  have HN := Go.Lib.hid hln
  have hn2 : n ≤ 9223372036854775807 := by have := hlen; unfold maxLen at this; omega
  have hs2 : nm.size ≤ 9223372036854775807 := by have := hn; unfold maxLen at this; omega
  have HNM := Go.Lib.hid (refName7_c nm hn W)
  rw [hln]
  clear hl hnil hln hlen
  have HK := Go.Lib.hid (known_c W)
  obtain ⟨sz, hsz⟩ : ∃ k, nm.size = k := ⟨_, rfl⟩
  have HSZ := Go.Lib.hid hsz
  rw [hsz] at hs2 hn
  go_enter Try.func3, Try.ntmps3
  by_cases h1 : 9000 < n
  · have d1 : decide (9000 < (n : Int)) = true := by simp; omega
    clear HNM HL HN
    go_wp2_with fail
    refine HK.out.mono ?_
    rintro e wk ⟨rfl, hck⟩
    have HC := Go.Lib.hid hck
    clear hck HK
    go_wp2_with fail
    go_ret
    exact ⟨rfl, HC.out⟩
  have d1 : decide (9000 < (n : Int)) = false := by simp; omega
  by_cases h2 : 100 < sz
  · have d2 : decide (100 < (sz : Int)) = true := by simp; omega
    clear HNM HL HN h1
    go_wp2_with fail
    refine HK.out.mono ?_
    rintro e wk ⟨rfl, hck⟩
    have HC := Go.Lib.hid hck
    clear hck HK
    go_wp2_with fail
    go_ret
    exact ⟨rfl, HC.out⟩
  have d2 : decide (100 < (sz : Int)) = false := by simp; omega
  go_wp2_with fail
  refine HNM.out.mono ?_
  rintro e wz ⟨rfl, hz⟩
  obtain rfl := hz
  clear HNM
  obtain ⟨ob, hob⟩ : ∃ b, objName nm = b := ⟨_, rfl⟩
  rw [hob]
  cases ob with
  | false =>
    clear HL HN h1 h2 hob
    go_wp2_with fail
    refine HK.out.mono ?_
    rintro e wk ⟨rfl, hck⟩
    have HC := Go.Lib.hid hck
    clear hck HK
    go_wp2_with fail
    go_ret
    exact ⟨rfl, HC.out⟩
  | true =>
    have HOB := Go.Lib.hid hob
    clear hob HK d1 d2
    have H12 : Hid (n ≤ 9000 ∧ sz ≤ 100) := Go.Lib.hid ⟨by omega, by omega⟩
    have hs3 : sz ≤ 100 := by omega
    clear h1 h2
    go_wp2_with fail
    obtain ⟨w1, hw⟩ : ∃ w, W.alloc (.cells #[.int .i64 0, .int .i64 0, .int .u32 0, .string (nm ++ (⟨#[46, 111]⟩ : ByteArray)), .slice A n c] StepT) = w := ⟨_, rfl⟩
    have hca : Chg NoB W w1 := by rw [← hw]; exact (Chg.refl NoB _).alloc _
    have hb : Blk w1 W.heap.size StepT #[.int .i64 0, .int .i64 0, .int .u32 0, .string (nm ++ (⟨#[46, 111]⟩ : ByteArray)), .slice A n c] := by rw [← hw]; exact Blk.new _ _ _
    unfold StepT at hw
    rw [hw]
    clear hw
    obtain ⟨fi, hfi⟩ : ∃ x : Fi, x = ⟨0, 0, 0, nm ++ (⟨#[46, 111]⟩ : ByteArray), A, c, l⟩ := ⟨_, rfl⟩
    have hfs : FisAt w1 (some ⟨W.heap.size, 0, none⟩) [fi] := fun _ => ⟨_, _, rfl, fun i x hx => by
      have hi : i = 0 := by
        have := (List.getElem?_eq_some_iff.1 hx).1
        simp at this
        omega
      subst hi
      simp at hx
      subst hx
      subst hfi
      refine ⟨⟨?_, ?_, HL.out.1.chg hca fun _ _ => id, HL.out.2⟩, hb.cell 3, ?_⟩
      · show (nm ++ (⟨#[46, 111]⟩ : ByteArray)).size ≤ maxLen
        have : (nm ++ (⟨#[46, 111]⟩ : ByteArray)).size = nm.size + 2 := by simp [ByteArray.size_append]; rfl
        have := HSZ.out
        have := H12.out.2
        unfold maxLen
        omega
      · show l.length < 1000000
        rw [HN.out]
        have := H12.out.1
        omega
      · show _ = some (Value.slice A l.length c)
        rw [HN.out]
        exact hb.cell 4⟩
    have hst := stores_c (W := w1) (L := []) (A := none) (c := 0) (fun h => by simp [allCells] at h) (by simp) (by simp) hfs (by simp) (cb := 1)
    have HST := Go.Lib.hid hst
    have HC := Go.Lib.hid hca
    clear hst hb hfs hca HL
    refine HST.out.mono ?_
    rintro e w8 ⟨s, r, rfl, hT⟩
    have hT2 : TwoL w1 w8 s r (putP v0L (fileO nm) l) (putQ v0L (fileO nm) l) 1 := by subst hfi; exact hT
    have HC := Go.Lib.hid (HC.out.trans hT2.chg)
    clear hT HST
    obtain ⟨base, F, aa, hsv, _⟩ := hT2
    have HSV := Go.Lib.hid hsv
    clear hsv hfi
    go_wp2_with fail
    refine (link_c HSV.out (by rw [HSZ.out]; have := H12.out.2; unfold maxLen; omega)).mono ?_
    rintro e w9 ⟨hc9, hp9⟩
    have HC := Go.Lib.hid (HC.out.trans hc9)
    rcases bytes_link HOB.out l with ⟨i, p, hi, hm1, hp, hpn⟩ | ⟨er, he, h4⟩
    · rw [hi] at hp9
      obtain ⟨wv, mv, lp, hlm, rfl, hr1, hr2, _⟩ := hp9
      obtain ⟨A1, d1, rfl⟩ := own_slice hr1
      obtain ⟨A2, d2, rfl⟩ := own_slice hr2
      have hl1 : lp.length = 1 := by rw [← hm1, ← hlm, List.length_map]
      obtain ⟨x, rfl⟩ := List.length_eq_one_iff.1 hl1
      rw [← hlm] at hp
      have hxn : x.1.name = nm := by
        have : x.1 = p := by simpa using hp
        rw [this]
        exact hpn
      obtain ⟨mb, mo, rfl, hcell⟩ := (own_cells_ hr2).flat (by rw [plsCells_len]; simp)
      have y0 : w9.cell? ⟨mb, mo, none⟩ = some (.string nm) := hcell 0 (.string nm) (by rw [← hxn]; rfl)
      have HY := Go.Lib.hid y0
      obtain ⟨wl, hwl⟩ : ∃ k, i.words.length = k := ⟨_, rfl⟩
      rw [hwl]
      clear hr1 hr2 hcell hp hpn hxn hlm hm1 hi hl1 hwl hc9 HSV y0
      simp only [List.length_cons, List.length_nil, Nat.zero_add]
      go_upto_region 7 with fail
      obtain ⟨w10, hw⟩ : ∃ w, w9.alloc (.cells #[.slice A1 wl d1, .slice (some ⟨mb, mo, none⟩) 1 d2] IMT) = w := ⟨_, rfl⟩
      have hca : Chg NoB w9 w10 := by rw [← hw]; exact (Chg.refl NoB _).alloc _
      have hb : Blk w10 w9.heap.size IMT #[.slice A1 wl d1, .slice (some ⟨mb, mo, none⟩) 1 d2] := by rw [← hw]; exact Blk.new _ _ _
      have HC := Go.Lib.hid (HC.out.trans hca)
      have y0 := keepQ hca HY.out
      have y1 := hb.cell 1
      simp only [List.getElem?_toArray, List.getElem?_cons_zero, List.getElem?_cons_succ] at y1
      rw [hw]
      clear hw hca hb HY
      generalize w9.heap.size = b9 at *
      go_wp2_with fail
      refine (num9_c _ _).mono ?_
      rintro e wz ⟨rfl, hz⟩
      obtain rfl := hz.symm
      clear hz
      go_wp2_with fail
      refine (known_c _).mono ?_
      rintro e wk ⟨rfl, hck⟩
      have HCK := Go.Lib.hid (HC.out.trans hck)
      clear hck
      go_wp2_with fail
      go_ret
      exact ⟨rfl, HCK.out⟩
    · rw [he] at hp9
      obtain rfl := hp9
      clear he hc9 HSV
      go_upto_region 7 with fail
      obtain ⟨w10, hw⟩ : ∃ w, w9.alloc (.cells #[.slice none 0 0, .slice none 0 0] IMT) = w := ⟨_, rfl⟩
      have hca : Chg NoB w9 w10 := by rw [← hw]; exact (Chg.refl NoB _).alloc _
      have hb : Blk w10 w9.heap.size IMT #[.slice none 0 0, .slice none 0 0] := by rw [← hw]; exact Blk.new _ _ _
      have HC := Go.Lib.hid (HC.out.trans hca)
      have y1 := hb.cell 0
      simp only [List.getElem?_toArray, List.getElem?_cons_zero] at y1
      rw [hw]
      clear hw hca hb
      generalize w9.heap.size = b9 at *
      rcases h4 with rfl | rfl | rfl | rfl
      all_goals
        go_wp2_with fail
        repeat
          refine (num9_c _ _).mono ?_
          rintro e wz ⟨rfl, hz⟩
          obtain rfl := hz.symm
          clear hz
          go_wp2_with fail
        refine (known_c _).mono ?_
        rintro e wk ⟨rfl, hck⟩
        have HCK := Go.Lib.hid (HC.out.trans hck)
        clear hck
        go_wp2_with fail
        go_ret
        exact ⟨rfl, HCK.out⟩
theorem linkBytes_walk {W : World} (A : Option Addr) (l : List UInt8) (c : Nat) (hl : CellsAt W A (bv l)) (hnil : A = none → l = [] ∧ c = 0) (hlen : l.length ≤ maxLen) (nm : ByteArray) (hn : nm.size ≤ maxLen) : Calls Try.prog 3 #[.slice A l.length c, .string nm] W fun e w' => e = .returned (.bool true) ∧ Chg NoB W w' :=
  linkBytes_c hl hnil hlen hn
end Go.Proofs.Yteleglkoagnmcaa
