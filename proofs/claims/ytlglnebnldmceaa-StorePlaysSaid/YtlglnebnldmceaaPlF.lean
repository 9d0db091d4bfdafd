/- What is proved: the walk of the law StorePlays. Conditions: the memory holds the steps. -/
import Derived.Test.YtlglnebnldmceaaPlE
import Derived.Test.YtlglnebnldmceaaStoreY
import Derived.Test.YtlglnebnldmceaaSteps
set_option linter.unusedSimpArgs false
set_option linter.unusedVariables false
namespace Go.Proofs.Ytlglnebnldmceaa
open Go Go.RowKit Go.Shelf
theorem ref_start (W : World) (cap : Nat) (X : Nat → Prop) (hX : ∀ k, X k → k < W.heap.size) : RefAt (W.alloc (.cells #[.slice none 0 0, .slice none 0 0, .slice none 0 0, .int .i64 cap] RST)) W.heap.size ⟨cap, [], [], []⟩ X ⟨.slice none 0 0, .slice none 0 0, .slice none 0 0, []⟩ where
  blk := Blk.new _ _ _
  F := World.ownsRow_nil _ _ _ _
  f := fun i b h => by simp at h
  D := World.ownsRow_nil _ _ _ _
  R := World.ownsRow_nil _ _ _ _
  xF := fun k h => by simp [Value.ownBlock] at h
  xD := fun k h => by simp [Value.ownBlock] at h
  xR := fun k h => by simp [Value.ownBlock] at h
  xr := fun h => absurd (hX _ h) (by omega)
  db := fun e h => by simp at h
  rb := fun e h => by simp at h
theorem two_start {w0 W : World} {s cap base : Nat} {F : Nat → Prop} (h : StoreV base W s ⟨cap, [], [], []⟩ F) (hb : w0.heap.size ≤ base) (hc : Chg NoB w0 W) : Two w0 (W.alloc (.cells #[.slice none 0 0, .slice none 0 0, .slice none 0 0, .int .i64 cap] RST)) s W.heap.size ⟨cap, [], [], []⟩ ⟨cap, [], [], []⟩ 0 :=
  ⟨⟨base, F, _, h.quiet ((Chg.refl _ _).alloc _), ref_start W cap F (fun k hk => h.lt hk), fun j hj => Nat.le_trans hb (h.low hj)⟩, hc.size, RS.start cap, ⟨Nat.le_refl _, Nat.le_refl _, Nat.le_refl _, fun n => by simp [V.bytes]⟩, hc.alloc _⟩
set_option maxRecDepth 100000 in
set_option maxHeartbeats 4000000 in
theorem storePlays_arg (w : World) (cap : Int) (hcap : cap < 0 ∨ 67108864 < cap) (A : Option Addr) (n c : Nat) (leave : Int) : Calls Try.prog 3 #[.int .i64 cap, .slice A n c, .int .i64 leave] w fun e w' => e = .returned (.bool true) ∧ Chg NoB w w' := by
  have KN := Go.Lib.hid known_c
  have H0 := Go.Lib.hid (new_arg cap hcap w)
  by_cases h1 : cap < 0
  · have d1 : decide (cap < 0) = true := by simpa using h1
    go_enter Try.func3, Try.ntmps3
    go_wp2_with fail
    refine H0.out.mono ?_
    rintro e w1 ⟨rfl, rfl⟩
    go_wp2_with fail
    refine (num_c _ _).mono ?_
    rintro e w1 ⟨rfl, rfl⟩
    go_wp2_with fail
    refine (KN.out _).mono ?_
    rintro e wk ⟨rfl, hck⟩
    have HK := Go.Lib.hid hck
    clear hck
    go_wp2_with fail
    go_ret
    exact ⟨rfl, HK.out⟩
  · have d1 : decide (cap < 0) = false := by simpa using h1
    have d2 : decide (67108864 < cap) = true := by simp; omega
    go_enter Try.func3, Try.ntmps3
    go_wp2_with fail
    refine H0.out.mono ?_
    rintro e w1 ⟨rfl, rfl⟩
    go_wp2_with fail
    refine (num_c _ _).mono ?_
    rintro e w1 ⟨rfl, rfl⟩
    go_wp2_with fail
    refine (KN.out _).mono ?_
    rintro e wk ⟨rfl, hck⟩
    have HK := Go.Lib.hid hck
    clear hck
    go_wp2_with fail
    go_ret
    exact ⟨rfl, HK.out⟩
set_option maxRecDepth 100000 in
set_option maxHeartbeats 4000000 in
theorem storePlays_walk (w : World) (cap : Nat) (hcap : cap ≤ 67108864) (A : Option Addr) (L : List St) (c : Nat) (leave : Int) (hS : StepsAt w A L) (hL : L.length ≤ maxLen) : Calls Try.prog 3 #[.int .i64 cap, .slice A L.length c, .int .i64 leave] w fun e w' => e = .returned (.bool true) ∧ Chg NoB w w' := by
  have HM := Go.Lib.hid (fun (W : World) (hW : Chg NoB w W) => much_c (c := c) (hS.chg hW) 120 (by decide) hL)
  have HS := Go.Lib.hid hS
  have KN := Go.Lib.hid known_c
  have H0 := Go.Lib.hid (new_v cap hcap w)
  have hLL := hL
  unfold maxLen at hLL
  clear hS hL
  have d1 : decide ((cap : Int) < 0) = false := by simp
  have d2 : decide (67108864 < (cap : Int)) = false := by simp; omega
  go_enter Try.func3, Try.ntmps3
  go_wp2_with fail
  refine H0.out.mono ?_
  rintro e w1 ⟨s, F, rfl, hs, hc1⟩
  have HC1 := Go.Lib.hid hc1
  have Hs := Go.Lib.hid hs
  clear H0 hs hc1
  unfold ptr
  go_wp2_with fail
  refine (HM.out _ HC1.out).mono ?_
  rintro e w2 ⟨b, rfl, hc2, hb⟩
  have HC2 := Go.Lib.hid (HC1.out.trans hc2)
  have Hs2 := Go.Lib.hid (Hs.out.quiet hc2)
  clear hc2
  cases b with
  | true =>
    clear hb
    go_wp2_with fail
    refine (KN.out _).mono ?_
    rintro e wk ⟨rfl, hck⟩
    have HK := Go.Lib.hid (HC2.out.trans hck)
    clear hck
    go_wp2_with fail
    go_ret
    exact ⟨rfl, HK.out⟩
  | false =>
    obtain ⟨hLm, hall⟩ := hb rfl
    have Hall := Go.Lib.hid hall
    clear hb hall HM
    go_upto_region 7 with fail
    have hT := two_start (w0 := w) Hs2.out (Nat.le_refl _) HC2.out
    generalize World.alloc w2 (.cells #[.slice none 0 0, .slice none 0 0, .slice none 0 0, .int .i64 cap] RST) = w3 at *
    generalize w2.heap.size = r at *
    have HT := Go.Lib.hid hT
    clear hT Hs Hs2 HC1 HC2
    go_wp2_with fail
    refine (num_c _ _).mono ?_
    rintro e w4 ⟨rfl, rfl⟩
    go_wp2_with fail
    refine (HT.out.looks (by omega) _ _ (by decide) _).mono ?_
    rintro e w5 ⟨rfl, hq⟩
    have HT5 := Go.Lib.hid (HT.out.quiet hq)
    clear hq HT
    go_wp2_with fail
    go_loopw [10] (fun i wr => ∃ (k : Nat) (v U : V), k ≤ L.length ∧ i = .int .i64 k ∧ Two w wr s r v U k) (fun i _ => L.length - (intOf i).toNat)
    case atStart => exact ⟨0, _, _, Nat.zero_le _, rfl, HT5.out⟩
    case round =>
      obtain ⟨k, v, U, hk, rfl, hT⟩ := hrel
      have HT := Go.Lib.hid hT
      clear hT HT5
      by_cases hlt : k < L.length
      · have hdl : decide ((k : Int) < (L.length : Int)) = true := by simp; omega
        obtain ⟨x, hx⟩ : ∃ x, L[k]? = some x := ⟨_, List.getElem?_eq_getElem hlt⟩
        obtain ⟨b, oo, rfl, hcs⟩ := HS.out (by omega)
        obtain ⟨hraw, k0, k1, k2, k3, k4⟩ := hcs k x hx
        have K := Go.Lib.hid (And.intro k0 (And.intro k1 (And.intro k2 (And.intro k3 k4))))
        have hxb := Hall.out x (List.mem_of_getElem? hx)
        have HX := Go.Lib.hid (fun (W : World) (hW : Chg NoB w W) => (⟨hraw.n, hraw.nm, hxb.1, hraw.cells.chg hW (fun _ _ => id)⟩ : StepOk W x))
        have hnm := hraw.nm
        clear hcs k0 k1 k2 k3 k4 hraw hx
        go_wp2_with fail
        refine HT.out.copy.mono ?_
        rintro e w6 ⟨c1, v', ρ, rfl, hsim, hrc⟩
        have HSI := Go.Lib.hid hsim
        have HRC := Go.Lib.hid hrc
        clear hsim hrc
        go_wp2_with fail
        refine HRC.out.mono ?_
        rintro e w7 ⟨q1, rfl, hQ, hc7⟩
        have HQ7 := Go.Lib.hid hQ
        clear hQ hc7 HRC
        go_wp2_with fail
        have hg := HT.out.good
        have hrs := HT.out.2.2.1
        have hsz := HT.out.2.2.2.1
        have HSM := Go.Lib.hid (And.intro (hrs.small hsz (by omega) hg.2) (fun p hp => by rw [hrs.bytes]; rw [hrs.rd] at hp; exact hg.1.ps p hp : ∀ p ∈ U.rd, p.pos ≤ (U.bytes p.n).length))
        have HG := Go.Lib.hid (And.intro hg (And.intro hrs hsz))
        clear hg hrs hsz
        refine regionH (fun V' => Chg NoB w V') (by kernel_rfl) (HQ7.out.chg.trans (Chg.refl NoB _).drew) (fun hS => ?_)
        refine takeH (i := 0) (t := 66) (v := ?v0y53) rfl (by kernel_rfl) (by kernel_rfl) (by kernel_rfl) (fun _ _ _ h => h) rfl (Or.inl ⟨by rfl, ?h0y53⟩) hS ?r0y53
        case h0y53 => (intro V' hSw; clear hSw; go_simp; try with_reducible rfl)
        try simp only [List.setIfInBounds_toArray, List.set_cons_zero, List.set_cons_succ]
        refine takeH (i := 1) (t := 67) (v := ?v1y54) rfl (by kernel_rfl) (by kernel_rfl) (by kernel_rfl) (fun _ _ _ h => h) rfl (Or.inl ⟨by rfl, ?h1y54⟩) hS ?r1y54
        case h1y54 => (intro V' hSw; clear hSw; go_simp; try with_reducible rfl)
        try simp only [List.setIfInBounds_toArray, List.set_cons_zero, List.set_cons_succ]
        refine takeH (i := 2) (t := 68) (v := ?v2y55) rfl (by kernel_rfl) (by kernel_rfl) (by kernel_rfl) (fun _ _ _ h => h) rfl (Or.inl ⟨by rfl, ?h2y55⟩) hS ?r2y55
        case h2y55 => (intro V' hSw; clear hSw; go_simp; try with_reducible rfl)
        try simp only [List.setIfInBounds_toArray, List.set_cons_zero, List.set_cons_succ]
        refine takeH (i := 3) (t := 69) (v := ?v3y56) rfl (by kernel_rfl) (by kernel_rfl) (by kernel_rfl) (fun _ _ _ h => h) rfl (Or.inl ⟨by rfl, ?h3y56⟩) hS ?r3y56
        case h3y56 => (intro V' hSw; clear hSw; go_simp; try with_reducible rfl)
        try simp only [List.setIfInBounds_toArray, List.set_cons_zero, List.set_cons_succ]
        refine takeH (i := 4) (t := 70) (v := ?v4y57) rfl (by kernel_rfl) (by kernel_rfl) (by kernel_rfl) (fun _ _ _ h => h) rfl (Or.inl ⟨by rfl, ?h4y57⟩) hS ?r4y57
        case h4y57 => (intro V' hSw; clear hSw; go_simp; try with_reducible rfl)
        try simp only [List.setIfInBounds_toArray, List.set_cons_zero, List.set_cons_succ]
        refine takeH (i := 5) (t := 71) (v := x.v) rfl (by kernel_rfl) (by kernel_rfl) (by kernel_rfl) (fun _ _ _ h => h) rfl (Or.inl ⟨by rfl, ?h5y58⟩) hS ?r5y58
        case h5y58 => (intro V' hSw; have q0 := cell_q hSw K.out.1; have q1 := cell_q hSw K.out.2.1; have q2 := cell_q hSw K.out.2.2.1; have q3 := cell_q hSw K.out.2.2.2.1; have q4 := cell_q hSw K.out.2.2.2.2; clear hSw; go_simp; try rfl)
        try simp only [List.setIfInBounds_toArray, List.set_cons_zero, List.set_cons_succ]
        refine takeH (i := 7) (t := 73) (v := ?v7y59) rfl (by kernel_rfl) (by kernel_rfl) (by kernel_rfl) (fun _ _ _ h => h) rfl (Or.inl ⟨by rfl, ?h7y59⟩) hS ?r7y59
        case h7y59 => (intro V' hSw; clear hSw; go_simp; try with_reducible rfl)
        try simp only [List.setIfInBounds_toArray, List.set_cons_zero, List.set_cons_succ]
        refine takeH (i := 8) (t := 74) (v := ?v8y60) rfl (by kernel_rfl) (by kernel_rfl) (by kernel_rfl) (fun _ _ _ h => h) rfl (Or.inl ⟨by rfl, ?h8y60⟩) hS ?r8y60
        case h8y60 => (intro V' hSw; clear hSw; go_simp; try with_reducible rfl)
        try simp only [List.setIfInBounds_toArray, List.set_cons_zero, List.set_cons_succ]
        refine takeH (i := 9) (t := 75) (v := ?v9y61) rfl (by kernel_rfl) (by kernel_rfl) (by kernel_rfl) (fun _ _ _ h => h) rfl (Or.inl ⟨by rfl, ?h9y61⟩) hS ?r9y61
        case h9y61 => (intro V' hSw; clear hSw; go_simp; try with_reducible rfl)
        try simp only [List.setIfInBounds_toArray, List.set_cons_zero, List.set_cons_succ]
        refine takeH (i := 10) (t := 76) (v := ?v10y62) rfl (by kernel_rfl) (by kernel_rfl) (by kernel_rfl) (fun _ _ _ h => h) rfl (Or.inl ⟨by rfl, ?h10y62⟩) hS ?r10y62
        case h10y62 => (intro V' hSw; clear hSw; go_simp; try with_reducible rfl)
        try simp only [List.setIfInBounds_toArray, List.set_cons_zero, List.set_cons_succ]
        refine takeH (i := 11) (t := 77) (v := x.v) rfl (by kernel_rfl) (by kernel_rfl) (by kernel_rfl) (fun _ _ _ h => h) rfl (Or.inl ⟨by rfl, ?h11y63⟩) hS ?r11y63
        case h11y63 => (intro V' hSw; have q0 := cell_q hSw K.out.1; have q1 := cell_q hSw K.out.2.1; have q2 := cell_q hSw K.out.2.2.1; have q3 := cell_q hSw K.out.2.2.2.1; have q4 := cell_q hSw K.out.2.2.2.2; clear hSw; go_simp; try rfl)
        try simp only [List.setIfInBounds_toArray, List.set_cons_zero, List.set_cons_succ]
        refine manyH (i := 6) (l := []) (by kernel_rfl) ?hm
        case hm =>
          intro j hj
          obtain rfl : j = 6 := by simpa using hj
          refine opCallH (t := 72) (f := 11) (args := #[.agg #[], .pointer (some ⟨s, 0, none⟩), x.v]) rfl rfl (by rfl) ?hx ?hc
          case hx => (go_simp; try rfl)
          case hc =>
            refine ((HQ7.out.quiet (Chg.refl NoB w7).drew).do_ x (HX.out _ hS)).mono ?_
            rintro ee w8 ⟨rfl, hQ, hS⟩
            have HQ8 := Go.Lib.hid hQ
            clear hQ
            refine ⟨_, rfl, hS, ?_⟩
            try simp only [List.setIfInBounds_toArray, List.set_cons_zero, List.set_cons_succ]
            refine manyH (i := 12) (l := []) (by kernel_rfl) ?hm
            case hm =>
              intro j hj
              obtain rfl : j = 12 := by simpa using hj
              refine opCallH (t := 78) (f := 12) (args := #[.pointer (some ⟨r, 0, none⟩), x.v]) rfl rfl (by rfl) ?hx ?hc
              case hx => (go_simp; try rfl)
              case hc =>
                refine (HQ8.out.rdo HSM.out.1 HSM.out.2 x (HX.out _ hS)).mono ?_
                rintro ee w9 ⟨rfl, hQ, hS⟩
                have HQ9 := Go.Lib.hid hQ
                clear hQ
                refine ⟨_, rfl, hS, ?_⟩
                try simp only [List.setIfInBounds_toArray, List.set_cons_zero, List.set_cons_succ]
                refine takeH (i := 13) (t := 13) (v := ?v13y64) rfl (by kernel_rfl) (by kernel_rfl) (by kernel_rfl) (fun _ _ _ h => h) rfl (Or.inl ⟨by rfl, ?h13y64⟩) hS ?r13y64
                case h13y64 => (intro V' hSw; clear hSw; go_simp; try with_reducible rfl)
                try simp only [List.setIfInBounds_toArray, List.set_cons_zero, List.set_cons_succ]
                refine takeH (i := 14) (t := 14) (v := ?v14y65) rfl (by kernel_rfl) (by kernel_rfl) (by kernel_rfl) (fun _ _ _ h => h) rfl (Or.inl ⟨by rfl, ?h14y65⟩) hS ?r14y65
                case h14y65 => (intro V' hSw; clear hSw; go_simp; try with_reducible rfl)
                try simp only [List.setIfInBounds_toArray, List.set_cons_zero, List.set_cons_succ]
                refine wpAnyH_done (by kernel_rfl) ?_ _
                clear hS
                go_wp2_with fail
                have hst := HG.out.2.1.step HG.out.1.1 x
                have hsz := HG.out.2.2.step HG.out.1.1 x (HX.out w (Chg.refl _ _)).b
                have hg1 := HQ9.out.good
                have HL1 := Go.Lib.hid (fun (W : World) (hW : Chg NoB w9 W) => ((HQ9.out.quiet hW).two hst.2 hsz).looks (by omega) x.f x.nm hnm leave)
                have HL2 := Go.Lib.hid (fun (W : World) (hW : Chg NoB w9 W) => (HQ9.out.quiet hW).looks HG.out.1.1 HG.out.2.1 HSI.out HG.out.2.2 HG.out.1.2 (by omega) x.f x.nm hnm 0)
                have HS1 := Go.Lib.hid (fun (W : World) (hW : Chg NoB w9 W) => (HQ9.out.quiet hW).same1 hst.2 HG.out.2.1 HSI.out)
                have HS2 := Go.Lib.hid (fun (W : World) (hW : Chg NoB w9 W) => (HQ9.out.quiet hW).same2 hst.2 HG.out.2.1 HSI.out)
                have HRS := Go.Lib.hid (fun (W : World) (hW : Chg NoB w9 W) => (HQ9.out.quiet hW).rsame (by rw [hst.2.len]; have := hsz.d; omega) HSM.out.1.d)
                have HT9 := Go.Lib.hid (fun (W : World) (hW : Chg NoB w9 W) => (HQ9.out.quiet hW).two hst.2 hsz)
                have HW9 := Go.Lib.hid HQ9.out.chg
                rw [hst.1]
                generalize hB : decide ((doR U x).2.cont = U.cont) = B at *
                generalize (v.doS x).1 = ans at *
                clear hB hst hsz hg1 HQ9 HG HSM HSI HX
                refine regionH (fun V' => Chg NoB w9 V') (by kernel_rfl) (Chg.refl NoB w9).drew (fun hS => ?_)
                refine takeH (i := 0) (t := 79) (v := ?v0y1) rfl (by kernel_rfl) (by kernel_rfl) (by kernel_rfl) (fun _ _ _ h => h) rfl (Or.inl ⟨by rfl, ?h0y1⟩) hS ?r0y1
                case h0y1 => (intro V' hSw; clear hSw; go_simp; try with_reducible rfl)
                try simp only [List.setIfInBounds_toArray, List.set_cons_zero, List.set_cons_succ]
                refine takeH (i := 1) (t := 80) (v := ?v1y2) rfl (by kernel_rfl) (by kernel_rfl) (by kernel_rfl) (fun _ _ _ h => h) rfl (Or.inl ⟨by rfl, ?h1y2⟩) hS ?r1y2
                case h1y2 => (intro V' hSw; clear hSw; go_simp; try with_reducible rfl)
                try simp only [List.setIfInBounds_toArray, List.set_cons_zero, List.set_cons_succ]
                refine takeH (i := 2) (t := 81) (v := ?v2y3) rfl (by kernel_rfl) (by kernel_rfl) (by kernel_rfl) (fun _ _ _ h => h) rfl (Or.inl ⟨by rfl, ?h2y3⟩) hS ?r2y3
                case h2y3 => (intro V' hSw; clear hSw; go_simp; try with_reducible rfl)
                try simp only [List.setIfInBounds_toArray, List.set_cons_zero, List.set_cons_succ]
                refine takeH (i := 3) (t := 82) (v := ?v3y4) rfl (by kernel_rfl) (by kernel_rfl) (by kernel_rfl) (fun _ _ _ h => h) rfl (Or.inl ⟨by rfl, ?h3y4⟩) hS ?r3y4
                case h3y4 => (intro V' hSw; clear hSw; go_simp; try with_reducible rfl)
                try simp only [List.setIfInBounds_toArray, List.set_cons_zero, List.set_cons_succ]
                refine takeH (i := 4) (t := 83) (v := ?v4y5) rfl (by kernel_rfl) (by kernel_rfl) (by kernel_rfl) (fun _ _ _ h => h) rfl (Or.inl ⟨by rfl, ?h4y5⟩) hS ?r4y5
                case h4y5 => (intro V' hSw; clear hSw; go_simp; try with_reducible rfl)
                try simp only [List.setIfInBounds_toArray, List.set_cons_zero, List.set_cons_succ]
                refine takeH (i := 5) (t := 84) (v := .bool false) rfl (by kernel_rfl) (by kernel_rfl) (by kernel_rfl) (fun _ _ _ h => h) rfl (Or.inl ⟨by rfl, ?h5y6⟩) hS ?r5y6
                case h5y6 => (intro V' hSw; clear hSw; go_simp; try simp)
                try simp only [List.setIfInBounds_toArray, List.set_cons_zero, List.set_cons_succ]
                refine takeH (i := 6) (t := 85) (v := .bool false) rfl (by kernel_rfl) (by kernel_rfl) (by kernel_rfl) (fun _ _ _ h => h) rfl (Or.inl ⟨by rfl, ?h6y7⟩) hS ?r6y7
                case h6y7 => (intro V' hSw; clear hSw; go_simp; try simp)
                try simp only [List.setIfInBounds_toArray, List.set_cons_zero, List.set_cons_succ]
                refine takeH (i := 7) (t := 86) (v := ?v7y8) rfl (by kernel_rfl) (by kernel_rfl) (by kernel_rfl) (fun _ _ _ h => h) rfl (Or.inl ⟨by rfl, ?h7y8⟩) hS ?r7y8
                case h7y8 => (intro V' hSw; clear hSw; go_simp; try with_reducible rfl)
                try simp only [List.setIfInBounds_toArray, List.set_cons_zero, List.set_cons_succ]
                refine takeH (i := 8) (t := 87) (v := ?v8y9) rfl (by kernel_rfl) (by kernel_rfl) (by kernel_rfl) (fun _ _ _ h => h) rfl (Or.inl ⟨by rfl, ?h8y9⟩) hS ?r8y9
                case h8y9 => (intro V' hSw; clear hSw; go_simp; try with_reducible rfl)
                try simp only [List.setIfInBounds_toArray, List.set_cons_zero, List.set_cons_succ]
                refine takeH (i := 9) (t := 88) (v := ?v9y10) rfl (by kernel_rfl) (by kernel_rfl) (by kernel_rfl) (fun _ _ _ h => h) rfl (Or.inl ⟨by rfl, ?h9y10⟩) hS ?r9y10
                case h9y10 => (intro V' hSw; clear hSw; go_simp; try with_reducible rfl)
                try simp only [List.setIfInBounds_toArray, List.set_cons_zero, List.set_cons_succ]
                refine takeH (i := 10) (t := 89) (v := ?v10y11) rfl (by kernel_rfl) (by kernel_rfl) (by kernel_rfl) (fun _ _ _ h => h) rfl (Or.inl ⟨by rfl, ?h10y11⟩) hS ?r10y11
                case h10y11 => (intro V' hSw; clear hSw; go_simp; try with_reducible rfl)
                try simp only [List.setIfInBounds_toArray, List.set_cons_zero, List.set_cons_succ]
                refine takeH (i := 11) (t := 90) (v := ?v11y12) rfl (by kernel_rfl) (by kernel_rfl) (by kernel_rfl) (fun _ _ _ h => h) rfl (Or.inl ⟨by rfl, ?h11y12⟩) hS ?r11y12
                case h11y12 => (intro V' hSw; clear hSw; go_simp; try with_reducible rfl)
                try simp only [List.setIfInBounds_toArray, List.set_cons_zero, List.set_cons_succ]
                refine takeH (i := 12) (t := 91) (v := ?v12y13) rfl (by kernel_rfl) (by kernel_rfl) (by kernel_rfl) (fun _ _ _ h => h) rfl (Or.inl ⟨by rfl, ?h12y13⟩) hS ?r12y13
                case h12y13 => (intro V' hSw; clear hSw; go_simp; try with_reducible rfl)
                try simp only [List.setIfInBounds_toArray, List.set_cons_zero, List.set_cons_succ]
                refine takeH (i := 13) (t := 92) (v := ?v13y14) rfl (by kernel_rfl) (by kernel_rfl) (by kernel_rfl) (fun _ _ _ h => h) rfl (Or.inl ⟨by rfl, ?h13y14⟩) hS ?r13y14
                case h13y14 => (intro V' hSw; clear hSw; go_simp; try with_reducible rfl)
                try simp only [List.setIfInBounds_toArray, List.set_cons_zero, List.set_cons_succ]
                refine takeH (i := 14) (t := 93) (v := ?v14y15) rfl (by kernel_rfl) (by kernel_rfl) (by kernel_rfl) (fun _ _ _ h => h) rfl (Or.inl ⟨by rfl, ?h14y15⟩) hS ?r14y15
                case h14y15 => (intro V' hSw; have q := cell_q (HW9.out.trans hSw) K.out.2.1; clear hSw; go_simp; try with_reducible rfl)
                try simp only [List.setIfInBounds_toArray, List.set_cons_zero, List.set_cons_succ]
                refine takeH (i := 15) (t := 94) (v := ?v15y16) rfl (by kernel_rfl) (by kernel_rfl) (by kernel_rfl) (fun _ _ _ h => h) rfl (Or.inl ⟨by rfl, ?h15y16⟩) hS ?r15y16
                case h15y16 => (intro V' hSw; clear hSw; go_simp; try with_reducible rfl)
                try simp only [List.setIfInBounds_toArray, List.set_cons_zero, List.set_cons_succ]
                refine takeH (i := 16) (t := 95) (v := ?v16y17) rfl (by kernel_rfl) (by kernel_rfl) (by kernel_rfl) (fun _ _ _ h => h) rfl (Or.inl ⟨by rfl, ?h16y17⟩) hS ?r16y17
                case h16y17 => (intro V' hSw; clear hSw; go_simp; try with_reducible rfl)
                try simp only [List.setIfInBounds_toArray, List.set_cons_zero, List.set_cons_succ]
                refine takeH (i := 17) (t := 96) (v := ?v17y18) rfl (by kernel_rfl) (by kernel_rfl) (by kernel_rfl) (fun _ _ _ h => h) rfl (Or.inl ⟨by rfl, ?h17y18⟩) hS ?r17y18
                case h17y18 => (intro V' hSw; clear hSw; go_simp; try with_reducible rfl)
                try simp only [List.setIfInBounds_toArray, List.set_cons_zero, List.set_cons_succ]
                refine takeH (i := 18) (t := 97) (v := ?v18y19) rfl (by kernel_rfl) (by kernel_rfl) (by kernel_rfl) (fun _ _ _ h => h) rfl (Or.inl ⟨by rfl, ?h18y19⟩) hS ?r18y19
                case h18y19 => (intro V' hSw; clear hSw; go_simp; try with_reducible rfl)
                try simp only [List.setIfInBounds_toArray, List.set_cons_zero, List.set_cons_succ]
                refine takeH (i := 19) (t := 98) (v := ?v19y20) rfl (by kernel_rfl) (by kernel_rfl) (by kernel_rfl) (fun _ _ _ h => h) rfl (Or.inl ⟨by rfl, ?h19y20⟩) hS ?r19y20
                case h19y20 => (intro V' hSw; have q := cell_q (HW9.out.trans hSw) K.out.2.2.2.1; clear hSw; go_simp; try with_reducible rfl)
                try simp only [List.setIfInBounds_toArray, List.set_cons_zero, List.set_cons_succ]
                refine takeH (i := 20) (t := 99) (v := ?v20y21) rfl (by kernel_rfl) (by kernel_rfl) (by kernel_rfl) (fun _ _ _ h => h) rfl (Or.inl ⟨by rfl, ?h20y21⟩) hS ?r20y21
                case h20y21 => (intro V' hSw; clear hSw; go_simp; try with_reducible rfl)
                try simp only [List.setIfInBounds_toArray, List.set_cons_zero, List.set_cons_succ]
                refine manyH (i := 21) (l := []) (by kernel_rfl) ?hm
                case hm =>
                  intro j hj
                  obtain rfl : j = 21 := by simpa using hj
                  refine opCallH (t := 100) (f := 8) (args := #[.pointer (some ⟨s, 0, none⟩), .pointer (some ⟨r, 0, none⟩), .int .i64 x.f, .string x.nm, .int .i64 leave]) rfl rfl (by rfl) ?hx ?hc
                  case hx => (go_simp; try rfl)
                  case hc =>
                    refine (HL1.out _ hS).mono ?_
                    rintro ee wq ⟨rfl, hq⟩
                    have hS := hS.trans hq
                    refine ⟨_, rfl, hS, ?_⟩
                    try simp only [List.setIfInBounds_toArray, List.set_cons_zero, List.set_cons_succ]
                    refine takeH (i := 22) (t := 101) (v := .bool false) rfl (by kernel_rfl) (by kernel_rfl) (by kernel_rfl) (fun _ _ _ h => h) rfl (Or.inl ⟨by rfl, ?h22y22⟩) hS ?r22y22
                    case h22y22 => (intro V' hSw; clear hSw; go_simp; try simp)
                    try simp only [List.setIfInBounds_toArray, List.set_cons_zero, List.set_cons_succ]
                    refine takeH (i := 23) (t := 102) (v := .bool false) rfl (by kernel_rfl) (by kernel_rfl) (by kernel_rfl) (fun _ _ _ h => h) rfl (Or.inl ⟨by rfl, ?h23y23⟩) hS ?r23y23
                    case h23y23 => (intro V' hSw; clear hSw; go_simp; try simp)
                    try simp only [List.setIfInBounds_toArray, List.set_cons_zero, List.set_cons_succ]
                    refine takeH (i := 24) (t := 103) (v := ?v24y24) rfl (by kernel_rfl) (by kernel_rfl) (by kernel_rfl) (fun _ _ _ h => h) rfl (Or.inl ⟨by rfl, ?h24y24⟩) hS ?r24y24
                    case h24y24 => (intro V' hSw; clear hSw; go_simp; try with_reducible rfl)
                    try simp only [List.setIfInBounds_toArray, List.set_cons_zero, List.set_cons_succ]
                    refine takeH (i := 25) (t := 104) (v := ?v25y25) rfl (by kernel_rfl) (by kernel_rfl) (by kernel_rfl) (fun _ _ _ h => h) rfl (Or.inl ⟨by rfl, ?h25y25⟩) hS ?r25y25
                    case h25y25 => (intro V' hSw; clear hSw; go_simp; try with_reducible rfl)
                    try simp only [List.setIfInBounds_toArray, List.set_cons_zero, List.set_cons_succ]
                    refine takeH (i := 26) (t := 105) (v := ?v26y26) rfl (by kernel_rfl) (by kernel_rfl) (by kernel_rfl) (fun _ _ _ h => h) rfl (Or.inl ⟨by rfl, ?h26y26⟩) hS ?r26y26
                    case h26y26 => (intro V' hSw; clear hSw; go_simp; try with_reducible rfl)
                    try simp only [List.setIfInBounds_toArray, List.set_cons_zero, List.set_cons_succ]
                    refine takeH (i := 27) (t := 106) (v := ?v27y27) rfl (by kernel_rfl) (by kernel_rfl) (by kernel_rfl) (fun _ _ _ h => h) rfl (Or.inl ⟨by rfl, ?h27y27⟩) hS ?r27y27
                    case h27y27 => (intro V' hSw; clear hSw; go_simp; try with_reducible rfl)
                    try simp only [List.setIfInBounds_toArray, List.set_cons_zero, List.set_cons_succ]
                    refine takeH (i := 28) (t := 107) (v := ?v28y28) rfl (by kernel_rfl) (by kernel_rfl) (by kernel_rfl) (fun _ _ _ h => h) rfl (Or.inl ⟨by rfl, ?h28y28⟩) hS ?r28y28
                    case h28y28 => (intro V' hSw; clear hSw; go_simp; try with_reducible rfl)
                    try simp only [List.setIfInBounds_toArray, List.set_cons_zero, List.set_cons_succ]
                    refine takeH (i := 29) (t := 108) (v := ?v29y29) rfl (by kernel_rfl) (by kernel_rfl) (by kernel_rfl) (fun _ _ _ h => h) rfl (Or.inl ⟨by rfl, ?h29y29⟩) hS ?r29y29
                    case h29y29 => (intro V' hSw; clear hSw; go_simp; try with_reducible rfl)
                    try simp only [List.setIfInBounds_toArray, List.set_cons_zero, List.set_cons_succ]
                    refine takeH (i := 30) (t := 109) (v := ?v30y30) rfl (by kernel_rfl) (by kernel_rfl) (by kernel_rfl) (fun _ _ _ h => h) rfl (Or.inl ⟨by rfl, ?h30y30⟩) hS ?r30y30
                    case h30y30 => (intro V' hSw; clear hSw; go_simp; try with_reducible rfl)
                    try simp only [List.setIfInBounds_toArray, List.set_cons_zero, List.set_cons_succ]
                    refine takeH (i := 31) (t := 110) (v := ?v31y31) rfl (by kernel_rfl) (by kernel_rfl) (by kernel_rfl) (fun _ _ _ h => h) rfl (Or.inl ⟨by rfl, ?h31y31⟩) hS ?r31y31
                    case h31y31 => (intro V' hSw; have q := cell_q (HW9.out.trans hSw) K.out.2.1; clear hSw; go_simp; try with_reducible rfl)
                    try simp only [List.setIfInBounds_toArray, List.set_cons_zero, List.set_cons_succ]
                    refine takeH (i := 32) (t := 111) (v := ?v32y32) rfl (by kernel_rfl) (by kernel_rfl) (by kernel_rfl) (fun _ _ _ h => h) rfl (Or.inl ⟨by rfl, ?h32y32⟩) hS ?r32y32
                    case h32y32 => (intro V' hSw; clear hSw; go_simp; try with_reducible rfl)
                    try simp only [List.setIfInBounds_toArray, List.set_cons_zero, List.set_cons_succ]
                    refine takeH (i := 33) (t := 112) (v := ?v33y33) rfl (by kernel_rfl) (by kernel_rfl) (by kernel_rfl) (fun _ _ _ h => h) rfl (Or.inl ⟨by rfl, ?h33y33⟩) hS ?r33y33
                    case h33y33 => (intro V' hSw; clear hSw; go_simp; try with_reducible rfl)
                    try simp only [List.setIfInBounds_toArray, List.set_cons_zero, List.set_cons_succ]
                    refine takeH (i := 34) (t := 113) (v := ?v34y34) rfl (by kernel_rfl) (by kernel_rfl) (by kernel_rfl) (fun _ _ _ h => h) rfl (Or.inl ⟨by rfl, ?h34y34⟩) hS ?r34y34
                    case h34y34 => (intro V' hSw; clear hSw; go_simp; try with_reducible rfl)
                    try simp only [List.setIfInBounds_toArray, List.set_cons_zero, List.set_cons_succ]
                    refine takeH (i := 35) (t := 114) (v := ?v35y35) rfl (by kernel_rfl) (by kernel_rfl) (by kernel_rfl) (fun _ _ _ h => h) rfl (Or.inl ⟨by rfl, ?h35y35⟩) hS ?r35y35
                    case h35y35 => (intro V' hSw; clear hSw; go_simp; try with_reducible rfl)
                    try simp only [List.setIfInBounds_toArray, List.set_cons_zero, List.set_cons_succ]
                    refine takeH (i := 36) (t := 115) (v := ?v36y36) rfl (by kernel_rfl) (by kernel_rfl) (by kernel_rfl) (fun _ _ _ h => h) rfl (Or.inl ⟨by rfl, ?h36y36⟩) hS ?r36y36
                    case h36y36 => (intro V' hSw; have q := cell_q (HW9.out.trans hSw) K.out.2.2.2.1; clear hSw; go_simp; try with_reducible rfl)
                    try simp only [List.setIfInBounds_toArray, List.set_cons_zero, List.set_cons_succ]
                    refine manyH (i := 37) (l := []) (by kernel_rfl) ?hm
                    case hm =>
                      intro j hj
                      obtain rfl : j = 37 := by simpa using hj
                      refine opCallH (t := 116) (f := 8) (args := #[.pointer (some ⟨c1, 0, none⟩), .pointer (some ⟨q1, 0, none⟩), .int .i64 x.f, .string x.nm, .int .i64 0]) rfl rfl (by rfl) ?hx ?hc
                      case hx => (go_simp; try rfl)
                      case hc =>
                        refine (HL2.out _ hS).mono ?_
                        rintro ee wq ⟨rfl, hq⟩
                        have hS := hS.trans hq
                        refine ⟨_, rfl, hS, ?_⟩
                        try simp only [List.setIfInBounds_toArray, List.set_cons_zero, List.set_cons_succ]
                        refine takeH (i := 38) (t := 117) (v := .bool false) rfl (by kernel_rfl) (by kernel_rfl) (by kernel_rfl) (fun _ _ _ h => h) rfl (Or.inl ⟨by rfl, ?h38y37⟩) hS ?r38y37
                        case h38y37 => (intro V' hSw; clear hSw; go_simp; try simp)
                        try simp only [List.setIfInBounds_toArray, List.set_cons_zero, List.set_cons_succ]
                        refine takeH (i := 39) (t := 118) (v := .bool false) rfl (by kernel_rfl) (by kernel_rfl) (by kernel_rfl) (fun _ _ _ h => h) rfl (Or.inl ⟨by rfl, ?h39y38⟩) hS ?r39y38
                        case h39y38 => (intro V' hSw; clear hSw; go_simp; try simp)
                        try simp only [List.setIfInBounds_toArray, List.set_cons_zero, List.set_cons_succ]
                        refine takeH (i := 40) (t := 119) (v := ?v40y39) rfl (by kernel_rfl) (by kernel_rfl) (by kernel_rfl) (fun _ _ _ h => h) rfl (Or.inl ⟨by rfl, ?h40y39⟩) hS ?r40y39
                        case h40y39 => (intro V' hSw; clear hSw; go_simp; try with_reducible rfl)
                        try simp only [List.setIfInBounds_toArray, List.set_cons_zero, List.set_cons_succ]
                        refine takeH (i := 41) (t := 120) (v := ?v41y40) rfl (by kernel_rfl) (by kernel_rfl) (by kernel_rfl) (fun _ _ _ h => h) rfl (Or.inl ⟨by rfl, ?h41y40⟩) hS ?r41y40
                        case h41y40 => (intro V' hSw; clear hSw; go_simp; try with_reducible rfl)
                        try simp only [List.setIfInBounds_toArray, List.set_cons_zero, List.set_cons_succ]
                        refine takeH (i := 42) (t := 121) (v := ?v42y41) rfl (by kernel_rfl) (by kernel_rfl) (by kernel_rfl) (fun _ _ _ h => h) rfl (Or.inl ⟨by rfl, ?h42y41⟩) hS ?r42y41
                        case h42y41 => (intro V' hSw; clear hSw; go_simp; try with_reducible rfl)
                        try simp only [List.setIfInBounds_toArray, List.set_cons_zero, List.set_cons_succ]
                        refine takeH (i := 44) (t := 123) (v := ?v44y42) rfl (by kernel_rfl) (by kernel_rfl) (by kernel_rfl) (fun _ _ _ h => h) rfl (Or.inl ⟨by rfl, ?h44y42⟩) hS ?r44y42
                        case h44y42 => (intro V' hSw; clear hSw; go_simp; try with_reducible rfl)
                        try simp only [List.setIfInBounds_toArray, List.set_cons_zero, List.set_cons_succ]
                        refine takeH (i := 45) (t := 124) (v := ?v45y43) rfl (by kernel_rfl) (by kernel_rfl) (by kernel_rfl) (fun _ _ _ h => h) rfl (Or.inl ⟨by rfl, ?h45y43⟩) hS ?r45y43
                        case h45y43 => (intro V' hSw; clear hSw; go_simp; try with_reducible rfl)
                        try simp only [List.setIfInBounds_toArray, List.set_cons_zero, List.set_cons_succ]
                        refine manyH (i := 43) (l := []) (by kernel_rfl) ?hm
                        case hm =>
                          intro j hj
                          obtain rfl : j = 43 := by simpa using hj
                          refine opCallH (t := 122) (f := 13) (args := #[.pointer (some ⟨s, 0, none⟩), .pointer (some ⟨c1, 0, none⟩)]) rfl rfl (by rfl) ?hx ?hc
                          case hx => (go_simp; try rfl)
                          case hc =>
                            refine (HS1.out _ hS).mono ?_
                            rintro ee wq ⟨rfl, hq⟩
                            have hS := hS.trans hq
                            refine ⟨_, rfl, hS, ?_⟩
                            try simp only [List.setIfInBounds_toArray, List.set_cons_zero, List.set_cons_succ]
                            refine manyH (i := 46) (l := []) (by kernel_rfl) ?hm
                            case hm =>
                              intro j hj
                              obtain rfl : j = 46 := by simpa using hj
                              refine opCallH (t := 125) (f := 14) (args := #[.pointer (some ⟨r, 0, none⟩), .pointer (some ⟨q1, 0, none⟩)]) rfl rfl (by rfl) ?hx ?hc
                              case hx => (go_simp; try rfl)
                              case hc =>
                                refine (HRS.out _ hS).mono ?_
                                rintro ee wq ⟨rfl, hq⟩
                                have hS := hS.trans hq
                                refine ⟨_, rfl, hS, ?_⟩
                                try simp only [List.setIfInBounds_toArray, List.set_cons_zero, List.set_cons_succ]
                                refine takeH (i := 47) (t := 126) (v := .bool false) rfl (by kernel_rfl) (by kernel_rfl) (by kernel_rfl) (fun _ _ _ h => h) rfl (Or.inl ⟨by rfl, ?h47y44⟩) hS ?r47y44
                                case h47y44 => (intro V' hSw; clear hSw; go_simp; try simp)
                                try simp only [List.setIfInBounds_toArray, List.set_cons_zero, List.set_cons_succ]
                                refine takeH (i := 48) (t := 127) (v := .bool false) rfl (by kernel_rfl) (by kernel_rfl) (by kernel_rfl) (fun _ _ _ h => h) rfl (Or.inl ⟨by rfl, ?h48y45⟩) hS ?r48y45
                                case h48y45 => (intro V' hSw; clear hSw; go_simp; try simp)
                                try simp only [List.setIfInBounds_toArray, List.set_cons_zero, List.set_cons_succ]
                                refine takeH (i := 49) (t := 128) (v := ?v49y46) rfl (by kernel_rfl) (by kernel_rfl) (by kernel_rfl) (fun _ _ _ h => h) rfl (Or.inl ⟨by rfl, ?h49y46⟩) hS ?r49y46
                                case h49y46 => (intro V' hSw; clear hSw; go_simp; try with_reducible rfl)
                                try simp only [List.setIfInBounds_toArray, List.set_cons_zero, List.set_cons_succ]
                                refine takeH (i := 50) (t := 129) (v := ?v50y47) rfl (by kernel_rfl) (by kernel_rfl) (by kernel_rfl) (fun _ _ _ h => h) rfl (Or.inl ⟨by rfl, ?h50y47⟩) hS ?r50y47
                                case h50y47 => (intro V' hSw; clear hSw; go_simp; try with_reducible rfl)
                                try simp only [List.setIfInBounds_toArray, List.set_cons_zero, List.set_cons_succ]
                                refine takeH (i := 51) (t := 130) (v := ?v51y48) rfl (by kernel_rfl) (by kernel_rfl) (by kernel_rfl) (fun _ _ _ h => h) rfl (Or.inl ⟨by rfl, ?h51y48⟩) hS ?r51y48
                                case h51y48 => (intro V' hSw; clear hSw; go_simp; try with_reducible rfl)
                                try simp only [List.setIfInBounds_toArray, List.set_cons_zero, List.set_cons_succ]
                                refine takeH (i := 53) (t := 132) (v := ?v53y49) rfl (by kernel_rfl) (by kernel_rfl) (by kernel_rfl) (fun _ _ _ h => h) rfl (Or.inl ⟨by rfl, ?h53y49⟩) hS ?r53y49
                                case h53y49 => (intro V' hSw; clear hSw; go_simp; try with_reducible rfl)
                                try simp only [List.setIfInBounds_toArray, List.set_cons_zero, List.set_cons_succ]
                                refine takeH (i := 54) (t := 133) (v := ?v54y50) rfl (by kernel_rfl) (by kernel_rfl) (by kernel_rfl) (fun _ _ _ h => h) rfl (Or.inl ⟨by rfl, ?h54y50⟩) hS ?r54y50
                                case h54y50 => (intro V' hSw; clear hSw; go_simp; try with_reducible rfl)
                                try simp only [List.setIfInBounds_toArray, List.set_cons_zero, List.set_cons_succ]
                                refine manyH (i := 52) (l := []) (by kernel_rfl) ?hm
                                case hm =>
                                  intro j hj
                                  obtain rfl : j = 52 := by simpa using hj
                                  refine opCallH (t := 131) (f := 13) (args := #[.pointer (some ⟨c1, 0, none⟩), .pointer (some ⟨s, 0, none⟩)]) rfl rfl (by rfl) ?hx ?hc
                                  case hx => (go_simp; try rfl)
                                  case hc =>
                                    refine (HS2.out _ hS).mono ?_
                                    rintro ee wq ⟨rfl, hq⟩
                                    have hS := hS.trans hq
                                    refine ⟨_, rfl, hS, ?_⟩
                                    try simp only [List.setIfInBounds_toArray, List.set_cons_zero, List.set_cons_succ]
                                    refine manyH (i := 55) (l := []) (by kernel_rfl) ?hm
                                    case hm =>
                                      intro j hj
                                      obtain rfl : j = 55 := by simpa using hj
                                      refine opCallH (t := 134) (f := 14) (args := #[.pointer (some ⟨r, 0, none⟩), .pointer (some ⟨q1, 0, none⟩)]) rfl rfl (by rfl) ?hx ?hc
                                      case hx => (go_simp; try rfl)
                                      case hc =>
                                        refine (HRS.out _ hS).mono ?_
                                        rintro ee wq ⟨rfl, hq⟩
                                        have hS := hS.trans hq
                                        refine ⟨_, rfl, hS, ?_⟩
                                        try simp only [List.setIfInBounds_toArray, List.set_cons_zero, List.set_cons_succ]
                                        refine takeH (i := 56) (t := 135) (v := .bool false) rfl (by kernel_rfl) (by kernel_rfl) (by kernel_rfl) (fun _ _ _ h => h) rfl (Or.inl ⟨by rfl, ?h56y51⟩) hS ?r56y51
                                        case h56y51 => (intro V' hSw; clear hSw; go_simp; try simp)
                                        try simp only [List.setIfInBounds_toArray, List.set_cons_zero, List.set_cons_succ]
                                        refine takeH (i := 57) (t := 136) (v := .bool false) rfl (by kernel_rfl) (by kernel_rfl) (by kernel_rfl) (fun _ _ _ h => h) rfl (Or.inl ⟨by rfl, ?h57y52⟩) hS ?r57y52
                                        case h57y52 => (intro V' hSw; clear hSw; go_simp; try simp)
                                        try simp only [List.setIfInBounds_toArray, List.set_cons_zero, List.set_cons_succ]
                                        refine wpAnyH_done (by kernel_rfl) ?_ _
                                        have HF := Go.Lib.hid (HT9.out _ hS)
                                        clear hS
                                        go_wp2_with fail
                                        have hw1 : IntKind.i64.wrap ((k : Int) + 1) = ((k + 1 : Nat) : Int) := by rw [IntKind.wrap_i64]; omega
                                        refine ⟨⟨k + 1, _, _, by omega, by go_num, HF.out⟩, by simp only [intOf]; omega⟩
      · have hdl : decide ((k : Int) < (L.length : Int)) = false := by simp; omega
        have HT6 := Go.Lib.hid HT.out.2.2.2.2
        go_wp2_with fail
        refine (KN.out _).mono ?_
        rintro e wk ⟨rfl, hck⟩
        have HK := Go.Lib.hid (HT6.out.trans hck)
        clear hck
        go_wp2_with fail
        go_ret
        exact ⟨rfl, HK.out⟩
end Go.Proofs.Ytlglnebnldmceaa
