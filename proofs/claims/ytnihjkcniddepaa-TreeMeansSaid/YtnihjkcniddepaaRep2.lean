/- What is proved: the walk of the law's replace. Conditions: as its contract says. -/
import Derived.Test.YtnihjkcniddepaaRep
namespace Go.Proofs.Ytnihjkcniddepaa
open Go.RowKit
def RepC (g : G) : Prop :=
  ∀ (b o n c : Nat) (A : Option Addr) (k : Int) (w : World), n = g.len → n ≤ c → c ≤ maxLen → w.cell? ⟨b, o + 4, none⟩ = some (.slice A n c) → b ∉ rowOf A n ++ g.rows → SubG w NT g → (0 < n → RowAt w NT A g) → (rowOf A n ++ g.rows).Nodup →
    (1 ≤ k ∧ k ≤ 9223372036854775807) → Calls Try.prog 33 #[.pointer (some ⟨b, o, none⟩), .int .i64 k] w (RepPost g A n (k - 1) w)
def RepOK : G → Prop
  | .nil => True
  | .cons _ _ _ _ ks r => RepC ks ∧ RepOK r
theorem RepOK.at_ : ∀ {g1 : G} {d1 : Own} {kA : Option Addr} {kn kc : Nat} {ks r : G}, RepOK (g1.app (.cons d1 kA kn kc ks r)) → RepC ks := by
  intro g1
  induction g1 with
  | nil => exact fun h => h.1
  | cons d kA kn kc ks r _ ih => exact fun h => ih h.2
set_option maxHeartbeats 1000000 in
theorem rep0_c {U : World} {b : Nat} {cur : Array Value} {p : Nat} {z0 z1 z2 z3 z4 : Value} (h : Blk U b NT cur) (h0 : cur[p]? = some z0) (h1 : cur[p + 1]? = some z1) (h2 : cur[p + 2]? = some z2) (h3 : cur[p + 3]? = some z3) (h4 : cur[p + 4]? = some z4) :
    Calls Try.prog 33 #[.pointer (some ⟨b, p, none⟩), .int .i64 0] U fun e w' => e = .returned (.int .i64 (-1)) ∧ w' = (((((U.setCell ⟨b, p, none⟩ (.int .i64 99)).setCell ⟨b, p + 1, none⟩ (.string ⟨#[]⟩)).setCell ⟨b, p + 2, none⟩ (.int .u32 0)).setCell ⟨b, p + 3, none⟩ (.bool false)).setCell ⟨b, p + 4, none⟩ (.slice none 0 0)) := by
  have FX := store_facts h h0 h1 h2 h3 h4 (.int .i64 99) (.string ⟨#[]⟩) (.int .u32 0) (.bool false)
  obtain ⟨⟨f0, p0⟩, ⟨f1, p1⟩, ⟨f2, p2⟩, ⟨f3, p3⟩, ⟨f4, p4⟩⟩ := FX
  clear h h0 h1 h2 h3 h4
  go_enter Try.func33, Try.ntmps33
  go_wp2_with fail
  go_ret
  exact ⟨rfl, rfl⟩
set_option maxHeartbeats 4000000 in
theorem rep_c (g : G) (hok : RepOK g) : RepC g := by
  intro b o n c A k w hn hle hmo h4 hb hs hr hnd hk
  unfold maxLen at hmo
  obtain ⟨hk1, hk2⟩ := hk
  have Hn := Go.Lib.hid hn
  have Hnd := Go.Lib.hid hnd
  have Hok := Go.Lib.hid hok
  have HS := Go.Lib.hid hs
  have HR := Go.Lib.hid hr
  have HB4 : Hid (∀ W, Chg (fun q => q ∈ rowOf A n ++ g.rows) w W → W.cell? ⟨b, o + 4, none⟩ = some (.slice A n c)) := Go.Lib.hid fun W hW => hW.cell h4 hb
  have hk0 : (k == 0) = false := by simp; omega
  clear hn hs hr hnd hok hb h4
  go_enter Try.func33, Try.ntmps33
  go_wp2_with fail
  go_loopw [1, 5] (fun v1 v5 W => ∃ (i : Nat) (kk : Int) (g1 g2 : G), i ≤ n ∧ v5 = .int .i64 i ∧ v1 = .int .i64 kk ∧ (-9223372036854775808 ≤ kk ∧ kk ≤ 9223372036854775807) ∧ ReI g A n (k - 1) w W i kk g1 g2) (fun _ v5 _ => n - (intOf v5).toNat)
  case atStart => exact ⟨0, k - 1, .nil, g, Nat.zero_le _, rfl, rfl, by omega, ReI.start Hn.out HS.out HR.out⟩
  case round =>
    obtain ⟨i, kk, g1, g2, hi, rfl, rfl, hkk, hinv⟩ := hrel
    have H := Go.Lib.hid hinv
    have hc4 := HB4.out _ hinv.chg
    clear hinv
    by_cases hgo : i < n ∧ 0 ≤ kk
    · obtain ⟨hlt, hpos⟩ := hgo
      obtain ⟨bA, d1, kA, kn, kc, ks, r, cur, rfl, rfl, hrow, hB, ⟨z0, z1, z2, z3, z4⟩, k3, k1, k2, hsubg, hrowg, hsub, hrk, okd, hsl⟩ := H.out.node Hn.out HS.out HR.out hpos hlt
      have hi1 : (0 : Int) ≤ i := by omega
      have hi2 : (i : Int) < n := by omega
      by_cases e0 : kk = 0
      · have Hc := Go.Lib.hid (rep0_c hB z0 z1 z2 z3 z4)
        have HP := Go.Lib.hid (H.out.put e0 Hn.out hsubg rfl hrow hrowg Hnd.out)
        clear hsub hrk k3 hsl hrow okd hsubg hrowg hB z0 z1 z2 z3 z4 k1 k2
        subst e0
        go_wp2_with fail
        refine Hc.out.mono ?_
        rintro e w1 ⟨rfl, rfl⟩
        go_wp2_with fail
        go_roundw
        case rel => exact ⟨i + 1, -1, _, _, by omega, by go_num, rfl, by omega, HP.out⟩
        case measure => simp [intOf]; omega
      · have hnd := Hnd.out
        rw [hrow] at hnd
        have hbA : bA ∉ rowOf kA kn ++ ks.rows := fun hm => by
          simp only [List.singleton_append, List.nodup_cons] at hnd
          exact hnd.1 (hsl.subset hm)
        have hndk : (rowOf kA kn ++ ks.rows).Nodup := by
          simp only [List.singleton_append, List.nodup_cons] at hnd
          exact List.Nodup.sublist hsl hnd.2
        have hok1 : RepC ks := by
          have := Hok.out
          rw [H.out.eq] at this
          exact this.at_
        have Hc := Go.Lib.hid (hok1 bA (i * 5) kn kc kA kk wr k3 k1 k2 (by rw [hB.cell]; exact z4) hbA hsub hrk hndk (by omega))
        have HL := Go.Lib.hid (fun e W' (hp : RepPost ks kA kn (kk - 1) wr e W') => H.out.below hpos Hn.out hsubg rfl hrow hrowg Hnd.out e0 hp)
        have HRg := Go.Lib.hid (rep_range ks.erase (kk - 1) (by omega))
        clear hnd hbA hndk hok1 hsub hrk k3 hsl hrow okd hsubg hrowg hB z0 z1 z2 z3 z4 k1 k2
        go_wp2_with fail
        refine Hc.out.mono ?_
        rintro e w1 hp
        have HN := Go.Lib.hid (HL.out _ _ hp)
        obtain ⟨rfl, _⟩ := hp
        go_wp2_with fail
        go_roundw
        case rel => exact ⟨i + 1, _, _, _, by omega, by go_num, rfl, HRg.out, HN.out⟩
        case measure => simp [intOf]; omega
    · have HF := Go.Lib.hid (H.out.fin Hn.out HS.out HR.out (by omega))
      by_cases hlt : i < n
      · have hneg : ¬ (0 : Int) ≤ kk := by omega
        have hi2 : (i : Int) < n := by omega
        clear hgo
        go_wp2_with fail
        go_ret
        exact HF.out
      · have hi2 : ¬ (i : Int) < n := by omega
        clear hgo
        go_wp2_with fail
        go_ret
        exact HF.out
theorem rep_all (g : G) : RepC g ∧ RepOK g := by
  induction g with
  | nil => exact ⟨rep_c .nil trivial, trivial⟩
  | cons d kA kn kc ks r ihk ihr => exact ⟨rep_c _ ⟨ihk.1, ihr.2⟩, ihk.1, ihr.2⟩
end Go.Proofs.Ytnihjkcniddepaa
