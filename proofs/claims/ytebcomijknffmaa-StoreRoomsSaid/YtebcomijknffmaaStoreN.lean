/- What is proved: the contract of Put where there is no room. Conditions: the memory holds a store, and the bytes that are handed in. -/
import Derived.Test.YtebcomijknffmaaStoreM
namespace Go.Proofs.Ytebcomijknffmaa
open Go.RowKit
section
variable {base : Nat} {w w1 : World} {s : Nat} {S : Sto}

def FullPost (base s : Nat) (S S' : Sto) (w : World) (e : Ending) (w' : World) : Prop :=
  e = .returned (.int .i64 5) ∧ StoreAt base w' s S' ∧ Chg (fun k => k = S.mb) w w'

theorem put_full_none (h : StoreAt base w s S) {nm : ByteArray} (hsz : nm.size ≤ maxLen) (hn : mayName nm = true) (hl : lookD nm S.dir = none) (hlt : S.dir.length < 200)
    {A : Option Addr} {c m : Nat} (hfull : (S.del nm).room < m) :
    Calls Try.prog 12 #[ptr s, .string nm, .slice A m c] w (FullPost base s S (S.del nm) w) := by
  have Hth := Go.Lib.hid (there_c h)
  have H := Go.Lib.hid h
  have Hsz := Go.Lib.hid hsz
  have Hn := Go.Lib.hid hn
  have Hl := Go.Lib.hid hl
  have d2 : decide ((S.del nm).room < m) = true := by simpa using hfull
  have d3 : decide (200 ≤ (S.dir.length : Int)) = false := by simp; omega
  have hlt' : (S.dir.length : Int) < 200 := by omega
  clear h hsz hn hl hlt hfull
  unfold ptr at Hth ⊢
  go_enter Try.func12, Try.ntmps12
  go_wp2_with fail
  refine Hth.out.mono ?_
  rintro e w' ⟨rfl, rfl⟩
  go_wp2_with fail
  refine (mayName_c nm Hsz.out w).mono ?_
  rw [Hn.out]
  rintro e w1 ⟨rfl, hc1⟩
  have h1 := H.out.chg hc1 (fun _ _ => id)
  have hlk := h1.lookup nm
  rw [Hl.out] at hlk
  simp only [Option.map_none, Option.getD_none] at hlk
  have hln := run_len_files h1
  have c0 := h1.cell0
  have Hc1 := Go.Lib.hid hc1
  have H1 := Go.Lib.hid h1
  clear h1 hc1
  go_wp2_with (at_delete; go_must (refine wpList_delete_str _ rfl _ _ _ _ rfl 79 Try.underlying71 Try.underlying9 S.mb _ nm rfl rfl H1.out.map ?_); intro w2 hm2 hc2 hz2)
  rw [delS_dir] at hm2
  have h2 := H1.out.del hm2 hc2
  have Hr := Go.Lib.hid (room_c h2)
  have H2 := Go.Lib.hid h2
  have Hc2 := Go.Lib.hid hc2
  clear hm2 hc2 hz2 h2 hlk hln c0
  unfold ptr at Hr
  go_wp2_with fail
  refine Hr.out.mono ?_
  rintro e w3 ⟨rfl, hc3⟩
  have H3 := Go.Lib.hid (H2.out.chg hc3 (fun _ _ => id))
  have Hc3 := Go.Lib.hid hc3
  clear hc3
  go_wp2_with fail
  go_ret
  exact ⟨rfl, H3.out, ((Hc1.out.mono (fun _ _ h => h.elim)).trans Hc2.out).trans (Hc3.out.mono (fun _ _ h => h.elim))⟩

theorem put_full_some (h : StoreAt base w s S) {nm : ByteArray} {g : Nat} (hsz : nm.size ≤ maxLen) (hn : mayName nm = true) (hl : lookD nm S.dir = some g)
    {A : Option Addr} {c m : Nat} (hfull : (S.del nm).room < m) :
    Calls Try.prog 12 #[ptr s, .string nm, .slice A m c] w (FullPost base s S ((S.del nm).enter nm g) w) := by
  have Hth := Go.Lib.hid (there_c h)
  have H := Go.Lib.hid h
  have Hsz := Go.Lib.hid hsz
  have Hn := Go.Lib.hid hn
  have Hl := Go.Lib.hid hl
  have d2 : decide ((S.del nm).room < m) = true := by simpa using hfull
  clear h hsz hn hl hfull
  unfold ptr at Hth ⊢
  go_enter Try.func12, Try.ntmps12
  go_wp2_with fail
  refine Hth.out.mono ?_
  rintro e w' ⟨rfl, rfl⟩
  go_wp2_with fail
  refine (mayName_c nm Hsz.out w).mono ?_
  rw [Hn.out]
  rintro e w1 ⟨rfl, hc1⟩
  have h1 := H.out.chg hc1 (fun _ _ => id)
  have hlk := h1.lookup nm
  rw [Hl.out] at hlk
  simp only [Option.map_some, Option.getD_some] at hlk
  have c0 := h1.cell0
  have Hc1 := Go.Lib.hid hc1
  have H1 := Go.Lib.hid h1
  clear h1 hc1
  unfold ptr at hlk
  go_wp2_with (at_delete; go_must (refine wpList_delete_str _ rfl _ _ _ _ rfl 79 Try.underlying71 Try.underlying9 S.mb _ nm rfl rfl H1.out.map ?_); intro w2 hm2 hc2 hz2)
  rw [delS_dir] at hm2
  have h2 := H1.out.del hm2 hc2
  have Hr := Go.Lib.hid (room_c h2)
  have H2 := Go.Lib.hid h2
  have Hc2 := Go.Lib.hid hc2
  clear hm2 hc2 hz2 h2 hlk c0
  unfold ptr at Hr
  go_wp2_with fail
  refine Hr.out.mono ?_
  rintro e w3 ⟨rfl, hc3⟩
  have h3 := H2.out.chg hc3 (fun _ _ => id)
  have c0 := h3.cell0
  simp only [Sto.del] at c0
  have H3 := Go.Lib.hid h3
  have Hc3 := Go.Lib.hid hc3
  clear hc3 h3
  go_wp2_with (at_mapUpdate; go_must (refine wpList_update_str _ rfl _ _ _ _ rfl 9 79 Try.underlying71 Try.underlying9 S.mb _ nm (ptr g) rfl rfl rfl H3.out.map ?_); intro w4 hm4 hc4 hz4)
  have Hp : Hid (StoreAt base w4 s ((S.del nm).enter nm g) ∧ Chg (fun k => k = S.mb) w w4) := Go.Lib.hid (by
    refine ⟨?_, (((Hc1.out.mono (fun _ _ h => h.elim)).trans Hc2.out).trans (Hc3.out.mono (fun _ _ h => h.elim))).trans hc4⟩
    rw [putS_dir] at hm4
    refine H3.out.setDir hm4 hc4 (fun e he => ?_) (nodup_putD H3.out.keys) ?_ ?_
    · rcases mem_putD he with rfl | he
      · exact ⟨H.out.dirf _ (lookD_mem Hl.out), Hn.out⟩
      · exact ⟨H3.out.dirf e he, H3.out.dnames e he⟩
    · rw [length_putD]
      have h1 := H.out.ndir
      have h2 := delD_length nm S.dir
      rw [Hl.out, if_neg (by simp)] at h2
      have h3 : (S.del nm).dir.length = (delD nm S.dir).length := rfl
      split <;> omega
    · refine Nat.le_trans (sumOf_le_sub (nodup_dedup _) (fun x hx => mem_dedup.2 ?_)) H.out.fits
      have hx := mem_dedup.1 hx
      unfold Sto.held
      rcases List.mem_append.1 hx with hx | hx
      · obtain ⟨e, he, rfl⟩ := List.mem_map.1 hx
        rcases mem_putD he with rfl | he
        · exact List.mem_append.2 (.inl (List.mem_map.2 ⟨_, lookD_mem Hl.out, rfl⟩))
        · exact List.mem_append.2 (.inl (List.mem_map.2 ⟨e, (delD_sub nm S.dir).subset he, rfl⟩))
      · exact List.mem_append.2 (.inr hx))
  clear hm4 hc4 hz4
  go_wp2_with fail
  go_ret
  exact ⟨rfl, Hp.out⟩
end
end Go.Proofs.Ytebcomijknffmaa
