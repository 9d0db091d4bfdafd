/- What is proved: build at any shape answers by its plain error, and makes a type that looks as the shape. Conditions: the memory holds the shape and the library's variable. -/
import Derived.Test.YtholeloedihkoaaVaR
set_option linter.unusedSimpArgs false
set_option linter.unusedVariables false
namespace Go.Proofs.Ytholeloedihkoaa
open Go.RowKit
section
variable {W w w' : World} {e : Ending} {s : Sv} {ns : List ByteArray} {ks : SF} {ts : List (Nat × Ti)}
theorem zip_sz {ns : List ByteArray} {ts : List (Nat × Ti)} (h : ts.length ≤ ns.length) : (ns.zip ts).map (fun x => x.2.2.size) = ts.map (fun t => t.2.size) := by
  conv => rhs; rw [← List.map_snd_zip (l₁ := ns) (l₂ := ts) h, List.map_map]
  rfl
theorem OwnTy.sz {T : Ti} (hs : ts.map (fun t => t.2.size) = sizesF ks) (h : OwnTy s ns T ts) : T.size = sizeS s.k s.n (sizesF ks) := by
  unfold OwnTy at h
  unfold sizeS
  split at h
  · rename_i h7
    obtain ⟨b0, T0, rfl, _, _, _, hz⟩ := h
    rw [if_neg (by omega), if_pos h7, ← hs, hz]
    rfl
  · rename_i h7
    split at h
    · rename_i h8
      obtain ⟨hl, _, _, _, hz⟩ := h
      rw [if_neg (by omega), if_neg h7, if_pos h8, hz, recSize_sizes, ← hs]
      rw [zip_sz (by omega)]
    · rename_i h8
      split at h
      · rename_i h9
        obtain ⟨_, _, hz, _⟩ := h
        rw [if_neg (by omega), if_neg h7, if_neg h8, hz]
      · obtain ⟨n, hn, h1, h5, rfl⟩ := h
        rw [if_neg h7, if_neg h8]
        have hc : n = 1 ∨ n = 2 ∨ n = 3 ∨ n = 4 ∨ n = 5 := by omega
        rw [hn]
        rcases hc with rfl | rfl | rfl | rfl | rfl <;> rfl
theorem TysF.sizes {W : World} : ∀ (f : SF) {l : List (Nat × Ti)}, TysF W f l → l.map (fun t => t.2.size) = sizesF f
  | .nil, _, h => by rw [h]; rfl
  | .cons s ns ks r, _, ⟨b, T, l', h1, _, _, ⟨ts, h4, h5⟩, h6⟩ => by
    rw [h1, List.map_cons, TysF.sizes r h6]
    show T.size :: _ = _
    rw [h5.sz (TysF.sizes ks h4)]
    rfl
theorem arr_E (h7 : s.k = 7) (hl : ts.length = ks.len) (hc : Chg NoB w w') (hT : TysF w' ks ts) (h : ArrK w.heap.size ks.len s.n ts e w') :
    BuiltE w.heap.size (errS s.k s.n ns (kindsF ks) (sizesF ks)) (fun W t => TyS W s ns ks t) w e w' := by
  have he : errS s.k s.n ns (kindsF ks) (sizesF ks) = if ks.len ≠ 1 then 1 else if s.n < 1 ∨ 65535 < s.n then 2 else if 262144 < s.n.toNat * (sizesF ks).headD 0 then 3 else 0 := by
    unfold errS
    rw [if_pos h7, sizesF_len]
  rw [he]
  rcases h with ⟨hm, rfl⟩ | ⟨b0, T0, rfl, hm, h⟩
  · rw [if_pos hm]
    exact .inr ⟨by decide, _, rfl, hc⟩
  · rw [if_neg (by omega)]
    have hz : (sizesF ks).headD 0 = T0.size := by rw [← hT.sizes]; rfl
    rw [hz]
    rcases h with ⟨hn, rfl⟩ | ⟨n, hn, h1, h2, h⟩
    · rw [if_pos hn]
      exact .inr ⟨by decide, _, rfl, hc⟩
    · rw [if_neg (by omega), hn]
      rw [show ((n : Nat) : Int).toNat = n from rfl]
      rcases h with ⟨hb, rfl⟩ | ⟨hb, b, rfl, hbt⟩
      · rw [if_pos hb]
        exact .inr ⟨by decide, _, rfl, hc⟩
      · rw [if_neg (by omega)]
        refine .inl ⟨rfl, b, _, rfl, hbt, by show (7 : Nat) ≠ 0; decide, ⟨hbt.mono (Nat.zero_le _), h7.symm, _, hT, ?_⟩, hc⟩
        unfold OwnTy
        rw [if_pos h7]
        exact ⟨b0, T0, rfl, by rw [hn]; rfl, rfl, rfl, by rw [hn]; rfl⟩
theorem rec_E (h8 : s.k = 8) (hl : ts.length = ks.len) (hc : Chg NoB w w') (hT : TysF w' ks ts) (h : RecK w.heap.size ks.len ns ts e w') :
    BuiltE w.heap.size (errS s.k s.n ns (kindsF ks) (sizesF ks)) (fun W t => TyS W s ns ks t) w e w' := by
  have he : errS s.k s.n ns (kindsF ks) (sizesF ks) = if ns.length ≠ ks.len then 2 else if recGood ns = true then (if recSizeS (sizesF ks) ≤ 262144 then 0 else 3) else 2 := by
    unfold errS
    rw [if_neg (by omega), if_pos h8, sizesF_len]
  rw [he]
  rcases h with ⟨hm, rfl⟩ | ⟨hm, h⟩
  · rw [if_pos hm]
    exact .inr ⟨by decide, _, rfl, hc⟩
  · rw [if_neg (by omega)]
    have hz : recSize (ns.zip ts) = recSizeS (sizesF ks) := by
      rw [recSize_sizes, ← hT.sizes]
      rw [zip_sz (by omega)]
    rw [← hz]
    by_cases hg : recGood ns = true
    · rw [if_pos hg] at h ⊢
      by_cases hs : recSize (ns.zip ts) ≤ 262144
      · rw [if_pos hs] at h ⊢
        obtain ⟨b, T, rfl, hb, h1, h2, h3, h4, h5⟩ := h
        refine .inl ⟨rfl, b, T, rfl, hb, by omega, ⟨hb.mono (Nat.zero_le _), by rw [h1, h8]; rfl, ts, hT, ?_⟩, hc⟩
        unfold OwnTy
        rw [if_neg (by omega), if_pos h8]
        exact ⟨by omega, h2, h3, h4, h5⟩
      · rw [if_neg hs] at h ⊢
        subst h
        exact .inr ⟨by decide, _, rfl, hc⟩
    · rw [if_neg hg] at h ⊢
      subst h
      exact .inr ⟨by decide, _, rfl, hc⟩
end
/-- each row of parts is no longer than that -/
def SF.few : SF → Prop
  | .nil => True
  | .cons _ _ ks r => ks.len ≤ 1100000 ∧ ks.few ∧ r.few
def BuildsF (f : SF) : Prop := ∀ (i : Nat) (s : Sv) (ns : List ByteArray) (ks : SF), f.at? i = some (s, ns, ks) → ∀ (w : World) (mv : Int), w.cell? ⟨0, 0, none⟩ = some (.int .i64 mv) → IsS w s ns ks →
  Calls Try.prog 9 #[s.val] w (BuiltE w.heap.size (errOf s ns ks) (fun W t => TyS W s ns ks t) w)
theorem BuiltE.weak {lo lo' : Nat} {er : Int} {Q Q' : World → Nat × Ti → Prop} {w : World} {e : Ending} {w' : World} (h : BuiltE lo er Q w e w') (hlo : lo' ≤ lo) (hQ : ∀ t, Q w' t → Q' w' t) : BuiltE lo' er Q' w e w' := by
  rcases h with ⟨h1, b, T, h2, h3, h4, h5, h6⟩ | h
  · exact .inl ⟨h1, b, T, h2, h3.mono hlo, h4, hQ _ h5, h6⟩
  · exact .inr h
/-- a shape, its parts' builds given -/
theorem build_one (s : Sv) (ns : List ByteArray) (ks : SF) (ih : BuildsF ks) (hk : ks.len ≤ 1100000) (w : World) (mv : Int) (hm : w.cell? ⟨0, 0, none⟩ = some (.int .i64 mv)) (h : IsS w s ns ks) :
    Calls Try.prog 9 #[s.val] w (BuiltE w.heap.size (errOf s ns ks) (fun W t => TyS W s ns ks t) w) := by
  obtain ⟨pb, po, hp⟩ : ∃ pb po, 0 < ks.svs.length → s.pA = some ⟨pb, po, none⟩ := by
    cases ks with
    | nil => exact ⟨0, 0, fun h0 => absurd h0 (by simp [SF.svs])⟩
    | cons s' ns' kk r =>
      obtain ⟨b, o, hA, _⟩ := h.parts
      exact ⟨b, o, fun _ => hA⟩
  have hlen : ks.svs.length = ks.len := SF.svs_len ks
  have hat : ∀ (i : Nat) sv, ks.svs[i]? = some sv → ∀ W, Chg NoB w W → ∃ ns' kk, ks.at? i = some (sv, ns', kk) ∧ W.cell? ⟨pb, po + i * 4, none⟩ = some (.int .i64 sv.k) ∧ W.cell? ⟨pb, po + i * 4 + 1, none⟩ = some (.int .i64 sv.n) ∧ W.cell? ⟨pb, po + i * 4 + 2, none⟩ = some (.slice sv.nA sv.nl sv.nc) ∧ W.cell? ⟨pb, po + i * 4 + 3, none⟩ = some (.slice sv.pA sv.pl sv.pc) ∧ IsS W sv ns' kk := fun i sv hi W hW => by
    obtain ⟨ns', kk, ha⟩ := SF.at_svs ks i sv hi
    have hps := IsF.quiet hW ks h.parts
    rw [hp (by have := (List.getElem?_eq_some_iff.1 hi).1; omega)] at hps
    exact ⟨ns', kk, ha, IsF.at_ ks i sv ns' kk hps ha⟩
  have hS : ∀ (i : Nat) sv, ks.svs[i]? = some sv → ∀ W, Chg NoB w W → W.cell? ⟨pb, po + i * 4, none⟩ = some (.int .i64 sv.k) ∧ W.cell? ⟨pb, po + i * 4 + 1, none⟩ = some (.int .i64 sv.n) ∧ W.cell? ⟨pb, po + i * 4 + 2, none⟩ = some (.slice sv.nA sv.nl sv.nc) ∧ W.cell? ⟨pb, po + i * 4 + 3, none⟩ = some (.slice sv.pA sv.pl sv.pc) := fun i sv hi W hW => by
    obtain ⟨ns', kk, _, h0, h1, h2, h3, _⟩ := hat i sv hi W hW
    exact ⟨h0, h1, h2, h3⟩
  have hB : ∀ (i : Nat) sv, ks.svs[i]? = some sv → ∀ W, Chg NoB w W → Calls Try.prog 9 #[sv.val] W (BuiltE w.heap.size (erF ks i) (QF ks i) W) := fun i sv hi W hW => by
    obtain ⟨ns', kk, ha, _, _, _, _, hIs⟩ := hat i sv hi W hW
    have hm' : W.cell? ⟨0, 0, none⟩ = some (.int .i64 mv) := keepC hW hm
    refine (ih i sv ns' kk ha W mv hm' hIs).mono fun e w' hb => ?_
    have he : erF ks i = errOf sv ns' kk := by
      unfold erF
      rw [SF.at_errs ks i sv ns' kk ha]
      rfl
    rw [he]
    refine hb.weak hW.size fun t ht s2 ns2 kk2 ha2 => ?_
    rw [ha] at ha2
    injection ha2 with ha2
    injection ha2 with h1 h2
    injection h2 with h2 h3
    subst h1 h2 h3
    exact ht
  have HP : Hid (0 < ks.svs.length → s.pA = some ⟨pb, po, none⟩) := Go.Lib.hid hp
  have hval : s.val = .agg #[.int .i64 s.k, .int .i64 s.n, .slice s.nA s.nl s.nc, .slice s.pA ks.svs.length s.pc] := by
    unfold Sv.val
    rw [hlen, ← h.len]
  rw [hval]
  have hkl : ks.svs.length ≤ 1100000 := by omega
  by_cases h7 : s.k = 7
  · rw [h7]
    refine (buildArr_g (QF.keeps ks) hS hB hkl HP).mono fun e w' hb => ?_
    rw [hlen] at hb
    exact hb.built rfl fun ts hl hT hc hK => arr_E h7 hl hc hT hK
  by_cases h8 : s.k = 8
  · rw [h8]
    refine (buildRec_g (QF.keeps ks) hS hB hkl HP (ns := ns) (mv := mv) (Go.Lib.hid ⟨h.ok.nl, h.ok.short, hm, fun W hW => h.ok.names.chg hW fun _ _ => id⟩)).mono fun e w' hb => ?_
    rw [hlen] at hb
    exact hb.built rfl fun ts hl hT hc hK => rec_E h8 hl hc hT hK
  by_cases h9 : s.k = 9
  · rw [h9]
    refine (buildPtr_g (QF.keeps ks) hS hB hkl HP).mono fun e w' hb => ?_
    rw [hlen] at hb
    exact hb.built rfl fun ts hl hT hc hK => ptr_E h9 hl hc hT hK
  refine (buildBas_g (QF.keeps ks) hS hB hkl HP (by simpa using h7) (by simpa using h8) (by simpa using h9)).mono fun e w' hb => ?_
  rw [hlen] at hb
  exact hb.built rfl fun ts hl hT hc hK => bas_E h7 h8 h9 hc hT hK
theorem build_all : ∀ f : SF, f.few → BuildsF f
  | .nil, _ => fun i s ns ks h => by simp [SF.at?] at h
  | .cons s ns ks r, ⟨h1, h2, h3⟩ => fun i s' ns' ks' h w mv hm hIs => by
    cases i with
    | zero =>
      obtain ⟨rfl, rfl, rfl⟩ : s = s' ∧ ns = ns' ∧ ks = ks' := by simpa [SF.at?] using h
      exact build_one s ns ks (build_all ks h2) h1 w mv hm hIs
    | succ i => exact build_all r h3 i s' ns' ks' (by simpa [SF.at?] using h) w mv hm hIs
/-- build of any shape that came in -/
theorem build_c {w : World} {s : Sv} {ns : List ByteArray} {ks : SF} {mv : Int} (h : IsS w s ns ks) (hm : w.cell? ⟨0, 0, none⟩ = some (.int .i64 mv)) (hl : ks.len ≤ 1100000) (hf : ks.few) :
    Calls Try.prog 9 #[s.val] w (BuiltE w.heap.size (errOf s ns ks) (fun W t => TyS W s ns ks t) w) :=
  build_one s ns ks (build_all ks hf) hl w mv hm h
end Go.Proofs.Ytholeloedihkoaa
