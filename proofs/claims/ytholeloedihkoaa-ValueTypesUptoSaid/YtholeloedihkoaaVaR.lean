/- What is proved: build at any shape. Conditions: the memory holds the shape and the library's variable. -/
import Derived.Test.YtholeloedihkoaaVaQ
set_option linter.unusedSimpArgs false
set_option linter.unusedVariables false
namespace Go.Proofs.Ytholeloedihkoaa
open Go.RowKit
theorem SF.at_svs : ∀ (f : SF) (i : Nat) (sv : Sv), f.svs[i]? = some sv → ∃ ns ks, f.at? i = some (sv, ns, ks)
  | .nil, i, sv, h => by simp [SF.svs] at h
  | .cons s ns ks r, 0, sv, h => by
    obtain rfl : s = sv := by simpa [SF.svs] using h
    exact ⟨ns, ks, rfl⟩
  | .cons s ns ks r, i + 1, sv, h => SF.at_svs r i sv (by simpa [SF.svs] using h)
theorem SF.at_errs : ∀ (f : SF) (i : Nat) (s : Sv) (ns : List ByteArray) (ks : SF), f.at? i = some (s, ns, ks) → (errsF f)[i]? = some (errOf s ns ks)
  | .nil, i, s, ns, ks, h => by simp [SF.at?] at h
  | .cons s ns ks r, 0, s', ns', ks', h => by
    obtain ⟨rfl, rfl, rfl⟩ : s = s' ∧ ns = ns' ∧ ks = ks' := by simpa [SF.at?] using h
    rfl
  | .cons s ns ks r, i + 1, s', ns', ks', h => by
    have := SF.at_errs r i s' ns' ks' (by simpa [SF.at?] using h)
    simpa [errsF] using this
/-- the parts' cells, and what each of them is -/
theorem IsF.at_ {w : World} : ∀ (f : SF) {b o : Nat} (i : Nat) (s : Sv) (ns : List ByteArray) (ks : SF), IsF w (some ⟨b, o, none⟩) f → f.at? i = some (s, ns, ks) →
    w.cell? ⟨b, o + i * 4, none⟩ = some (.int .i64 s.k) ∧ w.cell? ⟨b, o + i * 4 + 1, none⟩ = some (.int .i64 s.n) ∧ w.cell? ⟨b, o + i * 4 + 2, none⟩ = some (.slice s.nA s.nl s.nc) ∧ w.cell? ⟨b, o + i * 4 + 3, none⟩ = some (.slice s.pA s.pl s.pc) ∧ IsS w s ns ks
  | .nil, _, _, i, s, ns, ks, _, h => by simp [SF.at?] at h
  | .cons s ns ks r, b, o, 0, s', ns', ks', ⟨b', o', hA, h0, h1, h2, h3, hs, hl, hk, hr⟩, h => by
    obtain ⟨rfl, rfl, rfl⟩ : s = s' ∧ ns = ns' ∧ ks = ks' := by simpa [SF.at?] using h
    obtain ⟨rfl, rfl⟩ : b = b' ∧ o = o' := by simpa using hA
    exact ⟨h0, h1, h2, h3, ⟨hs, hl, hk⟩⟩
  | .cons s ns ks r, b, o, i + 1, s', ns', ks', ⟨b', o', hA, h0, h1, h2, h3, hs, hl, hk, hr⟩, h => by
    obtain ⟨rfl, rfl⟩ : b = b' ∧ o = o' := by simpa using hA
    have := IsF.at_ r i s' ns' ks' hr (by simpa [SF.at?] using h)
    have e : o + 4 + i * 4 = o + (i + 1) * 4 := by omega
    rw [e] at this
    exact this
theorem find_first : ∀ (l : List Int) (k : Nat), k < l.length → l[k]?.getD 0 ≠ 0 → (∀ i, i < k → l[i]?.getD 0 = 0) → l.find? (· ≠ 0) = some (l[k]?.getD 0)
  | [], k, hk, _, _ => by simp at hk
  | x :: r, 0, _, h, _ => by
    have : x ≠ 0 := by simpa using h
    simp [List.find?, this]
  | x :: r, k + 1, hk, h, hz => by
    have h0 : x = 0 := by simpa using hz 0 (by omega)
    have := find_first r k (by simpa using hk) (by simpa using h) (fun i hi => by simpa using hz (i + 1) (by omega))
    simp [List.find?, h0]
    simpa using this
theorem find_zero : ∀ (l : List Int), (∀ i, i < l.length → l[i]?.getD 0 = 0) → l.find? (· ≠ 0) = none
  | [], _ => rfl
  | x :: r, hz => by
    have h0 : x = 0 := by simpa using hz 0 (by simp)
    have := find_zero r (fun i hi => by simpa using hz (i + 1) (by simpa using hi))
    simp [List.find?, h0]
    simpa using this
def erF (ks : SF) (i : Nat) : Int := (errsF ks)[i]?.getD 0
def QF (ks : SF) (i : Nat) (W : World) (t : Nat × Ti) : Prop := ∀ s ns kk, ks.at? i = some (s, ns, kk) → TyS W s ns kk t
theorem QF.keeps (ks : SF) : KeepsQ (QF ks) := fun _ _ _ _ h hk s ns kk ha => (h s ns kk ha).keep hk
/-- what build answers of a shape, out of what it answers over its parts -/
theorem BPost.built {w w' : World} {e : Ending} {m : Nat} {s : Sv} {ns : List ByteArray} {ks : SF} {K : List (Nat × Ti) → Ending → World → Prop} (hm : m = ks.len) (h : BPost w m (erF ks) (QF ks) K e w')
    (hK : ∀ ts, ts.length = ks.len → TysF w' ks ts → Chg NoB w w' → K ts e w' → BuiltE w.heap.size (errS s.k s.n ns (kindsF ks) (sizesF ks)) (fun W t => TyS W s ns ks t) w e w') :
    BuiltE w.heap.size (errOf s ns ks) (fun W t => TyS W s ns ks t) w e w' := by
  have hlen : (errsF ks).length = m := by rw [errsF_len, hm]
  rcases h with ⟨k, h1, h2, h3, h4, h5⟩ | ⟨h1, ts, h2, h3, h4, h5⟩
  · have he : errOf s ns ks = erF ks k := by
      unfold errOf
      rw [find_first (errsF ks) k (by omega) h2 h3]
      rfl
    rw [he]
    exact .inr ⟨h2, _, h4, h5⟩
  · have he : errOf s ns ks = errS s.k s.n ns (kindsF ks) (sizesF ks) := by
      unfold errOf
      rw [find_zero (errsF ks) (fun i hi => h1 i (by omega))]
    rw [he]
    exact hK ts (by omega) (TysF.of_all ks (by omega) fun i t s' ns' kk hi ha => (h3 i t hi).2.2 s' ns' kk ha) h4 h5
section
variable {w w' : World} {e : Ending} {s : Sv} {ns : List ByteArray} {ks : SF} {ts : List (Nat × Ti)}
theorem bas_E (h7 : s.k ≠ 7) (h8 : s.k ≠ 8) (h9 : s.k ≠ 9) (hc : Chg NoB w w') (hT : TysF w' ks ts)
    (h : (∃ n : Nat, s.k = n ∧ 1 ≤ n ∧ n ≤ 5 ∧ ∃ b, e = .returned (.tuple #[ptr b, .int .i64 0]) ∧ TiAt w.heap.size w' b (basicT n)) ∨ (s.k < 1 ∨ 5 < s.k) ∧ e = .returned (.tuple #[.pointer none, .int .i64 2])) :
    BuiltE w.heap.size (errS s.k s.n ns (kindsF ks) (sizesF ks)) (fun W t => TyS W s ns ks t) w e w' := by
  have he : errS s.k s.n ns (kindsF ks) (sizesF ks) = if 1 ≤ s.k ∧ s.k ≤ 5 then 0 else 2 := by
    unfold errS
    rw [if_neg h7, if_neg h8, if_neg h9]
  rw [he]
  rcases h with ⟨n, hn, h1, h5, b, rfl, hb⟩ | ⟨hk, rfl⟩
  · rw [if_pos (by omega)]
    have hk0 : (basicT n).kind ≠ 0 := by show n ≠ 0; omega
    refine .inl ⟨rfl, b, basicT n, rfl, hb, hk0, ⟨hb.mono (Nat.zero_le _), hn.symm, ts, hT, ?_⟩, hc⟩
    unfold OwnTy
    rw [if_neg h7, if_neg h8, if_neg h9]
    exact ⟨n, hn, h1, h5, rfl⟩
  · rw [if_neg (by omega)]
    exact .inr ⟨by decide, _, rfl, hc⟩
theorem TysF.one {b : Nat} {T : Ti} (hT : TysF w' ks [(b, T)]) : ∃ s' ns' kk, ks = .cons s' ns' kk .nil ∧ (T.kind : Int) = s'.k := by
  match ks, hT with
  | .nil, h => cases h
  | .cons s' ns' kk r, ⟨b', T', l', h1, _, h3, _, h6⟩ =>
    injection h1 with h1 h2
    injection h1 with h1 h4
    subst h1 h2 h4
    cases r with
    | nil => exact ⟨s', ns', kk, rfl, h3⟩
    | cons _ _ _ _ =>
      obtain ⟨_, _, _, h, _⟩ := h6
      cases h
theorem ptr_E (h9 : s.k = 9) (hl : ts.length = ks.len) (hc : Chg NoB w w') (hT : TysF w' ks ts) (h : PtrK w.heap.size ks.len ts e w') :
    BuiltE w.heap.size (errS s.k s.n ns (kindsF ks) (sizesF ks)) (fun W t => TyS W s ns ks t) w e w' := by
  have he : errS s.k s.n ns (kindsF ks) (sizesF ks) = if (sizesF ks).length = 1 ∧ (kindsF ks).headD 0 ≠ 8 then 2 else 0 := by
    unfold errS
    rw [h9]
    rfl
  rw [he, sizesF_len]
  have hown : ∀ ob : Option Nat, ob = (if ts.length = 1 then ts.head?.map (·.1) else none) → OwnTy s ns ⟨9, 0, ob, none, 0, [], none, 4⟩ ts := fun ob ho => by
    unfold OwnTy
    rw [h9]
    exact ⟨rfl, rfl, rfl, ho⟩
  rcases h with ⟨hm, b, rfl, hb⟩ | ⟨b0, T0, rfl, hm, ⟨h8, b, rfl⟩ | ⟨h8, b, rfl, hb⟩⟩
  · rw [if_neg (fun h => hm h.1)]
    exact .inl ⟨rfl, b, _, rfl, hb, by show (9 : Nat) ≠ 0; decide, ⟨hb.mono (Nat.zero_le _), h9.symm, ts, hT, hown _ (by rw [if_neg (by omega)])⟩, hc⟩
  · obtain ⟨s', ns', kk, rfl, hk⟩ := hT.one
    rw [if_pos ⟨hm, by show s'.k ≠ 8; omega⟩]
    exact .inr ⟨by decide, _, rfl, hc⟩
  · obtain ⟨s', ns', kk, rfl, hk⟩ := hT.one
    rw [if_neg (fun h => h.2 (by show s'.k = 8; omega))]
    exact .inl ⟨rfl, b, _, rfl, hb, by show (9 : Nat) ≠ 0; decide, ⟨hb.mono (Nat.zero_le _), h9.symm, _, hT, hown _ rfl⟩, hc⟩
end
end Go.Proofs.Ytholeloedihkoaa
