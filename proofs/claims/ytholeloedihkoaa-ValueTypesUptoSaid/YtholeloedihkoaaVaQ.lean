/- What is proved: a type in memory that was built out of a shape, with its parts; it is kept while rows of pointers change. Conditions: none. -/
import Derived.Test.YtholeloedihkoaaVaP
set_option linter.unusedSimpArgs false
set_option linter.unusedVariables false
namespace Go.Proofs.Ytholeloedihkoaa
open Go.RowKit
theorem TiAt.keep {lo : Nat} {w w' : World} {b : Nat} {T : Ti} (h : TiAt lo w b T) (hk : Keep w w') : TiAt lo w' b T := by
  obtain ⟨F, hc, hF⟩ := hk
  refine h.chg2 hc (fun hb => ?_) (fun k hk hb => ?_) (fun m hm hb => ?_)
  · obtain ⟨cs, fr, h1⟩ := hF _ hb
    have h2 := h.blk
    unfold Blk at h2
    rw [h2] at h1
    injection h1 with h1
    injection h1 with _ h1
    exact absurd h1 (by decide)
  · obtain ⟨cs, fr, h1⟩ := hF _ hb
    rcases h.row.2 with ⟨h2, _⟩ | ⟨g, cap, cur, h2, _, hh, _⟩
    · rw [h2] at hk; simp [Value.ownBlock] at hk
    · rw [h2] at hk
      obtain rfl : g = k := by simpa [Value.ownBlock] using hk
      rw [hh] at h1
      injection h1 with h1
      injection h1 with _ h1
      exact absurd h1 (by decide)
  · obtain ⟨cs, fr, h1⟩ := hF _ hb
    obtain ⟨es, clock, h2, _⟩ := h.map m hm
    rw [h2] at h1
    cases h1
/-- what a type says of itself, over its parts' types -/
def OwnTy (s : Sv) (ns : List ByteArray) (T : Ti) (ts : List (Nat × Ti)) : Prop :=
  if s.k = 7 then ∃ b0 T0, ts = [(b0, T0)] ∧ T.n = s.n.toNat ∧ T.base = some b0 ∧ T.fs = [] ∧ T.size = (s.n.toNat * T0.size + 3) / 4 * 4
  else if s.k = 8 then ns.length = ts.length ∧ T.n = 0 ∧ T.base = none ∧ T.fs = (recL (ns.zip ts)).1 ∧ T.size = recSize (ns.zip ts)
  else if s.k = 9 then T.n = 0 ∧ T.fs = [] ∧ T.size = 4 ∧ T.base = (if ts.length = 1 then ts.head?.map (·.1) else none)
  else ∃ n : Nat, s.k = n ∧ 1 ≤ n ∧ n ≤ 5 ∧ T = basicT n
/-- types in a row, built out of shapes in a row -/
def TysF (W : World) : SF → List (Nat × Ti) → Prop
  | .nil, l => l = []
  | .cons s ns ks r, l => ∃ b T l', l = (b, T) :: l' ∧ TiAt 0 W b T ∧ (T.kind : Int) = s.k ∧ (∃ ts, TysF W ks ts ∧ OwnTy s ns T ts) ∧ TysF W r l'
/-- a type, built out of a shape -/
def TyS (W : World) (s : Sv) (ns : List ByteArray) (ks : SF) (t : Nat × Ti) : Prop :=
  TiAt 0 W t.1 t.2 ∧ (t.2.kind : Int) = s.k ∧ ∃ ts, TysF W ks ts ∧ OwnTy s ns t.2 ts
theorem TysF.keep {W W' : World} (hk : Keep W W') : ∀ (f : SF) {l : List (Nat × Ti)}, TysF W f l → TysF W' f l
  | .nil, _, h => h
  | .cons _ _ ks r, _, ⟨b, T, l', h1, h2, h3, ⟨ts, h4, h5⟩, h6⟩ => ⟨b, T, l', h1, h2.keep hk, h3, ⟨ts, TysF.keep hk ks h4, h5⟩, TysF.keep hk r h6⟩
theorem TyS.keep {W W' : World} {s : Sv} {ns : List ByteArray} {ks : SF} {t : Nat × Ti} (hk : Keep W W') (h : TyS W s ns ks t) : TyS W' s ns ks t := by
  obtain ⟨h1, h2, ts, h3, h4⟩ := h
  exact ⟨h1.keep hk, h2, ts, h3.keep hk, h4⟩
theorem TysF.len {W : World} : ∀ (f : SF) {l : List (Nat × Ti)}, TysF W f l → l.length = f.len
  | .nil, _, h => by rw [h]; rfl
  | .cons _ _ _ r, _, ⟨b, T, l', h1, _, _, _, h6⟩ => by rw [h1, List.length_cons, TysF.len r h6]; rfl
/-- a row's shapes, one by one -/
def SF.at? : SF → Nat → Option (Sv × List ByteArray × SF)
  | .nil, _ => none
  | .cons s ns ks _, 0 => some (s, ns, ks)
  | .cons _ _ _ r, i + 1 => r.at? i
def SF.svs : SF → List Sv
  | .nil => []
  | .cons s _ _ r => s :: r.svs
theorem SF.svs_len : ∀ f : SF, f.svs.length = f.len
  | .nil => rfl
  | .cons _ _ _ r => by simp [SF.svs, SF.len, SF.svs_len r]
theorem TysF.of_all {W : World} : ∀ (f : SF) {l : List (Nat × Ti)}, l.length = f.len → (∀ i t s ns ks, l[i]? = some t → f.at? i = some (s, ns, ks) → TyS W s ns ks t) → TysF W f l
  | .nil, l, hl, _ => by
    cases l with
    | nil => rfl
    | cons _ _ => simp [SF.len] at hl
  | .cons s ns ks r, l, hl, h => by
    cases l with
    | nil => simp [SF.len] at hl
    | cons x l' =>
      obtain ⟨b, T⟩ := x
      obtain ⟨h1, h2, h3⟩ := h 0 (b, T) s ns ks rfl rfl
      exact ⟨b, T, l', rfl, h1, h2, h3, TysF.of_all r (by simpa [SF.len] using hl) fun i t s' ns' ks' hi hf => h (i + 1) t s' ns' ks' (by simpa using hi) hf⟩
end Go.Proofs.Ytholeloedihkoaa
