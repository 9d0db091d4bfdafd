/- What is proved: variables in memory: a tree of blocks, each of a type that was built out of a shape. Conditions: none. -/
import Derived.Test.YtholeloedihkoaaVaS
import Derived.Test.YtholeloedihkoaaVaE
import Derived.Laws.Rows
set_option linter.unusedSimpArgs false
set_option linter.unusedVariables false
namespace Go.Proofs.Ytholeloedihkoaa
open Go Go.RowKit
abbrev PV : TypeId := 41
/-- a type with its shape -/
structure Ty where
  s : Sv
  ns : List ByteArray
  ks : SF
  b : Nat
  T : Ti
def SF.tys : SF → List (Nat × Ti) → List Ty
  | .nil, _ => []
  | .cons _ _ _ _, [] => []
  | .cons s ns ks r, t :: l => ⟨s, ns, ks, t.1, t.2⟩ :: r.tys l
/-- the types of a variable's parts -/
def Ty.kids (t : Ty) (ts : List (Nat × Ti)) : List Ty :=
  if t.s.k = 7 then (t.ks.tys ts).flatMap (List.replicate t.s.n.toNat) else if t.s.k = 8 then t.ks.tys ts else []
/-- a type in memory, as its shape says -/
def Ty.ok (W : World) (t : Ty) (ts : List (Nat × Ti)) : Prop := TiAt 0 W t.b t.T ∧ (t.T.kind : Int) = t.s.k ∧ TysF W t.ks ts ∧ OwnTy t.s t.ns t.T ts
theorem TyS.ok {W : World} {s : Sv} {ns : List ByteArray} {ks : SF} {t : Nat × Ti} (h : TyS W s ns ks t) : ∃ ts, Ty.ok W ⟨s, ns, ks, t.1, t.2⟩ ts := by
  obtain ⟨h1, h2, ts, h3, h4⟩ := h
  exact ⟨ts, h1, h2, h3, h4⟩
theorem Ty.ok.tyS {W : World} {t : Ty} {ts : List (Nat × Ti)} (h : t.ok W ts) : TyS W t.s t.ns t.ks (t.b, t.T) := ⟨h.1, h.2.1, ts, h.2.2.1, h.2.2.2⟩
/-- variables in a row, each with its parts -/
inductive VF where
  | nil : VF
  | cons (b : Nat) (t : Ty) (A : Option Addr) (c : Nat) (ks : VF) (r : VF)
def VF.len : VF → Nat
  | .nil => 0
  | .cons _ _ _ _ _ r => r.len + 1
def VF.tys : VF → List Ty
  | .nil => []
  | .cons _ t _ _ _ r => t :: r.tys
def VF.blks : VF → List Nat
  | .nil => []
  | .cons b _ _ _ _ r => b :: r.blks
def VF.foot : VF → Nat → Prop
  | .nil, _ => False
  | .cons b _ A c ks r, k => k = b ∨ (Value.slice A ks.len c).ownBlock = some k ∨ ks.foot k ∨ r.foot k
def VF.snoc : VF → Nat → Ty → Option Addr → Nat → VF → VF
  | .nil, b, t, A, c, ks => .cons b t A c ks .nil
  | .cons b' t' A' c' ks' r, b, t, A, c, ks => .cons b' t' A' c' ks' (r.snoc b t A c ks)
def VF.at? : VF → Nat → Option VF
  | .nil, _ => none
  | .cons b t A c ks _, 0 => some (.cons b t A c ks .nil)
  | .cons _ _ _ _ _ r, i + 1 => r.at? i
/-- variables in memory; C: what their words and pointers are -/
def VsAt (C : Int → Option Addr → Prop) (W : World) : Nat → VF → Prop
  | _, .nil => True
  | lo, .cons b t A c ks r => lo ≤ b ∧ (∃ x p, Blk W b VT #[ptr t.b, .int .u32 x, .pointer p, .slice A ks.len c] ∧ (0 ≤ x ∧ x < 4294967296) ∧ C x p) ∧ W.ownsRow (b + 1) PV 1 (.slice A ks.len c) ks.len (ks.blks.map ptr) ∧
    (∃ ts, t.ok W ts ∧ ks.tys = t.kids ts) ∧ VsAt C W (b + 1) ks ∧ VsAt C W (b + 1) r
/-- a block of a variable, or of a row of parts -/
def VtPv (W : World) (k : Nat) : Prop := ∃ cs fr, W.heap[k]? = some (.cells cs VT fr) ∨ W.heap[k]? = some (.cells cs PV fr)
def KeepV (W W' : World) : Prop := ∃ F : Nat → Prop, Chg F W W' ∧ ∀ k, F k → k < W.heap.size → VtPv W k
section
variable {C C' : Int → Option Addr → Prop} {W W' : World} {F : Nat → Prop} {lo : Nat}
theorem VF.tys_len : ∀ v : VF, v.tys.length = v.len
  | .nil => rfl
  | .cons _ _ _ _ _ r => by simp [VF.tys, VF.len, VF.tys_len r]
theorem VF.blks_len : ∀ v : VF, v.blks.length = v.len
  | .nil => rfl
  | .cons _ _ _ _ _ r => by simp [VF.blks, VF.len, VF.blks_len r]
theorem VF.snoc_len (b : Nat) (t : Ty) (A : Option Addr) (c : Nat) (ks : VF) : ∀ v : VF, (v.snoc b t A c ks).len = v.len + 1
  | .nil => rfl
  | .cons _ _ _ _ _ r => by simp [VF.snoc, VF.len, VF.snoc_len b t A c ks r]
theorem VF.snoc_tys (b : Nat) (t : Ty) (A : Option Addr) (c : Nat) (ks : VF) : ∀ v : VF, (v.snoc b t A c ks).tys = v.tys ++ [t]
  | .nil => rfl
  | .cons _ _ _ _ _ r => by simp [VF.snoc, VF.tys, VF.snoc_tys b t A c ks r]
theorem VF.snoc_blks (b : Nat) (t : Ty) (A : Option Addr) (c : Nat) (ks : VF) : ∀ v : VF, (v.snoc b t A c ks).blks = v.blks ++ [b]
  | .nil => rfl
  | .cons _ _ _ _ _ r => by simp [VF.snoc, VF.blks, VF.snoc_blks b t A c ks r]
theorem VF.snoc_foot (b : Nat) (t : Ty) (A : Option Addr) (c : Nat) (ks : VF) : ∀ (v : VF) (k : Nat), (v.snoc b t A c ks).foot k → v.foot k ∨ (VF.cons b t A c ks .nil).foot k
  | .nil, k, h => .inr h
  | .cons _ _ _ _ _ r, k, h => by
    rcases h with h | h | h | h
    · exact .inl (.inl h)
    · exact .inl (.inr (.inl h))
    · exact .inl (.inr (.inr (.inl h)))
    · rcases VF.snoc_foot b t A c ks r k h with h | h
      · exact .inl (.inr (.inr (.inr h)))
      · exact .inr h
theorem KeepV.of_quiet (h : Chg NoB W W') : KeepV W W' := ⟨NoB, h, fun _ h => h.elim⟩
theorem VtPv.no {k : Nat} {cs : Array Value} {t : TypeId} {fr : Nat × Nat} (h : VtPv W k) (hb : W.heap[k]? = some (.cells cs t fr)) : t = VT ∨ t = PV := by
  obtain ⟨cs', fr', h | h⟩ := h
  · rw [hb] at h
    injection h with h
    injection h with _ h
    exact .inl h
  · rw [hb] at h
    injection h with h
    injection h with _ h
    exact .inr h
theorem TiAt.keepV {b : Nat} {T : Ti} (h : TiAt lo W b T) (hk : KeepV W W') : TiAt lo W' b T := by
  obtain ⟨F, hc, hF⟩ := hk
  refine h.chg2 hc (fun hb => ?_) (fun k hk hb => ?_) (fun m hm hb => ?_)
  · have h2 := h.blk
    unfold Blk at h2
    rcases (hF _ hb h.blk.lt).no h2 with h3 | h3 <;> exact absurd h3 (by decide)
  · have hl := (h.row.lt k hk).2
    rcases h.row.2 with ⟨h2, _⟩ | ⟨g, cap, cur, h2, _, hh, _⟩
    · rw [h2] at hk; simp [Value.ownBlock] at hk
    · rw [h2] at hk
      obtain rfl : g = k := by simpa [Value.ownBlock] using hk
      rcases (hF _ hb hl).no hh with h3 | h3 <;> exact absurd h3 (by decide)
  · obtain ⟨es, clock, h2, _⟩ := h.map m hm
    obtain ⟨cs, fr, h3 | h3⟩ := hF _ hb (h.map m hm).lt <;> (rw [h2] at h3; cases h3)
theorem TysF.keepV (hk : KeepV W W') : ∀ (f : SF) {l : List (Nat × Ti)}, TysF W f l → TysF W' f l
  | .nil, _, h => h
  | .cons _ _ ks r, _, ⟨b, T, l', h1, h2, h3, ⟨ts, h4, h5⟩, h6⟩ => ⟨b, T, l', h1, h2.keepV hk, h3, ⟨ts, TysF.keepV hk ks h4, h5⟩, TysF.keepV hk r h6⟩
theorem Ty.ok.keepV {t : Ty} {ts : List (Nat × Ti)} (h : t.ok W ts) (hk : KeepV W W') : t.ok W' ts := ⟨h.1.keepV hk, h.2.1, h.2.2.1.keepV hk, h.2.2.2⟩
theorem VsAt.imp (hi : ∀ x p, C x p → C' x p) : ∀ (v : VF) {lo : Nat}, VsAt C W lo v → VsAt C' W lo v
  | .nil, _, _ => trivial
  | .cons _ _ _ _ ks r, _, ⟨h1, ⟨x, p, h2, h3, h4⟩, h5, h6, h7, h8⟩ => ⟨h1, ⟨x, p, h2, h3, hi _ _ h4⟩, h5, h6, VsAt.imp hi ks h7, VsAt.imp hi r h8⟩
theorem VsAt.mono {lo' : Nat} (hl : lo' ≤ lo) : ∀ (v : VF), VsAt C W lo v → VsAt C W lo' v
  | .nil, _ => trivial
  | .cons _ _ _ _ ks r, ⟨h1, h⟩ => ⟨Nat.le_trans hl h1, h⟩
theorem VsAt.foot_ge : ∀ (v : VF) {lo k : Nat}, VsAt C W lo v → v.foot k → lo ≤ k ∧ k < W.heap.size
  | .nil, _, _, _, h => h.elim
  | .cons b t A c ks r, lo, k, ⟨h1, ⟨x, p, h2, _⟩, h5, h6, h7, h8⟩, h => by
    rcases h with h | h | h | h
    · subst h; exact ⟨h1, h2.lt⟩
    · have := h5.lt k h; omega
    · have := VsAt.foot_ge ks h7 h; omega
    · have := VsAt.foot_ge r h8 h; omega
theorem VsAt.chg (hc : Chg F W W') (hF : ∀ k, F k → k < W.heap.size → VtPv W k) : ∀ (v : VF) {lo : Nat}, VsAt C W lo v → (∀ k, v.foot k → ¬ F k) → VsAt C W' lo v
  | .nil, _, _, _ => trivial
  | .cons b t A c ks r, lo, ⟨h1, ⟨x, p, h2, h3, h4⟩, h5, ⟨ts, h6, h9⟩, h7, h8⟩, hn =>
    ⟨h1, ⟨x, p, h2.chg hc (hn b (.inl rfl)), h3, h4⟩, own_chg h5 hc (fun k hk => hn k (.inr (.inl hk))), ⟨ts, h6.keepV ⟨F, hc, hF⟩, h9⟩,
      VsAt.chg hc hF ks h7 (fun k hk => hn k (.inr (.inr (.inl hk)))), VsAt.chg hc hF r h8 (fun k hk => hn k (.inr (.inr (.inr hk))))⟩
theorem VsAt.quiet {v : VF} (h : VsAt C W lo v) (hc : Chg NoB W W') : VsAt C W' lo v := h.chg hc (fun _ h => h.elim) v (fun _ _ => id)
/-- a variable's words may be set -/
theorem VsAt.set {b : Nat} (hc : Chg (fun k => k = b) W W') (hv : ∃ cs, Blk W b VT cs)
    (hb : ∀ q x p s, Blk W b VT #[q, .int .u32 x, .pointer p, s] → ∃ x' p', Blk W' b VT #[q, .int .u32 x', .pointer p', s] ∧ (0 ≤ x' ∧ x' < 4294967296) ∧ C x' p') : ∀ (v : VF) {lo : Nat}, VsAt C W lo v → VsAt C W' lo v
  | .nil, _, _ => trivial
  | .cons b' t A c ks r, lo, ⟨h1, ⟨x, p, h2, h3, h4⟩, h5, ⟨ts, h6, h9⟩, h7, h8⟩ => by
    obtain ⟨cs, hcs⟩ := hv
    refine ⟨h1, ?_, own_chg h5 hc (fun k hk hkb => ?_), ⟨ts, h6.keepV ⟨_, hc, fun k hk _ => ?_⟩, h9⟩, VsAt.set hc ⟨cs, hcs⟩ hb ks h7, VsAt.set hc ⟨cs, hcs⟩ hb r h8⟩
    · by_cases hbb : b' = b
      · subst hbb
        exact hb _ _ _ _ h2
      · exact ⟨x, p, h2.chg hc hbb, h3, h4⟩
    · subst hkb
      exact absurd hk (own_blk_ne h5 hcs (by decide))
    · subst hk
      exact ⟨cs, (0, 0), .inl hcs⟩
theorem VsAt.at_ : ∀ (v : VF) {lo i : Nat} {v' : VF}, VsAt C W lo v → v.at? i = some v' → VsAt C W lo v'
  | .nil, _, _, _, _, h => by simp [VF.at?] at h
  | .cons b t A c ks r, lo, 0, v', ⟨h1, h2, h5, h6, h7, h8⟩, h => by
    simp only [VF.at?, Option.some.injEq] at h
    subst h
    exact ⟨h1, h2, h5, h6, h7, trivial⟩
  | .cons b t A c ks r, lo, i + 1, v', ⟨h1, h2, h5, h6, h7, h8⟩, h => by
    simp only [VF.at?] at h
    exact (VsAt.at_ r h8 h).mono (by omega)
theorem VF.at_spec : ∀ (v : VF) (i : Nat) (x : Ty), v.tys[i]? = some x → ∃ b A c ks, v.at? i = some (.cons b x A c ks .nil) ∧ v.blks[i]? = some b
  | .nil, i, x, h => by simp [VF.tys] at h
  | .cons b t A c ks r, 0, x, h => by
    simp only [VF.tys, List.getElem?_cons_zero, Option.some.injEq] at h
    subst h
    exact ⟨b, A, c, ks, rfl, rfl⟩
  | .cons b t A c ks r, i + 1, x, h => by
    simp only [VF.tys, List.getElem?_cons_succ] at h
    obtain ⟨b', A', c', ks', h1, h2⟩ := VF.at_spec r i x h
    exact ⟨b', A', c', ks', h1, by simpa [VF.blks] using h2⟩
theorem VF.at_foot : ∀ (v : VF) {i : Nat} {v' : VF}, v.at? i = some v' → ∀ k, v'.foot k → v.foot k
  | .nil, _, _, h, _, _ => by simp [VF.at?] at h
  | .cons b t A c ks r, 0, v', h, k, hk => by
    simp only [VF.at?, Option.some.injEq] at h
    subst h
    rcases hk with hk | hk | hk | hk
    · exact .inl hk
    · exact .inr (.inl hk)
    · exact .inr (.inr (.inl hk))
    · exact hk.elim
  | .cons b t A c ks r, i + 1, v', h, k, hk => by
    simp only [VF.at?] at h
    exact .inr (.inr (.inr (VF.at_foot r h k hk)))
theorem VsAt.snoc {b : Nat} {t : Ty} {A : Option Addr} {c : Nat} {ks : VF} {m : Nat} (hn : VsAt C W m (.cons b t A c ks .nil)) : ∀ (v : VF) {lo : Nat}, lo ≤ m → VsAt C W lo v → (∀ k, v.foot k → k < m) → VsAt C W lo (v.snoc b t A c ks)
  | .nil, lo, hl, _, _ => hn.mono hl
  | .cons b' t' A' c' ks' r, lo, hl, ⟨h1, h2, h5, h6, h7, h8⟩, hf =>
    ⟨h1, h2, h5, h6, h7, VsAt.snoc hn r (hf b' (.inl rfl)) h8 (fun k hk => hf k (.inr (.inr (.inr hk))))⟩
/-- kids' types -/
theorem SF.tys_ok : ∀ (f : SF) {l : List (Nat × Ti)} {i : Nat} {x : Ty}, TysF W f l → (f.tys l)[i]? = some x → f.at? i = some (x.s, x.ns, x.ks) ∧ l[i]? = some (x.b, x.T) ∧ TyS W x.s x.ns x.ks (x.b, x.T)
  | .nil, _, _, _, _, h => by simp [SF.tys] at h
  | .cons s ns ks r, l, i, x, ⟨b, T, l', h1, h2, h3, h4, h6⟩, h => by
    subst h1
    cases i with
    | zero =>
      simp only [SF.tys, List.getElem?_cons_zero, Option.some.injEq] at h
      subst h
      exact ⟨rfl, rfl, h2, h3, h4⟩
    | succ i =>
      simp only [SF.tys, List.getElem?_cons_succ] at h
      obtain ⟨h7, h8⟩ := SF.tys_ok r h6 h
      exact ⟨h7, by simpa using h8.1, h8.2⟩
theorem SF.tys_len : ∀ (f : SF) {l : List (Nat × Ti)}, TysF W f l → (f.tys l).length = f.len ∧ l.length = f.len
  | .nil, _, h => by
    obtain rfl : _ = [] := h
    exact ⟨rfl, rfl⟩
  | .cons s ns ks r, l, ⟨b, T, l', h1, h2, h3, h4, h6⟩ => by
    subst h1
    have := SF.tys_len r h6
    simp [SF.tys, SF.len, this.1, this.2]
theorem recL_get : ∀ (l : List (ByteArray × (Nat × Ti))) (j : Nat) (f : Fd), (recL l).1[j]? = some f → ∃ x, l[j]? = some x ∧ f.name = x.1 ∧ f.base = x.2.1 := by
  intro l
  induction l using List.snocRec with
  | nil => intro j f h; simp [recL] at h
  | snoc l x ih =>
    intro j f h
    rw [recL_snoc] at h
    simp only [recStep] at h
    rcases Nat.lt_or_ge j l.length with hj | hj
    · rw [List.getElem?_append_left (by rw [recL_len]; exact hj)] at h
      obtain ⟨y, h1, h2⟩ := ih j f h
      exact ⟨y, by rw [List.getElem?_append_left hj]; exact h1, h2⟩
    · rw [List.getElem?_append_right (by rw [recL_len]; exact hj), recL_len] at h
      have h0 : j - l.length = 0 := by
        rcases Nat.eq_zero_or_pos (j - l.length) with h0 | h0
        · exact h0
        · rw [List.getElem?_eq_none (by simp; omega)] at h; cases h
      rw [h0] at h
      simp only [List.getElem?_cons_zero, Option.some.injEq] at h
      subst h
      exact ⟨x, by rw [List.getElem?_append_right hj, h0]; rfl, rfl, rfl⟩
/-- what a type's block says of its parts -/
structure KidsOk (T : Ti) (K : List Ty) : Prop where
  len : K.length = T.n + T.fs.length
  base : ∀ (j : Nat) x, j < T.n → K[j]? = some x → T.base = some x.b
  fs : ∀ (j : Nat) f x, T.fs[j]? = some f → K[T.n + j]? = some x → f.base = x.b
theorem Ty.ok.kidsOk {t : Ty} {ts : List (Nat × Ti)} (h : t.ok W ts) : KidsOk t.T (t.kids ts) := by
  obtain ⟨h1, h2, h3, h4⟩ := h
  obtain ⟨hl, hl2⟩ := SF.tys_len t.ks h3
  unfold OwnTy at h4
  unfold Ty.kids
  split at h4
  · rename_i h7
    rw [if_pos h7]
    obtain ⟨b0, T0, rfl, h5, h6, h8, _⟩ := h4
    obtain ⟨x, hx⟩ : ∃ x, t.ks.tys [(b0, T0)] = [x] := by
      rw [show t.ks.len = 1 from hl2.symm] at hl
      match t.ks.tys [(b0, T0)], hl with
      | [x], _ => exact ⟨x, rfl⟩
    have hxb : x.b = b0 := by
      have := (SF.tys_ok t.ks (i := 0) (x := x) h3 (by rw [hx]; rfl)).2.1
      simp at this
      exact this.1.symm
    rw [hx]
    refine ⟨by simp [h5, h8], fun j y hj hy => ?_, fun j f y hf => by rw [h8] at hf; simp at hf⟩
    simp only [List.flatMap_cons, List.flatMap_nil, List.append_nil, List.getElem?_replicate] at hy
    split at hy
    · injection hy with hy
      subst hy
      rw [h6, hxb]
    · cases hy
  · rename_i h7
    rw [if_neg h7]
    split at h4
    · rename_i h8
      rw [if_pos h8]
      obtain ⟨h5, h6, _, h9, _⟩ := h4
      refine ⟨by rw [hl, h6, h9, recL_len, List.length_zip]; omega, fun j x hj => by omega, fun j f x hf hx => ?_⟩
      rw [h9] at hf
      obtain ⟨y, hy, _, hyb⟩ := recL_get _ j f hf
      rw [h6, Nat.zero_add] at hx
      have := (SF.tys_ok t.ks h3 hx).2.1
      rw [List.getElem?_zip_eq_some] at hy
      rw [hy.2] at this
      injection this with this
      rw [hyb, this]
    · rename_i h8
      rw [if_neg h8]
      have hz : t.T.n = 0 ∧ t.T.fs = [] := by
        split at h4
        · exact ⟨h4.1, h4.2.1⟩
        · obtain ⟨n, _, _, _, h⟩ := h4
          rw [h]
          exact ⟨rfl, rfl⟩
      exact ⟨by rw [hz.1, hz.2]; rfl, fun j x hj => by omega, fun j f x hf => by rw [hz.2] at hf; simp at hf⟩
theorem Ty.ok.kid {t : Ty} {ts : List (Nat × Ti)} (h : t.ok W ts) {j : Nat} {x : Ty} (hx : (t.kids ts)[j]? = some x) : TyS W x.s x.ns x.ks (x.b, x.T) ∧ ∃ i, t.ks.at? i = some (x.s, x.ns, x.ks) := by
  obtain ⟨h1, h2, h3, h4⟩ := h
  unfold Ty.kids at hx
  split at hx
  · have hm := List.mem_of_getElem? hx
    rw [List.mem_flatMap] at hm
    obtain ⟨y, hy, hm⟩ := hm
    obtain rfl : x = y := List.eq_of_mem_replicate hm
    obtain ⟨i, hi⟩ := List.mem_iff_getElem?.1 hy
    have := SF.tys_ok t.ks h3 hi
    exact ⟨this.2.2, i, this.1⟩
  · split at hx
    · have := SF.tys_ok t.ks h3 hx
      exact ⟨this.2.2, j, this.1⟩
    · simp at hx
theorem Ty.ok.kind {t : Ty} {ts : List (Nat × Ti)} (h : t.ok W ts) : t.T.kind ≠ 0 := by
  obtain ⟨h1, h2, h3, h4⟩ := h
  intro h0
  rw [h0] at h2
  unfold OwnTy at h4
  rw [← h2] at h4
  rw [if_neg (by decide), if_neg (by decide), if_neg (by decide)] at h4
  obtain ⟨n, h5, h6, _⟩ := h4
  omega
end
end Go.Proofs.Ytholeloedihkoaa
