/- What is proved: a type's block tells it whole; a variable is kept by changes of blocks that are newer than its types. Conditions: as each theorem says. -/
import Derived.Test.YtholeloedihkoaaVbD
set_option linter.unusedSimpArgs false
set_option linter.unusedVariables false
namespace Go.Proofs.Ytholeloedihkoaa
open Go Go.RowKit
theorem flat_inj : ∀ (a b : List Fd), a.flatMap Fd.cells = b.flatMap Fd.cells → a = b
  | [], [], _ => rfl
  | [], y :: r, h => by simp [Fd.cells] at h
  | x :: r, [], h => by simp [Fd.cells] at h
  | x :: r, y :: s, h => by
    simp only [List.flatMap_cons, Fd.cells, List.cons_append, List.nil_append, List.cons.injEq, Value.string.injEq, Value.int.injEq, true_and, ptr, Value.pointer.injEq, Option.some.injEq, Addr.mk.injEq, and_true] at h
    obtain ⟨h1, h2, h3, h4⟩ := h
    have h5 := flat_inj r s h4
    have h6 : x = y := by
      obtain ⟨n, b, o⟩ := x
      obtain ⟨n', b', o'⟩ := y
      simp only at h1 h2 h3
      have : o = o' := by omega
      subst h1 h2 this
      rfl
    rw [h5, h6]
theorem optP_inj {a b : Option Nat} (h : optP a = optP b) : a = b := by
  unfold optP at h
  cases a <;> cases b <;> simp at h <;> simp [h]
section
variable {C : Int → Option Addr → Prop} {W W' W0 : World} {lo lo' : Nat}
theorem TiAt.uniq {b : Nat} {T U : Ti} (h : TiAt lo W b T) (k : TiAt lo' W b U) : T = U := by
  have h1 := h.blk
  have k1 := k.blk
  unfold Blk at h1 k1
  rw [h1] at k1
  injection k1 with k1
  injection k1 with k1 _ _
  have k2 := congrArg Array.toList k1
  simp only [List.cons.injEq, Value.int.injEq, true_and, Value.slice.injEq, Value.map.injEq, and_true] at k2
  obtain ⟨e1, e2, e3, ⟨e4, e5, e6⟩, e7, e8⟩ := k2
  have e3 := optP_inj e3
  have hf : T.fs = U.fs := by
    rcases h.row.2 with ⟨hs, hn⟩ | ⟨g, cap, cur, hs, _, hh, _, _, _, ht⟩
    · have : U.fs.length = 0 := by rw [← e5]; exact hn
      rw [List.eq_nil_of_length_eq_zero hn, List.eq_nil_of_length_eq_zero this]
    · rcases k.row.2 with ⟨ks, kn⟩ | ⟨g', cap', cur', ks, _, kh, _, _, _, kt⟩
      · have : T.fs.length = 0 := by rw [e5]; exact kn
        rw [List.eq_nil_of_length_eq_zero kn, List.eq_nil_of_length_eq_zero this]
      · rw [← e4, ← e5, ← e6, hs] at ks
        injection ks with ks _ _
        injection ks with ks
        injection ks with ks _ _
        subst ks
        rw [hh] at kh
        injection kh with kh
        injection kh with kh _ _
        subst kh
        refine flat_inj _ _ ?_
        rw [← ht, ← kt, e5]
  obtain ⟨a1, a2, a3, a4, a5, a6, a7, a8⟩ := T
  obtain ⟨b1, b2, b3, b4, b5, b6, b7, b8⟩ := U
  simp only at e1 e2 e3 e4 e6 e7 e8 hf
  have : a1 = b1 := by omega
  have : a2 = b2 := by omega
  have : a8 = b8 := by omega
  subst_vars
  rfl
theorem TysF.uniq : ∀ (f : SF) {l l' : List (Nat × Ti)}, TysF W f l → TysF W f l' → l.map (·.1) = l'.map (·.1) → l = l'
  | .nil, _, _, h, h', _ => by rw [h, h']
  | .cons s ns ks r, _, _, ⟨b, T, l, h1, h2, _, _, h6⟩, ⟨b', T', l', h1', h2', _, _, h6'⟩, he => by
    subst h1 h1'
    simp only [List.map_cons, List.cons.injEq] at he
    obtain ⟨rfl, he⟩ := he
    rw [h2.uniq h2', TysF.uniq r h6 h6' he]
theorem recL_bases (l : List (ByteArray × (Nat × Ti))) : (recL l).1.map (·.base) = l.map (·.2.1) := by
  induction l using List.snocRec with
  | nil => rfl
  | snoc l x ih => rw [recL_snoc]; simp [recStep, ih]
theorem kids_uniq {t : Ty} {ts ts' : List (Nat × Ti)} (h : t.ok W ts) (h' : t.ok W ts') : t.kids ts = t.kids ts' := by
  by_cases h7 : t.s.k = 7
  · have e := h.2.2.2
    have e' := h'.2.2.2
    unfold OwnTy at e e'
    rw [if_pos h7] at e e'
    obtain ⟨b0, T0, rfl, _, hb, _⟩ := e
    obtain ⟨b1, T1, rfl, _, hb1, _⟩ := e'
    rw [hb] at hb1
    injection hb1 with hb1
    subst hb1
    rw [TysF.uniq t.ks h.2.2.1 h'.2.2.1 rfl]
  · by_cases h8 : t.s.k = 8
    · have e := h.2.2.2
      have e' := h'.2.2.2
      unfold OwnTy at e e'
      rw [if_neg h7, if_pos h8] at e e'
      have hb : (recL (t.ns.zip ts)).1.map (·.base) = (recL (t.ns.zip ts')).1.map (·.base) := by rw [← e.2.2.2.1, ← e'.2.2.2.1]
      rw [recL_bases, recL_bases] at hb
      have key : ∀ (l : List (Nat × Ti)), t.ns.length = l.length → (t.ns.zip l).map (·.2.1) = l.map (·.1) := fun l hl => by
        conv => rhs; rw [← List.map_snd_zip (l₁ := t.ns) (l₂ := l) (by omega), List.map_map]
        rfl
      rw [key ts e.1, key ts' e'.1] at hb
      rw [TysF.uniq t.ks h.2.2.1 h'.2.2.1 hb]
    · unfold Ty.kids
      rw [if_neg h7, if_neg h8, if_neg h7, if_neg h8]
/-- all nodes' types hold at a world -/
def TyF (W0 : World) : VF → Prop
  | .nil => True
  | .cons _ t _ _ ks r => (∃ ts, t.ok W0 ts ∧ ks.tys = t.kids ts) ∧ TyF W0 ks ∧ TyF W0 r
theorem VsAt.tyF (hc : Chg NoB W0 W) : ∀ (v : VF) {lo : Nat}, VsAt C W lo v → (∀ x ∈ v.tys, TyS W0 x.s x.ns x.ks (x.b, x.T)) → TyF W0 v
  | .nil, _, _, _ => trivial
  | .cons b t A c ks r, lo, ⟨_, _, _, ⟨ts, hok, hks⟩, h7, h8⟩, hx => by
    obtain ⟨ts0, h0⟩ := (hx t (by simp [VF.tys])).ok
    have h0 : t.ok W0 ts0 := h0
    have he : ks.tys = t.kids ts0 := by rw [hks, kids_uniq hok (h0.keepV (.of_quiet hc))]
    refine ⟨⟨ts0, h0, he⟩, VsAt.tyF hc ks h7 fun x hxm => ?_, VsAt.tyF hc r h8 fun x hxm => hx x (by simp [VF.tys, hxm])⟩
    obtain ⟨j, hj⟩ := List.mem_iff_getElem?.1 hxm
    rw [he] at hj
    exact (h0.kid hj).1
/-- a variable is kept by changes of newer blocks that are not its own -/
theorem VsAt.move {F : Nat → Prop} (hc : Chg F W W') (h0 : Chg NoB W0 W') : ∀ (v : VF) {lo : Nat}, VsAt C W lo v → TyF W0 v → (∀ k, v.foot k → ¬ F k) → VsAt C W' lo v
  | .nil, _, _, _, _ => trivial
  | .cons b t A c ks r, lo, ⟨h1, ⟨x, p, h2, h3, h4⟩, h5, _, h7, h8⟩, ⟨⟨ts0, h6, h9⟩, h10, h11⟩, hn =>
    ⟨h1, ⟨x, p, h2.chg hc (hn b (.inl rfl)), h3, h4⟩, own_chg h5 hc (fun k hk => hn k (.inr (.inl hk))), ⟨ts0, h6.keepV (.of_quiet h0), h9⟩,
      VsAt.move hc h0 ks h7 h10 (fun k hk => hn k (.inr (.inr (.inl hk)))), VsAt.move hc h0 r h8 h11 (fun k hk => hn k (.inr (.inr (.inr hk))))⟩
end
end Go.Proofs.Ytholeloedihkoaa
