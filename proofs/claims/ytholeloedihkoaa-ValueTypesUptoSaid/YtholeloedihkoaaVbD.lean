/- What is proved: the law's at: the variable at a path, or an error. Conditions: the memory holds the variable, its shape, the path. -/
import Derived.Test.YtholeloedihkoaaVaY
import Derived.Test.YtholeloedihkoaaVbC
set_option linter.unusedSimpArgs false
set_option linter.unusedVariables false
namespace Go.Proofs.Ytholeloedihkoaa
open Go Go.RowKit
theorem results_tct {fn : Func} {p q r : Tmp} {ty : TypeId} (h : fn.results = #[.tmp p, .cell q ty, .tmp r]) (tmps : Array Value) (P : Program) (w : World) :
    (results fn tmps).run P w =
      ((asAddr (tmps.getD q undef)).run P w).andThen fun a w₁ => ((loadVar ty a).run P w₁).andThen fun v w₂ => .ok (.tuple #[tmps.getD p undef, v, tmps.getD r undef]) w₂ := by
  simp only [results, h]
  simp [Sem.run_bind, Result.andThen]
theorem lookS_get {n : ByteArray} {v : Value} : ∀ (l : List (ByteArray × Value)) (j : Nat), (l.map (·.1)).Nodup → l[j]? = some (n, v) → lookS n l = some v
  | [], j, _, h => by simp at h
  | (m, u) :: r, 0, _, h => by
    simp only [List.getElem?_cons_zero, Option.some.injEq, Prod.mk.injEq] at h
    obtain ⟨rfl, rfl⟩ := h
    have hb : (m == m) = true := (MapKept.bytes_beq m m).2 rfl
    simp [lookS, hb]
  | (m, u) :: r, j + 1, hn, h => by
    simp only [List.getElem?_cons_succ] at h
    simp only [List.map_cons, List.nodup_cons] at hn
    have hm : n ≠ m := fun e => hn.1 (by rw [← e]; exact List.mem_map.2 ⟨(n, v), List.mem_of_getElem? h, rfl⟩)
    have hb : (n == m) = false := by
      cases hc : (n == m)
      · rfl
      · exact absurd ((MapKept.bytes_beq _ _).1 hc) hm
    have ih := lookS_get r j hn.2 h
    simp [lookS, hb, ih]
theorem places_get {fs : List Fd} {j : Nat} {f : Fd} (h : fs[j]? = some f) : (places fs)[j]? = some (f.name, .int .i64 j) := by
  unfold places
  rw [List.getElem?_map, List.getElem?_zipIdx, h]
  simp
section
variable {C : Int → Option Addr → Prop} {w w' W : World}
/-- a record's names -/
theorem rec_names {t : Ty} {ts : List (Nat × Ti)} (h : t.ok W ts) (hk : t.T.kind = 8) (he : errOf t.s t.ns t.ks = 0) : t.T.fs.map (·.name) = t.ns ∧ t.ns.Nodup ∧ (∀ x ∈ t.ns, nameT x = true) ∧ t.ns.length = t.ks.len := by
  obtain ⟨h1, _, _, h4, _⟩ := rec_kids h hk
  have h8 : t.s.k = 8 := by have := h.2.1; omega
  have h5 := (err_parts he).2
  rw [h8] at h5
  obtain ⟨h6, h7, _⟩ := err8 h5
  unfold recGood at h7
  rw [Bool.and_eq_true, decide_eq_true_eq, List.all_eq_true] at h7
  refine ⟨?_, h7.1, h7.2, by rw [h6, sizesF_len]⟩
  rw [h1, recL_names, List.map_fst_zip (by omega)]
theorem find_miss {w : World} {b : Nat} {T : Ti} {lo : Nat} (h : TiAt lo w b T) (hk : T.kind = 8) (s : ByteArray) (hs : s ∉ T.fs.map (·.name)) :
    Calls Try.prog 50 #[ptr b, .string s] w fun e w' => e = .returned (.tuple #[.int .i64 0, .int .i64 6]) ∧ w = w' := by
  cases hm : T.mb with
  | some m => exact find_none h hk hm s (lookS_none (by rw [places_keys]; exact hs)).1
  | none =>
    obtain ⟨c0, c1, c2, c3, c4, c5⟩ := h.cells
    have hlk : ∀ w : World, (Instr.lookup 70 (.map none) (.string s) true).run Try.prog w = .ok (.tuple #[.int .i64 0, .bool false]) w := fun w => by kernel_rfl
    rw [hm] at c4
    rw [hk] at c0
    have Hth := Go.Lib.hid (there_c h (by omega))
    clear h hk hm hs
    unfold ptr at Hth ⊢
    go_enter Try.func50, Try.ntmps50
    go_wp2_with fail
    refine Hth.out.mono ?_
    rintro e w1 ⟨rfl, rfl⟩
    go_wp2_with fail
    go_ret2
    exact ⟨rfl, rfl⟩
theorem VC.quiet {b tb n c : Nat} {x : Int} {p A : Option Addr} {bs : List Nat} (h : VC w b tb x p A n c bs) (hc : Chg NoB w w') : VC w' b tb x p A n c bs := ⟨h.blk.chg hc id, own_chg h.row hc fun _ _ => id⟩
/-- Field, at a field's name -/
theorem field_at {b : Nat} {t : Ty} {A : Option Addr} {c : Nat} {ks : VF} (hv : VsAt C w 0 (.cons b t A c ks .nil)) (hk : t.T.kind = 8) (he : errOf t.s t.ns t.ks = 0) {j : Nat} {nm : ByteArray} (hn : t.ns[j]? = some nm) :
    ∃ kb x A' c' kk, ks.at? j = some (.cons kb x A' c' kk .nil) ∧ t.ks.at? j = some (x.s, x.ns, x.ks) ∧ ∀ W, Chg NoB w W → Calls Try.prog 20 #[ptr b, .string nm] W fun e w' => e = .returned (.tuple #[ptr kb, .int .i64 0]) ∧ W = w' := by
  obtain ⟨ts, hok, hks⟩ := hv.kids_len
  obtain ⟨xw, xp, hvc, _, _⟩ := hv.vc
  obtain ⟨hn1, hn2, hn3, hn4⟩ := rec_names hok hk he
  obtain ⟨h1, h2, h3, h4, h5, h6⟩ := rec_kids hok hk
  have hjl := (List.getElem?_eq_some_iff.1 hn).1
  have hkl : ks.tys.length = t.ks.len := by rw [hks, h6, (SF.tys_len t.ks hok.2.2.1).1]
  obtain ⟨x, hx⟩ : ∃ x, ks.tys[j]? = some x := ⟨_, List.getElem?_eq_getElem (by omega)⟩
  obtain ⟨kb, A', c', kk, hat, hbk⟩ := VF.at_spec ks j x hx
  have hx' := hx
  rw [hks, h6] at hx'
  have hfl : t.T.fs.length = t.ns.length := by rw [← hn1, List.length_map]
  obtain ⟨f, hf⟩ : ∃ f, t.T.fs[j]? = some f := ⟨_, List.getElem?_eq_getElem (by omega)⟩
  have hfn : f.name = nm := by
    have : (t.T.fs.map (·.name))[j]? = some f.name := by rw [List.getElem?_map, hf]; rfl
    rw [hn1, hn] at this
    injection this with this
    exact this.symm
  have hlk : lookS nm (places t.T.fs) = some (.int .i64 j) := lookS_get _ j (by rw [places_keys, hn1]; exact hn2) (by rw [places_get hf, hfn])
  have hfew := kids_few hok
  have hklen : ks.len = t.ks.len := by rw [← VF.tys_len, hkl]
  cases hm : t.T.mb with
  | none => rw [hok.1.mbn hm] at hf; simp at hf
  | some m =>
    refine ⟨kb, x, A', c', kk, hat, (SF.tys_ok t.ks hok.2.2.1 hx').1, fun W hW => ?_⟩
    exact field_c (hvc.quiet hW) (by rw [hklen]; omega) (by rw [← VF.tys_len, hks]; exact hfew) hbk (find_c (hok.1.quiet hW) hk hm nm hlk)
/-- Elem, at an element's number -/
theorem elem_at {b : Nat} {t : Ty} {A : Option Addr} {c : Nat} {ks : VF} (hv : VsAt C w 0 (.cons b t A c ks .nil)) (hk : t.T.kind = 7) {j : Nat} (hj : j < t.T.n) :
    ∃ kb x A' c' kk, ks.at? j = some (.cons kb x A' c' kk .nil) ∧ t.ks.at? 0 = some (x.s, x.ns, x.ks) ∧ ∀ W, Chg NoB w W → Calls Try.prog 24 #[ptr b, .int .i64 j] W fun e w' => e = .returned (.tuple #[ptr kb, .int .i64 0]) ∧ W = w' := by
  obtain ⟨ts, hok, hks⟩ := hv.kids_len
  obtain ⟨xw, xp, hvc, _, _⟩ := hv.vc
  obtain ⟨T0, _, _, hln, b0, rfl⟩ := arr_kids hok hk
  have hkl : ks.tys.length = t.T.n := by rw [hks, hln]
  obtain ⟨x, hx⟩ : ∃ x, ks.tys[j]? = some x := ⟨_, List.getElem?_eq_getElem (by omega)⟩
  obtain ⟨kb, A', c', kk, hat, hbk⟩ := VF.at_spec ks j x hx
  have h7 : t.s.k = 7 := by have := hok.2.1; omega
  have hx0 : t.ks.at? 0 = some (x.s, x.ns, x.ks) := by
    rw [hks] at hx
    unfold Ty.kids at hx
    rw [if_pos h7] at hx
    have hm := List.mem_of_getElem? hx
    rw [List.mem_flatMap] at hm
    obtain ⟨y, hy, hm⟩ := hm
    obtain rfl : x = y := List.eq_of_mem_replicate hm
    obtain ⟨i, hi⟩ := List.mem_iff_getElem?.1 hy
    have := SF.tys_ok t.ks hok.2.2.1 hi
    have hi0 : i = 0 := by
      have := (List.getElem?_eq_some_iff.1 this.2.1).1
      simpa using this
    subst hi0
    exact this.1
  refine ⟨kb, x, A', c', kk, hat, hx0, fun W hW => ?_⟩
  exact elem_c (hvc.quiet hW) (hok.1.quiet hW) hk hj (by rw [← VF.tys_len]; omega) hbk
abbrev noneS : ByteArray := ⟨#[110, 111, 110, 101, 32, 111, 102, 32, 116, 104, 101, 115, 101]⟩
theorem noneS_no : nameT noneS = false := by decide +kernel
def shArr (s : Sv) : Array Value := #[.int .i64 s.k, .int .i64 s.n, .slice s.nA s.nl s.nc, .slice s.pA s.pl s.pc]
/-- ahead of a round of at's loop: all at the world of the call's begin but the two boxes; w0: an elder world -/
structure AtI (C : Int → Option Addr → Prop) (w0 w : World) (v0 : VF) (b : Nat) (t : Ty) (W : World) : Prop where
  chg : Chg NoB w W
  at_ : ∃ A c ks, VsAt C w 0 (.cons b t A c ks .nil) ∧ (∀ k, (VF.cons b t A c ks .nil).foot k → v0.foot k) ∧ VsAt C w0 0 (.cons b t A c ks .nil)
  sh : IsS w t.s t.ns t.ks
  er : errOf t.s t.ns t.ks = 0
  box : Blk W w.heap.size ShT (shArr t.s)
  out : Blk W (w.heap.size + 1) ShT #[.int .i64 0, .int .i64 0, .slice none 0 0, .slice none 0 0]
/-- what at's variable is -/
def AtOut (C : Int → Option Addr → Prop) (w0 : World) (v0 : VF) (x : Value) (no : Int) : Prop := no ≠ 0 ∨ no = 0 ∧ ∃ b t A c ks, x = ptr b ∧ VsAt C w0 0 (.cons b t A c ks .nil) ∧ ∀ k, (VF.cons b t A c ks .nil).foot k → v0.foot k
def AtPost (C : Int → Option Addr → Prop) (w0 : World) (v0 : VF) (w : World) (e : Ending) (w' : World) : Prop :=
  ∃ (x : Value) (s' : Sv) (no : Int), e = .returned (.tuple #[x, s'.val, .int .i64 no]) ∧ Chg NoB w w' ∧ AtOut C w0 v0 x no
theorem AtI.quiet {w0 : World} {v0 : VF} {b : Nat} {t : Ty} (h : AtI C w0 w v0 b t W) (hc : Chg NoB W w') : AtI C w0 w v0 b t w' :=
  ⟨h.chg.trans hc, h.at_, h.sh, h.er, h.box.chg hc id, h.out.chg hc id⟩
/-- a part of the variable is the next one -/
theorem AtI.kid {w0 : World} {v0 : VF} {b : Nat} {t : Ty} (h : AtI C w0 w v0 b t W) {A : Option Addr} {c : Nat} {ks : VF} (hv : VsAt C w 0 (.cons b t A c ks .nil)) (hf : (∀ k, (VF.cons b t A c ks .nil).foot k → v0.foot k) ∧ VsAt C w0 0 (.cons b t A c ks .nil))
    {p kb : Nat} {x : Ty} {A' : Option Addr} {c' : Nat} {kk : VF} (hk : ks.at? p = some (.cons kb x A' c' kk .nil)) {i : Nat} (ha : t.ks.at? i = some (x.s, x.ns, x.ks)) (hs : IsS w x.s x.ns x.ks) (hc : Chg (fun j => j = w.heap.size) W w') (hb : Blk w' w.heap.size ShT (shArr x.s)) : AtI C w0 w v0 kb x w' := by
  obtain ⟨_, _, _, _, h7, _⟩ := hv
  obtain ⟨hf, _, _, _, _, h8, _⟩ := hf
  exact ⟨h.chg.step hc (fun i hi hF => by subst hF; exact absurd hi (Nat.lt_irrefl _)), ⟨A', c', kk, (h7.at_ ks hk).mono (Nat.zero_le _), fun k hk' => hf k (.inr (.inr (.inl (VF.at_foot ks hk k hk')))), (h8.at_ ks hk).mono (Nat.zero_le _)⟩, hs, okF.at_ t.ks (err_parts h.er).1 ha, hb, h.out.chg hc (by omega)⟩
end
end Go.Proofs.Ytholeloedihkoaa
