/- What is proved: a store's Files and Same, told by the reference's store, as data. Conditions: the stores go alike. -/
import Derived.Test.YtlglnebnldmceaaGR2F
set_option linter.unusedSimpArgs false
set_option linter.unusedVariables false
namespace Go.Proofs.Ytlglnebnldmceaa
open Go Go.RowKit Go.Maps
theorem subl_of {α : Type} {R : α → α → Prop} (irr : ∀ a, ¬ R a a) (tr : ∀ a b c, R a b → R b c → R a c) : ∀ (l m : List α), l.Pairwise R → m.Pairwise R → (∀ x ∈ l, x ∈ m) → l.Sublist m
  | [], m, _, _, _ => List.nil_sublist m
  | x :: l, [], _, _, h => absurd (h x (by simp)) (by simp)
  | x :: l, y :: m, hl, hm, h => by
    obtain ⟨hx, hl'⟩ := List.pairwise_cons.1 hl
    obtain ⟨hy, hm'⟩ := List.pairwise_cons.1 hm
    rcases List.mem_cons.1 (h x (by simp)) with rfl | hxm
    · refine List.Sublist.cons_cons _ (subl_of irr tr l m hl' hm' fun z hz => ?_)
      rcases List.mem_cons.1 (h z (by simp [hz])) with rfl | hzm
      · exact absurd (hx _ hz) (irr _)
      · exact hzm
    · refine List.Sublist.cons _ (subl_of irr tr (x :: l) m hl hm' fun z hz => ?_)
      rcases List.mem_cons.1 (h z hz) with rfl | hzm
      · rcases List.mem_cons.1 hz with rfl | hzl
        · exact hxm
        · exact absurd (tr _ _ _ (hx _ hzl) (hy _ hxm)) (irr _)
      · exact hzm
termination_by l m => l.length + m.length
theorem same_of {α : Type} {R : α → α → Prop} (irr : ∀ a, ¬ R a a) (tr : ∀ a b c, R a b → R b c → R a c) {l m : List α} (hl : l.Pairwise R) (hm : m.Pairwise R) (h : ∀ x ∈ l, x ∈ m) (hn : l.length = m.length) : l = m :=
  (subl_of irr tr l m hl hm h).eq_of_length hn
def LN (a b : ByteArray) : Prop := lessN a b = true
theorem LN.irr (a : ByteArray) : ¬ LN a a := by unfold LN; rw [lessN_irrefl]; simp
theorem LN.tr (a b c : ByteArray) (h : LN a b) (h2 : LN b c) : LN a c := lessN_trans h h2
/-- names and sizes -/
def V.tells (U : V) : List (ByteArray × Nat) := U.dir.map fun e => (e.1, (U.bytes e.2).length)
/-- names and bytes -/
def V.cont (U : V) : List (ByteArray × List UInt8) := U.dir.map fun e => (e.1, U.bytes e.2)
section
variable {b1 b2 : Nat} {w : World} {s o : Nat} {S T : Sto} {φ ψ : List Nat} {v v0 v' U U0 : V} {F F' : Nat → Prop} {ρ : Nat → Nat}
theorem files_ref (h1 : StoreAt b1 w s S) (h2 : Rep S v φ) (hr : RS v U) : S.files = U.tells := by
  have hkv : (v.dir.map (·.1)).Nodup := by
    have := h1.keys
    rw [h2.dir, List.map_map] at this
    exact this
  obtain ⟨N, hN⟩ : ∃ N, N = sortN (S.dir.map fun e => e.1.data.toList) := ⟨_, rfl⟩
  have hperm : N.Perm (v.dir.map (·.1)) := by
    rw [hN]
    unfold sortN
    have := (List.mergeSort_perm (S.dir.map fun e => e.1.data.toList) leB).map fun x : List UInt8 => (⟨x.toArray⟩ : ByteArray)
    refine this.trans ?_
    rw [h2.dir, List.map_map, List.map_map]
    exact List.Perm.refl _
  have hfiles : S.files = N.map fun n => (n, ((lookD n S.dir).map S.len).getD 0) := by rw [hN]; rfl
  have hlen : ∀ e ∈ v.dir, ((lookD e.1 S.dir).map S.len).getD 0 = (v.bytes e.2).length := fun e he => by
    have hl := lookD_of hkv he
    have hb := h2.dirb e he
    obtain ⟨A, c, hf⟩ := h2.fl e.2 hb
    rw [h2.look, hl]
    simp only [Option.map_some, Option.getD_some]
    unfold Sto.len
    rw [getD_lt hb, hf]
    rfl
  have hnd : N.Nodup := hperm.nodup_iff.2 hkv
  have hs : N.Pairwise fun a b => a.data.toList ≤ b.data.toList := by
    rw [hN]
    unfold sortN
    rw [List.pairwise_map]
    have tr : ∀ a b c : List UInt8, leB a b = true → leB b c = true → leB a c = true := fun a b c h1 h2 => by
      simp only [leB, decide_eq_true_eq] at *
      exact List.le_trans h1 h2
    have tot : ∀ a b : List UInt8, (leB a b || leB b a) = true := fun a b => by
      simp only [leB, Bool.or_eq_true, decide_eq_true_eq]
      exact List.le_total a b
    refine (List.pairwise_mergeSort tr tot _).imp fun {a b} h => ?_
    simpa [leB] using h
  have hp1 : N.Pairwise LN := (hs.and hnd).imp fun {a b} h => by
    have hb : lessN b a = false := by
      unfold lessN
      rw [toList_data, toList_data]
      exact not_less h.1
    unfold LN
    rcases hq : lessN a b with _ | _
    · exact absurd (lessN_total hq hb) h.2
    · rfl
  have hp2 : (U.dir.map (·.1)).Pairwise LN := by
    rw [List.pairwise_map]
    exact hr.rise
  have hpm := hr.dir.map (·.1)
  have hNU : N = U.dir.map (·.1) := same_of LN.irr LN.tr hp1 hp2 (fun x hx => hpm.mem_iff.2 (hperm.mem_iff.1 hx)) (by rw [hperm.length_eq, hpm.length_eq])
  rw [hfiles, hNU, List.map_map]
  unfold V.tells
  refine List.map_congr_left fun e he => ?_
  have hev := hr.dir.mem_iff.1 he
  simp only [Function.comp_apply, hlen e hev, hr.bytes]
theorem files_r (h : StoreV b1 w s v F) (hr : RS v U) : Calls Try.prog 67 #[ptr s] w (FilesPost w.heap.size U.tells w) := by
  obtain ⟨S, φ, h1, h2, _⟩ := h
  rw [← files_ref h1 h2 hr]
  exact files_c h1
theorem Sto.same_iff {S T : Sto} : S.same T = true ↔ S.dir.length = T.dir.length ∧ ∀ e ∈ S.dir, T.has e.1 (S.bytesOf e.2) = true := by
  unfold Sto.same
  rw [Bool.and_eq_true, decide_eq_true_eq, List.all_eq_true]
theorem cont_rise (hr : Rise U.dir) : U.cont.Pairwise fun a b => LN a.1 b.1 := by
  unfold V.cont
  rw [List.pairwise_map]
  exact hr
theorem cont_mem (hr : RS v U) {x : ByteArray × List UInt8} : x ∈ U.cont ↔ ∃ e ∈ v.dir, x = (e.1, v.bytes e.2) := by
  unfold V.cont
  rw [List.mem_map]
  constructor
  · rintro ⟨e, he, rfl⟩
    exact ⟨e, hr.dir.mem_iff.1 he, by rw [hr.bytes]⟩
  · rintro ⟨e, he, rfl⟩
    exact ⟨e, hr.dir.mem_iff.2 he, by rw [hr.bytes]⟩
/-- a store against another, both with their references -/
theorem same_ref (h1 : StoreAt b1 w s S) (h2 : Rep S v φ) (h3 : StoreAt b2 w o T) (h4 : Rep T v' ψ) (hr : RS v U) (hr0 : RS v' U0) : S.same T = decide (U.cont = U0.cont) := by
  have hk : (v'.dir.map (·.1)).Nodup := by
    have := h3.keys
    rw [h4.dir, List.map_map] at this
    exact this
  have hhas : ∀ d ∈ v.dir, (T.has d.1 (S.bytesOf (φ.getD d.2 0)) = true ↔ (d.1, v.bytes d.2) ∈ U0.cont) := fun d hd => by
    unfold Sto.has
    rw [h4.look, h2.bytesOf (h2.dirb d hd), cont_mem hr0]
    rcases hl : lookD d.1 v'.dir with _ | g
    · simp only [Option.map_none]
      constructor
      · intro e; cases e
      · rintro ⟨e, he, heq⟩
        rw [lookD_none] at hl
        simp only [Prod.mk.injEq] at heq
        exact absurd (List.mem_map.2 ⟨e, he, heq.1.symm⟩) hl
    · have hm := lookD_mem hl
      simp only [Option.map_some, decide_eq_true_eq]
      rw [h4.bytesOf (h4.dirb _ hm)]
      constructor
      · intro e; exact ⟨(d.1, g), hm, by rw [e]⟩
      · rintro ⟨e, he, heq⟩
        simp only [Prod.mk.injEq] at heq
        have h5 := lookD_of hk (show (d.1, e.2) ∈ v'.dir by rw [heq.1]; exact he)
        rw [hl] at h5
        obtain rfl := Option.some.inj h5
        exact heq.2
  have hiff : S.same T = true ↔ U.cont = U0.cont := by
    rw [Sto.same_iff, h2.dlen, h4.dlen]
    constructor
    · rintro ⟨hl, ha⟩
      refine same_of (R := fun a b => LN a.1 b.1) (fun a => LN.irr a.1) (fun a b c => LN.tr a.1 b.1 c.1) (cont_rise hr.rise) (cont_rise hr0.rise) (fun x hx => ?_) ?_
      · obtain ⟨d, hd, rfl⟩ := (cont_mem hr).1 hx
        refine (hhas d hd).1 (ha (d.1, φ.getD d.2 0) ?_)
        rw [h2.dir]
        exact List.mem_map.2 ⟨d, hd, rfl⟩
      · unfold V.cont
        rw [List.length_map, List.length_map, hr.len, hr0.len, hl]
    · intro he
      constructor
      · have := congrArg List.length he
        unfold V.cont at this
        rw [List.length_map, List.length_map, hr.len, hr0.len] at this
        exact this
      · intro e hm
        rw [h2.dir] at hm
        obtain ⟨d, hd, rfl⟩ := List.mem_map.1 hm
        refine (hhas d hd).2 ?_
        rw [← he, cont_mem hr]
        exact ⟨d, hd, rfl⟩
  rw [Bool.eq_iff_iff, hiff, decide_eq_true_eq]
/-- a copy goes with the reference, its files numbered anew -/
def V.ren (U : V) (ρ : Nat → Nat) (v' : V) : V := { cap := v'.cap, F := v'.F, rd := v'.rd, dir := U.dir.map fun e => (e.1, ρ e.2) }
theorem ren_rs (hr : RS v0 U0) (hs : Sim v0 v' ρ) : RS v' (U0.ren ρ v') := by
  refine ⟨rfl, rfl, rfl, ?_, ?_⟩
  · exact (hr.dir.map fun e => (e.1, ρ e.2)).trans hs.dir.symm
  · unfold V.ren Rise
    simp only
    rw [List.pairwise_map]
    exact hr.rise
theorem ren_cont (hr : RS v0 U0) (hs : Sim v0 v' ρ) : (U0.ren ρ v').cont = U0.cont := by
  unfold V.cont V.ren
  simp only [List.map_map]
  refine List.map_congr_left fun e he => ?_
  have hev : e ∈ v0.dir := hr.dir.mem_iff.1 he
  simp only [Function.comp_apply]
  have := hs.bytes e.2 (by unfold V.held; exact List.mem_append.2 (.inl (List.mem_map.2 ⟨e, hev, rfl⟩)))
  rw [hr.bytes, ← this]
  rfl
theorem ren_tells (hr : RS v0 U0) (hs : Sim v0 v' ρ) : (U0.ren ρ v').tells = U0.tells := by
  have h := ren_cont hr hs
  have e : ∀ X : V, X.tells = X.cont.map fun e => (e.1, e.2.length) := fun X => by unfold V.tells V.cont; rw [List.map_map]; rfl
  rw [e, e, h]
theorem same_r (h : StoreV b1 w s v F) (h' : StoreV b2 w o v' F') (hr : RS v U) (hr0 : RS v' U0) : Calls Try.prog 13 #[ptr s, ptr o] w (Quiet (.bool (decide (U.cont = U0.cont))) w) := by
  obtain ⟨S, φ, h1, h2, _⟩ := h
  obtain ⟨T, ψ, h3, h4, _⟩ := h'
  rw [← same_ref h1 h2 h3 h4 hr hr0]
  exact same_c h1 h3
end
end Go.Proofs.Ytlglnebnldmceaa
