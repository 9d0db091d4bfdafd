/- What is proved: the contracts of Read and ReadWord. Conditions: the memory holds a store. -/
import Derived.Test.YtggknljlibhkjaaStoreB
namespace Go.Proofs.Ytggknljlibhkjaa
open Go.RowKit
section
variable {base : Nat} {w : World} {s : Nat} {S : Sto}

theorem read_none (h : StoreAt base w s S) {f : Int} (hr : S.rdAt f = none) :
    Calls Try.prog 58 #[ptr s, .int .i64 f] w fun e w' => e = .returned (.int .u8 0) ∧ ∃ n, w' = w.drewN n := by
  have Hr := Go.Lib.hid (rider_none h hr)
  clear h hr
  unfold ptr at Hr ⊢
  go_enter Try.func58, Try.ntmps58
  go_wp2_with fail
  refine Hr.out.mono ?_
  rintro e w' ⟨rfl, rfl⟩
  go_wp2_with fail
  go_quiet (fail)
  go_wp2_with fail
  go_ret
  exact ⟨rfl, _, rfl⟩

theorem read_end (h : StoreAt base w s S) {f : Int} {r : Rd} {x : Fl} (hr : S.rdAt f = some r) (hx : S.fl r.f = some x) (hpos : r.pos = x.b.length) :
    Calls Try.prog 58 #[ptr s, .int .i64 f] w fun e w' => e = .returned (.int .u8 0) ∧ ∃ n, w' = w.drewN n := by
  obtain ⟨x', hx', hp, hl, c0, c1, c2, z2, cf⟩ := h.rfacts hr
  obtain rfl : x' = x := by rw [hx] at hx'; exact (Option.some.inj hx').symm
  have Hr := Go.Lib.hid (rider_some h hr)
  clear h hr hx hx' c1 z2
  generalize x'.b.length = n at *
  generalize x'.A = A at *
  generalize x'.c = c at *
  generalize r.pos = p at *
  unfold ptr at Hr c0 ⊢
  have d1 : ((p : Int) == (n : Int)) = true := by rw [beq_iff_eq]; omega
  clear hpos
  go_enter Try.func58, Try.ntmps58
  go_wp2_with fail
  refine Hr.out.mono ?_
  rintro e w' ⟨rfl, rfl⟩
  go_wp2_with fail
  go_quiet (fail)
  go_wp2_with fail
  go_ret
  exact ⟨rfl, _, rfl⟩

def ReadPost (base s : Nat) (S : Sto) (blk : Nat) (c : UInt8) (w : World) (e : Ending) (w' : World) : Prop :=
  e = .returned (.int .u8 c.toNat) ∧ StoreAt base w' s S ∧ Chg (· = blk) w w'

theorem read_some (h : StoreAt base w s S) {f : Int} {r : Rd} {x : Fl} (hr : S.rdAt f = some r) (hx : S.fl r.f = some x) (hpos : r.pos < x.b.length) :
    Calls Try.prog 58 #[ptr s, .int .i64 f] w (ReadPost base s (S.setPos f (r.pos + 1)) r.blk x.b[r.pos] w) := by
  obtain ⟨x', hx', hp, hl, c0, c1, c2, z2, cf⟩ := h.rfacts hr
  obtain rfl : x' = x := by rw [hx] at hx'; exact (Option.some.inj hx').symm
  have Hr := Go.Lib.hid (rider_some h hr)
  obtain ⟨_, _, _, hm⟩ := rdAt_some hr
  obtain ⟨g, hA, hcap, hd, hgne⟩ := h.dcell hx hpos
  have hb := h.rdb r hm
  have hne1 : ¬ g = r.blk := hgne _ _ _ hb (by decide)
  have hne2 : ¬ r.f = r.blk := (h.flb _ _ hx).ne_ hb (by decide)
  have Hset : ∀ n, Hid (StoreAt base ((w.drewN n).setCell ⟨r.blk, 2, none⟩ (.int .i64 ((r.pos : Int) + 1))) s (S.setPos f (r.pos + 1)) ∧ Chg (· = r.blk) w ((w.drewN n).setCell ⟨r.blk, 2, none⟩ (.int .i64 ((r.pos : Int) + 1)))) := fun n => Go.Lib.hid (by
    have hc : Chg NoB w (w.drewN n) := (Chg.refl _ _).drewN n
    have := (h.chg hc (fun _ _ => id)).setPos hr hx (p := r.pos + 1) (by omega)
    exact ⟨this.1, (hc.mono (fun _ _ hi => hi.elim)).trans this.2⟩)
  rw [hA] at cf
  clear h hr hx hx' c1 hp hcap hb hm hgne hA
  generalize x'.b[r.pos] = c at *
  generalize x'.b.length = n at *
  generalize x'.c = cap at *
  generalize S.setPos f (r.pos + 1) = S' at *
  generalize r.pos = p at *
  generalize r.blk = rb at *
  generalize r.f = rf at *
  unfold ptr at Hr c0 ⊢
  have d1 : ((p : Int) == (n : Int)) = false := by rw [beq_eq_false_iff_ne]; omega
  go_enter Try.func58, Try.ntmps58
  go_wp2_with fail
  refine Hr.out.mono ?_
  rintro e w' ⟨rfl, rfl⟩
  go_wp2_with fail
  go_quiet (fail)
  go_wp2_with fail
  go_quiet (fail)
  go_wp2_with fail
  go_ret
  exact ⟨rfl, (Hset _).out.1.chg ((Chg.refl NoB _).drewN _) (fun _ _ => id), (Hset _).out.2.drewN _⟩

/-! ### ReadWord: four Reads -/
/-- What a Read tells, and the store behind it. -/
def Sto.read (S : Sto) (f : Int) : UInt8 × Sto :=
  match S.rdAt f with
  | none => (0, S)
  | some r => match S.fl r.f with
    | none => (0, S)
    | some x => match x.b[r.pos]? with
      | none => (0, S)
      | some c => (c, S.setPos f (r.pos + 1))

def StorePost (base s : Nat) (S S' : Sto) (v : Value) (w : World) (e : Ending) (w' : World) : Prop :=
  e = .returned v ∧ StoreAt base w' s S' ∧ Chg (foot s S) w w' ∧ ∀ k, foot s S' k → k < w.heap.size → foot s S k

theorem read_c (h : StoreAt base w s S) (f : Int) :
    Calls Try.prog 58 #[ptr s, .int .i64 f] w (StorePost base s S (S.read f).2 (.int .u8 (S.read f).1.toNat) w) := by
  cases hr : S.rdAt f with
  | none =>
    refine (read_none h hr).mono fun e w' ⟨he, n, hw⟩ => ?_
    subst he; subst hw
    have e1 : S.read f = (0, S) := by unfold Sto.read; rw [hr]
    rw [e1]
    exact ⟨rfl, h.chg ((Chg.refl NoB _).drewN _) (fun _ _ => id), (Chg.refl _ _).drewN _, fun _ h _ => h⟩
  | some r =>
    obtain ⟨_, _, _, hm⟩ := rdAt_some hr
    obtain ⟨x, hx, hp⟩ := h.rdf r hm
    by_cases hpos : r.pos < x.b.length
    · refine (read_some h hr hx hpos).mono fun e w' ⟨he, hs, hc⟩ => ?_
      subst he
      have e1 : S.read f = (x.b[r.pos], S.setPos f (r.pos + 1)) := by unfold Sto.read; simp only [hr, hx, List.getElem?_eq_getElem hpos]
      rw [e1]
      exact ⟨rfl, hs, hc.mono (fun i _ hi => .inr (.inr (.inr (.inl ⟨r, hm, hi⟩)))), fun k hk _ => foot_setPos hk⟩
    · refine (read_end h hr hx (by omega)).mono fun e w' ⟨he, n, hw⟩ => ?_
      subst he; subst hw
      have e1 : S.read f = (0, S) := by unfold Sto.read; simp only [hr, hx, List.getElem?_eq_none (Nat.le_of_not_lt hpos)]
      rw [e1]
      exact ⟨rfl, h.chg ((Chg.refl NoB _).drewN _) (fun _ _ => id), (Chg.refl _ _).drewN _, fun _ h _ => h⟩
end
end Go.Proofs.Ytggknljlibhkjaa
