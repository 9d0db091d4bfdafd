/- What is proved: the contract of the function within Room that counts a file. Conditions: the memory holds its captured variables. -/
import Derived.Test.YtggknljlibhkjaaStoreE
import Derived.StillTailTactics
namespace Go.Proofs.Ytggknljlibhkjaa
open Go.RowKit

def yes : Value := .agg #[.bool true]
theorem zero_is (w : World) : (zeroValue 142).run Try.prog w = .ok (.agg #[.bool false]) w := by kernel_rfl
theorem field_is (b : Bool) (w : World) : (Instr.field 142 (.agg #[.bool b]) 0).run Try.prog w = .ok (.bool b) w := by cases b <;> kernel_rfl
theorem fileinfo : ∃ j, Try.prog.info? 118 = some j ∧ j.size ≠ 0 := by
  have h : (Try.prog.info? 118).map (fun i => i.size) = some 1 := by kernel_rfl
  cases hj : Try.prog.info? 118 with
  | none => rw [hj] at h; cases h
  | some j => rw [hj] at h; exact ⟨j, rfl, by simp at h; omega⟩

theorem lookS_none {f : Nat} : ∀ {l : List Nat}, f ∉ l → lookS f (l.map fun x => (x, yes)) = none
  | [], _ => rfl
  | y :: l, h => by
    have h1 : (f == y) = false := by simp; intro e; exact h (by simp [e])
    simp only [List.map_cons, lookS, h1]
    exact lookS_none (fun hm => h (by simp [hm]))
theorem lookS_some {f : Nat} : ∀ {l : List Nat}, f ∈ l → lookS f (l.map fun x => (x, yes)) = some yes
  | [], h => by simp at h
  | y :: l, h => by
    by_cases h1 : f = y
    · subst h1; simp [lookS]
    · have h2 : (f == y) = false := by simpa using h1
      simp only [List.map_cons, lookS, h2]
      exact lookS_some (by simpa [h1] using h)
theorem putS_new {f : Nat} {v : Value} : ∀ {l : List Nat}, f ∉ l → putS f v (l.map fun x => (x, yes)) = (l.map fun x => (x, yes)) ++ [(f, v)]
  | [], _ => rfl
  | y :: l, h => by
    have h1 : (f == y) = false := by simp; intro e; exact h (by simp [e])
    have hm' : f ∉ l := fun hm => h (List.mem_cons_of_mem _ hm)
    have := putS_new (v := v) hm'
    simp only [List.map_cons, putS, h1, List.cons_append, this]
    rfl

/-- what the counting function's captured variables hold: the files seen, and a number -/
structure Counted (w : World) (sv nv sm : Nat) (seen : List Nat) (n : Int) : Prop where
  sv : Blk w sv 141 #[.map (some sm)]
  nv : Blk w nv 3 #[.int .i64 n]
  sm : MapIs w sm (ptrs (seen.map fun x => (x, yes)))
  all : ∀ x ∈ seen, ∃ t cs, Blk w x t cs

section
variable {w : World} {sv nv sm f : Nat} {seen : List Nat} {n : Int} {A : Option Addr} {m c : Nat}

theorem count_old (h : Counted w sv nv sm seen n) (hf : f ∈ seen) :
    Calls Try.prog 97 #[ptr f, ptr sv, ptr nv] w fun e w' => e = .returned (.tuple #[]) ∧ w = w' := by
  obtain ⟨j, hj, hsz⟩ := fileinfo
  have hlk := run_lookup_ptr (P := Try.prog) Try.underlying141 Try.underlying89 hj hsz (zero_is w) h.sm (fun x hx => by
    obtain ⟨y, hy, rfl⟩ := List.mem_map.1 hx; exact h.all y hy) (h.all f hf)
  rw [lookS_some hf] at hlk
  simp only [Option.getD_some, yes] at hlk
  have c0 : w.cell? ⟨sv, 0, none⟩ = some (.map (some sm)) := h.sv.cell 0
  have hfd := field_is
  clear h hj hsz hf
  unfold ptr at hlk ⊢
  go_enter Try.func97, Try.ntmps97
  go_wp2_with fail
  go_end0
  exact ⟨rfl, rfl⟩

theorem count_new (h : Counted w sv nv sm seen n) (hf : f ∉ seen) (hfb : Blk w f 118 #[.slice A m c]) (hm : m ≤ 67108864) (hn0 : 0 ≤ n) (hn1 : n ≤ 67108864) :
    Calls Try.prog 97 #[ptr f, ptr sv, ptr nv] w fun e w' => e = .returned (.tuple #[]) ∧ Counted w' sv nv sm (seen ++ [f]) (n - m) ∧ Chg (fun k => k = sm ∨ k = nv) w w' := by
  obtain ⟨j, hj, hsz⟩ := fileinfo
  have hall : ∀ x ∈ (seen.map fun x => (x, yes)), ∃ t cs, Blk w x.1 t cs := fun x hx => by
    obtain ⟨y, hy, rfl⟩ := List.mem_map.1 hx; exact h.all y hy
  have hlk := run_lookup_ptr (P := Try.prog) Try.underlying141 Try.underlying89 hj hsz (zero_is w) h.sm hall ⟨_, _, hfb⟩
  rw [lookS_none hf] at hlk
  simp only [Option.getD_none] at hlk
  obtain ⟨o, hup, hmap⟩ := run_update_ptr (P := Try.prog) Try.underlying141 Try.underlying89 hj hsz h.sm hall ⟨_, _, hfb⟩ yes
  rw [putS_new hf] at hmap
  have hc1 : Chg (fun k => k = sm ∨ k = nv) w (setB w sm o) := setB_chg (F := fun k => k = sm ∨ k = nv) (Chg.refl _ _) sm (fun _ => .inl rfl) o
  have hc1' : Chg (fun k => k = sm) w (setB w sm o) := setB_chg (F := fun k => k = sm) (Chg.refl _ _) sm (fun _ => rfl) o
  have c0 : w.cell? ⟨sv, 0, none⟩ = some (.map (some sm)) := h.sv.cell 0
  have b1 : Blk (setB w sm o) nv 3 #[.int .i64 n] := h.nv.chg hc1' (Ne.symm (h.sm.blk_ne h.nv))
  have b2 : Blk (setB w sm o) sv 141 #[.map (some sm)] := h.sv.chg hc1' (Ne.symm (h.sm.blk_ne h.sv))
  have b3 : Blk (setB w sm o) f 118 #[.slice A m c] := hfb.chg hc1' (Ne.symm (h.sm.blk_ne hfb))
  have ball : ∀ x ∈ seen, ∃ t cs, Blk (setB w sm o) x t cs := fun x hx => by
    obtain ⟨t, cs, hb⟩ := h.all x hx
    exact ⟨t, cs, hb.chg hc1' (Ne.symm (h.sm.blk_ne hb))⟩
  have hfd := field_is
  clear h hj hsz hf hall
  generalize setB w sm o = W at *
  have hne : ¬ f = nv := b3.ne_ b1 (by decide)
  have c1 : W.cell? ⟨nv, 0, none⟩ = some (.int .i64 n) := b1.cell 0
  have z1 : W.frozen? ⟨nv, 0, none⟩ = false := b1.frozen 0
  have c2 : W.cell? ⟨f, 0, none⟩ = some (.slice A m c) := b3.cell 0
  have Hpost : Hid (∀ k, Counted ((W.drewN k).setCell ⟨nv, 0, none⟩ (.int .i64 (n - m))) sv nv sm (seen ++ [f]) (n - m) ∧ Chg (fun k => k = sm ∨ k = nv) w ((W.drewN k).setCell ⟨nv, 0, none⟩ (.int .i64 (n - m)))) := Go.Lib.hid (fun k => by
    have hch : Chg (fun k => k = nv) W ((W.drewN k).setCell ⟨nv, 0, none⟩ (.int .i64 (n - m))) := ((Chg.refl (fun k => k = nv) W).drewN k).setCell (p := ⟨nv, 0, none⟩) (fun _ => rfl) _
    refine ⟨⟨b2.chg hch (b2.ne_ b1 (by decide)), b1.set_ 0 _, ?_, ?_⟩, hc1.step hch (fun i _ hi => .inr hi)⟩
    · rw [List.map_append]
      exact hmap.chg hch (hmap.blk_ne b1)
    · intro x hx
      rcases List.mem_append.1 hx with hx | hx
      · obtain ⟨t, cs, hb⟩ := ball x hx
        by_cases hxn : x = nv
        · subst hxn; exact ⟨_, _, b1.set_ 0 _⟩
        · exact ⟨t, cs, hb.chg hch hxn⟩
      · simp at hx
        subst hx
        exact ⟨_, _, b3.chg hch hne⟩)
  clear hmap hc1 hc1' b1 b2 b3 ball
  have hsub : IntKind.i64.wrap (n - m) = n - m := by rw [IntKind.wrap_i64]; omega
  have Hsub := Go.Lib.hid hsub
  clear hsub
  unfold yes at hup
  unfold ptr at hlk hup ⊢
  go_enter Try.func97, Try.ntmps97
  go_wp2_with fail
  set_option maxRecDepth 100000 in go_still_tail 7, (by kernel_rfl)
  rw [Hsub.out]
  go_wp2_with fail
  go_end0
  exact ⟨rfl, Hpost.out 1⟩
end
end Go.Proofs.Ytggknljlibhkjaa
