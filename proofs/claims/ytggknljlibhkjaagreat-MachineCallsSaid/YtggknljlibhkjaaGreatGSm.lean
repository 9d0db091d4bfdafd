import Derived.Test.YtggknljlibhkjaaGreatGCp
set_option linter.unusedSimpArgs false
set_option linter.unusedVariables false
namespace Go.Proofs.YtggknljlibhkjaaGreat
open Go.RowKit
section
variable {l m : List UInt8} {A B : Option Addr} {c d : Nat} {w : World}
theorem u8_ne {a b : UInt8} (h : a ≠ b) : (((a.toNat : Int)) != (b.toNat : Int)) = true := by
 have : a.toNat ≠ b.toNat := fun e => h (UInt8.toNat_inj.1 e)
 simp; omega
set_option maxHeartbeats 1000000 in
theorem equal_c (hl : l.length ≤ 140737488355328) (h1 : CellsAt w A (bv l)) (h2 : CellsAt w B (bv m)) :
  Calls Tryz.prog 57 #[.slice A l.length c, .slice B m.length d] w fun e w' => e = .returned (.bool (decide (l = m))) ∧ Chg NoB w w' := by
 have H1 := Go.Lib.hid h1
 have H2 := Go.Lib.hid h2
 clear h1 h2
 by_cases hn : l.length = m.length
 ·have Hn := Go.Lib.hid hn
  have HL := Go.Lib.hid hl
  rw [← hn]
  clear hn
  go_enter Tryz.func57, Tryz.ntmps57
  go_wp2_with fail
  go_loopw [13] (fun i wr => ∃ k : Nat, k ≤ l.length ∧ i = .int .i64 k ∧ l.take k = m.take k ∧ Chg NoB w wr) (fun i _ => l.length - (intOf i).toNat)
  case atStart => exact ⟨0, Nat.zero_le _, rfl, rfl, Chg.refl _ _⟩
  case round =>
   obtain ⟨k, hk, rfl, heq, hch⟩ := hrel
   have Heq := Go.Lib.hid heq
   have Hch := Go.Lib.hid hch
   by_cases hlt : k < l.length
   ·have hltm : k < m.length := by have := Hn.out; omega
    obtain ⟨ad1, rfl, g1⟩ := (H1.out.chg hch (fun _ _ => id)).head hlt
    obtain ⟨ad2, rfl, g2⟩ := (H2.out.chg hch (fun _ _ => id)).head hltm
    have Hs : Hid (l.take (k + 1) = l.take k ++ [l[k]] ∧ m.take (k + 1) = m.take k ++ [m[k]]) := Go.Lib.hid ⟨List.take_succ_eq_append_getElem hlt, List.take_succ_eq_append_getElem hltm⟩
    have Hne : Hid (l[k] ≠ m[k] → l ≠ m) := Go.Lib.hid fun hne he => by subst he; exact hne rfl
    have hltN := hlt
    clear heq hch
    generalize l[k] = a at *
    generalize m[k] = b at *
    clear hltm
    by_cases hab : a = b
    ·subst hab
     have hz : (((a.toNat : Int)) != (a.toNat : Int)) = false := by simp
     go_wp2_with fail
     go_quiet (fail)
     go_wp2_with fail
     go_roundw
     case rel => exact ⟨k + 1, by omega, by have := HL.out; go_num, by rw [Hs.out.1, Hs.out.2, Heq.out], Hch.out.drewN _⟩
     case measure => have := HL.out; simp [intOf]; omega
    ·have hz := u8_ne hab
     have HN := Go.Lib.hid (Hne.out hab)
     go_wp2_with fail
     go_quiet (fail)
     go_wp2_with fail
     go_ret
     exact ⟨by rw [decide_eq_false HN.out]; rfl, Hch.out.drewN _⟩
   ·obtain rfl : k = l.length := by omega
    have He : Hid (l = m) := Go.Lib.hid (by rw [List.take_length] at heq; rw [heq, Hn.out, List.take_length])
    clear heq hch
    go_wp2_with fail
    go_ret
    exact ⟨by rw [decide_eq_true He.out]; rfl, Hch.out⟩
 ·have d1 : ((l.length : Int) != (m.length : Int)) = true := by simp; omega
  have HN : Hid (l ≠ m) := Go.Lib.hid fun e => hn (by rw [e])
  clear hn hl
  go_enter Tryz.func57, Tryz.ntmps57
  go_wp2_with fail
  go_ret
  exact ⟨by rw [decide_eq_false HN.out]; rfl, Chg.refl _ _⟩
end
section
variable {w : World} {f g : Nat} {x y : Fl} {b1 b2 : Nat}
theorem sameFiles_c (hf : Blk w f 96 #[x.v]) (hg : Blk w g 96 #[y.v]) (ox : w.ownsRow b1 5 1 x.v x.b.length (bv x.b)) (oy : w.ownsRow b2 5 1 y.v y.b.length (bv y.b)) (hl : x.b.length ≤ 140737488355328) :
  Calls Tryz.prog 56 #[ptr f, ptr g] w fun e w' => e = .returned (.bool (decide (x.b = y.b))) ∧ Chg NoB w w' := by
 have H := Go.Lib.hid (fun (W : World) (hW : Chg NoB w W) => equal_c (c := x.c) (d := y.c) hl ((CellsAt.of_own ox).chg hW (fun _ _ => id)) ((CellsAt.of_own oy).chg hW (fun _ _ => id)))
 have c1 : w.cell? ⟨f, 0, none⟩ = some (.slice x.A x.b.length x.c) := hf.cell 0
 have c2 : w.cell? ⟨g, 0, none⟩ = some (.slice y.A y.b.length y.c) := hg.cell 0
 have Hk : Hid (∀ W, Chg NoB w W → W.cell? ⟨f, 0, none⟩ = some (.slice x.A x.b.length x.c) ∧ W.cell? ⟨g, 0, none⟩ = some (.slice y.A y.b.length y.c)) := Go.Lib.hid fun W hW => ⟨(hf.chg hW id).cell 0, (hg.chg hW id).cell 0⟩
 clear hf hg ox oy hl
 unfold ptr
 go_enter Tryz.func56, Tryz.ntmps56
 go_wp2_with fail
 go_region_held3 (fun W' => W'.cell? ⟨f, 0, none⟩ = some (.slice x.A x.b.length x.c) ∧ W'.cell? ⟨g, 0, none⟩ = some (.slice y.A y.b.length y.c))
  (first
   | exact Hk.out _ (Chg.refl _ _).drew
   | exact Hk.out _ ((Chg.refl NoB w).drew.trans hc))
  (first
   | (go_at_call 57; refine (H.out _ (Chg.refl NoB w).drew).mono ?_; rintro e w4 ⟨rfl, hc⟩))
 have HC := Go.Lib.hid ((Chg.refl NoB w).drew.trans hc)
 clear hc
 go_wp2_with fail
 go_ret
 exact ⟨rfl, HC.out⟩
end
end Go.Proofs.YtggknljlibhkjaaGreat
set_option linter.unusedSimpArgs false
set_option linter.unusedVariables false
namespace Go.Proofs.YtggknljlibhkjaaGreat
open Go.RowKit
section
variable {P : Program} {w : World} {m : Nat} {t k e : TypeId} {l : List (ByteArray × Value)}
theorem run_lookup_str_ok (ht : P.underlying t = some (.map k e)) (hk : P.underlying k = some .string) {z : Value} (hz : (zeroValue e).run P w = .ok z w)
  (h : MapIs w m (strs l)) (s : ByteArray) : (Instr.lookup t (.map (some m)) (.string s) true).run P w = .ok (.tuple #[(lookS s l).getD z, .bool (lookS s l).isSome]) w := by
 obtain ⟨es, clock, hm, hkv, _⟩ := h
 have hc : (Instr.checkKey es.isEmpty 10000 k (.string s)).run P w = .ok () w := MapKept.run_checkKey hk (isKey_str s) _ 9999
 rcases findNow_str s es.toList l 0 hkv with ⟨r1, r2, _⟩ | ⟨j, v, r1, r2, _⟩
 ·simp [Instr.lookup, run_underlying ht, MapKept.run_getObj_map hm, hc, MapKept.run_findKey hk r1, hz, Result.andThen, r2]
 ·simp [Instr.lookup, run_underlying ht, MapKept.run_getObj_map hm, hc, MapKept.run_findKey hk r1, Result.andThen, r2]
end
def Sto.bytesOf (S : Sto) (f : Nat) : List UInt8 := ((S.fl f).map (·.b)).getD []
def Sto.has (T : Sto) (n : ByteArray) (b : List UInt8) : Bool :=
 match lookD n T.dir with
 | none => false
 | some g => decide (b = T.bytesOf g)
def Sto.same (S T : Sto) : Bool := decide (S.dir.length = T.dir.length) && S.dir.all fun e => T.has e.1 (S.bytesOf e.2)
section
variable {b1 b2 : Nat} {w : World} {s o : Nat} {S T : Sto}
theorem Sto.same_of {S T : Sto} (hl : S.dir.length = T.dir.length) (h : ∀ e ∈ S.dir, T.has e.1 (S.bytesOf e.2) = true) : S.same T = true := by
 unfold Sto.same
 simp only [hl, decide_true, Bool.true_and, List.all_eq_true]
 exact h
theorem Sto.same_no {S T : Sto} {e : ByteArray × Nat} (he : e ∈ S.dir) (h : T.has e.1 (S.bytesOf e.2) = false) : S.same T = false := by
 unfold Sto.same
 have : (S.dir.all fun e => T.has e.1 (S.bytesOf e.2)) = false := List.all_eq_false.2 ⟨e, he, by rw [h]; simp⟩
 rw [this, Bool.and_false]
def SmRel (S T : Sto) (w wr : World) (it : Nat) : Prop :=
 ∃ left, IterIs wr it S.mb (strs (S.dir.map fun e => (e.1, ptr e.2))) left ∧ Chg NoB w wr ∧ ∀ e ∈ S.dir, T.has e.1 (S.bytesOf e.2) = true ∨ (.string e.1, ptr e.2) ∈ left
set_option maxHeartbeats 1000000 in
theorem equalFunc_c (h : StoreAt b1 w s S) (h2 : StoreAt b2 w o T) :
  Calls Tryz.prog 55 #[.map (some S.mb), .map (some T.mb), .func (.func 56) #[] #[]] w (Quiet (.bool (S.same T)) w) := by
 have hln1 := run_len_files h
 have hln2 := run_len_files h2
 have H := Go.Lib.hid h
 have H2 := Go.Lib.hid h2
 clear h h2
 by_cases hl : S.dir.length = T.dir.length
 ·have HL := Go.Lib.hid hl
  rw [← hl] at hln2
  clear hl
  go_enter Tryz.func55, Tryz.ntmps55
  go_wp2_with (at_range; refine wpList_range_is _ rfl _ _ rfl 9 93 Tryz.underlying98 S.mb _ rfl H.out.map ?_; intro w1 hit1 hch1 hsz1)
  have Hr1 : Hid (SmRel S T w w1 w.heap.size) := Go.Lib.hid ⟨_, hit1, hch1, fun e he => .inr (List.mem_map.2 ⟨(e.1, ptr e.2), List.mem_map.2 ⟨e, he, rfl⟩, rfl⟩)⟩
  clear hit1 hch1 hsz1 hln1 hln2
  go_frame
  go_loopw [7] (fun _ wr => SmRel S T w wr w.heap.size) (fun _ wr => leftN wr w.heap.size)
  case atStart => exact Hr1.out
  case round =>
   obtain ⟨left, hit, hcw, hall⟩ := hrel
   have Hit := Go.Lib.hid hit
   have Hcw := Go.Lib.hid hcw
   have Hall := Go.Lib.hid hall
   clear hit hcw hall Hr1
   go_wp2_with (at_next; refine wpList_next_is _ rfl _ rfl _ _ _ _ rfl Hit.out ?_ ?_)
   ·intro h0
    have Hs : Hid (S.same T = true) := Go.Lib.hid (Sto.same_of HL.out fun e he => (Hall.out e he).elim id fun h => by subst h0; cases h)
    clear h0
    go_wp2_with fail
    go_ret
    exact ⟨by rw [Hs.out]; rfl, Hcw.out⟩
   ·intro x y left' w2 hxl hp hit' hch hsz hen
    obtain ⟨e, he, hx, hy⟩ : ∃ e ∈ S.dir, x = .string e.1 ∧ y = ptr e.2 := by
     obtain ⟨z, hz, hzz⟩ := List.mem_map.1 hxl
     obtain ⟨e, he, rfl⟩ := List.mem_map.1 hz
     injection hzz with h1 h2
     exact ⟨e, he, h1.symm, h2.symm⟩
    subst hx hy
    have hcw2 : Chg NoB w w2 := Hcw.out.step hch fun k hk (e : k = _) => by omega
    have hlk := run_lookup_str_ok (P := Tryz.prog) Tryz.underlying98 Tryz.underlying9 (filezero w2) (H2.out.chg hcw2 (fun _ _ => id)).map e.1
    rw [lookS_dir] at hlk
    have Hcw2 := Go.Lib.hid hcw2
    have HitN := Go.Lib.hid hit'
    have Hmeas := Go.Lib.hid (And.intro Hit.out.leftN hp.length_eq)
    have HallN : Hid (T.has e.1 (S.bytesOf e.2) = true → ∀ e ∈ S.dir, T.has e.1 (S.bytesOf e.2) = true ∨ (.string e.1, ptr e.2) ∈ left') := Go.Lib.hid fun ht e' he' => by
     rcases Hall.out e' he' with h | h
     ·exact .inl h
     ·rcases List.mem_cons.1 (hp.subset h) with h | h
      ·injection h with h3 h4
       injection h3 with h3
       injection h4 with h4
       injection h4 with h4
       injection h4 with h4
       obtain rfl : e' = e := by cases e'; cases e; simp_all
       exact .inl ht
      ·exact .inr h
    obtain ⟨xf, hxf⟩ := H.out.dirf e he
    have Hno := Go.Lib.hid (fun hn => Sto.same_no (S := S) (T := T) he hn)
    unfold ptr at hen
    cases hlD : lookD e.1 T.dir with
    | none =>
     rw [hlD] at hlk
     simp only [Option.map_none, Option.getD_none, Option.isSome_none] at hlk
     have Hs := Go.Lib.hid (Hno.out (by unfold Sto.has; rw [hlD]))
     clear hxl hp hit' hch hsz hcw2 Hno HallN Hmeas HitN Hall he hxf
     go_wp2_with fail
     go_ret
     exact ⟨by rw [Hs.out]; rfl, Hcw2.out⟩
    | some g =>
     rw [hlD] at hlk
     simp only [Option.map_some, Option.getD_some, Option.isSome_some] at hlk
     obtain ⟨xg, hxg⟩ := H2.out.dirf _ (lookD_mem hlD)
     have hh : e.2 ∈ S.held := by unfold Sto.held; exact List.mem_append.2 (.inl (List.mem_map.2 ⟨e, he, rfl⟩))
     have hlen : xf.b.length ≤ 140737488355328 := by
      have h1 := H.out.len_le hh
      have h2 : S.len e.2 = xf.b.length := by simp [Sto.len, hxf]
      have h3 := H.out.small
      omega
     have hS := H.out.chg hcw2 (fun _ _ => id)
     have hT := H2.out.chg hcw2 (fun _ _ => id)
     have Hc := Go.Lib.hid (sameFiles_c (hS.flb _ _ hxf) (hT.flb _ _ hxg) (hS.flo _ _ hxf) (hT.flo _ _ hxg) hlen)
     have hhas : T.has e.1 (S.bytesOf e.2) = decide (xf.b = xg.b) := by
      unfold Sto.has Sto.bytesOf
      rw [hlD, hxf]
      simp only [hxg, Option.map_some, Option.getD_some]
     have Hhas := Go.Lib.hid hhas
     clear hxl hp hit' hch hsz hcw2 Hall he hxf hxg hh hlen hS hT hlD hhas
     unfold ptr at hlk Hc
     by_cases hb : xf.b = xg.b
     ·have hd : decide (xf.b = xg.b) = true := decide_eq_true hb
      rw [hd] at Hc Hhas
      clear hd hb Hno
      go_wp2_with fail
      refine Hc.out.mono ?_
      rintro e3 w3 ⟨rfl, hc3⟩
      have Hr3 : Hid (SmRel S T w w3 w.heap.size) := Go.Lib.hid ⟨left', HitN.out.chg hc3 id id, Hcw2.out.trans hc3, HallN.out Hhas.out⟩
      have Hm3 : Hid (leftN w3 w.heap.size < leftN wr w.heap.size) := Go.Lib.hid (by
       rw [(HitN.out.chg hc3 id id).leftN, Hmeas.out.1, Hmeas.out.2]
       simp)
      clear hc3
      go_wp2_with fail
      go_roundw
      case rel =>
       repeat apply Exists.intro
       exact ⟨Hr3.out, rfl⟩
      case measure => exact Hm3.out
     ·have hd : decide (xf.b = xg.b) = false := decide_eq_false hb
      rw [hd] at Hc Hhas
      have Hs := Go.Lib.hid (Hno.out Hhas.out)
      clear hd hb Hno HallN
      go_wp2_with fail
      refine Hc.out.mono ?_
      rintro e3 w3 ⟨rfl, hc3⟩
      have HC := Go.Lib.hid (Hcw2.out.trans hc3)
      clear hc3
      go_wp2_with fail
      go_ret
      exact ⟨by rw [Hs.out]; rfl, HC.out⟩
 ·have d1 : ((S.dir.length : Int) != (T.dir.length : Int)) = true := by simp; omega
  have Hs : Hid (S.same T = false) := Go.Lib.hid (by unfold Sto.same; rw [decide_eq_false hl, Bool.false_and])
  clear hl
  go_enter Tryz.func55, Tryz.ntmps55
  go_wp2_with fail
  go_ret
  exact ⟨by rw [Hs.out]; rfl, Chg.refl _ _⟩
theorem same_c (h : StoreAt b1 w s S) (h2 : StoreAt b2 w o T) : Calls Tryz.prog 18 #[ptr s, ptr o] w (Quiet (.bool (S.same T)) w) := by
 have Hth := Go.Lib.hid (there_c h)
 have Hth2 := Go.Lib.hid (there_c h2)
 have c0 := h.cell0
 have c1 := h2.cell0
 have Hk : Hid (∀ W, Chg NoB w W → W.cell? ⟨s, 0, none⟩ = some (.map (some S.mb)) ∧ W.cell? ⟨o, 0, none⟩ = some (.map (some T.mb))) := Go.Lib.hid fun W hW => ⟨(h.blk.chg hW id).cell 0, (h2.blk.chg hW id).cell 0⟩
 have HE := Go.Lib.hid (fun (W : World) (hW : Chg NoB w W) => equalFunc_c (h.chg hW (fun _ _ => id)) (h2.chg hW (fun _ _ => id)))
 clear h h2
 unfold ptr at Hth Hth2 ⊢
 go_enter Tryz.func18, Tryz.ntmps18
 go_wp2_with fail
 refine Hth.out.mono ?_
 rintro e w' ⟨rfl, rfl⟩
 go_wp2_with fail
 refine Hth2.out.mono ?_
 rintro e w' ⟨rfl, rfl⟩
 go_wp2_with fail
 go_region_held3 (fun W' => W'.cell? ⟨s, 0, none⟩ = some (.map (some S.mb)) ∧ W'.cell? ⟨o, 0, none⟩ = some (.map (some T.mb)))
  (first
   | exact Hk.out _ (Chg.refl _ _).drew
   | exact Hk.out _ ((Chg.refl NoB w).drew.trans hc))
  (first
   | (go_at_call 55; refine (HE.out _ (Chg.refl NoB w).drew).mono ?_; rintro e w4 ⟨rfl, hc⟩))
 have HC := Go.Lib.hid ((Chg.refl NoB w).drew.trans hc)
 clear hc
 go_wp2_with fail
 go_ret
 exact ⟨rfl, HC.out⟩
end
end Go.Proofs.YtggknljlibhkjaaGreat
