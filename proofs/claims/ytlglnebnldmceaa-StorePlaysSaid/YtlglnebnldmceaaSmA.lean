/- What is proved: contracts of slices.Equal over bytes, and of Same's inner function. Conditions: rows that lie in memory. -/
import Derived.Test.YtlglnebnldmceaaGCp
set_option linter.unusedSimpArgs false
set_option linter.unusedVariables false
namespace Go.Proofs.Ytlglnebnldmceaa
open Go.RowKit
section
variable {l m : List UInt8} {A B : Option Addr} {c d : Nat} {w : World}
theorem u8_ne {a b : UInt8} (h : a ≠ b) : (((a.toNat : Int)) != (b.toNat : Int)) = true := by
  have : a.toNat ≠ b.toNat := fun e => h (UInt8.toNat_inj.1 e)
  simp; omega
set_option maxHeartbeats 1000000 in
theorem equal_c (hl : l.length ≤ 140737488355328) (h1 : CellsAt w A (bv l)) (h2 : CellsAt w B (bv m)) :
    Calls Try.prog 56 #[.slice A l.length c, .slice B m.length d] w fun e w' => e = .returned (.bool (decide (l = m))) ∧ Chg NoB w w' := by
  have H1 := Go.Lib.hid h1
  have H2 := Go.Lib.hid h2
  clear h1 h2
  by_cases hn : l.length = m.length
  · have Hn := Go.Lib.hid hn
    have HL := Go.Lib.hid hl
    rw [← hn]
    clear hn
    go_enter Try.func56, Try.ntmps56
    go_wp2_with fail
    go_loopw [13] (fun i wr => ∃ k : Nat, k ≤ l.length ∧ i = .int .i64 k ∧ l.take k = m.take k ∧ Chg NoB w wr) (fun i _ => l.length - (intOf i).toNat)
    case atStart => exact ⟨0, Nat.zero_le _, rfl, rfl, Chg.refl _ _⟩
    case round =>
      obtain ⟨k, hk, rfl, heq, hch⟩ := hrel
      have Heq := Go.Lib.hid heq
      have Hch := Go.Lib.hid hch
      by_cases hlt : k < l.length
      · have hltm : k < m.length := by have := Hn.out; omega
        obtain ⟨ad1, rfl, g1⟩ := (H1.out.chg hch (fun _ _ => id)).head hlt
        obtain ⟨ad2, rfl, g2⟩ := (H2.out.chg hch (fun _ _ => id)).head hltm
        have Hs : Hid (l.take (k + 1) = l.take k ++ [l[k]] ∧ m.take (k + 1) = m.take k ++ [m[k]]) := Go.Lib.hid ⟨List.take_succ_eq_append_getElem hlt, List.take_succ_eq_append_getElem hltm⟩
        have Hne : Hid (l[k] ≠ m[k] → l ≠ m) := Go.Lib.hid fun hne he => by subst he; exact hne rfl
        have hltN := hlt
        clear heq hch
        generalize l[k] = a at *
        generalize m[k] = b at *
        clear hltm
        by_cases hab : a = b
        · subst hab
          have hz : (((a.toNat : Int)) != (a.toNat : Int)) = false := by simp
          go_wp2_with fail
          go_quiet (fail)
          go_wp2_with fail
          go_roundw
          case rel => exact ⟨k + 1, by omega, by have := HL.out; go_num, by rw [Hs.out.1, Hs.out.2, Heq.out], Hch.out.drewN _⟩
          case measure => have := HL.out; simp [intOf]; omega
        · have hz := u8_ne hab
          have HN := Go.Lib.hid (Hne.out hab)
          go_wp2_with fail
          go_quiet (fail)
          go_wp2_with fail
          go_ret
          exact ⟨by rw [decide_eq_false HN.out]; rfl, Hch.out.drewN _⟩
      · obtain rfl : k = l.length := by omega
        have He : Hid (l = m) := Go.Lib.hid (by rw [List.take_length] at heq; rw [heq, Hn.out, List.take_length])
        clear heq hch
        go_wp2_with fail
        go_ret
        exact ⟨by rw [decide_eq_true He.out]; rfl, Hch.out⟩
  · have d1 : ((l.length : Int) != (m.length : Int)) = true := by simp; omega
    have HN : Hid (l ≠ m) := Go.Lib.hid fun e => hn (by rw [e])
    clear hn hl
    go_enter Try.func56, Try.ntmps56
    go_wp2_with fail
    go_ret
    exact ⟨by rw [decide_eq_false HN.out]; rfl, Chg.refl _ _⟩
end
section
variable {w : World} {f g : Nat} {x y : Fl} {b1 b2 : Nat}
/-- two files' bytes are the same -/
theorem sameFiles_c (hf : Blk w f 74 #[x.v]) (hg : Blk w g 74 #[y.v]) (ox : w.ownsRow b1 5 1 x.v x.b.length (bv x.b)) (oy : w.ownsRow b2 5 1 y.v y.b.length (bv y.b)) (hl : x.b.length ≤ 140737488355328) :
    Calls Try.prog 55 #[ptr f, ptr g] w fun e w' => e = .returned (.bool (decide (x.b = y.b))) ∧ Chg NoB w w' := by
  have H := Go.Lib.hid (fun (W : World) (hW : Chg NoB w W) => equal_c (c := x.c) (d := y.c) hl ((CellsAt.of_own ox).chg hW (fun _ _ => id)) ((CellsAt.of_own oy).chg hW (fun _ _ => id)))
  have c1 : w.cell? ⟨f, 0, none⟩ = some (.slice x.A x.b.length x.c) := hf.cell 0
  have c2 : w.cell? ⟨g, 0, none⟩ = some (.slice y.A y.b.length y.c) := hg.cell 0
  have Hk : Hid (∀ W, Chg NoB w W → W.cell? ⟨f, 0, none⟩ = some (.slice x.A x.b.length x.c) ∧ W.cell? ⟨g, 0, none⟩ = some (.slice y.A y.b.length y.c)) := Go.Lib.hid fun W hW => ⟨(hf.chg hW id).cell 0, (hg.chg hW id).cell 0⟩
  clear hf hg ox oy hl
  unfold ptr
  go_enter Try.func55, Try.ntmps55
  go_wp2_with fail
  go_region_held3 (fun W' => W'.cell? ⟨f, 0, none⟩ = some (.slice x.A x.b.length x.c) ∧ W'.cell? ⟨g, 0, none⟩ = some (.slice y.A y.b.length y.c))
    (first
      | exact Hk.out _ (Chg.refl _ _).drew
      | exact Hk.out _ ((Chg.refl NoB w).drew.trans hc))
    (first
      | (go_at_call 56; refine (H.out _ (Chg.refl NoB w).drew).mono ?_; rintro e w4 ⟨rfl, hc⟩))
  have HC := Go.Lib.hid ((Chg.refl NoB w).drew.trans hc)
  clear hc
  go_wp2_with fail
  go_ret
  exact ⟨rfl, HC.out⟩
end
end Go.Proofs.Ytlglnebnldmceaa
