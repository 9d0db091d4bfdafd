/- What is proved: the contract of tree's is. Conditions: the library's variable holds a number. -/
import Derived.Test.YtnihjkcniddepaaBare
namespace Go.Proofs.Ytnihjkcniddepaa
open Go.RowKit
def boxN (w : World) (d : Own) (kA : Option Addr) (kn kc : Nat) : World := w.alloc (.cells #[.int .i64 d.kind, .string d.nm, .int .u32 d.val, .bool d.mark, .slice kA kn kc] 28)
/-- what a box of a node holds, in a later world -/
theorem box5 {w w1 : World} {a0 a1 a2 a3 a4 : Value} {T : TypeId} (hc : Chg NoB (w.alloc (.cells #[a0, a1, a2, a3, a4] T)) w1) :
    w1.cell? ⟨w.heap.size, 0, none⟩ = some a0 ∧ w1.cell? ⟨w.heap.size, 1, none⟩ = some a1 ∧ w1.cell? ⟨w.heap.size, 2, none⟩ = some a2 ∧ w1.cell? ⟨w.heap.size, 3, none⟩ = some a3 ∧ w1.cell? ⟨w.heap.size, 4, none⟩ = some a4 :=
  have hb : Blk (w.alloc (.cells #[a0, a1, a2, a3, a4] T)) w.heap.size T #[a0, a1, a2, a3, a4] := Blk.new _ _ _
  have hk := hb.chg hc id
  ⟨hk.cell 0, hk.cell 1, hk.cell 2, hk.cell 3, hk.cell 4⟩
def isT (d : Own) (kn : Nat) (k : Int) (parts : ByteArray) (kids : Int) : Bool :=
  (d.kind == k) && bareT d kn parts && (!hasP parts 78 || nameT d.nm) && (decide (kids < 0) || ((kn : Int) == kids))
theorem contains_c (s t : ByteArray) (hs : s.size < 100) (w : World) (hv : Var0 w) : Calls Try.prog 35 #[.string s, .string t] w fun e w' => e = .returned (.bool (Lib.contains s.data.toList t.data.toList)) ∧ w = w' := by
  obtain ⟨m, hm⟩ := hv
  exact (Try.strings_Contains s t m w (by omega) hm).mono fun e w' ⟨h1, h2⟩ => ⟨h1, h2.symm⟩
theorem mayName_c (n : ByteArray) (hn : n.size ≤ maxLen) (w : World) (hv : Var0 w) : Calls Try.prog 10 #[.string n] w fun e w' => e = .returned (.bool (nameT n)) ∧ Chg NoB w w' := by
  obtain ⟨m, hm⟩ := hv
  exact nameT_c n hn m w hm
set_option maxHeartbeats 400000 in
theorem is_no (d : Own) (kA : Option Addr) (kn kc : Nat) (k : Int) (hne : d.kind ≠ k) (parts : ByteArray) (kids : Int) (w : World) :
    Calls Try.prog 43 #[nodeV d kA kn kc, .int .i64 k, .string parts, .int .i64 kids] w fun e w' => e = .returned (.bool (isT d kn k parts kids)) ∧ Chg NoB w w' := by
  have hb : (d.kind == k) = false := by simpa using hne
  have H : Hid (isT d kn k parts kids = false) := Go.Lib.hid (by unfold isT; rw [hb]; rfl)
  clear hne
  unfold nodeV
  go_enter Try.func43, Try.ntmps43
  go_wp2_with fail
  go_ret
  exact ⟨by rw [H.out]; rfl, (Chg.refl _ _).alloc _⟩
set_option maxHeartbeats 1000000 in
theorem is_yes (d : Own) (hd : OwnOk d) (kA : Option Addr) (kn kc : Nat) (hk : kn ≤ maxLen) (parts : ByteArray) (hs : parts.size < 100) (kids : Int) (w : World) (hv : Var0 w) :
    Calls Try.prog 43 #[nodeV d kA kn kc, .int .i64 d.kind, .string parts, .int .i64 kids] w fun e w' => e = .returned (.bool (isT d kn d.kind parts kids)) ∧ Chg NoB w w' := by
  have hw0 : Chg NoB w (boxN w d kA kn kc) := (Chg.refl _ _).alloc _
  have h1 := bare_c d kA kn kc hk parts hs (boxN w d kA kn kc) (hv.chg hw0)
  have h2 : ∀ W, Chg NoB (boxN w d kA kn kc) W → Calls Try.prog 35 #[.string parts, .string ⟨#[78]⟩] W fun e w' => e = .returned (.bool (hasP parts 78)) ∧ W = w' := fun W hW => contains_c parts ⟨#[78]⟩ hs W (hv.chg (hw0.trans hW))
  have h3 : ∀ W, Chg NoB (boxN w d kA kn kc) W → Calls Try.prog 10 #[.string d.nm] W fun e w' => e = .returned (.bool (nameT d.nm)) ∧ Chg NoB W w' := fun W hW => mayName_c d.nm hd.2.1 W (hv.chg (hw0.trans hW))
  have H1 := Go.Lib.hid h1
  have H2 := Go.Lib.hid h2
  have H3 := Go.Lib.hid h3
  have H0 := Go.Lib.hid hw0
  clear h1 h2 h3 hw0 hs hv hd
  unfold maxLen at hk
  unfold nodeV at H1 ⊢
  unfold boxN at H0 H1 H2 H3
  go_enter Try.func43, Try.ntmps43
  go_wp2_with (first
    | (go_at_call 38
       refine H1.out.mono ?_
       rintro e w1 ⟨rfl, hc1⟩
       obtain ⟨hb0, hb1, hb2, hb3, hb4⟩ := box5 hc1
       have HC1 := Go.Lib.hid hc1
       clear hc1)
    | (go_at_call 35
       refine (H2.out _ HC1.out).mono ?_
       rintro e w1 ⟨rfl, rfl⟩)
    | (go_at_call 10
       refine (H3.out _ HC1.out).mono ?_
       rintro e w2 ⟨rfl, hc2⟩
       obtain ⟨hb0, hb1, hb2, hb3, hb4⟩ := box5 (HC1.out.trans hc2)
       have HC2 := Go.Lib.hid (HC1.out.trans hc2)
       clear hc2))
  all_goals
    go_ret
    refine ⟨congrArg (fun b => Ending.returned (.bool b)) (by simp [isT, *]), ?_⟩
    first | exact H0.out.trans HC2.out | exact H0.out.trans HC1.out
theorem is_c (d : Own) (hd : OwnOk d) (kA : Option Addr) (kn kc : Nat) (hk : kn ≤ maxLen) (k : Int) (parts : ByteArray) (hs : parts.size < 100) (kids : Int) (w : World) (hv : Var0 w) :
    Calls Try.prog 43 #[nodeV d kA kn kc, .int .i64 k, .string parts, .int .i64 kids] w fun e w' => e = .returned (.bool (isT d kn k parts kids)) ∧ Chg NoB w w' := by
  by_cases h : d.kind = k
  · rw [← h]
    exact is_yes d hd kA kn kc hk parts hs kids w hv
  · exact is_no d kA kn kc k h parts kids w
end Go.Proofs.Ytnihjkcniddepaa
