/- What is proved: the walk of the law TreeWords. Conditions: the library's variable holds a number. -/
import Derived.Test.YtnihjkcniddepaaOpen
import Derived.Test.YtnihjkcniddepaaRefName2
namespace Go.Proofs.Ytnihjkcniddepaa
open Go.RowKit
set_option maxHeartbeats 400000 in
theorem treeWords_walk (s : ByteArray) (hs : s.size ≤ maxLen) (w : World) (hv : Var0 w) : Calls Try.prog 3 #[.string s] w fun e w' => e = .returned (.bool true) ∧ Chg NoB w w' := by
  have Hv := Go.Lib.hid hv
  have Hs := Go.Lib.hid hs
  unfold maxLen at hs
  clear hv
  by_cases h9 : 9000 < s.size
  · have h9' : decide ((9000 : Int) < s.size) = true := by simp; omega
    go_enter Try.func3, Try.ntmps3
    go_wp2_with fail
    refine (known_c w Hv.out).mono ?_
    rintro e w1 ⟨rfl, h1⟩
    go_wp2_with fail
    go_ret
    exact ⟨rfl, h1⟩
  · have h9' : decide ((9000 : Int) < s.size) = false := by simp; omega
    go_enter Try.func3, Try.ntmps3
    go_wp2_with fail
    refine (mayName_c s Hs.out w Hv.out).mono ?_
    rintro e w1 ⟨rfl, h1⟩
    have H1 := Go.Lib.hid h1
    clear h1
    go_wp2_with fail
    refine (refNameT_c s Hs.out w1).mono ?_
    rintro e w2 ⟨rfl, h2⟩
    have H2 := Go.Lib.hid (H1.out.trans h2)
    clear h2 
    have Hk : Hid (∀ W, Chg NoB w W → Calls Try.prog 12 #[.string s] W fun e w' => e = .returned (.bool (isKey s)) ∧ W = w') := Go.Lib.hid fun W hW => by
      obtain ⟨m, hm⟩ := Hv.out.chg hW
      exact (keyword_c s (by omega) m W hm).mono fun e w' h => ⟨h.1, h.2.symm⟩
    go_wp2_with fail
    refine (Hk.out _ H2.out).mono ?_
    rintro e w3 ⟨rfl, rfl⟩
    go_wp2_with fail
    refine (refKeyword_c s _).mono ?_
    rintro e w3 ⟨rfl, h3⟩
    have H3 := Go.Lib.hid (H2.out.trans h3)
    clear h3
    go_wp2_with fail
    refine (known_c _ (Hv.out.chg H3.out)).mono ?_
    rintro e w4 ⟨rfl, h4⟩
    go_wp2_with fail
    go_ret
    exact ⟨rfl, H3.out.trans h4⟩
end Go.Proofs.Ytnihjkcniddepaa
