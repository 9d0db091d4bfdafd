/- What is proved: the contract of noVar. Conditions: none. -/
import Derived.Test.YtholeloedihkoaaVaE
import Derived.Test.YtholeloedihkoaaVaF
namespace Go.Proofs.Ytholeloedihkoaa
open Go.RowKit
section
variable {w w' : World}
set_option maxHeartbeats 2000000 in
set_option maxRecDepth 100000 in
theorem noVar_c {v : Value} (h : NoV w v) : Calls Try.prog 34 #[v] w (Quiet (.bool true) w) := by
  have HE := Go.Lib.hid (elem_no h 0)
  have HF := Go.Lib.hid (field_no h ⟨#[97]⟩)
  have HG := Go.Lib.hid (get_no h)
  have HH := Go.Lib.hid h
  have HN := Go.Lib.hid (fun W => num_c 1 (w := W))
  clear h
  go_enter Try.func34, Try.ntmps34
  go_wp2_with fail
  refine HE.out.mono ?_
  rintro e w1 ⟨rfl, rfl⟩
  go_wp2_with fail
  refine HF.out.mono ?_
  rintro e w1 ⟨rfl, rfl⟩
  go_wp2_with fail
  refine HG.out.mono ?_
  rintro e w1 ⟨rfl, hc1⟩
  have HC := Go.Lib.hid hc1
  clear hc1 HE HF HG
  go_wp2_with fail
  refine (HN.out _).mono ?_
  rintro e w2 ⟨rfl, rfl⟩
  go_wp2_with fail
  refine (HN.out _).mono ?_
  rintro e w2 ⟨rfl, rfl⟩
  go_wp2_with fail
  refine (HN.out _).mono ?_
  rintro e w2 ⟨rfl, rfl⟩
  go_wp2_with fail
  refine (set_no (HH.out.quiet (HC.out.alloc _)) 0 none).mono ?_
  rintro e w2 ⟨rfl, hc2⟩
  have HC2 := Go.Lib.hid ((HC.out.alloc _).trans hc2)
  clear hc2
  go_wp2_with fail
  refine (HN.out _).mono ?_
  rintro e w3 ⟨rfl, rfl⟩
  go_wp2_with fail
  refine (type_no (HH.out.quiet HC2.out)).mono ?_
  rintro e w3 ⟨rfl, rfl⟩
  go_wp2_with fail
  refine (bytes_no (HH.out.quiet HC2.out)).mono ?_
  rintro e w3 ⟨rfl, rfl⟩
  go_wp2_with fail
  go_ret
  exact ⟨rfl, HC2.out⟩
end
end Go.Proofs.Ytholeloedihkoaa
