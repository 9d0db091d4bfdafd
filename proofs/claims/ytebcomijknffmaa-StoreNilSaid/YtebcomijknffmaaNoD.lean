/- What is proved: nothing is true of a store that is not there. Conditions: as the theorem says. -/
import Derived.Test.YtebcomijknffmaaNoC
namespace Go.Proofs.Ytebcomijknffmaa
open Go.RowKit
section
variable {w : World} {sv : Value}
set_option maxHeartbeats 4000000 in
theorem nothing_c (h : Gone w sv) : Calls Try.prog 38 #[sv] w (Quiet (.bool true) w) := by
  have G0 := Go.Lib.hid h
  have C0 : Hid (Chg NoB w w) := Go.Lib.hid (Chg.refl _ _)
  have N := Go.Lib.hid num_c
  clear h
  go_enter Try.func38, Try.ntmps38
  go_wp2_with fail
  refine (no_Seek G0.out 1 1).mono ?_
  rintro e w1 ⟨rfl, h1⟩
  have G1 := Go.Lib.hid (G0.out.quiet h1)
  have C1 := Go.Lib.hid (C0.out.trans h1)
  clear h1 G0 C0
  go_wp2_with fail
  refine (no_Delete G1.out _).mono ?_
  rintro e w2 ⟨rfl, h1⟩
  have G2 := Go.Lib.hid (G1.out.quiet h1)
  have C2 := Go.Lib.hid (C1.out.trans h1)
  clear h1 G1 C1
  go_wp2_with fail
  refine (no_Get G2.out _).mono ?_
  rintro e w3 ⟨rfl, h1⟩
  have G3 := Go.Lib.hid (G2.out.quiet h1)
  have C3 := Go.Lib.hid (C2.out.trans h1)
  clear h1 G2 C2
  go_wp2_with fail
  refine (no_Old G3.out _).mono ?_
  rintro e w4 ⟨rfl, h1⟩
  have G4 := Go.Lib.hid (G3.out.quiet h1)
  have C4 := Go.Lib.hid (C3.out.trans h1)
  clear h1 G3 C3
  go_wp2_with fail
  refine (no_Fresh G4.out _).mono ?_
  rintro e w5 ⟨rfl, h1⟩
  have G5 := Go.Lib.hid (G4.out.quiet h1)
  have C5 := Go.Lib.hid (C4.out.trans h1)
  clear h1 G4 C4
  go_wp2_with fail
  refine (no_EOF G5.out 1).mono ?_
  rintro e w6 ⟨rfl, h1⟩
  have G6 := Go.Lib.hid (G5.out.quiet h1)
  have C6 := Go.Lib.hid (C5.out.trans h1)
  clear h1 G5 C5
  go_wp2_with fail
  refine (no_Length G6.out 1).mono ?_
  rintro e w7 ⟨rfl, h1⟩
  have G7 := Go.Lib.hid (G6.out.quiet h1)
  have C7 := Go.Lib.hid (C6.out.trans h1)
  clear h1 G6 C6
  go_wp2_with fail
  refine (no_At G7.out 1).mono ?_
  rintro e w8 ⟨rfl, h1⟩
  have G8 := Go.Lib.hid (G7.out.quiet h1)
  have C8 := Go.Lib.hid (C7.out.trans h1)
  clear h1 G7 C7
  go_wp2_with fail
  refine (no_Riders G8.out).mono ?_
  rintro e w9 ⟨rfl, h1⟩
  have G9 := Go.Lib.hid (G8.out.quiet h1)
  have C9 := Go.Lib.hid (C8.out.trans h1)
  clear h1 G8 C8
  go_wp2_with fail
  refine (no_Room G9.out).mono ?_
  rintro e w10 ⟨rfl, h1⟩
  have G10 := Go.Lib.hid (G9.out.quiet h1)
  have C10 := Go.Lib.hid (C9.out.trans h1)
  clear h1 G9 C9
  go_wp2_with fail
  refine (no_Read G10.out 1).mono ?_
  rintro e w11 ⟨rfl, h1⟩
  have G11 := Go.Lib.hid (G10.out.quiet h1)
  have C11 := Go.Lib.hid (C10.out.trans h1)
  clear h1 G10 C10
  go_wp2_with fail
  refine (no_ReadWord G11.out 1).mono ?_
  rintro e w12 ⟨rfl, h1⟩
  have G12 := Go.Lib.hid (G11.out.quiet h1)
  have C12 := Go.Lib.hid (C11.out.trans h1)
  clear h1 G11 C11
  go_wp2_with fail
  refine (no_Write G12.out 1 1).mono ?_
  rintro e w13 ⟨rfl, h1⟩
  have G13 := Go.Lib.hid (G12.out.quiet h1)
  have C13 := Go.Lib.hid (C12.out.trans h1)
  clear h1 G12 C12
  go_wp2_with fail
  refine (N.out _ _).mono ?_
  rintro e wn ⟨rfl, he⟩
  obtain rfl := he.symm
  clear he
  go_wp2_with fail
  refine (no_WriteWord G13.out 1 1 (by decide)).mono ?_
  rintro e w14 ⟨rfl, h1⟩
  have G14 := Go.Lib.hid (G13.out.quiet h1)
  have C14 := Go.Lib.hid (C13.out.trans h1)
  clear h1 G13 C13
  go_wp2_with fail
  refine (N.out _ _).mono ?_
  rintro e wn ⟨rfl, he⟩
  obtain rfl := he.symm
  clear he
  go_wp2_with fail
  refine (no_Register G14.out 1).mono ?_
  rintro e w15 ⟨rfl, h1⟩
  have G15 := Go.Lib.hid (G14.out.quiet h1)
  have C15 := Go.Lib.hid (C14.out.trans h1)
  clear h1 G14 C14
  go_wp2_with fail
  refine (N.out _ _).mono ?_
  rintro e wn ⟨rfl, he⟩
  obtain rfl := he.symm
  clear he
  go_wp2_with fail
  refine (no_Put G15.out _ _).mono ?_
  rintro e w16 ⟨rfl, h1⟩
  have G16 := Go.Lib.hid (G15.out.quiet h1)
  have C16 := Go.Lib.hid (C15.out.trans h1)
  clear h1 G15 C15
  go_wp2_with fail
  refine (N.out _ _).mono ?_
  rintro e wn ⟨rfl, he⟩
  obtain rfl := he.symm
  clear he
  go_wp2_with fail
  refine (N.out _ _).mono ?_
  rintro e wn ⟨rfl, he⟩
  obtain rfl := he.symm
  clear he
  go_wp2_with fail
  refine (no_Drop G16.out _).mono ?_
  rintro e w17 ⟨rfl, h1⟩
  have G17 := Go.Lib.hid (G16.out.quiet h1)
  have C17 := Go.Lib.hid (C16.out.trans h1)
  clear h1 G16 C16
  go_wp2_with fail
  refine (N.out _ _).mono ?_
  rintro e wn ⟨rfl, he⟩
  obtain rfl := he.symm
  clear he
  go_wp2_with fail
  have Ho := Go.Lib.hid (once_no (G17.out.quiet ((Chg.refl NoB w17).alloc (.cells #[.slice none 0 0, .slice none 0 0, .slice none 0 0, .int .i64 0] 56))) (Blk.new w17 _ _))
  unfold ptr at Ho
  refine Ho.out.mono ?_
  rintro e w18 ⟨rfl, h1⟩
  have G18 := Go.Lib.hid ((G17.out.quiet ((Chg.refl NoB w17).alloc (.cells #[.slice none 0 0, .slice none 0 0, .slice none 0 0, .int .i64 0] 56))).quiet h1)
  have C18 := Go.Lib.hid ((C17.out.alloc (.cells #[.slice none 0 0, .slice none 0 0, .slice none 0 0, .int .i64 0] 56)).trans h1)
  clear h1 Ho
  go_wp2_with fail
  refine (no_Copy G18.out).mono ?_
  rintro e w19 ⟨rfl, h1⟩
  have G19 := Go.Lib.hid (G18.out.quiet h1)
  have C19 := Go.Lib.hid (C18.out.trans h1)
  clear h1 G18 C18
  go_wp2_with fail
  refine (no_Same G19.out (Gone.nil _)).mono ?_
  rintro e w20 ⟨rfl, h1⟩
  have G20 := Go.Lib.hid (G19.out.quiet h1)
  have C20 := Go.Lib.hid (C19.out.trans h1)
  clear h1 G19 C19
  go_wp2_with fail
  go_ret
  exact ⟨rfl, C20.out⟩
end
end Go.Proofs.Ytebcomijknffmaa
