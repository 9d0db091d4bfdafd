/- What is proved: Pair.Alike of a machine and the reference's that hold the same, each with an empty store. Conditions: as the theorem says. -/
import Derived.Test.YtggknljlibhkjaaGreatRnC
import Derived.Test.YtggknljlibhkjaaGreatCpE
set_option linter.unusedSimpArgs false
set_option linter.unusedVariables false
namespace Go.Proofs.YtggknljlibhkjaaGreat
open Go Go.RowKit
theorem RMAt.cpRange {W : World} {r mb : Nat} {sv : Value} {d : Mc} (h : RMAt W r mb sv d) : W.rangeAt r 0 d.c.arr.toList := fun j v hv => by
  have hj : j < 22 := (List.getElem?_eq_some_iff.1 hv).1
  rw [Nat.zero_add, h.m.cell j]
  unfold Mc.rarr
  rw [Array.getElem?_append_left (by exact hj)]
  simpa using hv
section
variable {W : World} {p mb s mm r rmb rs pr base : Nat} {d : Mc} {cap : Nat} {F : Nat → Prop}
set_option maxRecDepth 100000 in
set_option maxHeartbeats 4000000 in
theorem alike_c (hp : Blk W pr PT #[.pointer (some ⟨p, 0, none⟩), .pointer (some ⟨r, 0, none⟩)]) (hm : MAt W p mb s mm d) (hd : d.Ok) (hr : RMAt W r rmb (.pointer (some ⟨rs, 0, none⟩)) d) (hs : StoreV base W s ⟨cap, [], [], []⟩ F) (hrs : Blk W rs R2T (r2arr cap)) :
    Calls Tryz.prog 27 #[.pointer (some ⟨pr, 0, none⟩)] W (Quiet (.bool true) W) := by
  have HPF : Hid (∀ W', Chg NoB W W' → Calls Tryz.prog 77 #[.pointer (some ⟨pr, 0, none⟩)] W' (Quiet (.bool true) W')) := Go.Lib.hid fun W' hc => pfiles_c (hp.chg hc id) (hm.quiet hc) (hr.quiet hc) (hs.quiet hc) (hrs.chg hc id)
  have HM := Go.Lib.hid (fun (W' : World) (hc : Chg NoB W W') => hm.quiet hc)
  have HR := Go.Lib.hid (fun (W' : World) (hc : Chg NoB W W') => hr.quiet hc)
  have HD := Go.Lib.hid hd
  have hn := hd.n
  have K : Hid (W.cell? ⟨pr, 0, none⟩ = some (.pointer (some ⟨p, 0, none⟩)) ∧ W.cell? ⟨pr, 1, none⟩ = some (.pointer (some ⟨r, 0, none⟩)) ∧ W.cell? ⟨r, 22, none⟩ = some (.slice (some ⟨rmb, 0, none⟩) d.n d.n) ∧ W.cell? ⟨r, 23, none⟩ = some (.int .i64 d.heap) ∧ W.cell? ⟨r, 25, none⟩ = some (.int .i64 d.kind) ∧ W.cell? ⟨r, 26, none⟩ = some (.int .u32 d.code)) :=
    Go.Lib.hid ⟨by rw [hp.cell 0]; rfl, by rw [hp.cell 1]; rfl, by rw [hr.m.cell 22]; rfl, by rw [hr.m.cell 23]; rfl, by rw [hr.m.cell 25]; rfl, by rw [hr.m.cell 26]; rfl⟩
  have hhp := hd.heap
  have hwr : IntKind.i64.wrap (d.heap : Int) = d.heap := by rw [IntKind.wrap_i64]; omega
  clear hp hm hr hs hrs hd
  go_enter Tryz.func27, Tryz.ntmps27
  go_wp2_with fail
  refine regionH (fun V' => Chg NoB W V') (by kernel_rfl) (Chg.refl NoB W).drew (fun hS => ?_)
  refine takeH (i := 0) (t := 6) (v := ?v0y1) rfl (by kernel_rfl) (by kernel_rfl) (by kernel_rfl) (fun _ _ _ h => h) rfl (Or.inl ⟨by rfl, ?h0y1⟩) hS ?r0y1
  case h0y1 => (intro V' hSw; go_simp; try with_reducible rfl)
  try simp only [List.setIfInBounds_toArray, List.set_cons_zero, List.set_cons_succ]
  refine takeH (i := 1) (t := 7) (v := ?v1y2) rfl (by kernel_rfl) (by kernel_rfl) (by kernel_rfl) (fun _ _ _ h => h) rfl (Or.inl ⟨by rfl, ?h1y2⟩) hS ?r1y2
  case h1y2 => (intro V' hSw; go_simp; try with_reducible rfl)
  try simp only [List.setIfInBounds_toArray, List.set_cons_zero, List.set_cons_succ]
  refine takeH (i := 2) (t := 8) (v := ?v2y3) rfl (by kernel_rfl) (by kernel_rfl) (by kernel_rfl) (fun _ _ _ h => h) rfl (Or.inl ⟨by rfl, ?h2y3⟩) hS ?r2y3
  case h2y3 => (intro V' hSw; go_simp; try with_reducible rfl)
  try simp only [List.setIfInBounds_toArray, List.set_cons_zero, List.set_cons_succ]
  refine takeH (i := 3) (t := 9) (v := ?v3y4) rfl (by kernel_rfl) (by kernel_rfl) (by kernel_rfl) (fun _ _ _ h => h) rfl (Or.inl ⟨by rfl, ?h3y4⟩) hS ?r3y4
  case h3y4 => (intro V' hSw; have q := cellq hSw K.out.1; clear hSw; go_simp; try with_reducible rfl)
  try simp only [List.setIfInBounds_toArray, List.set_cons_zero, List.set_cons_succ]
  refine takeH (i := 5) (t := 11) (v := ?v5y5) rfl (by kernel_rfl) (by kernel_rfl) (by kernel_rfl) (fun _ _ _ h => h) rfl (Or.inl ⟨by rfl, ?h5y5⟩) hS ?r5y5
  case h5y5 => (intro V' hSw; go_simp; try with_reducible rfl)
  try simp only [List.setIfInBounds_toArray, List.set_cons_zero, List.set_cons_succ]
  refine takeH (i := 6) (t := 12) (v := ?v6y6) rfl (by kernel_rfl) (by kernel_rfl) (by kernel_rfl) (fun _ _ _ h => h) rfl (Or.inl ⟨by rfl, ?h6y6⟩) hS ?r6y6
  case h6y6 => (intro V' hSw; go_simp; try with_reducible rfl)
  try simp only [List.setIfInBounds_toArray, List.set_cons_zero, List.set_cons_succ]
  refine takeH (i := 7) (t := 13) (v := ?v7y7) rfl (by kernel_rfl) (by kernel_rfl) (by kernel_rfl) (fun _ _ _ h => h) rfl (Or.inl ⟨by rfl, ?h7y7⟩) hS ?r7y7
  case h7y7 => (intro V' hSw; go_simp; try with_reducible rfl)
  try simp only [List.setIfInBounds_toArray, List.set_cons_zero, List.set_cons_succ]
  refine takeH (i := 8) (t := 14) (v := ?v8y8) rfl (by kernel_rfl) (by kernel_rfl) (by kernel_rfl) (fun _ _ _ h => h) rfl (Or.inl ⟨by rfl, ?h8y8⟩) hS ?r8y8
  case h8y8 => (intro V' hSw; have q := cellq hSw K.out.2.1; clear hSw; go_simp; try with_reducible rfl)
  try simp only [List.setIfInBounds_toArray, List.set_cons_zero, List.set_cons_succ]
  refine takeH (i := 9) (t := 15) (v := ?v9y9) rfl (by kernel_rfl) (by kernel_rfl) (by kernel_rfl) (fun _ _ _ h => h) rfl (Or.inl ⟨by rfl, ?h9y9⟩) hS ?r9y9
  case h9y9 => (intro V' hSw; go_simp; try with_reducible rfl)
  try simp only [List.setIfInBounds_toArray, List.set_cons_zero, List.set_cons_succ]
  refine takeH (i := 10) (t := 16) (v := ?v10y10) rfl (by kernel_rfl) (by kernel_rfl) (by kernel_rfl) (fun _ _ _ h => h) rfl (Or.inl ⟨by rfl, ?h10y10⟩) hS ?r10y10
  case h10y10 => (intro V' hSw; go_simp; try with_reducible rfl)
  try simp only [List.setIfInBounds_toArray, List.set_cons_zero, List.set_cons_succ]
  refine takeH (i := 11) (t := 17) (v := d.c.val) rfl (by kernel_rfl) (by kernel_rfl) (by kernel_rfl) (fun _ _ _ h => h) rfl (Or.inl ⟨by rfl, ?h11y11⟩) hS ?r11y11
  case h11y11 => (intro V' hSw; (refine exec_load_mid 42 (.tmp 16) ?_ r 0 ?_ ((HR.out _ hSw).cpRange) Tryz.underlying42 rfl (by kernel_rfl)) <;> rfl)
  try simp only [List.setIfInBounds_toArray, List.set_cons_zero, List.set_cons_succ]
  refine manyH (i := 4) (l := []) (by kernel_rfl) ?hm
  case hm =>
    intro j hj
    obtain rfl : j = 4 := by simpa using hj
    refine opCallH (t := 10) (f := 11) (args := #[.pointer (some ⟨p, 0, none⟩)]) rfl rfl (by rfl) ?hx ?hc
    case hx => (go_simp; try rfl)
    case hc =>
      refine (cpu_c (HM.out _ hS)).mono ?_
      rintro ee w1 ⟨rfl, hq⟩
      have hS := hS.trans hq
      refine ⟨_, rfl, hS, ?_⟩
      try simp only [List.setIfInBounds_toArray, List.set_cons_zero, List.set_cons_succ]
      refine takeH (i := 12) (t := 18) (v := .bool false) rfl (by kernel_rfl) (by kernel_rfl) (by kernel_rfl) (fun _ _ _ h => h) rfl (Or.inl ⟨by rfl, ?h12y12⟩) hS ?r12y12
      case h12y12 => (intro V' hSw; have q := run_neq_cp d.c V'; have q2 := guard_cp (.tmp 10) (.tmp 17) d.c V'; clear hSw; go_simp; try with_reducible rfl)
      try simp only [List.setIfInBounds_toArray, List.set_cons_zero, List.set_cons_succ]
      refine takeH (i := 13) (t := 19) (v := ?v13y13) rfl (by kernel_rfl) (by kernel_rfl) (by kernel_rfl) (fun _ _ _ h => h) rfl (Or.inl ⟨by rfl, ?h13y13⟩) hS ?r13y13
      case h13y13 => (intro V' hSw; go_simp; try with_reducible rfl)
      try simp only [List.setIfInBounds_toArray, List.set_cons_zero, List.set_cons_succ]
      refine takeH (i := 14) (t := 20) (v := ?v14y14) rfl (by kernel_rfl) (by kernel_rfl) (by kernel_rfl) (fun _ _ _ h => h) rfl (Or.inl ⟨by rfl, ?h14y14⟩) hS ?r14y14
      case h14y14 => (intro V' hSw; go_simp; try with_reducible rfl)
      try simp only [List.setIfInBounds_toArray, List.set_cons_zero, List.set_cons_succ]
      refine takeH (i := 15) (t := 21) (v := ?v15y15) rfl (by kernel_rfl) (by kernel_rfl) (by kernel_rfl) (fun _ _ _ h => h) rfl (Or.inl ⟨by rfl, ?h15y15⟩) hS ?r15y15
      case h15y15 => (intro V' hSw; go_simp; try with_reducible rfl)
      try simp only [List.setIfInBounds_toArray, List.set_cons_zero, List.set_cons_succ]
      refine takeH (i := 16) (t := 22) (v := ?v16y16) rfl (by kernel_rfl) (by kernel_rfl) (by kernel_rfl) (fun _ _ _ h => h) rfl (Or.inl ⟨by rfl, ?h16y16⟩) hS ?r16y16
      case h16y16 => (intro V' hSw; go_simp; try with_reducible rfl)
      try simp only [List.setIfInBounds_toArray, List.set_cons_zero, List.set_cons_succ]
      refine takeH (i := 17) (t := 23) (v := ?v17y17) rfl (by kernel_rfl) (by kernel_rfl) (by kernel_rfl) (fun _ _ _ h => h) rfl (Or.inl ⟨by rfl, ?h17y17⟩) hS ?r17y17
      case h17y17 => (intro V' hSw; have q := cellq hSw K.out.1; clear hSw; go_simp; try with_reducible rfl)
      try simp only [List.setIfInBounds_toArray, List.set_cons_zero, List.set_cons_succ]
      refine takeH (i := 19) (t := 25) (v := ?v19y18) rfl (by kernel_rfl) (by kernel_rfl) (by kernel_rfl) (fun _ _ _ h => h) rfl (Or.inl ⟨by rfl, ?h19y18⟩) hS ?r19y18
      case h19y18 => (intro V' hSw; go_simp; try with_reducible rfl)
      try simp only [List.setIfInBounds_toArray, List.set_cons_zero, List.set_cons_succ]
      refine takeH (i := 20) (t := 26) (v := ?v20y19) rfl (by kernel_rfl) (by kernel_rfl) (by kernel_rfl) (fun _ _ _ h => h) rfl (Or.inl ⟨by rfl, ?h20y19⟩) hS ?r20y19
      case h20y19 => (intro V' hSw; go_simp; try with_reducible rfl)
      try simp only [List.setIfInBounds_toArray, List.set_cons_zero, List.set_cons_succ]
      refine takeH (i := 21) (t := 27) (v := ?v21y20) rfl (by kernel_rfl) (by kernel_rfl) (by kernel_rfl) (fun _ _ _ h => h) rfl (Or.inl ⟨by rfl, ?h21y20⟩) hS ?r21y20
      case h21y20 => (intro V' hSw; go_simp; try with_reducible rfl)
      try simp only [List.setIfInBounds_toArray, List.set_cons_zero, List.set_cons_succ]
      refine takeH (i := 22) (t := 28) (v := ?v22y21) rfl (by kernel_rfl) (by kernel_rfl) (by kernel_rfl) (fun _ _ _ h => h) rfl (Or.inl ⟨by rfl, ?h22y21⟩) hS ?r22y21
      case h22y21 => (intro V' hSw; have q := cellq hSw K.out.2.1; clear hSw; go_simp; try with_reducible rfl)
      try simp only [List.setIfInBounds_toArray, List.set_cons_zero, List.set_cons_succ]
      refine takeH (i := 23) (t := 29) (v := ?v23y22) rfl (by kernel_rfl) (by kernel_rfl) (by kernel_rfl) (fun _ _ _ h => h) rfl (Or.inl ⟨by rfl, ?h23y22⟩) hS ?r23y22
      case h23y22 => (intro V' hSw; go_simp; try with_reducible rfl)
      try simp only [List.setIfInBounds_toArray, List.set_cons_zero, List.set_cons_succ]
      refine takeH (i := 24) (t := 30) (v := ?v24y23) rfl (by kernel_rfl) (by kernel_rfl) (by kernel_rfl) (fun _ _ _ h => h) rfl (Or.inl ⟨by rfl, ?h24y23⟩) hS ?r24y23
      case h24y23 => (intro V' hSw; go_simp; try with_reducible rfl)
      try simp only [List.setIfInBounds_toArray, List.set_cons_zero, List.set_cons_succ]
      refine takeH (i := 25) (t := 31) (v := ?v25y24) rfl (by kernel_rfl) (by kernel_rfl) (by kernel_rfl) (fun _ _ _ h => h) rfl (Or.inl ⟨by rfl, ?h25y24⟩) hS ?r25y24
      case h25y24 => (intro V' hSw; have q := cellq hSw K.out.2.2.2.2.1; have q2 := cellq hSw K.out.2.2.2.2.2; clear hSw; go_simp; try with_reducible rfl)
      try simp only [List.setIfInBounds_toArray, List.set_cons_zero, List.set_cons_succ]
      refine manyH (i := 18) (l := []) (by kernel_rfl) ?hm
      case hm =>
        intro j hj
        obtain rfl : j = 18 := by simpa using hj
        refine opCallH (t := 24) (f := 29) (args := #[.pointer (some ⟨p, 0, none⟩)]) rfl rfl (by rfl) ?hx ?hc
        case hx => (go_simp; try rfl)
        case hc =>
          have HSt := Go.Lib.hid (stopped_c (HM.out _ hS))
          unfold stopVal at HSt
          refine HSt.out.mono ?_
          rintro ee w2 ⟨rfl, hq⟩
          have hS := hS.trans hq
          clear HSt
          refine ⟨_, rfl, hS, ?_⟩
          try simp only [List.setIfInBounds_toArray, List.set_cons_zero, List.set_cons_succ]
          refine takeH (i := 26) (t := 32) (v := .bool false) rfl (by kernel_rfl) (by kernel_rfl) (by kernel_rfl) (fun _ _ _ h => h) rfl (Or.inl ⟨by rfl, ?h26y25⟩) hS ?r26y25
          case h26y25 => (intro V' hSw; clear hSw; go_simp; try simp)
          try simp only [List.setIfInBounds_toArray, List.set_cons_zero, List.set_cons_succ]
          refine takeH (i := 27) (t := 33) (v := .bool false) rfl (by kernel_rfl) (by kernel_rfl) (by kernel_rfl) (fun _ _ _ h => h) rfl (Or.inl ⟨by rfl, ?h27y26⟩) hS ?r27y26
          case h27y26 => (intro V' hSw; clear hSw; go_simp; try simp)
          try simp only [List.setIfInBounds_toArray, List.set_cons_zero, List.set_cons_succ]
          refine takeH (i := 28) (t := 34) (v := ?v28y27) rfl (by kernel_rfl) (by kernel_rfl) (by kernel_rfl) (fun _ _ _ h => h) rfl (Or.inl ⟨by rfl, ?h28y27⟩) hS ?r28y27
          case h28y27 => (intro V' hSw; go_simp; try with_reducible rfl)
          try simp only [List.setIfInBounds_toArray, List.set_cons_zero, List.set_cons_succ]
          refine takeH (i := 29) (t := 35) (v := ?v29y28) rfl (by kernel_rfl) (by kernel_rfl) (by kernel_rfl) (fun _ _ _ h => h) rfl (Or.inl ⟨by rfl, ?h29y28⟩) hS ?r29y28
          case h29y28 => (intro V' hSw; go_simp; try with_reducible rfl)
          try simp only [List.setIfInBounds_toArray, List.set_cons_zero, List.set_cons_succ]
          refine takeH (i := 30) (t := 36) (v := ?v30y29) rfl (by kernel_rfl) (by kernel_rfl) (by kernel_rfl) (fun _ _ _ h => h) rfl (Or.inl ⟨by rfl, ?h30y29⟩) hS ?r30y29
          case h30y29 => (intro V' hSw; go_simp; try with_reducible rfl)
          try simp only [List.setIfInBounds_toArray, List.set_cons_zero, List.set_cons_succ]
          refine takeH (i := 31) (t := 37) (v := ?v31y30) rfl (by kernel_rfl) (by kernel_rfl) (by kernel_rfl) (fun _ _ _ h => h) rfl (Or.inl ⟨by rfl, ?h31y30⟩) hS ?r31y30
          case h31y30 => (intro V' hSw; go_simp; try with_reducible rfl)
          try simp only [List.setIfInBounds_toArray, List.set_cons_zero, List.set_cons_succ]
          refine takeH (i := 32) (t := 38) (v := ?v32y31) rfl (by kernel_rfl) (by kernel_rfl) (by kernel_rfl) (fun _ _ _ h => h) rfl (Or.inl ⟨by rfl, ?h32y31⟩) hS ?r32y31
          case h32y31 => (intro V' hSw; have q := cellq hSw K.out.1; clear hSw; go_simp; try with_reducible rfl)
          try simp only [List.setIfInBounds_toArray, List.set_cons_zero, List.set_cons_succ]
          refine takeH (i := 35) (t := 41) (v := ?v35y32) rfl (by kernel_rfl) (by kernel_rfl) (by kernel_rfl) (fun _ _ _ h => h) rfl (Or.inl ⟨by rfl, ?h35y32⟩) hS ?r35y32
          case h35y32 => (intro V' hSw; go_simp; try with_reducible rfl)
          try simp only [List.setIfInBounds_toArray, List.set_cons_zero, List.set_cons_succ]
          refine takeH (i := 36) (t := 42) (v := ?v36y33) rfl (by kernel_rfl) (by kernel_rfl) (by kernel_rfl) (fun _ _ _ h => h) rfl (Or.inl ⟨by rfl, ?h36y33⟩) hS ?r36y33
          case h36y33 => (intro V' hSw; go_simp; try with_reducible rfl)
          try simp only [List.setIfInBounds_toArray, List.set_cons_zero, List.set_cons_succ]
          refine takeH (i := 37) (t := 43) (v := ?v37y34) rfl (by kernel_rfl) (by kernel_rfl) (by kernel_rfl) (fun _ _ _ h => h) rfl (Or.inl ⟨by rfl, ?h37y34⟩) hS ?r37y34
          case h37y34 => (intro V' hSw; go_simp; try with_reducible rfl)
          try simp only [List.setIfInBounds_toArray, List.set_cons_zero, List.set_cons_succ]
          refine takeH (i := 38) (t := 44) (v := ?v38y35) rfl (by kernel_rfl) (by kernel_rfl) (by kernel_rfl) (fun _ _ _ h => h) rfl (Or.inl ⟨by rfl, ?h38y35⟩) hS ?r38y35
          case h38y35 => (intro V' hSw; have q := cellq hSw K.out.2.1; clear hSw; go_simp; try with_reducible rfl)
          try simp only [List.setIfInBounds_toArray, List.set_cons_zero, List.set_cons_succ]
          refine takeH (i := 39) (t := 45) (v := ?v39y36) rfl (by kernel_rfl) (by kernel_rfl) (by kernel_rfl) (fun _ _ _ h => h) rfl (Or.inl ⟨by rfl, ?h39y36⟩) hS ?r39y36
          case h39y36 => (intro V' hSw; go_simp; try with_reducible rfl)
          try simp only [List.setIfInBounds_toArray, List.set_cons_zero, List.set_cons_succ]
          refine takeH (i := 40) (t := 46) (v := ?v40y37) rfl (by kernel_rfl) (by kernel_rfl) (by kernel_rfl) (fun _ _ _ h => h) rfl (Or.inl ⟨by rfl, ?h40y37⟩) hS ?r40y37
          case h40y37 => (intro V' hSw; go_simp; try with_reducible rfl)
          try simp only [List.setIfInBounds_toArray, List.set_cons_zero, List.set_cons_succ]
          refine takeH (i := 41) (t := 47) (v := ?v41y38) rfl (by kernel_rfl) (by kernel_rfl) (by kernel_rfl) (fun _ _ _ h => h) rfl (Or.inl ⟨by rfl, ?h41y38⟩) hS ?r41y38
          case h41y38 => (intro V' hSw; have q := cellq hSw K.out.2.2.2.1; clear hSw; go_simp; try with_reducible rfl)
          try simp only [List.setIfInBounds_toArray, List.set_cons_zero, List.set_cons_succ]
          refine manyH (i := 33) (l := []) (by kernel_rfl) ?hm
          case hm =>
            intro j hj
            obtain rfl : j = 33 := by simpa using hj
            refine opCallH (t := 39) (f := 75) (args := #[.pointer (some ⟨p, 0, none⟩)]) rfl rfl (by rfl) ?hx ?hc
            case hx => (go_simp; try rfl)
            case hc =>
              refine (heap_c (HM.out _ hS)).mono ?_
              rintro ee w3 ⟨rfl, rfl⟩
              refine ⟨_, rfl, hS, ?_⟩
              try simp only [List.setIfInBounds_toArray, List.set_cons_zero, List.set_cons_succ]
              refine takeH (i := 34) (t := 40) (v := .int .i64 d.heap) rfl (by kernel_rfl) (by kernel_rfl) (by kernel_rfl) (fun _ _ _ h => h) rfl (Or.inl ⟨by rfl, ?h34y39⟩) hS ?r34y39
              case h34y39 => (intro V' hSw; clear hSw; go_simp; try simp only [hwr])
              try simp only [List.setIfInBounds_toArray, List.set_cons_zero, List.set_cons_succ]
              refine takeH (i := 42) (t := 48) (v := .bool false) rfl (by kernel_rfl) (by kernel_rfl) (by kernel_rfl) (fun _ _ _ h => h) rfl (Or.inl ⟨by rfl, ?h42y40⟩) hS ?r42y40
              case h42y40 => (intro V' hSw; clear hSw; go_simp; try simp)
              try simp only [List.setIfInBounds_toArray, List.set_cons_zero, List.set_cons_succ]
              refine takeH (i := 43) (t := 49) (v := .bool false) rfl (by kernel_rfl) (by kernel_rfl) (by kernel_rfl) (fun _ _ _ h => h) rfl (Or.inl ⟨by rfl, ?h43y41⟩) hS ?r43y41
              case h43y41 => (intro V' hSw; clear hSw; go_simp; try simp)
              try simp only [List.setIfInBounds_toArray, List.set_cons_zero, List.set_cons_succ]
              refine takeH (i := 44) (t := 50) (v := ?v44y42) rfl (by kernel_rfl) (by kernel_rfl) (by kernel_rfl) (fun _ _ _ h => h) rfl (Or.inl ⟨by rfl, ?h44y42⟩) hS ?r44y42
              case h44y42 => (intro V' hSw; go_simp; try with_reducible rfl)
              try simp only [List.setIfInBounds_toArray, List.set_cons_zero, List.set_cons_succ]
              refine takeH (i := 45) (t := 51) (v := ?v45y43) rfl (by kernel_rfl) (by kernel_rfl) (by kernel_rfl) (fun _ _ _ h => h) rfl (Or.inl ⟨by rfl, ?h45y43⟩) hS ?r45y43
              case h45y43 => (intro V' hSw; go_simp; try with_reducible rfl)
              try simp only [List.setIfInBounds_toArray, List.set_cons_zero, List.set_cons_succ]
              refine takeH (i := 46) (t := 52) (v := ?v46y44) rfl (by kernel_rfl) (by kernel_rfl) (by kernel_rfl) (fun _ _ _ h => h) rfl (Or.inl ⟨by rfl, ?h46y44⟩) hS ?r46y44
              case h46y44 => (intro V' hSw; go_simp; try with_reducible rfl)
              try simp only [List.setIfInBounds_toArray, List.set_cons_zero, List.set_cons_succ]
              refine takeH (i := 47) (t := 53) (v := ?v47y45) rfl (by kernel_rfl) (by kernel_rfl) (by kernel_rfl) (fun _ _ _ h => h) rfl (Or.inl ⟨by rfl, ?h47y45⟩) hS ?r47y45
              case h47y45 => (intro V' hSw; go_simp; try with_reducible rfl)
              try simp only [List.setIfInBounds_toArray, List.set_cons_zero, List.set_cons_succ]
              refine takeH (i := 48) (t := 54) (v := ?v48y46) rfl (by kernel_rfl) (by kernel_rfl) (by kernel_rfl) (fun _ _ _ h => h) rfl (Or.inl ⟨by rfl, ?h48y46⟩) hS ?r48y46
              case h48y46 => (intro V' hSw; have q := cellq hSw K.out.1; clear hSw; go_simp; try with_reducible rfl)
              try simp only [List.setIfInBounds_toArray, List.set_cons_zero, List.set_cons_succ]
              refine takeH (i := 50) (t := 56) (v := ?v50y47) rfl (by kernel_rfl) (by kernel_rfl) (by kernel_rfl) (fun _ _ _ h => h) rfl (Or.inl ⟨by rfl, ?h50y47⟩) hS ?r50y47
              case h50y47 => (intro V' hSw; go_simp; try with_reducible rfl)
              try simp only [List.setIfInBounds_toArray, List.set_cons_zero, List.set_cons_succ]
              refine takeH (i := 51) (t := 57) (v := ?v51y48) rfl (by kernel_rfl) (by kernel_rfl) (by kernel_rfl) (fun _ _ _ h => h) rfl (Or.inl ⟨by rfl, ?h51y48⟩) hS ?r51y48
              case h51y48 => (intro V' hSw; go_simp; try with_reducible rfl)
              try simp only [List.setIfInBounds_toArray, List.set_cons_zero, List.set_cons_succ]
              refine takeH (i := 52) (t := 58) (v := ?v52y49) rfl (by kernel_rfl) (by kernel_rfl) (by kernel_rfl) (fun _ _ _ h => h) rfl (Or.inl ⟨by rfl, ?h52y49⟩) hS ?r52y49
              case h52y49 => (intro V' hSw; go_simp; try with_reducible rfl)
              try simp only [List.setIfInBounds_toArray, List.set_cons_zero, List.set_cons_succ]
              refine takeH (i := 53) (t := 59) (v := ?v53y50) rfl (by kernel_rfl) (by kernel_rfl) (by kernel_rfl) (fun _ _ _ h => h) rfl (Or.inl ⟨by rfl, ?h53y50⟩) hS ?r53y50
              case h53y50 => (intro V' hSw; have q := cellq hSw K.out.2.1; clear hSw; go_simp; try with_reducible rfl)
              try simp only [List.setIfInBounds_toArray, List.set_cons_zero, List.set_cons_succ]
              refine takeH (i := 54) (t := 60) (v := ?v54y51) rfl (by kernel_rfl) (by kernel_rfl) (by kernel_rfl) (fun _ _ _ h => h) rfl (Or.inl ⟨by rfl, ?h54y51⟩) hS ?r54y51
              case h54y51 => (intro V' hSw; go_simp; try with_reducible rfl)
              try simp only [List.setIfInBounds_toArray, List.set_cons_zero, List.set_cons_succ]
              refine takeH (i := 55) (t := 61) (v := ?v55y52) rfl (by kernel_rfl) (by kernel_rfl) (by kernel_rfl) (fun _ _ _ h => h) rfl (Or.inl ⟨by rfl, ?h55y52⟩) hS ?r55y52
              case h55y52 => (intro V' hSw; go_simp; try with_reducible rfl)
              try simp only [List.setIfInBounds_toArray, List.set_cons_zero, List.set_cons_succ]
              refine takeH (i := 56) (t := 62) (v := ?v56y53) rfl (by kernel_rfl) (by kernel_rfl) (by kernel_rfl) (fun _ _ _ h => h) rfl (Or.inl ⟨by rfl, ?h56y53⟩) hS ?r56y53
              case h56y53 => (intro V' hSw; have q := cellq hSw K.out.2.2.1; clear hSw; go_simp; try with_reducible rfl)
              try simp only [List.setIfInBounds_toArray, List.set_cons_zero, List.set_cons_succ]
              refine takeH (i := 57) (t := 63) (v := ?v57y54) rfl (by kernel_rfl) (by kernel_rfl) (by kernel_rfl) (fun _ _ _ h => h) rfl (Or.inl ⟨by rfl, ?h57y54⟩) hS ?r57y54
              case h57y54 => (intro V' hSw; go_simp; try with_reducible rfl)
              try simp only [List.setIfInBounds_toArray, List.set_cons_zero, List.set_cons_succ]
              refine manyH (i := 49) (l := []) (by kernel_rfl) ?hm
              case hm =>
                intro j hj
                obtain rfl : j = 49 := by simpa using hj
                refine opCallH (t := 55) (f := 76) (args := #[.pointer (some ⟨p, 0, none⟩)]) rfl rfl (by rfl) ?hx ?hc
                case hx => (go_simp; try rfl)
                case hc =>
                  refine (size_c (HM.out _ hS)).mono ?_
                  rintro ee w4 ⟨rfl, rfl⟩
                  refine ⟨_, rfl, hS, ?_⟩
                  try simp only [List.setIfInBounds_toArray, List.set_cons_zero, List.set_cons_succ]
                  refine takeH (i := 58) (t := 64) (v := .bool false) rfl (by kernel_rfl) (by kernel_rfl) (by kernel_rfl) (fun _ _ _ h => h) rfl (Or.inl ⟨by rfl, ?h58y55⟩) hS ?r58y55
                  case h58y55 => (intro V' hSw; clear hSw; go_simp; try simp)
                  try simp only [List.setIfInBounds_toArray, List.set_cons_zero, List.set_cons_succ]
                  refine takeH (i := 59) (t := 65) (v := .bool false) rfl (by kernel_rfl) (by kernel_rfl) (by kernel_rfl) (fun _ _ _ h => h) rfl (Or.inl ⟨by rfl, ?h59y56⟩) hS ?r59y56
                  case h59y56 => (intro V' hSw; clear hSw; go_simp; try simp)
                  try simp only [List.setIfInBounds_toArray, List.set_cons_zero, List.set_cons_succ]
                  refine wpAnyH_done (by kernel_rfl) ?_ _
                  have HS := Go.Lib.hid hS
                  clear hS
                  go_wp2_with fail
                  go_loopw [3] (fun v3 wr => ∃ k : Nat, 4 * k ≤ d.n ∧ v3 = .int .i64 ((4 * k : Nat) : Int) ∧ Chg NoB W wr) (fun v3 _ => d.n - (intOf v3).toNat)
                  case atStart => exact ⟨0, Nat.zero_le _, rfl, HS.out⟩
                  case round =>
                    obtain ⟨k, hk, rfl, hc⟩ := hrel
                    have q1 := cellq hc K.out.2.1
                    have q0 := cellq hc K.out.1
                    have q22 := cellq hc K.out.2.2.1
                    by_cases hlt : 4 * k < d.n
                    · have hdc : decide (((4 * k : Nat) : Int) < (d.n : Int)) = true := by simp; omega
                      have HW := Go.Lib.hid (word_c (HM.out _ hc) HD.out (4 * k) (by omega))
                      rw [if_pos ⟨hlt, by omega⟩] at HW
                      have HC := Go.Lib.hid hc
                      have HRW := Go.Lib.hid (fun (W' : World) (hc' : Chg NoB W W') => rword_c (HR.out _ hc') HD.out.m hn.2.1 (4 * k) (by omega))
                      generalize wordAt d.M (4 * k) = x at *
                      generalize hk4 : 4 * k = k4 at *
                      have hw4 : (k4 : Int) % 4294967296 = k4 := by omega
                      clear hc
                      go_wp2_with fail
                      refine HW.out.mono ?_
                      rintro e w1 ⟨rfl, hq⟩
                      have HC1 := Go.Lib.hid (HC.out.trans hq)
                      clear hq HW q1 q22
                      have q1 := cellq HC1.out K.out.2.1
                      go_wp2_with fail
                      refine (num_c _ _).mono ?_
                      rintro e w2 ⟨rfl, rfl⟩
                      go_wp2_with fail
                      refine (HRW.out _ HC1.out).mono ?_
                      rintro e w3 ⟨rfl, hq⟩
                      have HC3 := Go.Lib.hid (HC1.out.trans hq)
                      clear hq q1 q0
                      go_wp2_with fail
                      refine ⟨⟨k + 1, by omega, by rw [← hk4]; simp; omega, HC3.out⟩, by simp only [intOf]; omega⟩
                    · have hdc : decide (((4 * k : Nat) : Int) < (d.n : Int)) = false := by simp; omega
                      have HC := Go.Lib.hid hc
                      clear hc
                      generalize 4 * k = k4 at *
                      go_wp2_with fail
                      refine (HPF.out _ HC.out).mono ?_
                      rintro e w1 ⟨rfl, hq⟩
                      have HC1 := Go.Lib.hid (HC.out.trans hq)
                      clear hq
                      go_wp2_with fail
                      go_ret
                      exact ⟨rfl, HC1.out⟩
end
end Go.Proofs.YtggknljlibhkjaaGreat
