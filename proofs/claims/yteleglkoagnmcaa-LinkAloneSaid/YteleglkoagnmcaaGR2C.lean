/- What is proved: the reference's enter. Conditions: the memory holds the reference's store. · What is proved: the reference's enter, Register, Get, Drop. Conditions: the memory holds the reference's store. · What is proved: the reference's Drop, Copy, Room. Conditions: the memory holds the reference's store. -/
import Derived.Test.YteleglkoagnmcaaGR2B
set_option linter.unusedSimpArgs false
set_option linter.unusedVariables false
namespace Go.Proofs.Yteleglkoagnmcaa
open Go Go.RowKit
def enterR (U : V) (nm : ByteArray) (n : Nat) : Nat × V :=
  if isD nm U.dir = true then (0, { U with dir := U.dir.set (posD nm U.dir) (nm, n) })
  else if U.dir.length < 200 then (0, { U with dir := U.dir.take (posD nm U.dir) ++ ((nm, n) :: U.dir.drop (posD nm U.dir)) }) else (5, U)
theorem dcells_set : ∀ (l : List (ByteArray × Nat)) (i n : Nat) (e : ByteArray × Nat), l[i]? = some e → (dcells l).set (i * 2 + 1) (.int .i64 n) = dcells (l.set i (e.1, n))
  | [], i, n, e, h => by simp at h
  | x :: r, 0, n, e, h => by
    obtain rfl : x = e := by simpa using h
    simp [dcells]
  | x :: r, i + 1, n, e, h => by
    have := dcells_set r i n e (by simpa using h)
    have e2 : (i + 1) * 2 + 1 = i * 2 + 1 + 1 + 1 := by omega
    rw [e2]
    simp only [dcells, List.flatMap_cons, List.cons_append, List.nil_append, List.set_cons_succ] at this ⊢
    rw [this]
section
variable {W W' : World} {r : Nat} {U : V} {X F : Nat → Prop} {a : RA}
set_option maxRecDepth 100000 in
set_option maxHeartbeats 4000000 in
theorem renter_is (h : RefAt W r U X a) (hX : ∀ k, X k → k < W.heap.size) (hd : U.dir.length < 1000000) (nm : ByteArray) (n : Nat) (hn : n < U.F.length) (hi : isD nm U.dir = true) : Calls Try.prog 58 #[.pointer (some ⟨r, 0, none⟩), .string nm, .int .i64 n] W (RPost r X (.int .i64 0) { U with dir := U.dir.set (posD nm U.dir) (nm, n) } W) := by
  have HA := Go.Lib.hid (rpos_c h hd nm)
  have H := Go.Lib.hid h
  obtain ⟨e, he, hen⟩ := isD_some hi
  have hen : e.1 = nm := by
    have := toList_ne (a := e.1) (b := nm) (by have h2 := toList_beq e.1 nm; rw [hen] at h2; exact eq_of_beq h2)
    exact this
  rw [hi] at HA
  have hkl := (List.getElem?_eq_some_iff.1 he).1
  obtain ⟨AD, cD, hD⟩ := own_slice h.D
  obtain ⟨_, c1, _, _⟩ := h.cells
  rw [hD] at c1
  have hownD := h.D
  rw [hD] at hownD
  have HCl := Go.Lib.hid (cells_ownK hownD)
  have hrl := h.lt
  obtain ⟨i0, hi0, hz0, hz1, hz2⟩ := info_parts etinfo
  have Hi := Go.Lib.hid (And.intro hi0 (And.intro hz0 (And.intro hz1 hz2)))
  clear h hi hD hownD hi0 hz0 hz1 hz2
  generalize posD nm U.dir = k at *
  go_enter Try.func58, Try.ntmps58
  go_wp2_with fail
  refine HA.out.mono ?_
  rintro ee w1 ⟨rfl, hq⟩
  have hX1 : ∀ j, X j → j < w1.heap.size := fun j hj => Nat.lt_of_lt_of_le (hX j hj) hq.size
  have h1 := H.out.quiet hq
  have c1 := cell_q hq c1
  have HCl1 := Go.Lib.hid (HCl.out.chg hq (fun _ _ => id))
  have hrl1 := h1.lt
  have H1 := Go.Lib.hid (And.intro h1 hq)
  have hek := (dcells_get _ _ _ he).2
  have HE := Go.Lib.hid he
  clear hq h1 HCl HA he
  go_wp2_with (at_builtin; go_must (refine wpList_appK _ rfl (.const (.slice none 0 0)) (.tmp 20) _ rfl w1.heap.size ET i0 _ 2 24 Try.underlying78 Hi.out.1 Hi.out.2.1 Hi.out.2.2.1 Hi.out.2.2.2 rfl (by decide) (.slice none 0 0) 0 [] rfl (World.ownsRow_nil _ _ _ _) AD U.dir.length cD (dcells U.dir) rfl (dcells_len _) HCl1.out (dcells_one _) (by unfold maxLen; omega) (by omega) (Nat.le_refl _) ?_); go_must (intro v1 w2 own1 gr1 at1; rw [List.nil_append, Nat.zero_add] at own1; obtain ⟨g1, cap1, rfl, hb1, hlt1⟩ := own1.form (by omega); have hg1 : Chg NoB w1 w2 := (Chg.refl NoB w1).grown gr1 (by simp [Value.ownBlock]); have c1 := cell_q hg1 c1; have z1 := (H1.out.1.quiet hg1).blk.frozen 1; have hk5 := own_cellK own1 hek; have k5 := hk5.1; have z5 := hk5.2; have hne1 : ¬ g1 = r := (by omega); have hne2 : ¬ r = g1 := (by omega); have HO := Go.Lib.hid own1; have HG := Go.Lib.hid hg1; clear own1 gr1 at1 hg1 hk5))
  go_ret
  have hc2 : Chg (fun k => k = r) w1 (w2.setCell ⟨r, 1, none⟩ (.slice (some ⟨g1, 0, none⟩) U.dir.length cap1)) := (HG.out.mono (G := fun k => k = r) (fun _ _ h => h.elim)).setCell (p := ⟨r, 1, none⟩) (fun _ => rfl) _
  have hc3 := hc2.setCell (p := ⟨g1, k * 2 + 1, none⟩) (fun h => absurd h (show ¬ g1 < w1.heap.size by omega)) (.int .i64 (n : Int))
  have hb3 := ((H1.out.1.quiet HG.out).blk.set_ 1 (.slice (some ⟨g1, 0, none⟩) U.dir.length cap1)).far (p := ⟨g1, k * 2 + 1, none⟩) (show r ≠ g1 from hne2) (.int .i64 (n : Int))
  have ho3 := own_setK (own_chg HO.out ((Chg.refl (fun k => k = r) w2).setCell (p := ⟨r, 1, none⟩) (fun _ => rfl) (.slice (some ⟨g1, 0, none⟩) U.dir.length cap1)) (fun k hk => by
    have : g1 = k := by simpa [Value.ownBlock] using hk
    omega)) (i := k * 2 + 1) (by omega) (.int .i64 (n : Int))
  rw [dcells_set _ _ _ _ HE.out, hen] at ho3
  have hl : (U.dir.set k (nm, n)).length = U.dir.length := by simp
  refine ⟨rfl, ⟨_, H1.out.1.putD hX1 hc3 hb3 (d' := U.dir.set k (nm, n)) (by rw [hl]; exact ho3) (fun q hq => ?_)⟩, (H1.out.2.mono (fun _ _ h => h.elim)).trans hc3⟩
  rcases List.mem_or_eq_of_mem_set hq with hq | rfl
  · exact H1.out.1.db q hq
  · exact hn
set_option maxHeartbeats 2000000 in
theorem renter_full (h : RefAt W r U X a) (hd : U.dir.length < 1000000) (nm : ByteArray) (n : Nat) (hi : isD nm U.dir = false) (hl : ¬ U.dir.length < 200) : Calls Try.prog 58 #[.pointer (some ⟨r, 0, none⟩), .string nm, .int .i64 n] W (RPost r X (.int .i64 5) U W) := by
  have HA := Go.Lib.hid (rpos_c h hd nm)
  have H := Go.Lib.hid h
  rw [hi] at HA
  obtain ⟨AD, cD, hD⟩ := own_slice h.D
  obtain ⟨_, c1, _, _⟩ := h.cells
  rw [hD] at c1
  have gl : decide ((U.dir.length : Int) ≥ 200) = true := by simp; omega
  clear h hi hD hl
  generalize posD nm U.dir = k at *
  go_enter Try.func58, Try.ntmps58
  go_wp2_with fail
  refine HA.out.mono ?_
  rintro ee w1 ⟨rfl, hq⟩
  have c1 := cell_q hq c1
  have H1 := Go.Lib.hid (And.intro (H.out.quiet hq) hq)
  clear hq
  go_wp2_with fail
  go_ret
  exact ⟨rfl, ⟨a, H1.out.1⟩, H1.out.2.mono (fun _ _ h => h.elim)⟩
set_option maxRecDepth 100000 in
set_option maxHeartbeats 4000000 in
theorem renter_nil (h : RefAt W r U X a) (hX : ∀ k, X k → k < W.heap.size) (hd : U.dir.length < 1000000) (nm : ByteArray) (n : Nat) (hn : n < U.F.length) (hi : isD nm U.dir = false) (hl : U.dir.length < 200) (hD : a.D = .slice none 0 0) (h0 : U.dir.length = 0) : Calls Try.prog 58 #[.pointer (some ⟨r, 0, none⟩), .string nm, .int .i64 n] W (RPost r X (.int .i64 0) { U with dir := [(nm, n)] } W) := by
  have HA := Go.Lib.hid (rpos_c h hd nm)
  have H := Go.Lib.hid h
  rw [hi] at HA
  have hkl := posD_le nm U.dir
  obtain ⟨_, c1, _, _⟩ := h.cells
  rw [hD] at c1
  have gl : decide ((U.dir.length : Int) ≥ 200) = false := by simp; omega
  have hp0 : posD nm U.dir = 0 := by omega
  rw [hp0] at HA
  clear hp0
  have hrl := h.lt
  rw [h0] at gl
  clear hkl h0
  obtain ⟨i0, hi0, hz0, hz1, hz2⟩ := info_parts etinfo
  have Hi := Go.Lib.hid (And.intro hi0 (And.intro hz0 (And.intro hz1 hz2)))
  clear h hi hD hi0 hz0 hz1 hz2 
  go_enter Try.func58, Try.ntmps58
  go_wp2_with fail
  refine HA.out.mono ?_
  rintro ee w1 ⟨rfl, hq⟩
  have hX1 : ∀ j, X j → j < w1.heap.size := fun j hj => Nat.lt_of_lt_of_le (hX j hj) hq.size
  have h1 := H.out.quiet hq
  have c1 := cell_q hq c1
  have hrl1 := h1.lt
  have H1 := Go.Lib.hid (And.intro h1 hq)
  have K1 := Go.Lib.hid c1
  clear hq h1 HA
  go_wp2_with fail
  refine regionT 22 (fun V' => Chg NoB w1 V') (by kernel_rfl) (by decide) ((Chg.refl NoB w1).drew) (fun inv hS => ?_)
  refine tkV 0 38 ?v1538 inv hS ?_
  clear inv; intro inv; try simp only [sw1, sw2, sw3]
  refine tkV 1 39 ?v1539 inv hS ?_
  clear inv; intro inv; try simp only [sw1, sw2, sw3]
  refine tkV 2 40 ?v1540 inv hS ?_
  clear inv; intro inv; try simp only [sw1, sw2, sw3]
  refine tkV 3 41 ?v1541 inv hS ?_
  clear inv; intro inv; try simp only [sw1, sw2, sw3]
  refine tkT 4 42 ?v1542 inv hS ?h1542 ?_
  case h1542 => (intro V' hSw; have q := cell_q hSw K1.out; clear hSw; go_simp; try with_reducible rfl)
  clear inv; intro inv; try simp only [sw1, sw2, sw3]
  refine tkV 5 43 ?v1543 inv hS ?_
  clear inv; intro inv; try simp only [sw1, sw2, sw3]
  refine tkV 6 44 (.slice none 0 0) inv hS ?_
  clear inv; intro inv; try simp only [sw1, sw2, sw3]
  refine tkV 8 46 ?v1545 inv hS ?_
  clear inv; intro inv; try simp only [sw1, sw2, sw3]
  refine tkV 9 47 ?v1546 inv hS ?_
  clear inv; intro inv; try simp only [sw1, sw2, sw3]
  refine tkV 10 48 ?v1547 inv hS ?_
  clear inv; intro inv; try simp only [sw1, sw2, sw3]
  refine tkV 13 51 ?v1548 inv hS ?_
  clear inv; intro inv; try simp only [sw1, sw2, sw3]
  refine tkV 14 52 ?v1549 inv hS ?_
  clear inv; intro inv; try simp only [sw1, sw2, sw3]
  refine tkV 15 53 ?v1550 inv hS ?_
  clear inv; intro inv; try simp only [sw1, sw2, sw3]
  refine tkT 16 54 ?v1551 inv hS ?h1551 ?_
  case h1551 => (intro V' hSw; have q := cell_q hSw K1.out; clear hSw; go_simp; try with_reducible rfl)
  clear inv; intro inv; try simp only [sw1, sw2, sw3]
  refine tkV 17 55 ?v1552 inv hS ?_
  clear inv; intro inv; try simp only [sw1, sw2, sw3]
  refine tkV 18 56 (.slice none 0 0) inv hS ?_
  clear inv; intro inv; try simp only [sw1, sw2, sw3]
  refine manyT (i := 7) (l := [11]) (by kernel_rfl) (by decide) inv ?ho17
  case ho17 =>
    intro j hj
    simp only [List.mem_cons, List.not_mem_nil, or_false] at hj
    rcases hj with rfl | rfl
    ·
      intro inv2
      clear inv
      have inv := inv2
      clear inv2
      refine opWpT rfl (by rfl) (wp_appK _ (.const (.slice none 0 0)) (.tmp 44) _ rfl w1.heap.size ET i0 _ 2 24 Try.underlying78 Hi.out.1 Hi.out.2.1 Hi.out.2.2.1 Hi.out.2.2.2 rfl (by decide) (.slice none 0 0) (0) [] rfl (World.ownsRow_nil _ _ _ _) none (0) 0 [] rfl rfl (fun hh => absurd hh (by simp)) (by simp) (by unfold maxLen; omega) (by omega) (by have := hS.size; (try simp only [World.drew] at this ⊢); omega) ?_)
      intro v7 w7 own7 gr7 at7
      have hq7 : Chg NoB w1.drew w7 := (Chg.refl NoB _).grown gr7 (by simp [Value.ownBlock])
      have hS := hS.trans hq7
      clear hq7 gr7 at7
      refine ⟨fun _ => hS, ?_⟩
      try simp only [sw1, sw2, sw3]
      refine manyT (i := 11) (l := []) (by kernel_rfl) (by decide) inv ?ho18
      case ho18 =>
        intro j hj
        simp only [List.mem_cons, List.not_mem_nil, or_false] at hj
        rcases hj with rfl
        ·
          intro inv2
          clear inv
          have inv := inv2
          clear inv2
          refine opVal (t := 49) (v := .slice (some ⟨(World.heap (w7)).size, 0, none⟩) 1 1) (w' := World.alloc (w7) (.cells #[.string nm, .int .i64 (n : Int)] ET)) rfl rfl (by rfl) ?hb11 (hS.alloc _) ?hn11
          case hb11 => (go_simp; try rfl)
          case hn11 =>
            have hq11 := (Chg.refl NoB (w7)).alloc (.cells #[.string nm, .int .i64 (n : Int)] ET)
            have cl11 := cells_of_blk (Blk.new (w7) ET #[.string nm, .int .i64 (n : Int)])
            have own7 := own_chg own7 hq11 (fun _ _ => id)
            have hS := hS.trans hq11
            clear hq11
            generalize World.alloc (w7) (.cells #[.string nm, .int .i64 (n : Int)] ET) = w11 at *
            generalize (World.heap (w7)).size = g11 at *
            try simp only [sw1, sw2, sw3]
            refine manyT (i := 12) (l := []) (by kernel_rfl) (by decide) inv ?ho19
            case ho19 =>
              intro j hj
              simp only [List.mem_cons, List.not_mem_nil, or_false] at hj
              rcases hj with rfl
              ·
                intro inv2
                clear inv
                have inv := inv2
                clear inv2
                refine opWpT rfl (by rfl) (wp_appK _ (.tmp 45) (.tmp 49) _ rfl w1.heap.size ET i0 _ 2 24 Try.underlying78 Hi.out.1 Hi.out.2.1 Hi.out.2.2.1 Hi.out.2.2.2 rfl (by decide) v7 (0 + 0) ([] ++ []) rfl own7 (some ⟨g11, 0, none⟩) (1) 1 [.string nm, .int .i64 (n : Int)] rfl rfl cl11 (by simp [Value.oneCell']) (by unfold maxLen; omega) (by omega) (by have := hS.size; (try simp only [World.drew] at this ⊢); omega) ?_)
                intro v12 w12 own12 gr12 at12
                have hS := hS.grown gr12 (fun j hj hlt => by have := (own7.lt j hj).1; omega)
                clear gr12 at12 own7
                clear cl11
                refine ⟨fun _ => hS, ?_⟩
                try simp only [sw1, sw2, sw3]
                refine manyT (i := 19) (l := []) (by kernel_rfl) (by decide) inv ?ho20
                case ho20 =>
                  intro j hj
                  simp only [List.mem_cons, List.not_mem_nil, or_false] at hj
                  rcases hj with rfl
                  ·
                    intro inv2
                    clear inv
                    have inv := inv2
                    clear inv2
                    refine opWpT rfl (by rfl) (wp_appK _ (.tmp 50) (.tmp 56) _ rfl w1.heap.size ET i0 _ 2 24 Try.underlying78 Hi.out.1 Hi.out.2.1 Hi.out.2.2.1 Hi.out.2.2.2 rfl (by decide) v12 (0 + 0 + 1) ([] ++ [] ++ [.string nm, .int .i64 (n : Int)]) rfl own12 none (0) 0 [] rfl rfl (fun hh => absurd hh (by simp)) (by simp) (by unfold maxLen; omega) (by omega) (by have := hS.size; (try simp only [World.drew] at this ⊢); omega) ?_)
                    intro v19 w19 own19 gr19 at19
                    have hS := hS.grown gr19 (fun j hj hlt => by have := (own12.lt j hj).1; omega)
                    clear gr19 at19 own12
                    rw [List.nil_append, show 0 + 0 + 1 + 0 = (0 + 1 + 0) by omega] at own19
                    obtain ⟨A17, c17, rfl⟩ := own_slice own19
                    have c2' := cell_q hS K1.out
                    have z2' := (H1.out.1.quiet hS).blk.frozen 1
                    refine ⟨fun _ => hS, ?_⟩
                    try simp only [sw1, sw2, sw3]
                    refine tkV 20 58 ?v1554 inv hS ?_
                    clear inv; intro inv; try simp only [sw1, sw2, sw3]
                    refine tkV 21 59 ?v1555 inv hS ?_
                    clear inv; intro inv; try simp only [sw1, sw2, sw3]
                    refine lastT (i := 22) (w' := w19.setCell ⟨r, 1, none⟩ (.slice A17 (0 + 1 + 0) c17)) rfl (by kernel_rfl) rfl (by rfl) ?hx23 (by decide) (by kernel_rfl) ?_
                    case hx23 => (go_simp; try with_reducible rfl)
                    have hc3 : Chg (fun k => k = r) w1 (w19.setCell ⟨r, 1, none⟩ (.slice A17 (0 + 1 + 0) c17)) := (hS.mono (G := fun k => k = r) (fun _ _ h => h.elim)).setCell (p := ⟨r, 1, none⟩) (fun _ => rfl) _
                    have hb3 := (H1.out.1.quiet hS).blk.set_ 1 (.slice A17 (0 + 1 + 0) c17)
                    have ho3 := own_chg own19 ((Chg.refl (fun k => k = r) w19).setCell (p := ⟨r, 1, none⟩) (fun _ => rfl) (.slice A17 (0 + 1 + 0) c17)) (fun k hk hx => by
                      have := (own19.lt k hk).1
                      omega)
                    have hfin : ∃ a', RefAt (w19.setCell ⟨r, 1, none⟩ (.slice A17 (0 + 1 + 0) c17)) r { U with dir := [(nm, n)] } X a' := by
                      refine ⟨_, H1.out.1.putD hX1 hc3 hb3 (d' := [(nm, n)]) ho3 (fun q hq => ?_)⟩
                      obtain rfl : q = (nm, n) := by simpa using hq
                      exact hn
                    have HF := Go.Lib.hid (And.intro hfin ((H1.out.2.mono (fun _ _ h => h.elim)).trans hc3))
                    clear hfin hc3 hb3 ho3 own19 hS inv
                    go_wp2_with fail
                    go_ret
                    exact ⟨rfl, HF.out.1, HF.out.2⟩
    ·
      intro inv2
      clear inv
      have inv := inv2
      clear inv2
      refine opVal (t := 49) (v := .slice (some ⟨(World.heap (w1.drew)).size, 0, none⟩) 1 1) (w' := World.alloc (w1.drew) (.cells #[.string nm, .int .i64 (n : Int)] ET)) rfl rfl (by rfl) ?hb11 (hS.alloc _) ?hn11
      case hb11 => (go_simp; try rfl)
      case hn11 =>
        have hq11 := (Chg.refl NoB (w1.drew)).alloc (.cells #[.string nm, .int .i64 (n : Int)] ET)
        have cl11 := cells_of_blk (Blk.new (w1.drew) ET #[.string nm, .int .i64 (n : Int)])
        have hS := hS.trans hq11
        clear hq11
        generalize World.alloc (w1.drew) (.cells #[.string nm, .int .i64 (n : Int)] ET) = w11 at *
        generalize (World.heap (w1.drew)).size = g11 at *
        try simp only [sw1, sw2, sw3]
        refine manyT (i := 7) (l := []) (by kernel_rfl) (by decide) inv ?ho24
        case ho24 =>
          intro j hj
          simp only [List.mem_cons, List.not_mem_nil, or_false] at hj
          rcases hj with rfl
          ·
            intro inv2
            clear inv
            have inv := inv2
            clear inv2
            refine opWpT rfl (by rfl) (wp_appK _ (.const (.slice none 0 0)) (.tmp 44) _ rfl w1.heap.size ET i0 _ 2 24 Try.underlying78 Hi.out.1 Hi.out.2.1 Hi.out.2.2.1 Hi.out.2.2.2 rfl (by decide) (.slice none 0 0) (0) [] rfl (World.ownsRow_nil _ _ _ _) none (0) 0 [] rfl rfl (fun hh => absurd hh (by simp)) (by simp) (by unfold maxLen; omega) (by omega) (by have := hS.size; (try simp only [World.drew] at this ⊢); omega) ?_)
            intro v7 w7 own7 gr7 at7
            have hq7 : Chg NoB w11 w7 := (Chg.refl NoB _).grown gr7 (by simp [Value.ownBlock])
            have cl11 := cl11.chg hq7 (fun _ _ => id)
            have hS := hS.trans hq7
            clear hq7 gr7 at7
            refine ⟨fun _ => hS, ?_⟩
            try simp only [sw1, sw2, sw3]
            refine manyT (i := 12) (l := []) (by kernel_rfl) (by decide) inv ?ho25
            case ho25 =>
              intro j hj
              simp only [List.mem_cons, List.not_mem_nil, or_false] at hj
              rcases hj with rfl
              ·
                intro inv2
                clear inv
                have inv := inv2
                clear inv2
                refine opWpT rfl (by rfl) (wp_appK _ (.tmp 45) (.tmp 49) _ rfl w1.heap.size ET i0 _ 2 24 Try.underlying78 Hi.out.1 Hi.out.2.1 Hi.out.2.2.1 Hi.out.2.2.2 rfl (by decide) v7 (0 + 0) ([] ++ []) rfl own7 (some ⟨g11, 0, none⟩) (1) 1 [.string nm, .int .i64 (n : Int)] rfl rfl cl11 (by simp [Value.oneCell']) (by unfold maxLen; omega) (by omega) (by have := hS.size; (try simp only [World.drew] at this ⊢); omega) ?_)
                intro v12 w12 own12 gr12 at12
                have hS := hS.grown gr12 (fun j hj hlt => by have := (own7.lt j hj).1; omega)
                clear gr12 at12 own7
                clear cl11
                refine ⟨fun _ => hS, ?_⟩
                try simp only [sw1, sw2, sw3]
                refine manyT (i := 19) (l := []) (by kernel_rfl) (by decide) inv ?ho26
                case ho26 =>
                  intro j hj
                  simp only [List.mem_cons, List.not_mem_nil, or_false] at hj
                  rcases hj with rfl
                  ·
                    intro inv2
                    clear inv
                    have inv := inv2
                    clear inv2
                    refine opWpT rfl (by rfl) (wp_appK _ (.tmp 50) (.tmp 56) _ rfl w1.heap.size ET i0 _ 2 24 Try.underlying78 Hi.out.1 Hi.out.2.1 Hi.out.2.2.1 Hi.out.2.2.2 rfl (by decide) v12 (0 + 0 + 1) ([] ++ [] ++ [.string nm, .int .i64 (n : Int)]) rfl own12 none (0) 0 [] rfl rfl (fun hh => absurd hh (by simp)) (by simp) (by unfold maxLen; omega) (by omega) (by have := hS.size; (try simp only [World.drew] at this ⊢); omega) ?_)
                    intro v19 w19 own19 gr19 at19
                    have hS := hS.grown gr19 (fun j hj hlt => by have := (own12.lt j hj).1; omega)
                    clear gr19 at19 own12
                    rw [List.nil_append, show 0 + 0 + 1 + 0 = (0 + 1 + 0) by omega] at own19
                    obtain ⟨A17, c17, rfl⟩ := own_slice own19
                    have c2' := cell_q hS K1.out
                    have z2' := (H1.out.1.quiet hS).blk.frozen 1
                    refine ⟨fun _ => hS, ?_⟩
                    try simp only [sw1, sw2, sw3]
                    refine tkV 20 58 ?v1556 inv hS ?_
                    clear inv; intro inv; try simp only [sw1, sw2, sw3]
                    refine tkV 21 59 ?v1557 inv hS ?_
                    clear inv; intro inv; try simp only [sw1, sw2, sw3]
                    refine lastT (i := 22) (w' := w19.setCell ⟨r, 1, none⟩ (.slice A17 (0 + 1 + 0) c17)) rfl (by kernel_rfl) rfl (by rfl) ?hx29 (by decide) (by kernel_rfl) ?_
                    case hx29 => (go_simp; try with_reducible rfl)
                    have hc3 : Chg (fun k => k = r) w1 (w19.setCell ⟨r, 1, none⟩ (.slice A17 (0 + 1 + 0) c17)) := (hS.mono (G := fun k => k = r) (fun _ _ h => h.elim)).setCell (p := ⟨r, 1, none⟩) (fun _ => rfl) _
                    have hb3 := (H1.out.1.quiet hS).blk.set_ 1 (.slice A17 (0 + 1 + 0) c17)
                    have ho3 := own_chg own19 ((Chg.refl (fun k => k = r) w19).setCell (p := ⟨r, 1, none⟩) (fun _ => rfl) (.slice A17 (0 + 1 + 0) c17)) (fun k hk hx => by
                      have := (own19.lt k hk).1
                      omega)
                    have hfin : ∃ a', RefAt (w19.setCell ⟨r, 1, none⟩ (.slice A17 (0 + 1 + 0) c17)) r { U with dir := [(nm, n)] } X a' := by
                      refine ⟨_, H1.out.1.putD hX1 hc3 hb3 (d' := [(nm, n)]) ho3 (fun q hq => ?_)⟩
                      obtain rfl : q = (nm, n) := by simpa using hq
                      exact hn
                    have HF := Go.Lib.hid (And.intro hfin ((H1.out.2.mono (fun _ _ h => h.elim)).trans hc3))
                    clear hfin hc3 hb3 ho3 own19 hS inv
                    go_wp2_with fail
                    go_ret
                    exact ⟨rfl, HF.out.1, HF.out.2⟩
set_option maxRecDepth 100000 in
set_option maxHeartbeats 4000000 in
theorem renter_fullc (h : RefAt W r U X a) (hX : ∀ k, X k → k < W.heap.size) (hd : U.dir.length < 1000000) (nm : ByteArray) (n : Nat) (hn : n < U.F.length) (hi : isD nm U.dir = false) (hl : U.dir.length < 200) {gD : Nat} (hD : a.D = .slice (some ⟨gD, 0, none⟩) U.dir.length (posD nm U.dir)) (hh : ∀ k, k ≤ U.dir.length → CellsAt W (some ⟨gD, 0, none⟩) (dcells (U.dir.take k)) ∧ CellsAt W (some ⟨gD, k * 2, none⟩) (dcells (U.dir.drop k))) (hnc : U.dir.length ≤ posD nm U.dir) : Calls Try.prog 58 #[.pointer (some ⟨r, 0, none⟩), .string nm, .int .i64 n] W (RPost r X (.int .i64 0) { U with dir := U.dir.take (posD nm U.dir) ++ ((nm, n) :: U.dir.drop (posD nm U.dir)) } W) := by
  have HA := Go.Lib.hid (rpos_c h hd nm)
  have H := Go.Lib.hid h
  rw [hi] at HA
  have hkl := posD_le nm U.dir
  obtain ⟨_, c1, _, _⟩ := h.cells
  rw [hD] at c1
  have gl : decide ((U.dir.length : Int) ≥ 200) = false := by simp; omega
  have HCs := Go.Lib.hid (hh (posD nm U.dir) hkl)
  have hrl := h.lt
  have hl1 : (U.dir.take (posD nm U.dir)).length = posD nm U.dir := by simp; omega
  have hl2 : (U.dir.drop (posD nm U.dir)).length = U.dir.length - posD nm U.dir := by simp
  obtain ⟨i0, hi0, hz0, hz1, hz2⟩ := info_parts etinfo
  have Hi := Go.Lib.hid (And.intro hi0 (And.intro hz0 (And.intro hz1 hz2)))
  clear h hi hD hi0 hz0 hz1 hz2 hh
  generalize posD nm U.dir = k at *
  go_enter Try.func58, Try.ntmps58
  go_wp2_with fail
  refine HA.out.mono ?_
  rintro ee w1 ⟨rfl, hq⟩
  have hX1 : ∀ j, X j → j < w1.heap.size := fun j hj => Nat.lt_of_lt_of_le (hX j hj) hq.size
  have h1 := H.out.quiet hq
  have c1 := cell_q hq c1
  have HCs1 := Go.Lib.hid (And.intro (HCs.out.1.chg hq (fun _ _ => id)) (HCs.out.2.chg hq (fun _ _ => id)))
  have hrl1 := h1.lt
  have H1 := Go.Lib.hid (And.intro h1 hq)
  have K1 := Go.Lib.hid c1
  clear hq h1 HCs HA
  go_wp2_with fail
  refine regionT 22 (fun V' => Chg NoB w1 V') (by kernel_rfl) (by decide) ((Chg.refl NoB w1).drew) (fun inv hS => ?_)
  refine tkV 0 38 ?v1558 inv hS ?_
  clear inv; intro inv; try simp only [sw1, sw2, sw3]
  refine tkV 1 39 ?v1559 inv hS ?_
  clear inv; intro inv; try simp only [sw1, sw2, sw3]
  refine tkV 2 40 ?v1560 inv hS ?_
  clear inv; intro inv; try simp only [sw1, sw2, sw3]
  refine tkV 3 41 ?v1561 inv hS ?_
  clear inv; intro inv; try simp only [sw1, sw2, sw3]
  refine tkT 4 42 ?v1562 inv hS ?h1562 ?_
  case h1562 => (intro V' hSw; have q := cell_q hSw K1.out; clear hSw; go_simp; try with_reducible rfl)
  clear inv; intro inv; try simp only [sw1, sw2, sw3]
  refine tkV 5 43 ?v1563 inv hS ?_
  clear inv; intro inv; try simp only [sw1, sw2, sw3]
  refine tkT 6 44 (.slice (some ⟨gD, 0, none⟩) k k) inv hS ?h1564 ?_
  case h1564 => (intro V' hSw; clear hSw; have hz : U.dir.length - k = 0 := (by omega); go_simp; (try (rw [if_pos (by omega)])); (try with_reducible rfl))
  clear inv; intro inv; try simp only [sw1, sw2, sw3]
  refine tkV 8 46 ?v1565 inv hS ?_
  clear inv; intro inv; try simp only [sw1, sw2, sw3]
  refine tkV 9 47 ?v1566 inv hS ?_
  clear inv; intro inv; try simp only [sw1, sw2, sw3]
  refine tkV 10 48 ?v1567 inv hS ?_
  clear inv; intro inv; try simp only [sw1, sw2, sw3]
  refine tkV 13 51 ?v1568 inv hS ?_
  clear inv; intro inv; try simp only [sw1, sw2, sw3]
  refine tkV 14 52 ?v1569 inv hS ?_
  clear inv; intro inv; try simp only [sw1, sw2, sw3]
  refine tkV 15 53 ?v1570 inv hS ?_
  clear inv; intro inv; try simp only [sw1, sw2, sw3]
  refine tkT 16 54 ?v1571 inv hS ?h1571 ?_
  case h1571 => (intro V' hSw; have q := cell_q hSw K1.out; clear hSw; go_simp; try with_reducible rfl)
  clear inv; intro inv; try simp only [sw1, sw2, sw3]
  refine tkV 17 55 ?v1572 inv hS ?_
  clear inv; intro inv; try simp only [sw1, sw2, sw3]
  refine tkT 18 56 (.slice (some ⟨gD, 0, none⟩) (U.dir.length - k) 0) inv hS ?h1573 ?_
  case h1573 => (intro V' hSw; clear hSw; have hz : U.dir.length - k = 0 := (by omega); go_simp; (try (rw [if_pos (by omega)])); (try with_reducible rfl))
  clear inv; intro inv; try simp only [sw1, sw2, sw3]
  refine manyT (i := 7) (l := [11]) (by kernel_rfl) (by decide) inv ?ho46
  case ho46 =>
    intro j hj
    simp only [List.mem_cons, List.not_mem_nil, or_false] at hj
    rcases hj with rfl | rfl
    ·
      intro inv2
      clear inv
      have inv := inv2
      clear inv2
      refine opWpT rfl (by rfl) (wp_appK _ (.const (.slice none 0 0)) (.tmp 44) _ rfl w1.heap.size ET i0 _ 2 24 Try.underlying78 Hi.out.1 Hi.out.2.1 Hi.out.2.2.1 Hi.out.2.2.2 rfl (by decide) (.slice none 0 0) (0) [] rfl (World.ownsRow_nil _ _ _ _) (some ⟨gD, 0, none⟩) (k) k (dcells (U.dir.take k)) rfl (by rw [dcells_len, hl1]) (HCs1.out.1.chg hS (fun _ _ => id)) (dcells_one _) (by unfold maxLen; omega) (by omega) (by have := hS.size; (try simp only [World.drew] at this ⊢); omega) ?_)
      intro v7 w7 own7 gr7 at7
      have hq7 : Chg NoB w1.drew w7 := (Chg.refl NoB _).grown gr7 (by simp [Value.ownBlock])
      have hS := hS.trans hq7
      clear hq7 gr7 at7
      refine ⟨fun _ => hS, ?_⟩
      try simp only [sw1, sw2, sw3]
      refine manyT (i := 11) (l := []) (by kernel_rfl) (by decide) inv ?ho47
      case ho47 =>
        intro j hj
        simp only [List.mem_cons, List.not_mem_nil, or_false] at hj
        rcases hj with rfl
        ·
          intro inv2
          clear inv
          have inv := inv2
          clear inv2
          refine opVal (t := 49) (v := .slice (some ⟨(World.heap (w7)).size, 0, none⟩) 1 1) (w' := World.alloc (w7) (.cells #[.string nm, .int .i64 (n : Int)] ET)) rfl rfl (by rfl) ?hb11 (hS.alloc _) ?hn11
          case hb11 => (go_simp; try rfl)
          case hn11 =>
            have hq11 := (Chg.refl NoB (w7)).alloc (.cells #[.string nm, .int .i64 (n : Int)] ET)
            have cl11 := cells_of_blk (Blk.new (w7) ET #[.string nm, .int .i64 (n : Int)])
            have own7 := own_chg own7 hq11 (fun _ _ => id)
            have hS := hS.trans hq11
            clear hq11
            generalize World.alloc (w7) (.cells #[.string nm, .int .i64 (n : Int)] ET) = w11 at *
            generalize (World.heap (w7)).size = g11 at *
            try simp only [sw1, sw2, sw3]
            refine manyT (i := 12) (l := []) (by kernel_rfl) (by decide) inv ?ho48
            case ho48 =>
              intro j hj
              simp only [List.mem_cons, List.not_mem_nil, or_false] at hj
              rcases hj with rfl
              ·
                intro inv2
                clear inv
                have inv := inv2
                clear inv2
                refine opWpT rfl (by rfl) (wp_appK _ (.tmp 45) (.tmp 49) _ rfl w1.heap.size ET i0 _ 2 24 Try.underlying78 Hi.out.1 Hi.out.2.1 Hi.out.2.2.1 Hi.out.2.2.2 rfl (by decide) v7 (0 + k) ([] ++ (dcells (U.dir.take k))) rfl own7 (some ⟨g11, 0, none⟩) (1) 1 [.string nm, .int .i64 (n : Int)] rfl rfl cl11 (by simp [Value.oneCell']) (by unfold maxLen; omega) (by omega) (by have := hS.size; (try simp only [World.drew] at this ⊢); omega) ?_)
                intro v12 w12 own12 gr12 at12
                have hS := hS.grown gr12 (fun j hj hlt => by have := (own7.lt j hj).1; omega)
                clear gr12 at12 own7
                clear cl11
                refine ⟨fun _ => hS, ?_⟩
                try simp only [sw1, sw2, sw3]
                refine manyT (i := 19) (l := []) (by kernel_rfl) (by decide) inv ?ho49
                case ho49 =>
                  intro j hj
                  simp only [List.mem_cons, List.not_mem_nil, or_false] at hj
                  rcases hj with rfl
                  ·
                    intro inv2
                    clear inv
                    have inv := inv2
                    clear inv2
                    refine opWpT rfl (by rfl) (wp_appK _ (.tmp 50) (.tmp 56) _ rfl w1.heap.size ET i0 _ 2 24 Try.underlying78 Hi.out.1 Hi.out.2.1 Hi.out.2.2.1 Hi.out.2.2.2 rfl (by decide) v12 (0 + k + 1) ([] ++ (dcells (U.dir.take k)) ++ [.string nm, .int .i64 (n : Int)]) rfl own12 (some ⟨gD, 0, none⟩) ((U.dir.length - k)) 0 (dcells (U.dir.drop k)) rfl (by rw [dcells_len, hl2]) (fun hh => absurd hh (by rw [dcells_len, hl2]; omega)) (dcells_one _) (by unfold maxLen; omega) (by omega) (by have := hS.size; (try simp only [World.drew] at this ⊢); omega) ?_)
                    intro v19 w19 own19 gr19 at19
                    have hS := hS.grown gr19 (fun j hj hlt => by have := (own12.lt j hj).1; omega)
                    clear gr19 at19 own12
                    rw [List.nil_append, show 0 + k + 1 + (U.dir.length - k) = (k + 1) by omega] at own19
                    obtain ⟨A17, c17, rfl⟩ := own_slice own19
                    have c2' := cell_q hS K1.out
                    have z2' := (H1.out.1.quiet hS).blk.frozen 1
                    refine ⟨fun _ => hS, ?_⟩
                    try simp only [sw1, sw2, sw3]
                    refine tkV 20 58 ?v1574 inv hS ?_
                    clear inv; intro inv; try simp only [sw1, sw2, sw3]
                    refine tkV 21 59 ?v1575 inv hS ?_
                    clear inv; intro inv; try simp only [sw1, sw2, sw3]
                    refine lastT (i := 22) (w' := w19.setCell ⟨r, 1, none⟩ (.slice A17 (k + 1) c17)) rfl (by kernel_rfl) rfl (by rfl) ?hx52 (by decide) (by kernel_rfl) ?_
                    case hx52 => (go_simp; try with_reducible rfl)
                    have hc3 : Chg (fun k => k = r) w1 (w19.setCell ⟨r, 1, none⟩ (.slice A17 (k + 1) c17)) := (hS.mono (G := fun k => k = r) (fun _ _ h => h.elim)).setCell (p := ⟨r, 1, none⟩) (fun _ => rfl) _
                    have hb3 := (H1.out.1.quiet hS).blk.set_ 1 (.slice A17 (k + 1) c17)
                    have ho3 := own_chg own19 ((Chg.refl (fun k => k = r) w19).setCell (p := ⟨r, 1, none⟩) (fun _ => rfl) (.slice A17 (k + 1) c17)) (fun k hk hx => by
                      have := (own19.lt k hk).1
                      omega)
                    have hfin : ∃ a', RefAt (w19.setCell ⟨r, 1, none⟩ (.slice A17 (k + 1) c17)) r { U with dir := U.dir.take k ++ ((nm, n) :: U.dir.drop k) } X a' := by
                      have hl3 : (U.dir.take k ++ ((nm, n) :: U.dir.drop k)).length = (k + 1) := by rw [List.length_append, hl1, List.length_cons, hl2]; omega
                      refine ⟨_, H1.out.1.putD hX1 hc3 hb3 (d' := U.dir.take k ++ ((nm, n) :: U.dir.drop k)) ?_ (fun q hq => ?_)⟩
                      · rw [hl3, dcells_app]
                        have e2 : dcells ((nm, n) :: U.dir.drop k) = [.string nm, .int .i64 (n : Int)] ++ dcells (U.dir.drop k) := rfl
                        rw [e2, ← List.append_assoc]
                        exact ho3
                      · rcases List.mem_append.1 hq with hq | hq
                        · exact H1.out.1.db q (List.mem_of_mem_take hq)
                        · rcases List.mem_cons.1 hq with rfl | hq
                          · exact hn
                          · exact H1.out.1.db q (List.mem_of_mem_drop hq)
                    have HF := Go.Lib.hid (And.intro hfin ((H1.out.2.mono (fun _ _ h => h.elim)).trans hc3))
                    clear hfin hc3 hb3 ho3 own19 hS inv
                    go_wp2_with fail
                    go_ret
                    exact ⟨rfl, HF.out.1, HF.out.2⟩
    ·
      intro inv2
      clear inv
      have inv := inv2
      clear inv2
      refine opVal (t := 49) (v := .slice (some ⟨(World.heap (w1.drew)).size, 0, none⟩) 1 1) (w' := World.alloc (w1.drew) (.cells #[.string nm, .int .i64 (n : Int)] ET)) rfl rfl (by rfl) ?hb11 (hS.alloc _) ?hn11
      case hb11 => (go_simp; try rfl)
      case hn11 =>
        have hq11 := (Chg.refl NoB (w1.drew)).alloc (.cells #[.string nm, .int .i64 (n : Int)] ET)
        have cl11 := cells_of_blk (Blk.new (w1.drew) ET #[.string nm, .int .i64 (n : Int)])
        have hS := hS.trans hq11
        clear hq11
        generalize World.alloc (w1.drew) (.cells #[.string nm, .int .i64 (n : Int)] ET) = w11 at *
        generalize (World.heap (w1.drew)).size = g11 at *
        try simp only [sw1, sw2, sw3]
        refine manyT (i := 7) (l := []) (by kernel_rfl) (by decide) inv ?ho53
        case ho53 =>
          intro j hj
          simp only [List.mem_cons, List.not_mem_nil, or_false] at hj
          rcases hj with rfl
          ·
            intro inv2
            clear inv
            have inv := inv2
            clear inv2
            refine opWpT rfl (by rfl) (wp_appK _ (.const (.slice none 0 0)) (.tmp 44) _ rfl w1.heap.size ET i0 _ 2 24 Try.underlying78 Hi.out.1 Hi.out.2.1 Hi.out.2.2.1 Hi.out.2.2.2 rfl (by decide) (.slice none 0 0) (0) [] rfl (World.ownsRow_nil _ _ _ _) (some ⟨gD, 0, none⟩) (k) k (dcells (U.dir.take k)) rfl (by rw [dcells_len, hl1]) (HCs1.out.1.chg hS (fun _ _ => id)) (dcells_one _) (by unfold maxLen; omega) (by omega) (by have := hS.size; (try simp only [World.drew] at this ⊢); omega) ?_)
            intro v7 w7 own7 gr7 at7
            have hq7 : Chg NoB w11 w7 := (Chg.refl NoB _).grown gr7 (by simp [Value.ownBlock])
            have cl11 := cl11.chg hq7 (fun _ _ => id)
            have hS := hS.trans hq7
            clear hq7 gr7 at7
            refine ⟨fun _ => hS, ?_⟩
            try simp only [sw1, sw2, sw3]
            refine manyT (i := 12) (l := []) (by kernel_rfl) (by decide) inv ?ho54
            case ho54 =>
              intro j hj
              simp only [List.mem_cons, List.not_mem_nil, or_false] at hj
              rcases hj with rfl
              ·
                intro inv2
                clear inv
                have inv := inv2
                clear inv2
                refine opWpT rfl (by rfl) (wp_appK _ (.tmp 45) (.tmp 49) _ rfl w1.heap.size ET i0 _ 2 24 Try.underlying78 Hi.out.1 Hi.out.2.1 Hi.out.2.2.1 Hi.out.2.2.2 rfl (by decide) v7 (0 + k) ([] ++ (dcells (U.dir.take k))) rfl own7 (some ⟨g11, 0, none⟩) (1) 1 [.string nm, .int .i64 (n : Int)] rfl rfl cl11 (by simp [Value.oneCell']) (by unfold maxLen; omega) (by omega) (by have := hS.size; (try simp only [World.drew] at this ⊢); omega) ?_)
                intro v12 w12 own12 gr12 at12
                have hS := hS.grown gr12 (fun j hj hlt => by have := (own7.lt j hj).1; omega)
                clear gr12 at12 own7
                clear cl11
                refine ⟨fun _ => hS, ?_⟩
                try simp only [sw1, sw2, sw3]
                refine manyT (i := 19) (l := []) (by kernel_rfl) (by decide) inv ?ho55
                case ho55 =>
                  intro j hj
                  simp only [List.mem_cons, List.not_mem_nil, or_false] at hj
                  rcases hj with rfl
                  ·
                    intro inv2
                    clear inv
                    have inv := inv2
                    clear inv2
                    refine opWpT rfl (by rfl) (wp_appK _ (.tmp 50) (.tmp 56) _ rfl w1.heap.size ET i0 _ 2 24 Try.underlying78 Hi.out.1 Hi.out.2.1 Hi.out.2.2.1 Hi.out.2.2.2 rfl (by decide) v12 (0 + k + 1) ([] ++ (dcells (U.dir.take k)) ++ [.string nm, .int .i64 (n : Int)]) rfl own12 (some ⟨gD, 0, none⟩) ((U.dir.length - k)) 0 (dcells (U.dir.drop k)) rfl (by rw [dcells_len, hl2]) (fun hh => absurd hh (by rw [dcells_len, hl2]; omega)) (dcells_one _) (by unfold maxLen; omega) (by omega) (by have := hS.size; (try simp only [World.drew] at this ⊢); omega) ?_)
                    intro v19 w19 own19 gr19 at19
                    have hS := hS.grown gr19 (fun j hj hlt => by have := (own12.lt j hj).1; omega)
                    clear gr19 at19 own12
                    rw [List.nil_append, show 0 + k + 1 + (U.dir.length - k) = (k + 1) by omega] at own19
                    obtain ⟨A17, c17, rfl⟩ := own_slice own19
                    have c2' := cell_q hS K1.out
                    have z2' := (H1.out.1.quiet hS).blk.frozen 1
                    refine ⟨fun _ => hS, ?_⟩
                    try simp only [sw1, sw2, sw3]
                    refine tkV 20 58 ?v1576 inv hS ?_
                    clear inv; intro inv; try simp only [sw1, sw2, sw3]
                    refine tkV 21 59 ?v1577 inv hS ?_
                    clear inv; intro inv; try simp only [sw1, sw2, sw3]
                    refine lastT (i := 22) (w' := w19.setCell ⟨r, 1, none⟩ (.slice A17 (k + 1) c17)) rfl (by kernel_rfl) rfl (by rfl) ?hx58 (by decide) (by kernel_rfl) ?_
                    case hx58 => (go_simp; try with_reducible rfl)
                    have hc3 : Chg (fun k => k = r) w1 (w19.setCell ⟨r, 1, none⟩ (.slice A17 (k + 1) c17)) := (hS.mono (G := fun k => k = r) (fun _ _ h => h.elim)).setCell (p := ⟨r, 1, none⟩) (fun _ => rfl) _
                    have hb3 := (H1.out.1.quiet hS).blk.set_ 1 (.slice A17 (k + 1) c17)
                    have ho3 := own_chg own19 ((Chg.refl (fun k => k = r) w19).setCell (p := ⟨r, 1, none⟩) (fun _ => rfl) (.slice A17 (k + 1) c17)) (fun k hk hx => by
                      have := (own19.lt k hk).1
                      omega)
                    have hfin : ∃ a', RefAt (w19.setCell ⟨r, 1, none⟩ (.slice A17 (k + 1) c17)) r { U with dir := U.dir.take k ++ ((nm, n) :: U.dir.drop k) } X a' := by
                      have hl3 : (U.dir.take k ++ ((nm, n) :: U.dir.drop k)).length = (k + 1) := by rw [List.length_append, hl1, List.length_cons, hl2]; omega
                      refine ⟨_, H1.out.1.putD hX1 hc3 hb3 (d' := U.dir.take k ++ ((nm, n) :: U.dir.drop k)) ?_ (fun q hq => ?_)⟩
                      · rw [hl3, dcells_app]
                        have e2 : dcells ((nm, n) :: U.dir.drop k) = [.string nm, .int .i64 (n : Int)] ++ dcells (U.dir.drop k) := rfl
                        rw [e2, ← List.append_assoc]
                        exact ho3
                      · rcases List.mem_append.1 hq with hq | hq
                        · exact H1.out.1.db q (List.mem_of_mem_take hq)
                        · rcases List.mem_cons.1 hq with rfl | hq
                          · exact hn
                          · exact H1.out.1.db q (List.mem_of_mem_drop hq)
                    have HF := Go.Lib.hid (And.intro hfin ((H1.out.2.mono (fun _ _ h => h.elim)).trans hc3))
                    clear hfin hc3 hb3 ho3 own19 hS inv
                    go_wp2_with fail
                    go_ret
                    exact ⟨rfl, HF.out.1, HF.out.2⟩
set_option maxRecDepth 100000 in
set_option maxHeartbeats 4000000 in
theorem renter_more (h : RefAt W r U X a) (hX : ∀ k, X k → k < W.heap.size) (hd : U.dir.length < 1000000) (nm : ByteArray) (n : Nat) (hn : n < U.F.length) (hi : isD nm U.dir = false) (hl : U.dir.length < 200) {gD cD : Nat} (hD : a.D = .slice (some ⟨gD, 0, none⟩) U.dir.length cD) (hh : ∀ k, k ≤ U.dir.length → CellsAt W (some ⟨gD, 0, none⟩) (dcells (U.dir.take k)) ∧ CellsAt W (some ⟨gD, k * 2, none⟩) (dcells (U.dir.drop k))) (hnc : U.dir.length ≤ cD) (hcm : cD ≤ maxLen) (hcap : ¬ cD = posD nm U.dir) : Calls Try.prog 58 #[.pointer (some ⟨r, 0, none⟩), .string nm, .int .i64 n] W (RPost r X (.int .i64 0) { U with dir := U.dir.take (posD nm U.dir) ++ ((nm, n) :: U.dir.drop (posD nm U.dir)) } W) := by
  have HA := Go.Lib.hid (rpos_c h hd nm)
  have H := Go.Lib.hid h
  rw [hi] at HA
  have hkl := posD_le nm U.dir
  obtain ⟨_, c1, _, _⟩ := h.cells
  rw [hD] at c1
  have gl : decide ((U.dir.length : Int) ≥ 200) = false := by simp; omega
  have HCs := Go.Lib.hid (hh (posD nm U.dir) hkl)
  have hcm2 : cD ≤ 9223372036854775807 := by unfold maxLen at hcm; omega
  have hrl := h.lt
  have hl1 : (U.dir.take (posD nm U.dir)).length = posD nm U.dir := by simp; omega
  have hl2 : (U.dir.drop (posD nm U.dir)).length = U.dir.length - posD nm U.dir := by simp
  obtain ⟨i0, hi0, hz0, hz1, hz2⟩ := info_parts etinfo
  have Hi := Go.Lib.hid (And.intro hi0 (And.intro hz0 (And.intro hz1 hz2)))
  clear h hi hD hi0 hz0 hz1 hz2 hh
  generalize posD nm U.dir = k at *
  go_enter Try.func58, Try.ntmps58
  go_wp2_with fail
  refine HA.out.mono ?_
  rintro ee w1 ⟨rfl, hq⟩
  have hX1 : ∀ j, X j → j < w1.heap.size := fun j hj => Nat.lt_of_lt_of_le (hX j hj) hq.size
  have h1 := H.out.quiet hq
  have c1 := cell_q hq c1
  have HCs1 := Go.Lib.hid (And.intro (HCs.out.1.chg hq (fun _ _ => id)) (HCs.out.2.chg hq (fun _ _ => id)))
  have hrl1 := h1.lt
  have H1 := Go.Lib.hid (And.intro h1 hq)
  have K1 := Go.Lib.hid c1
  clear hq h1 HCs HA
  go_wp2_with fail
  refine regionT 22 (fun V' => Chg NoB w1 V') (by kernel_rfl) (by decide) ((Chg.refl NoB w1).drew) (fun inv hS => ?_)
  refine tkV 0 38 ?v1578 inv hS ?_
  clear inv; intro inv; try simp only [sw1, sw2, sw3]
  refine tkV 1 39 ?v1579 inv hS ?_
  clear inv; intro inv; try simp only [sw1, sw2, sw3]
  refine tkV 2 40 ?v1580 inv hS ?_
  clear inv; intro inv; try simp only [sw1, sw2, sw3]
  refine tkV 3 41 ?v1581 inv hS ?_
  clear inv; intro inv; try simp only [sw1, sw2, sw3]
  refine tkT 4 42 ?v1582 inv hS ?h1582 ?_
  case h1582 => (intro V' hSw; have q := cell_q hSw K1.out; clear hSw; go_simp; try with_reducible rfl)
  clear inv; intro inv; try simp only [sw1, sw2, sw3]
  refine tkV 5 43 ?v1583 inv hS ?_
  clear inv; intro inv; try simp only [sw1, sw2, sw3]
  refine tkT 6 44 ?v1584 inv hS ?h1584 ?_
  case h1584 => (intro V' hSw; clear hSw; go_simp; (try (rw [if_pos (by omega)])); try with_reducible rfl)
  clear inv; intro inv; try simp only [sw1, sw2, sw3]
  refine tkV 8 46 ?v1585 inv hS ?_
  clear inv; intro inv; try simp only [sw1, sw2, sw3]
  refine tkV 9 47 ?v1586 inv hS ?_
  clear inv; intro inv; try simp only [sw1, sw2, sw3]
  refine tkV 10 48 ?v1587 inv hS ?_
  clear inv; intro inv; try simp only [sw1, sw2, sw3]
  refine tkV 13 51 ?v1588 inv hS ?_
  clear inv; intro inv; try simp only [sw1, sw2, sw3]
  refine tkV 14 52 ?v1589 inv hS ?_
  clear inv; intro inv; try simp only [sw1, sw2, sw3]
  refine tkV 15 53 ?v1590 inv hS ?_
  clear inv; intro inv; try simp only [sw1, sw2, sw3]
  refine tkT 16 54 ?v1591 inv hS ?h1591 ?_
  case h1591 => (intro V' hSw; have q := cell_q hSw K1.out; clear hSw; go_simp; try with_reducible rfl)
  clear inv; intro inv; try simp only [sw1, sw2, sw3]
  refine tkV 17 55 ?v1592 inv hS ?_
  clear inv; intro inv; try simp only [sw1, sw2, sw3]
  refine tkT 18 56 ?v1593 inv hS ?h1593 ?_
  case h1593 => (intro V' hSw; clear hSw; go_simp; (try (rw [if_pos (by omega)])); try with_reducible rfl)
  clear inv; intro inv; try simp only [sw1, sw2, sw3]
  refine manyT (i := 7) (l := [11]) (by kernel_rfl) (by decide) inv ?ho75
  case ho75 =>
    intro j hj
    simp only [List.mem_cons, List.not_mem_nil, or_false] at hj
    rcases hj with rfl | rfl
    ·
      intro inv2
      clear inv
      have inv := inv2
      clear inv2
      refine opWpT rfl (by rfl) (wp_appK _ (.const (.slice none 0 0)) (.tmp 44) _ rfl w1.heap.size ET i0 _ 2 24 Try.underlying78 Hi.out.1 Hi.out.2.1 Hi.out.2.2.1 Hi.out.2.2.2 rfl (by decide) (.slice none 0 0) (0) [] rfl (World.ownsRow_nil _ _ _ _) (some ⟨gD, 0, none⟩) (k) cD (dcells (U.dir.take k)) rfl (by rw [dcells_len, hl1]) (HCs1.out.1.chg hS (fun _ _ => id)) (dcells_one _) (by unfold maxLen; omega) (by omega) (by have := hS.size; (try simp only [World.drew] at this ⊢); omega) ?_)
      intro v7 w7 own7 gr7 at7
      have hq7 : Chg NoB w1.drew w7 := (Chg.refl NoB _).grown gr7 (by simp [Value.ownBlock])
      have hS := hS.trans hq7
      clear hq7 gr7 at7
      refine ⟨fun _ => hS, ?_⟩
      try simp only [sw1, sw2, sw3]
      refine manyT (i := 11) (l := []) (by kernel_rfl) (by decide) inv ?ho76
      case ho76 =>
        intro j hj
        simp only [List.mem_cons, List.not_mem_nil, or_false] at hj
        rcases hj with rfl
        ·
          intro inv2
          clear inv
          have inv := inv2
          clear inv2
          refine opVal (t := 49) (v := .slice (some ⟨(World.heap (w7)).size, 0, none⟩) 1 1) (w' := World.alloc (w7) (.cells #[.string nm, .int .i64 (n : Int)] ET)) rfl rfl (by rfl) ?hb11 (hS.alloc _) ?hn11
          case hb11 => (go_simp; try rfl)
          case hn11 =>
            have hq11 := (Chg.refl NoB (w7)).alloc (.cells #[.string nm, .int .i64 (n : Int)] ET)
            have cl11 := cells_of_blk (Blk.new (w7) ET #[.string nm, .int .i64 (n : Int)])
            have own7 := own_chg own7 hq11 (fun _ _ => id)
            have hS := hS.trans hq11
            clear hq11
            generalize World.alloc (w7) (.cells #[.string nm, .int .i64 (n : Int)] ET) = w11 at *
            generalize (World.heap (w7)).size = g11 at *
            try simp only [sw1, sw2, sw3]
            refine manyT (i := 12) (l := []) (by kernel_rfl) (by decide) inv ?ho77
            case ho77 =>
              intro j hj
              simp only [List.mem_cons, List.not_mem_nil, or_false] at hj
              rcases hj with rfl
              ·
                intro inv2
                clear inv
                have inv := inv2
                clear inv2
                refine opWpT rfl (by rfl) (wp_appK _ (.tmp 45) (.tmp 49) _ rfl w1.heap.size ET i0 _ 2 24 Try.underlying78 Hi.out.1 Hi.out.2.1 Hi.out.2.2.1 Hi.out.2.2.2 rfl (by decide) v7 (0 + k) ([] ++ (dcells (U.dir.take k))) rfl own7 (some ⟨g11, 0, none⟩) (1) 1 [.string nm, .int .i64 (n : Int)] rfl rfl cl11 (by simp [Value.oneCell']) (by unfold maxLen; omega) (by omega) (by have := hS.size; (try simp only [World.drew] at this ⊢); omega) ?_)
                intro v12 w12 own12 gr12 at12
                have hS := hS.grown gr12 (fun j hj hlt => by have := (own7.lt j hj).1; omega)
                clear gr12 at12 own7
                clear cl11
                refine ⟨fun _ => hS, ?_⟩
                try simp only [sw1, sw2, sw3]
                refine manyT (i := 19) (l := []) (by kernel_rfl) (by decide) inv ?ho78
                case ho78 =>
                  intro j hj
                  simp only [List.mem_cons, List.not_mem_nil, or_false] at hj
                  rcases hj with rfl
                  ·
                    intro inv2
                    clear inv
                    have inv := inv2
                    clear inv2
                    refine opWpT rfl (by rfl) (wp_appK _ (.tmp 50) (.tmp 56) _ rfl w1.heap.size ET i0 _ 2 24 Try.underlying78 Hi.out.1 Hi.out.2.1 Hi.out.2.2.1 Hi.out.2.2.2 rfl (by decide) v12 (0 + k + 1) ([] ++ (dcells (U.dir.take k)) ++ [.string nm, .int .i64 (n : Int)]) rfl own12 (some ⟨gD, k * 2, none⟩) ((U.dir.length - k)) (cD - k) (dcells (U.dir.drop k)) rfl (by rw [dcells_len, hl2]) (HCs1.out.2.chg hS (fun _ _ => id)) (dcells_one _) (by unfold maxLen; omega) (by omega) (by have := hS.size; (try simp only [World.drew] at this ⊢); omega) ?_)
                    intro v19 w19 own19 gr19 at19
                    have hS := hS.grown gr19 (fun j hj hlt => by have := (own12.lt j hj).1; omega)
                    clear gr19 at19 own12
                    rw [List.nil_append, show 0 + k + 1 + (U.dir.length - k) = (k + 1 + (U.dir.length - k)) by omega] at own19
                    obtain ⟨A17, c17, rfl⟩ := own_slice own19
                    have c2' := cell_q hS K1.out
                    have z2' := (H1.out.1.quiet hS).blk.frozen 1
                    refine ⟨fun _ => hS, ?_⟩
                    try simp only [sw1, sw2, sw3]
                    refine tkV 20 58 ?v1594 inv hS ?_
                    clear inv; intro inv; try simp only [sw1, sw2, sw3]
                    refine tkV 21 59 ?v1595 inv hS ?_
                    clear inv; intro inv; try simp only [sw1, sw2, sw3]
                    refine lastT (i := 22) (w' := w19.setCell ⟨r, 1, none⟩ (.slice A17 (k + 1 + (U.dir.length - k)) c17)) rfl (by kernel_rfl) rfl (by rfl) ?hx81 (by decide) (by kernel_rfl) ?_
                    case hx81 => (go_simp; try with_reducible rfl)
                    have hc3 : Chg (fun k => k = r) w1 (w19.setCell ⟨r, 1, none⟩ (.slice A17 (k + 1 + (U.dir.length - k)) c17)) := (hS.mono (G := fun k => k = r) (fun _ _ h => h.elim)).setCell (p := ⟨r, 1, none⟩) (fun _ => rfl) _
                    have hb3 := (H1.out.1.quiet hS).blk.set_ 1 (.slice A17 (k + 1 + (U.dir.length - k)) c17)
                    have ho3 := own_chg own19 ((Chg.refl (fun k => k = r) w19).setCell (p := ⟨r, 1, none⟩) (fun _ => rfl) (.slice A17 (k + 1 + (U.dir.length - k)) c17)) (fun k hk hx => by
                      have := (own19.lt k hk).1
                      omega)
                    have hfin : ∃ a', RefAt (w19.setCell ⟨r, 1, none⟩ (.slice A17 (k + 1 + (U.dir.length - k)) c17)) r { U with dir := U.dir.take k ++ ((nm, n) :: U.dir.drop k) } X a' := by
                      have hl3 : (U.dir.take k ++ ((nm, n) :: U.dir.drop k)).length = (k + 1 + (U.dir.length - k)) := by rw [List.length_append, hl1, List.length_cons, hl2]; omega
                      refine ⟨_, H1.out.1.putD hX1 hc3 hb3 (d' := U.dir.take k ++ ((nm, n) :: U.dir.drop k)) ?_ (fun q hq => ?_)⟩
                      · rw [hl3, dcells_app]
                        have e2 : dcells ((nm, n) :: U.dir.drop k) = [.string nm, .int .i64 (n : Int)] ++ dcells (U.dir.drop k) := rfl
                        rw [e2, ← List.append_assoc]
                        exact ho3
                      · rcases List.mem_append.1 hq with hq | hq
                        · exact H1.out.1.db q (List.mem_of_mem_take hq)
                        · rcases List.mem_cons.1 hq with rfl | hq
                          · exact hn
                          · exact H1.out.1.db q (List.mem_of_mem_drop hq)
                    have HF := Go.Lib.hid (And.intro hfin ((H1.out.2.mono (fun _ _ h => h.elim)).trans hc3))
                    clear hfin hc3 hb3 ho3 own19 hS inv
                    go_wp2_with fail
                    go_ret
                    exact ⟨rfl, HF.out.1, HF.out.2⟩
    ·
      intro inv2
      clear inv
      have inv := inv2
      clear inv2
      refine opVal (t := 49) (v := .slice (some ⟨(World.heap (w1.drew)).size, 0, none⟩) 1 1) (w' := World.alloc (w1.drew) (.cells #[.string nm, .int .i64 (n : Int)] ET)) rfl rfl (by rfl) ?hb11 (hS.alloc _) ?hn11
      case hb11 => (go_simp; try rfl)
      case hn11 =>
        have hq11 := (Chg.refl NoB (w1.drew)).alloc (.cells #[.string nm, .int .i64 (n : Int)] ET)
        have cl11 := cells_of_blk (Blk.new (w1.drew) ET #[.string nm, .int .i64 (n : Int)])
        have hS := hS.trans hq11
        clear hq11
        generalize World.alloc (w1.drew) (.cells #[.string nm, .int .i64 (n : Int)] ET) = w11 at *
        generalize (World.heap (w1.drew)).size = g11 at *
        try simp only [sw1, sw2, sw3]
        refine manyT (i := 7) (l := []) (by kernel_rfl) (by decide) inv ?ho82
        case ho82 =>
          intro j hj
          simp only [List.mem_cons, List.not_mem_nil, or_false] at hj
          rcases hj with rfl
          ·
            intro inv2
            clear inv
            have inv := inv2
            clear inv2
            refine opWpT rfl (by rfl) (wp_appK _ (.const (.slice none 0 0)) (.tmp 44) _ rfl w1.heap.size ET i0 _ 2 24 Try.underlying78 Hi.out.1 Hi.out.2.1 Hi.out.2.2.1 Hi.out.2.2.2 rfl (by decide) (.slice none 0 0) (0) [] rfl (World.ownsRow_nil _ _ _ _) (some ⟨gD, 0, none⟩) (k) cD (dcells (U.dir.take k)) rfl (by rw [dcells_len, hl1]) (HCs1.out.1.chg hS (fun _ _ => id)) (dcells_one _) (by unfold maxLen; omega) (by omega) (by have := hS.size; (try simp only [World.drew] at this ⊢); omega) ?_)
            intro v7 w7 own7 gr7 at7
            have hq7 : Chg NoB w11 w7 := (Chg.refl NoB _).grown gr7 (by simp [Value.ownBlock])
            have cl11 := cl11.chg hq7 (fun _ _ => id)
            have hS := hS.trans hq7
            clear hq7 gr7 at7
            refine ⟨fun _ => hS, ?_⟩
            try simp only [sw1, sw2, sw3]
            refine manyT (i := 12) (l := []) (by kernel_rfl) (by decide) inv ?ho83
            case ho83 =>
              intro j hj
              simp only [List.mem_cons, List.not_mem_nil, or_false] at hj
              rcases hj with rfl
              ·
                intro inv2
                clear inv
                have inv := inv2
                clear inv2
                refine opWpT rfl (by rfl) (wp_appK _ (.tmp 45) (.tmp 49) _ rfl w1.heap.size ET i0 _ 2 24 Try.underlying78 Hi.out.1 Hi.out.2.1 Hi.out.2.2.1 Hi.out.2.2.2 rfl (by decide) v7 (0 + k) ([] ++ (dcells (U.dir.take k))) rfl own7 (some ⟨g11, 0, none⟩) (1) 1 [.string nm, .int .i64 (n : Int)] rfl rfl cl11 (by simp [Value.oneCell']) (by unfold maxLen; omega) (by omega) (by have := hS.size; (try simp only [World.drew] at this ⊢); omega) ?_)
                intro v12 w12 own12 gr12 at12
                have hS := hS.grown gr12 (fun j hj hlt => by have := (own7.lt j hj).1; omega)
                clear gr12 at12 own7
                clear cl11
                refine ⟨fun _ => hS, ?_⟩
                try simp only [sw1, sw2, sw3]
                refine manyT (i := 19) (l := []) (by kernel_rfl) (by decide) inv ?ho84
                case ho84 =>
                  intro j hj
                  simp only [List.mem_cons, List.not_mem_nil, or_false] at hj
                  rcases hj with rfl
                  ·
                    intro inv2
                    clear inv
                    have inv := inv2
                    clear inv2
                    refine opWpT rfl (by rfl) (wp_appK _ (.tmp 50) (.tmp 56) _ rfl w1.heap.size ET i0 _ 2 24 Try.underlying78 Hi.out.1 Hi.out.2.1 Hi.out.2.2.1 Hi.out.2.2.2 rfl (by decide) v12 (0 + k + 1) ([] ++ (dcells (U.dir.take k)) ++ [.string nm, .int .i64 (n : Int)]) rfl own12 (some ⟨gD, k * 2, none⟩) ((U.dir.length - k)) (cD - k) (dcells (U.dir.drop k)) rfl (by rw [dcells_len, hl2]) (HCs1.out.2.chg hS (fun _ _ => id)) (dcells_one _) (by unfold maxLen; omega) (by omega) (by have := hS.size; (try simp only [World.drew] at this ⊢); omega) ?_)
                    intro v19 w19 own19 gr19 at19
                    have hS := hS.grown gr19 (fun j hj hlt => by have := (own12.lt j hj).1; omega)
                    clear gr19 at19 own12
                    rw [List.nil_append, show 0 + k + 1 + (U.dir.length - k) = (k + 1 + (U.dir.length - k)) by omega] at own19
                    obtain ⟨A17, c17, rfl⟩ := own_slice own19
                    have c2' := cell_q hS K1.out
                    have z2' := (H1.out.1.quiet hS).blk.frozen 1
                    refine ⟨fun _ => hS, ?_⟩
                    try simp only [sw1, sw2, sw3]
                    refine tkV 20 58 ?v1596 inv hS ?_
                    clear inv; intro inv; try simp only [sw1, sw2, sw3]
                    refine tkV 21 59 ?v1597 inv hS ?_
                    clear inv; intro inv; try simp only [sw1, sw2, sw3]
                    refine lastT (i := 22) (w' := w19.setCell ⟨r, 1, none⟩ (.slice A17 (k + 1 + (U.dir.length - k)) c17)) rfl (by kernel_rfl) rfl (by rfl) ?hx87 (by decide) (by kernel_rfl) ?_
                    case hx87 => (go_simp; try with_reducible rfl)
                    have hc3 : Chg (fun k => k = r) w1 (w19.setCell ⟨r, 1, none⟩ (.slice A17 (k + 1 + (U.dir.length - k)) c17)) := (hS.mono (G := fun k => k = r) (fun _ _ h => h.elim)).setCell (p := ⟨r, 1, none⟩) (fun _ => rfl) _
                    have hb3 := (H1.out.1.quiet hS).blk.set_ 1 (.slice A17 (k + 1 + (U.dir.length - k)) c17)
                    have ho3 := own_chg own19 ((Chg.refl (fun k => k = r) w19).setCell (p := ⟨r, 1, none⟩) (fun _ => rfl) (.slice A17 (k + 1 + (U.dir.length - k)) c17)) (fun k hk hx => by
                      have := (own19.lt k hk).1
                      omega)
                    have hfin : ∃ a', RefAt (w19.setCell ⟨r, 1, none⟩ (.slice A17 (k + 1 + (U.dir.length - k)) c17)) r { U with dir := U.dir.take k ++ ((nm, n) :: U.dir.drop k) } X a' := by
                      have hl3 : (U.dir.take k ++ ((nm, n) :: U.dir.drop k)).length = (k + 1 + (U.dir.length - k)) := by rw [List.length_append, hl1, List.length_cons, hl2]; omega
                      refine ⟨_, H1.out.1.putD hX1 hc3 hb3 (d' := U.dir.take k ++ ((nm, n) :: U.dir.drop k)) ?_ (fun q hq => ?_)⟩
                      · rw [hl3, dcells_app]
                        have e2 : dcells ((nm, n) :: U.dir.drop k) = [.string nm, .int .i64 (n : Int)] ++ dcells (U.dir.drop k) := rfl
                        rw [e2, ← List.append_assoc]
                        exact ho3
                      · rcases List.mem_append.1 hq with hq | hq
                        · exact H1.out.1.db q (List.mem_of_mem_take hq)
                        · rcases List.mem_cons.1 hq with rfl | hq
                          · exact hn
                          · exact H1.out.1.db q (List.mem_of_mem_drop hq)
                    have HF := Go.Lib.hid (And.intro hfin ((H1.out.2.mono (fun _ _ h => h.elim)).trans hc3))
                    clear hfin hc3 hb3 ho3 own19 hS inv
                    go_wp2_with fail
                    go_ret
                    exact ⟨rfl, HF.out.1, HF.out.2⟩
end
end Go.Proofs.Yteleglkoagnmcaa
set_option linter.unusedSimpArgs false
set_option linter.unusedVariables false
namespace Go.Proofs.Yteleglkoagnmcaa
open Go Go.RowKit
section
variable {W W' : World} {r : Nat} {U : V} {X F : Nat → Prop} {a : RA}
theorem RefAt.halves2 (h : RefAt W r U X a) : (a.D = .slice none 0 0 ∧ U.dir.length = 0) ∨ ∃ g c, a.D = .slice (some ⟨g, 0, none⟩) U.dir.length c ∧ U.dir.length ≤ c ∧ c ≤ maxLen ∧ ∀ k, k ≤ U.dir.length → CellsAt W (some ⟨g, 0, none⟩) (dcells (U.dir.take k)) ∧ CellsAt W (some ⟨g, k * 2, none⟩) (dcells (U.dir.drop k)) := by
  rcases h.D.2 with h0 | ⟨g, cap, cur, hv, hb, hgg, hn, hm, _⟩
  · exact .inl h0
  · rcases Nat.eq_zero_or_pos U.dir.length with h0 | h0
    · refine .inr ⟨g, cap, hv, hn, hm, fun k hk => ⟨fun hz => absurd hz (by rw [dcells_len]; simp; omega), fun hz => absurd hz (by rw [dcells_len]; simp; omega)⟩⟩
    · exact .inr (h.halves h0)
theorem renter_c (h : RefAt W r U X a) (hX : ∀ k, X k → k < W.heap.size) (hd : U.dir.length < 1000000) (nm : ByteArray) (n : Nat) (hn : n < U.F.length) : Calls Try.prog 58 #[.pointer (some ⟨r, 0, none⟩), .string nm, .int .i64 n] W (RPost r X (.int .i64 (enterR U nm n).1) (enterR U nm n).2 W) := by
  unfold enterR
  by_cases hi : isD nm U.dir = true
  · rw [if_pos hi]
    exact renter_is h hX hd nm n hn hi
  · rw [if_neg hi]
    have hi : isD nm U.dir = false := by simpa using hi
    by_cases hl : U.dir.length < 200
    · rw [if_pos hl]
      rcases h.halves2 with ⟨hD, h0⟩ | ⟨g, c, hD, hnc, hcm, hh⟩
      · have hnil : U.dir = [] := List.eq_nil_of_length_eq_zero h0
        have := renter_nil h hX hd nm n hn hi hl hD h0
        have e : U.dir.take (posD nm U.dir) ++ ((nm, n) :: U.dir.drop (posD nm U.dir)) = [(nm, n)] := by rw [hnil]; rfl
        rw [e]
        exact this
      · by_cases hc : c = posD nm U.dir
        · subst hc
          exact renter_fullc h hX hd nm n hn hi hl hD hh hnc
        · exact renter_more h hX hd nm n hn hi hl hD hh hnc hcm hc
    · rw [if_neg hl]
      exact renter_full h hd nm n hi hl
def registerR (U : V) (f : Int) : Nat × V := match U.rdAt f with | none => (0, U) | some q => enterR U q.name q.n
end
end Go.Proofs.Yteleglkoagnmcaa
set_option linter.unusedSimpArgs false
set_option linter.unusedVariables false
namespace Go.Proofs.Yteleglkoagnmcaa
open Go Go.RowKit
section
variable {W W' : World} {r : Nat} {U : V} {X F : Nat → Prop} {a : RA}
def dropR (U : V) (nm : ByteArray) : Nat := if mayName nm = true then (if isD nm U.dir = true then 0 else 6) else 2
theorem rcopy_c (h : RefAt W r U X a) : Calls Try.prog 57 #[.pointer (some ⟨r, 0, none⟩)] W (fun e w' => ∃ r2, e = .returned (.pointer (some ⟨r2, 0, none⟩)) ∧ Blk w' r2 RST #[a.F, a.D, a.R, .int .i64 U.cap] ∧ Chg NoB W w' ∧ W.heap.size ≤ r2) := by
  obtain ⟨AF, cF, hF⟩ := own_slice h.F
  obtain ⟨AD, cD, hD⟩ := own_slice h.D
  obtain ⟨AR, cR, hR⟩ := own_slice h.R
  obtain ⟨c0, c1, c2, c3⟩ := h.cells
  rw [hF] at c0 ⊢
  rw [hD] at c1 ⊢
  rw [hR] at c2 ⊢
  have hrl := h.lt
  have hne : ¬ W.heap.size = r := by omega
  have hne2 : ¬ r = W.heap.size := by omega
  clear h hF hD hR
  go_enter Try.func57, Try.ntmps57
  go_wp2_with fail
  go_ret
  exact ⟨W.heap.size, rfl, Blk.new _ _ _, (Chg.refl _ _).alloc _, Nat.le_refl _⟩
def heldB (U : V) (i : Nat) : Bool := U.dir.any (fun e => e.2 == i) || U.rd.any (fun q => q.n == i)
def sumH (U : V) : Nat → Nat
  | 0 => 0
  | i + 1 => sumH U i + if heldB U i = true then (U.bytes i).length else 0
def roomI (U : V) : Int := (U.cap : Int) - (sumH U U.F.length : Int)
theorem any_take {α : Type} (f : α → Bool) (l : List α) (k : Nat) (e : α) (he : l[k]? = some e) : (l.take (k + 1)).any f = ((l.take k).any f || f e) := by
  have hk := (List.getElem?_eq_some_iff.1 he).1
  rw [List.take_succ_eq_append_getElem hk, List.any_append]
  have : l[k] = e := (List.getElem?_eq_some_iff.1 he).2
  simp [this]
set_option maxRecDepth 100000 in
set_option maxHeartbeats 4000000 in
theorem rroom_c (h : RefAt W r U X a) (hn : U.rd.length < 1000000) (hd : U.dir.length < 1000000) (hf : U.F.length < 1000000) (hb : sumH U U.F.length < 4000000000000000000) (hcap : U.cap < 1000000000000) : Calls Try.prog 56 #[.pointer (some ⟨r, 0, none⟩)] W (fun e w' => e = .returned (.int .i64 (roomI U)) ∧ W = w') := by
  obtain ⟨AF, cF, hF⟩ := own_slice h.F
  obtain ⟨AD, cD, hD⟩ := own_slice h.D
  obtain ⟨AR, cR, hR⟩ := own_slice h.R
  obtain ⟨c0, c1, c2, c3⟩ := h.cells
  rw [hF] at c0
  rw [hD] at c1
  rw [hR] at c2
  have HE : Hid (∀ (i : Nat) (e : ByteArray × Nat), U.dir[i]? = some e → ∃ g, AD = some ⟨g, 0, none⟩ ∧ W.cell? ⟨g, i * 2 + 1, none⟩ = some (.int .i64 e.2)) := Go.Lib.hid fun i e he => by
    obtain ⟨g, c', h1, _, h2⟩ := h.entry he
    rw [hD] at h1
    exact ⟨g, by simpa using (show AD = some ⟨g, 0, none⟩ ∧ cD = c' by simpa using h1).1, h2⟩
  have HQ : Hid (∀ (i : Nat) (q : VR), U.rd[i]? = some q → ∃ g, AR = some ⟨g, 0, none⟩ ∧ W.cell? ⟨g, i * 3, none⟩ = some (.int .i64 q.n)) := Go.Lib.hid fun i q hq => by
    obtain ⟨g, c', h1, h2, _⟩ := h.rider hq
    rw [hR] at h1
    exact ⟨g, by simpa using (show AR = some ⟨g, 0, none⟩ ∧ cR = c' by simpa using h1).1, h2⟩
  have HF : Hid (∀ i, i < U.F.length → ∃ g A cc, AF = some ⟨g, 0, none⟩ ∧ W.cell? ⟨g, i, none⟩ = some (.slice A (U.bytes i).length cc)) := Go.Lib.hid fun i hi => by
    have hb : U.F[i]? = some (U.bytes i) := by unfold V.bytes; rw [List.getD_eq_getElem?_getD, List.getElem?_eq_getElem hi]; rfl
    obtain ⟨g, c', A, cc, h1, h2, _⟩ := h.file hb
    rw [hF] at h1
    exact ⟨g, A, cc, by simpa using (show AF = some ⟨g, 0, none⟩ ∧ cF = c' by simpa using h1).1, h2⟩
  have hmono : ∀ i, i ≤ U.F.length → sumH U i ≤ sumH U U.F.length := fun i hi => by
    obtain ⟨d, hd⟩ := Nat.exists_eq_add_of_le hi
    rw [hd]
    clear hd hi hb
    induction d with
    | zero => exact Nat.le_refl _
    | succ d ih => exact Nat.le_trans ih (by show sumH U (i + d) ≤ sumH U (i + d) + _; omega)
  have HM := Go.Lib.hid hmono
  clear h hF hD hR hmono
  go_enter Try.func56, Try.ntmps56
  go_wp2_with fail
  go_loopw [3, 4, 5, 6, 7] (fun v3 v4 _ _ _ wr => ∃ i : Nat, i ≤ U.F.length ∧ v4 = .int .i64 i ∧ v3 = .int .i64 ((U.cap : Int) - (sumH U i : Int)) ∧ wr = W) (fun _ v4 _ _ _ _ => U.F.length - (intOf v4).toNat)
  case atStart => exact ⟨0, Nat.zero_le _, rfl, by simp [sumH], rfl⟩
  case round =>
    obtain ⟨i, hi, rfl, rfl, rfl⟩ := hrel
    by_cases hlt : i < U.F.length
    · have gl : decide ((i : Int) < (U.F.length : Int)) = true := by simp; omega
      go_wp2_with fail
      go_loopw [5, 6] (fun v5 v6 wr' => ∃ k : Nat, k ≤ U.dir.length ∧ v6 = .int .i64 k ∧ v5 = .bool ((U.dir.take k).any fun e => e.2 == i) ∧ wr' = wr) (fun _ v6 _ => U.dir.length - (intOf v6).toNat)
      case atStart => exact ⟨0, Nat.zero_le _, rfl, by simp, rfl⟩
      case round =>
        obtain ⟨k, hk, rfl, rfl, rfl⟩ := hrel
        by_cases hkl : k < U.dir.length
        · have gk : decide ((k : Int) < (U.dir.length : Int)) = true := by simp; omega
          have he := List.getElem?_eq_getElem hkl
          obtain ⟨g, rfl, ce⟩ := HE.out k _ he
          have hat := any_take (fun (e : ByteArray × Nat) => e.2 == i) U.dir k _ he
          obtain ⟨b2, hb2⟩ : ∃ b, (U.dir[k].2 == i) = b := ⟨_, rfl⟩
          have hb3 : ((U.dir[k].2 : Int) == (i : Int)) = b2 := by rw [← hb2]; rw [Bool.eq_iff_iff]; simp; omega
          rw [hb2] at hat
          have HAT := Go.Lib.hid hat
          clear hat he hb2
          generalize U.dir[k].2 = en at *
          generalize hbb : ((U.dir.take k).any fun e => e.2 == i) = b at *
          cases b
          · go_wp2_with fail
            refine ⟨⟨k + 1, hkl, by simp, ?_, by first | rfl | trivial⟩, by simp only [intOf]; omega⟩
            rw [HAT.out]; simp
          · go_wp2_with fail
            refine ⟨⟨k + 1, hkl, by simp, ?_, by first | rfl | trivial⟩, by simp only [intOf]; omega⟩
            rw [HAT.out]; simp
        · obtain rfl : k = U.dir.length := by omega
          have gk : decide ((U.dir.length : Int) < (U.dir.length : Int)) = false := by simp
          rw [List.take_length]
          go_wp2_with fail
          obtain ⟨hd1, hhd1⟩ : ∃ b, (U.dir.any fun e => e.2 == i) = b := ⟨_, rfl⟩
          rw [hhd1]
          go_loopw [5, 7] (fun v5 v7 wr' => ∃ k : Nat, k ≤ U.rd.length ∧ v7 = .int .i64 k ∧ v5 = .bool (hd1 || (U.rd.take k).any fun q => q.n == i) ∧ wr' = wr) (fun _ v7 _ => U.rd.length - (intOf v7).toNat)
          case atStart => exact ⟨0, Nat.zero_le _, rfl, by simp, rfl⟩
          case round =>
            obtain ⟨k, hk, rfl, rfl, rfl⟩ := hrel
            by_cases hkl : k < U.rd.length
            · have gk : decide ((k : Int) < (U.rd.length : Int)) = true := by simp; omega
              have he := List.getElem?_eq_getElem hkl
              obtain ⟨g, rfl, ce⟩ := HQ.out k _ he
              have hat := any_take (fun (q : VR) => q.n == i) U.rd k _ he
              obtain ⟨b2, hb2⟩ : ∃ b, (U.rd[k].n == i) = b := ⟨_, rfl⟩
              have hb3 : ((U.rd[k].n : Int) == (i : Int)) = b2 := by rw [← hb2]; rw [Bool.eq_iff_iff]; simp; omega
              rw [hb2] at hat
              have HAT := Go.Lib.hid hat
              clear hat he hb2
              generalize U.rd[k].n = en at *
              generalize hbb : ((U.rd.take k).any fun q => q.n == i) = b at *
              obtain ⟨b4, hb4⟩ : ∃ b', (hd1 || b) = b' := ⟨_, rfl⟩
              have HB4 := Go.Lib.hid hb4
              rw [hb4]
              clear hb4
              cases b4
              · go_wp2_with fail
                refine ⟨⟨k + 1, hkl, by simp, ?_, by first | rfl | trivial⟩, by simp only [intOf]; omega⟩
                rw [HAT.out, ← Bool.or_assoc, HB4.out]; simp
              · go_wp2_with fail
                refine ⟨⟨k + 1, hkl, by simp, ?_, by first | rfl | trivial⟩, by simp only [intOf]; omega⟩
                rw [HAT.out, ← Bool.or_assoc, HB4.out]; simp
            · obtain rfl : k = U.rd.length := by omega
              have gk : decide ((U.rd.length : Int) < (U.rd.length : Int)) = false := by simp
              rw [List.take_length]
              have hhe : (hd1 || U.rd.any fun q => q.n == i) = heldB U i := by rw [← hhd1]; rfl
              rw [hhe]
              have hs1 : sumH U (i + 1) = sumH U i + if heldB U i = true then (U.bytes i).length else 0 := rfl
              have hs2 := HM.out (i + 1) hlt
              have HS1 := Go.Lib.hid hs1
              obtain ⟨g, A, cc, rfl, kf⟩ := HF.out i hlt
              clear hhe hs1
              generalize heldB U i = hb at *
              generalize (U.bytes i).length = bl at *
              cases hb
              · have e1 : sumH U (i + 1) = sumH U i := by rw [HS1.out]; simp
                clear hhd1
                go_wp2_with fail
                refine ⟨⟨i + 1, hlt, by simp, by rw [e1], by first | rfl | trivial⟩, by simp only [intOf]; omega⟩
              · have e1 : sumH U (i + 1) = sumH U i + bl := by rw [HS1.out]; simp
                have e2 : (U.cap : Int) - (sumH U i : Int) - (bl : Int) = (U.cap : Int) - ((sumH U (i + 1) : Nat) : Int) := by rw [e1]; omega
                have E2 := Go.Lib.hid e2
                rw [e1] at hs2
                clear e2 hhd1
                generalize sumH U i = si at *
                go_wp2_with fail
                refine ⟨⟨i + 1, hlt, by simp, by first | (rw [E2.out]) | (congr 1; rw [← E2.out]) , by first | rfl | trivial⟩, by simp only [intOf]; omega⟩
    · obtain rfl : i = U.F.length := by omega
      have gl : decide ((U.F.length : Int) < (U.F.length : Int)) = false := by simp
      go_wp2_with fail
      go_ret
      exact ⟨rfl, rfl⟩
end
end Go.Proofs.Yteleglkoagnmcaa
