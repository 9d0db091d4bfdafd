/- What is proved: the reader of object files takes bytes as the plain reader does. Conditions: the memory holds the reader. -/
import Derived.Test.YteleglkoagnmcaaLkD
import Derived.Test.YteleglkoagnmcaaGStA
import Derived.Lib.EndianBits
set_option linter.unusedSimpArgs false
set_option linter.unusedVariables false
namespace Go.Proofs.Yteleglkoagnmcaa
open Go Go.RowKit
abbrev RT : TypeId := 133
structure RAt (W : World) (r : Nat) (q : Rdr) (A : Option Addr) (c : Nat) : Prop where
  blk : Blk W r RT #[.slice A q.1.length c, .bool q.2]
  row : CellsAt W A (bv q.1)
  cap : q.1.length ≤ c ∧ c ≤ maxLen
  flat : ∀ ad, A = some ad → ad.spot = none ∧ ad.block ≠ r ∧ ad.block < W.heap.size
  tag : ∀ ad, A = some ad → ∃ cs fr, W.heap[ad.block]? = some (.cells cs 5 fr)
theorem add_block (a : Addr) (n : Nat) : (a.add n).block = a.block := by unfold Addr.add; split <;> rfl
theorem CellsAt.drop_ {W : World} {A : Option Addr} {l : List UInt8} (h : CellsAt W A (bv l)) (hs : ∀ ad, A = some ad → ad.spot = none) (n : Nat) : CellsAt W (Option.map (fun x => x.add n) A) (bv (l.drop n)) := by
  intro hl
  obtain ⟨ad, hA, hc⟩ := h (by simp [bv] at hl ⊢; omega)
  have h0 := hs ad hA
  obtain ⟨b, o, s⟩ := ad
  simp only at h0
  subst h0
  refine ⟨_, by rw [hA]; rfl, fun j u hu => ?_⟩
  show W.cell? (Addr.add (Addr.add ⟨b, o, none⟩ n) j) = some u
  rw [add_none, add_none]
  have := hc (n + j) u (by rw [← hu]; simp [bv])
  rw [add_none, ← Nat.add_assoc] at this
  exact this
section
variable {W W' : World} {r : Nat} {q : Rdr} {A : Option Addr} {c : Nat}
theorem RAt.chg {F : Nat → Prop} (h : RAt W r q A c) (hc : Chg F W W') (h1 : ¬ F r) (h2 : ∀ ad, A = some ad → ¬ F ad.block) : RAt W' r q A c :=
  ⟨h.blk.chg hc h1, h.row.chg hc h2, h.cap, fun ad ha => ⟨(h.flat ad ha).1, (h.flat ad ha).2.1, Nat.lt_of_lt_of_le (h.flat ad ha).2.2 hc.size⟩, fun ad ha => by
    obtain ⟨cs, fr, h3⟩ := h.tag ad ha
    exact ⟨cs, fr, (hc.block ad.block (h.flat ad ha).2.2 (h2 ad ha)).trans h3⟩⟩
theorem RAt.tag_ (h : RAt W r q A c) (hc : Chg (fun k => k = r) W W') : ∀ ad, A = some ad → ∃ cs fr, W'.heap[ad.block]? = some (.cells cs 5 fr) := fun ad ha => by
  obtain ⟨cs, fr, h3⟩ := h.tag ad ha
  exact ⟨cs, fr, (hc.block ad.block (h.flat ad ha).2.2 (h.flat ad ha).2.1).trans h3⟩
theorem RAt.quiet (h : RAt W r q A c) (hc : Chg NoB W W') : RAt W' r q A c := h.chg hc id fun _ _ => id
/-- what some hands back -/
def SomeV (W : World) (A : Option Addr) (c : Nat) (l : Option (List UInt8)) (v : Value) : Prop :=
  match l with
  | none => v = .slice none 0 0
  | some l => v = .slice A l.length c
def SomePost (W : World) (r n : Nat) (q : Rdr) (A : Option Addr) (c : Nat) (e : Ending) (w' : World) : Prop :=
  ∃ A' c' v, e = .returned v ∧ RAt w' r (someR n q).2 A' c' ∧ Chg (fun k => k = r) W w' ∧ SomeV W A c (someR n q).1 v
set_option maxRecDepth 20000 in
set_option maxHeartbeats 4000000 in
theorem some_c (h : RAt W r q A c) (n : Nat) (hn : n ≤ 1000000) : Calls Try.prog 68 #[.pointer (some ⟨r, 0, none⟩), .int .i64 n] W (SomePost W r n q A c) := by
  obtain ⟨l, bd⟩ := q
  have HI := Go.Lib.hid h
  have c0 : W.cell? ⟨r, 0, none⟩ = some (.slice A l.length c) := h.blk.cell 0
  have c1 : W.cell? ⟨r, 1, none⟩ = some (.bool bd) := h.blk.cell 1
  have z0 := h.blk.frozen 0
  have z1 := h.blk.frozen 1
  have hcap := h.cap
  simp only at hcap
  unfold maxLen at hcap
  clear h
  obtain ⟨m, hm⟩ : ∃ m, l.length = m := ⟨_, rfl⟩
  rw [hm] at c0 hcap
  have HM := Go.Lib.hid hm
  clear hm
  go_enter Try.func68, Try.ntmps68
  by_cases hlt : m < n
  · have f1 : decide ((m : Int) < (n : Int)) = true := by simp; omega
    have f2 : decide (m < n) = true := by simp; omega
    go_wp2_with fail
    have hq : someR n (l, bd) = (none, ([], true)) := by unfold someR; rw [if_pos (by show l.length < n; rw [HM.out]; exact hlt)]
    go_ret
    unfold SomePost
    rw [hq]
    exact ⟨none, 0, _, rfl, ⟨(HI.out.blk.set_ 0 (.slice none 0 0)).set_ 1 (.bool true), fun h => by simp [bv] at h, by simp [maxLen], (fun ad h => by cases h), fun ad h => by cases h⟩, ((Chg.refl (fun k => k = r) W).setCell (p := ⟨r, 0, none⟩) (fun _ => rfl) _).setCell (p := ⟨r, 1, none⟩) (fun _ => rfl) _, rfl⟩
  · have f1 : decide ((m : Int) < (n : Int)) = false := by simp; omega
    have f2 : decide (m < n) = false := by simp; omega
    cases bd with
    | true =>
      go_wp2_with fail
      have hq : someR n (l, true) = (none, (l, true)) := by unfold someR; rw [if_neg (by show ¬ l.length < n; rw [HM.out]; exact hlt), if_pos rfl]
      go_ret
      unfold SomePost
      rw [hq]
      exact ⟨A, c, _, rfl, HI.out, Chg.refl _ _, rfl⟩
    | false =>
      have hs : n ≤ m := by omega
      have hq : someR n (l, false) = (some (l.take n), (l.drop n, false)) := by unfold someR; rw [if_neg (by show ¬ l.length < n; rw [HM.out]; exact hlt), if_neg (by simp)]
      have HQ := Go.Lib.hid hq
      clear hq
      go_wp2_with fail
      · have hdl : (l.drop n).length = m - n := by rw [List.length_drop, HM.out]
        have htl : (l.take n).length = n := by rw [List.length_take, HM.out]; omega
        have hnil : l.drop n = [] := List.eq_nil_of_length_eq_zero (by omega)
        go_ret
        unfold SomePost
        rw [HQ.out]
        refine ⟨A, 0, _, rfl, ⟨?_, fun h => by rw [hnil] at h; simp [bv] at h, by rw [hnil]; simp [maxLen], fun ad h => ?_, HI.out.tag_ ((Chg.refl (fun k => k = r) W).setCell (p := ⟨r, 0, none⟩) (fun _ => rfl) _)⟩, (Chg.refl (fun k => k = r) W).setCell (p := ⟨r, 0, none⟩) (fun _ => rfl) _, ?_⟩
        · show Blk _ _ _ #[.slice A (l.drop n).length 0, .bool false]
          rw [hdl]
          exact HI.out.blk.set_ 0 (.slice A (m - n) 0)
        · have := HI.out.flat ad h
          exact ⟨this.1, this.2.1, by simpa using this.2.2⟩
        · show _ = Value.slice A (l.take n).length n
          rw [htl]
          rfl
      · have hdl : (l.drop n).length = m - n := by rw [List.length_drop, HM.out]
        have htl : (l.take n).length = n := by rw [List.length_take, HM.out]; omega
        go_ret
        unfold SomePost
        rw [HQ.out]
        have hch : Chg (fun k => k = r) W (W.setCell ⟨r, 0, none⟩ (.slice (Option.map (fun x => x.add n) A) (m - n) (c - n))) := (Chg.refl (fun k => k = r) W).setCell (p := ⟨r, 0, none⟩) (fun _ => rfl) _
        refine ⟨Option.map (fun x => x.add n) A, c - n, _, rfl, ⟨?_, ?_, by rw [hdl]; unfold maxLen; omega, fun ad h => ?_, fun ad h => by
          cases hA : A with
          | none => rw [hA] at h; cases h
          | some a0 =>
            rw [hA] at h
            injection h with h
            subst h
            show ∃ cs fr, _ = some (Obj.cells cs 5 fr)
            have := HI.out.tag_ hch a0 hA
            rw [← add_block a0 n] at this
            rw [hA] at this
            exact this⟩, hch, ?_⟩
        · show Blk _ _ _ #[.slice (Option.map (fun x => x.add n) A) (l.drop n).length (c - n), .bool false]
          rw [hdl]
          exact HI.out.blk.set_ 0 _
        · exact (HI.out.row.drop_ (fun ad h => (HI.out.flat ad h).1) n).chg hch (fun ad h => by
            cases hA : A with
            | none => rw [hA] at h; cases h
            | some a0 =>
              rw [hA] at h
              injection h with h
              subst h
              have := (HI.out.flat a0 hA).2.1
              rw [add_block]
              exact this)
        · cases hA : A with
          | none => rw [hA] at h; cases h
          | some a0 =>
            rw [hA] at h
            injection h with h
            subst h
            have := HI.out.flat a0 hA
            obtain ⟨ab, ao, asp⟩ := a0
            obtain ⟨h1, h2, h3⟩ := this
            simp only at h1
            subst h1
            show (Addr.add ⟨ab, ao, none⟩ n).spot = none ∧ (Addr.add ⟨ab, ao, none⟩ n).block ≠ r ∧ (Addr.add ⟨ab, ao, none⟩ n).block < _
            rw [add_none]
            exact ⟨rfl, h2, by simpa using h3⟩
        · show _ = Value.slice A (l.take n).length c
          rw [htl]
          rfl
theorem neq_nil (W : World) (a : Option Addr) (n c : Nat) : (binOp .neq 22 (.slice a n c) (.slice none 0 0)).run Try.prog W = .ok (.bool (!a.isNone)) W := run_neq_slice_nil_any W 22 5 a n c 0 0 Try.underlying22
/-- what the reader's numbers hand back -/
def NumPost (k : IntKind) (W : World) (r : Nat) (n : Nat × Rdr) (e : Ending) (w' : World) : Prop :=
  ∃ A' c', e = .returned (.int k n.1) ∧ RAt w' r n.2 A' c' ∧ Chg (fun i => i = r) W w'
theorem someR_short {n : Nat} {q : Rdr} (h : q.1.length < n) : someR n q = (none, ([], true)) := by unfold someR; rw [if_pos h]
theorem someR_bad {n : Nat} {q : Rdr} (h : ¬ q.1.length < n) (hb : q.2 = true) : someR n q = (none, q) := by unfold someR; rw [if_neg h, if_pos hb]
theorem someR_ok {n : Nat} {q : Rdr} (h : ¬ q.1.length < n) (hb : q.2 = false) : someR n q = (some (q.1.take n), (q.1.drop n, false)) := by unfold someR; rw [if_neg h, if_neg (by rw [hb]; simp)]
/-- some, where it hands back nothing -/
theorem some_none (h : RAt W r q A c) (n : Nat) (hn : n ≤ 1000000) (hs : (someR n q).1 = none) : Calls Try.prog 68 #[.pointer (some ⟨r, 0, none⟩), .int .i64 n] W (fun e w' => ∃ A' c', e = .returned (.slice none 0 0) ∧ RAt w' r (someR n q).2 A' c' ∧ Chg (fun k => k = r) W w') :=
  (some_c h n hn).mono fun e w' hp => by
    obtain ⟨A', c', v, rfl, h1, h2, h3⟩ := hp
    rw [hs] at h3
    obtain rfl : v = .slice none 0 0 := h3
    exact ⟨A', c', rfl, h1, h2⟩
/-- some, where it hands back bytes -/
theorem some_some (h : RAt W r q A c) (n : Nat) (hn : n ≤ 1000000) (h1 : ¬ q.1.length < n) (h2 : q.2 = false) : Calls Try.prog 68 #[.pointer (some ⟨r, 0, none⟩), .int .i64 n] W (fun e w' => ∃ A' c', e = .returned (.slice A n c) ∧ RAt w' r (q.1.drop n, false) A' c' ∧ Chg (fun k => k = r) W w') :=
  (some_c h n hn).mono fun e w' hp => by
    obtain ⟨A', c', v, rfl, k1, k2, k3⟩ := hp
    rw [someR_ok h1 h2] at k1 k3
    obtain rfl : v = .slice A (q.1.take n).length c := k3
    rw [List.length_take, Nat.min_eq_left (by omega)]
    exact ⟨A', c', rfl, k1, k2⟩
set_option maxRecDepth 20000 in
set_option maxHeartbeats 4000000 in
theorem byte_c (h : RAt W r q A c) : Calls Try.prog 73 #[.pointer (some ⟨r, 0, none⟩)] W (NumPost .i64 W r (byteR q)) := by
  have hcase : (someR 1 q).1 = none ∨ (¬ q.1.length < 1 ∧ q.2 = false) := by
    by_cases h1 : q.1.length < 1
    · exact .inl (by rw [someR_short h1])
    · cases hb : q.2 with
      | true => exact .inl (by rw [someR_bad h1 hb])
      | false => exact .inr ⟨h1, rfl⟩
  rcases hcase with hs | ⟨h1, h2⟩
  · have HS := Go.Lib.hid (some_none h 1 (by omega) hs)
    have Hs := Go.Lib.hid hs
    clear h hs
    go_enter Try.func73, Try.ntmps73
    go_wp2_with fail
    refine HS.out.mono ?_
    rintro e w1 ⟨A', c', rfl, hr, hc⟩
    have HR := Go.Lib.hid (And.intro hr hc)
    have hnn := neq_nil w1 none 0 0
    clear hr hc
    go_wp2_with fail
    go_ret
    refine ⟨A', c', ?_, HR.out.1, HR.out.2⟩
    unfold byteR
    rw [Hs.out]
    rfl
  · obtain ⟨x, l, hl⟩ : ∃ x l, q.1 = x :: l := by
      cases hq : q.1 with
      | nil => rw [hq] at h1; simp at h1
      | cons x l => exact ⟨x, l, rfl⟩
    have HS := Go.Lib.hid (some_some h 1 (by omega) h1 h2)
    have hq : byteR q = (x.toNat, (q.1.drop 1, false)) := by unfold byteR; rw [someR_ok h1 h2, hl]; rfl
    obtain ⟨b, o, rfl, hcell⟩ := h.row.flat (by rw [hl]; simp [bv])
    have hx : W.cell? ⟨b, o, none⟩ = some (.int .u8 x.toNat) := by have := hcell 0 (.int .u8 x.toNat) (by rw [hl]; rfl); simpa using this
    have hbr := (h.flat _ rfl).2.1
    have hxb : x.toNat < 256 := x.toNat_lt
    generalize x.toNat = xn at *
    have hcc := h.cap
    rw [hl] at hcc
    unfold maxLen at hcc
    simp only [List.length_cons] at hcc
    have hc1 : 1 ≤ c := by omega
    have HQ := Go.Lib.hid (And.intro hq hbr)
    clear h hl hcell h1 h2 hq hbr hcc
    go_enter Try.func73, Try.ntmps73
    go_wp2_with fail
    refine HS.out.mono ?_
    rintro e w1 ⟨A', c', rfl, hr, hc⟩
    have hx1 : w1.cell? ⟨b, o, none⟩ = some (.int .u8 xn) := (World.cell?_of_block (hc.block b (block_lt_of_cell hx) (fun e => HQ.out.2 e))).trans hx
    have HR := Go.Lib.hid (And.intro hr hc)
    have hnn := neq_nil w1 (some ⟨b, o, none⟩) 1 c
    clear hr hc hx
    go_wp2_with fail
    go_ret
    refine ⟨A', c', ?_, ?_, HR.out.2⟩
    · rw [HQ.out.1]
      rfl
    · rw [HQ.out.1]
      exact HR.out.1
theorem wordN4 (n0 n1 n2 n3 : Nat) (h0 : n0 < 256) (h1 : n1 < 256) (h2 : n2 < 256) (h3 : n3 < 256) : bits .or .u32 (bits .or .u32 (bits .or .u32 (bits .or .u32 0 (n0 : Int)) ((n1 : Int) * 256)) ((n2 : Int) * 65536)) ((n3 : Int) * 16777216) = ((n0 + 256 * (n1 + 256 * (n2 + 256 * (n3 + 256 * 0))) : Nat) : Int) := by
  have e0 : bits .or .u32 0 (n0 : Int) = (n0 : Int) := by
    have := u32_or 0 n0 (by omega) (by omega)
    simpa using this
  have e1 : bits .or .u32 (n0 : Int) ((n1 : Int) * 256) = (n0 : Int) + (n1 : Int) * 256 := u32_or8 _ _ (by omega) (by omega) (by omega) (by omega) (by omega)
  have e2 : bits .or .u32 ((n0 : Int) + (n1 : Int) * 256) ((n2 : Int) * 65536) = (n0 : Int) + (n1 : Int) * 256 + (n2 : Int) * 65536 := u32_or16 _ _ (by omega) (by omega) (by omega) (by omega) (by omega)
  have e3 : bits .or .u32 ((n0 : Int) + (n1 : Int) * 256 + (n2 : Int) * 65536) ((n3 : Int) * 16777216) = (n0 : Int) + (n1 : Int) * 256 + (n2 : Int) * 65536 + (n3 : Int) * 16777216 := u32_or24 _ _ (by omega) (by omega) (by omega) (by omega) (by omega)
  rw [e0, e1, e2, e3]
  omega
theorem byteR_lt (q : Rdr) : (byteR q).1 < 256 := by
  unfold byteR
  cases (someR 1 q).1.bind (·.head?) with
  | none => simp
  | some x => simpa using x.toNat_lt
set_option maxRecDepth 20000 in
theorem small_c (h : RAt W r q A c) : Calls Try.prog 72 #[.pointer (some ⟨r, 0, none⟩)] W (NumPost .u32 W r (byteR q)) := by
  have HB := Go.Lib.hid (byte_c h)
  have hlt := byteR_lt q
  clear h
  generalize byteR q = bq at *
  obtain ⟨n, q'⟩ := bq
  simp only at hlt
  go_enter Try.func72, Try.ntmps72
  go_wp2_with fail
  refine HB.out.mono ?_
  rintro e w1 ⟨A', c', rfl, hr, hc⟩
  have HR := Go.Lib.hid (And.intro hr hc)
  clear hr hc
  go_wp2_with fail
  go_ret
  exact ⟨A', c', rfl, HR.out.1, HR.out.2⟩
set_option maxRecDepth 20000 in
set_option maxHeartbeats 4000000 in
theorem word_c (h : RAt W r q A c) : Calls Try.prog 70 #[.pointer (some ⟨r, 0, none⟩)] W (NumPost .u32 W r (wordR q)) := by
  have hcase : (someR 4 q).1 = none ∨ (¬ q.1.length < 4 ∧ q.2 = false) := by
    by_cases h1 : q.1.length < 4
    · exact .inl (by rw [someR_short h1])
    · cases hb : q.2 with
      | true => exact .inl (by rw [someR_bad h1 hb])
      | false => exact .inr ⟨h1, rfl⟩
  rcases hcase with hs | ⟨h1, h2⟩
  · have HS := Go.Lib.hid (some_none h 4 (by omega) hs)
    have Hs := Go.Lib.hid hs
    clear h hs
    go_enter Try.func70, Try.ntmps70
    go_wp2_with fail
    refine HS.out.mono ?_
    rintro e w1 ⟨A', c', rfl, hr, hc⟩
    have HR := Go.Lib.hid (And.intro hr hc)
    clear hr hc
    go_wp2_with fail
    refine wp_loop_rounds 1 ?_
    rw [rounds_succ]
    go_wp2_with fail
    go_ret
    refine ⟨A', c', ?_, HR.out.1, HR.out.2⟩
    unfold wordR
    rw [Hs.out]
    rfl
  · obtain ⟨x0, x1, x2, x3, l, hl⟩ : ∃ x0 x1 x2 x3 l, q.1 = x0 :: x1 :: x2 :: x3 :: l := by
      match hq : q.1 with
      | [] => rw [hq] at h1; simp at h1
      | [_] => rw [hq] at h1; simp at h1
      | [_, _] => rw [hq] at h1; simp at h1
      | [_, _, _] => rw [hq] at h1; simp at h1
      | a :: b :: c :: d :: l => exact ⟨a, b, c, d, l, rfl⟩
    have HS := Go.Lib.hid (some_some h 4 (by omega) h1 h2)
    have hq : wordR q = (x0.toNat + 256 * (x1.toNat + 256 * (x2.toNat + 256 * (x3.toNat + 256 * 0))), (q.1.drop 4, false)) := by unfold wordR; rw [someR_ok h1 h2, hl]; rfl
    obtain ⟨b, o, rfl, hcell⟩ := h.row.flat (by rw [hl]; simp [bv])
    have hx0 : W.cell? ⟨b, o, none⟩ = some (.int .u8 x0.toNat) := by have := hcell 0 (.int .u8 x0.toNat) (by rw [hl]; rfl); simpa using this
    have hx1 : W.cell? ⟨b, o + 1, none⟩ = some (.int .u8 x1.toNat) := hcell 1 (.int .u8 x1.toNat) (by rw [hl]; rfl)
    have hx2 : W.cell? ⟨b, o + 2, none⟩ = some (.int .u8 x2.toNat) := hcell 2 (.int .u8 x2.toNat) (by rw [hl]; rfl)
    have hx3 : W.cell? ⟨b, o + 3, none⟩ = some (.int .u8 x3.toNat) := hcell 3 (.int .u8 x3.toNat) (by rw [hl]; rfl)
    have hbr := (h.flat _ rfl).2.1
    have hb0 : x0.toNat < 256 := x0.toNat_lt
    have hb1 : x1.toNat < 256 := x1.toNat_lt
    have hb2 : x2.toNat < 256 := x2.toNat_lt
    have hb3 : x3.toNat < 256 := x3.toNat_lt
    generalize x0.toNat = n0 at *
    generalize x1.toNat = n1 at *
    generalize x2.toNat = n2 at *
    generalize x3.toNat = n3 at *
    have hcc := h.cap
    rw [hl] at hcc
    unfold maxLen at hcc
    simp only [List.length_cons] at hcc
    have hc1 : 4 ≤ c := by omega
    have HQ := Go.Lib.hid (And.intro hq hbr)
    clear h hl hcell h1 h2 hq hbr hcc
    go_enter Try.func70, Try.ntmps70
    go_wp2_with fail
    refine HS.out.mono ?_
    rintro e w1 ⟨A', c', rfl, hr, hc⟩
    have key : ∀ (p : Nat) (v : Value), W.cell? ⟨b, p, none⟩ = some v → w1.cell? ⟨b, p, none⟩ = some v := fun p v hp => (World.cell?_of_block (hc.block b (block_lt_of_cell hp) (fun e => HQ.out.2 e))).trans hp
    have hy0 := key _ _ hx0
    have hy1 := key _ _ hx1
    have hy2 := key _ _ hx2
    have hy3 := key _ _ hx3
    have HR := Go.Lib.hid (And.intro hr hc)
    clear hr hc hx0 hx1 hx2 hx3 key
    go_wp2_with fail
    refine wp_loop_rounds 5 ?_
    rw [rounds_succ]
    go_wp2_with fail
    rw [rounds_succ]
    go_wp2_with fail
    rw [rounds_succ]
    go_wp2_with fail
    rw [rounds_succ]
    go_wp2_with fail
    rw [rounds_succ]
    go_wp2_with fail
    go_ret
    refine ⟨A', c', ?_, ?_, HR.out.2⟩
    · rw [HQ.out.1]
      rw [← wordN4 n0 n1 n2 n3 hb0 hb1 hb2 hb3]
      rfl
    · rw [HQ.out.1]
      exact HR.out.1
theorem wordR_lt (q : Rdr) : (wordR q).1 < 4294967296 := by
  unfold wordR
  cases hs : (someR 4 q).1 with
  | none => simp
  | some l =>
    have hl : l.length ≤ 4 := by
      unfold someR at hs
      split at hs
      · cases hs
      · split at hs
        · cases hs
        · injection hs with hs
          rw [← hs, List.length_take]
          omega
    have key : ∀ (l : List UInt8) (n : Nat), l.length ≤ n → sumB l < 256 ^ n := by
      intro l
      induction l with
      | nil => intro n _; simp [sumB]; exact Nat.pow_pos (by decide)
      | cons x l ih =>
        intro n hn
        cases n with
        | zero => simp at hn
        | succ n =>
          have := ih n (by simpa using hn)
          have hx := x.toNat_lt
          simp only [sumB]
          rw [Nat.pow_succ]
          omega
    have := key l 4 hl
    simpa using this
set_option maxRecDepth 20000 in
set_option maxHeartbeats 4000000 in
theorem count_word (h : RAt W r q A c) (most : Nat) (hm : most < 4294967296) : Calls Try.prog 71 #[.pointer (some ⟨r, 0, none⟩), .func (.func 70) #[.pointer (some ⟨r, 0, none⟩)] #[], .int .i64 most] W (NumPost .i64 W r (countR wordR most q)) := by
  have HF := Go.Lib.hid (word_c h)
  have hlt : (wordR q).1 < 4294967296 := wordR_lt q
  obtain ⟨n, hn⟩ : ∃ n, (wordR q).1 = n := ⟨_, rfl⟩
  obtain ⟨q', hq'⟩ : ∃ q', (wordR q).2 = q' := ⟨_, rfl⟩
  have hrd : wordR q = (n, q') := by rw [← hn, ← hq']
  rw [hn] at hlt
  have HC : Hid (countR wordR most q = if most < n then (0, ([], true)) else (n, q')) := Go.Lib.hid (by unfold countR; rw [hrd])
  rw [hrd] at HF
  clear h hn hq' hrd
  go_enter Try.func71, Try.ntmps71
  go_wp2_with fail
  refine HF.out.mono ?_
  rintro e w1 ⟨A', c', rfl, hr, hc⟩
  have HR := Go.Lib.hid (And.intro hr hc)
  have z0 := hr.blk.frozen 0
  have z1 := hr.blk.frozen 1
  have c0 := hr.blk.cell 0
  have c1 := hr.blk.cell 1
  simp only [List.getElem?_toArray, List.getElem?_cons_succ, List.getElem?_cons_zero] at c0 c1
  clear hr hc
  simp only
  by_cases hmn : most < n
  · have f1 : decide ((most : Int) < (n : Int)) = true := by simp; omega
    have f2 : decide (most < n) = true := by simp; omega
    go_wp2_with fail
    go_ret
    unfold NumPost
    rw [HC.out, if_pos hmn]
    exact ⟨none, 0, rfl, ⟨(HR.out.1.blk.set_ 0 (.slice none 0 0)).set_ 1 (.bool true), fun h => by simp [bv] at h, by simp [maxLen], (fun ad h => by cases h), fun ad h => by cases h⟩, (HR.out.2.setCell (p := ⟨r, 0, none⟩) (fun _ => rfl) _).setCell (p := ⟨r, 1, none⟩) (fun _ => rfl) _⟩
  · have f1 : decide ((most : Int) < (n : Int)) = false := by simp; omega
    have f2 : decide (most < n) = false := by simp; omega
    go_wp2_with fail
    go_ret
    unfold NumPost
    rw [HC.out, if_neg hmn]
    exact ⟨A', c', rfl, HR.out.1, HR.out.2⟩
set_option maxRecDepth 20000 in
set_option maxHeartbeats 4000000 in
theorem count_small (h : RAt W r q A c) (most : Nat) (hm : most < 4294967296) : Calls Try.prog 71 #[.pointer (some ⟨r, 0, none⟩), .func (.func 72) #[.pointer (some ⟨r, 0, none⟩)] #[], .int .i64 most] W (NumPost .i64 W r (countR byteR most q)) := by
  have HF := Go.Lib.hid (small_c h)
  have hlt : (byteR q).1 < 4294967296 := (by have := byteR_lt q; omega)
  obtain ⟨n, hn⟩ : ∃ n, (byteR q).1 = n := ⟨_, rfl⟩
  obtain ⟨q', hq'⟩ : ∃ q', (byteR q).2 = q' := ⟨_, rfl⟩
  have hrd : byteR q = (n, q') := by rw [← hn, ← hq']
  rw [hn] at hlt
  have HC : Hid (countR byteR most q = if most < n then (0, ([], true)) else (n, q')) := Go.Lib.hid (by unfold countR; rw [hrd])
  rw [hrd] at HF
  clear h hn hq' hrd
  go_enter Try.func71, Try.ntmps71
  go_wp2_with fail
  refine HF.out.mono ?_
  rintro e w1 ⟨A', c', rfl, hr, hc⟩
  have HR := Go.Lib.hid (And.intro hr hc)
  have z0 := hr.blk.frozen 0
  have z1 := hr.blk.frozen 1
  have c0 := hr.blk.cell 0
  have c1 := hr.blk.cell 1
  simp only [List.getElem?_toArray, List.getElem?_cons_succ, List.getElem?_cons_zero] at c0 c1
  clear hr hc
  simp only
  by_cases hmn : most < n
  · have f1 : decide ((most : Int) < (n : Int)) = true := by simp; omega
    have f2 : decide (most < n) = true := by simp; omega
    go_wp2_with fail
    go_ret
    unfold NumPost
    rw [HC.out, if_pos hmn]
    exact ⟨none, 0, rfl, ⟨(HR.out.1.blk.set_ 0 (.slice none 0 0)).set_ 1 (.bool true), fun h => by simp [bv] at h, by simp [maxLen], (fun ad h => by cases h), fun ad h => by cases h⟩, (HR.out.2.setCell (p := ⟨r, 0, none⟩) (fun _ => rfl) _).setCell (p := ⟨r, 1, none⟩) (fun _ => rfl) _⟩
  · have f1 : decide ((most : Int) < (n : Int)) = false := by simp; omega
    have f2 : decide (most < n) = false := by simp; omega
    go_wp2_with fail
    go_ret
    unfold NumPost
    rw [HC.out, if_neg hmn]
    exact ⟨A', c', rfl, HR.out.1, HR.out.2⟩
end
end Go.Proofs.Yteleglkoagnmcaa
