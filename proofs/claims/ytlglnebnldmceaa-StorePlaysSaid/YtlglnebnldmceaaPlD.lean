/- What is proved: looks: a store's looks against the reference's. Conditions: the stores look alike. -/
import Derived.Test.YtlglnebnldmceaaPlC
set_option linter.unusedSimpArgs false
set_option linter.unusedVariables false
namespace Go.Proofs.Ytlglnebnldmceaa
open Go Go.RowKit Go.Shelf
/-- a store looks as the reference's -/
structure Alike (v U : V) : Prop where
  len : ∀ f, U.length f = v.length f
  pos : ∀ f, U.posOf f = v.posOf f
  eof : ∀ f, decide (U.length f ≤ U.posOf f) = v.eof f
  rd : U.rd.length = v.rd.length
  room : roomI U = (v.room : Int)
  have_ : ∀ nm n, lookD nm v.dir = some n → isD nm U.dir = true ∧ ∀ e, U.dir[posD nm U.dir]? = some e → U.bytes e.2 = v.bytes n
  no : ∀ nm, lookD nm v.dir = none → isD nm U.dir = false
section
variable {v v' U : V} {ρ : Nat → Nat} {b1 : Nat} {w : World} {s : Nat} {F : Nat → Prop}
theorem RS.alike (h : RS v U) (hv : VGood v) : Alike v U where
  len := fun f => by
    unfold V.length
    rw [h.rdAt]
    cases v.rdAt f with
    | none => rfl
    | some q => simp only [h.bytes]
  pos := fun f => by unfold V.posOf; rw [h.rdAt]
  eof := fun f => by
    unfold V.length V.posOf V.eof
    rw [h.rdAt]
    cases hr : v.rdAt f with
    | none => simp
    | some q =>
      have := hv.ps q (rdAt_mem2 hr)
      simp only [h.bytes]
      rw [decide_eq_decide]
      omega
  rd := by rw [h.rd]
  room := h.room hv.toVOk
  have_ := fun nm n hl => by
    have hi : isD nm U.dir = true := (h.isd hv.keys nm).2 (by rw [hl]; simp)
    refine ⟨hi, fun e he => ?_⟩
    rw [h.bytes]
    obtain ⟨e', he', hb⟩ := isD_some hi
    obtain rfl : e' = e := by rw [he] at he'; exact (Option.some.inj he').symm
    obtain hn : e'.1 = nm := (MapKept.bytes_beq _ _).1 hb
    have hm := h.dir.mem_iff.1 (List.mem_of_getElem? he)
    have := lookD_of hv.keys (show (nm, e'.2) ∈ v.dir by rw [← hn]; exact hm)
    rw [hl] at this
    rw [← Option.some.inj this]
  no := fun nm hl => by
    have := (h.isd hv.keys nm)
    rw [hl] at this
    simpa using this
theorem Sim.rdAt (h : Sim v v' ρ) (f : Int) : v'.rdAt f = (v.rdAt f).map fun r => ⟨ρ r.n, r.name, r.pos⟩ := by
  unfold V.rdAt
  rw [h.rd]
  by_cases h1 : 1 ≤ f
  · simp only [if_pos h1, List.getElem?_map]
  · simp only [if_neg h1, Option.map_none]
theorem held_rd {q : VR} (h : q ∈ v.rd) : q.n ∈ v.held := by
  unfold V.held
  exact List.mem_append.2 (.inr (List.mem_map.2 ⟨q, h, rfl⟩))
theorem Alike.sim (h : Alike v U) (hs : Sim v v' ρ) : Alike v' U where
  len := fun f => by
    rw [h.len]
    unfold V.length
    rw [hs.rdAt]
    cases hr : v.rdAt f with
    | none => rfl
    | some q => simp only [Option.map_some, hs.bytes q.n (held_rd (rdAt_mem2 hr))]
  pos := fun f => by rw [h.pos, hs.pos]
  eof := fun f => by
    rw [h.eof]
    unfold V.eof
    rw [hs.rdAt]
    cases hr : v.rdAt f with
    | none => rfl
    | some q => simp only [Option.map_some, hs.bytes q.n (held_rd (rdAt_mem2 hr))]
  rd := by rw [h.rd, hs.rd, List.length_map]
  room := by rw [h.room, hs.room]
  have_ := fun nm n hl => by
    rw [look_perm hs.dir (by rw [List.map_map]; exact hs.keys) nm, lookD_map] at hl
    obtain ⟨m, hm, rfl⟩ := Option.map_eq_some_iff.1 hl
    obtain ⟨h1, h2⟩ := h.have_ nm m hm
    refine ⟨h1, fun e he => ?_⟩
    rw [h2 e he, hs.bytes m]
    unfold V.held
    exact List.mem_append.2 (.inl (List.mem_map.2 ⟨_, lookD_mem hm, rfl⟩))
  no := fun nm hl => by
    rw [look_perm hs.dir (by rw [List.map_map]; exact hs.keys) nm, lookD_map] at hl
    exact h.no nm (by simpa using hl)
theorem length_q (h : StoreV b1 w s v F) (f : Int) : Calls Try.prog 22 #[ptr s, .int .i64 f] w (Quiet (.int .i64 (v.length f)) w) := by
  obtain ⟨S, φ, h1, h2, rfl⟩ := h
  cases hr : v.rdAt f with
  | none =>
    refine (length_none h1 (h2.rdAt_none hr)).mono fun e w' ⟨he, hw⟩ => ?_
    subst hw
    exact ⟨by rw [he]; unfold V.length; rw [hr]; rfl, Chg.refl _ _⟩
  | some q =>
    obtain ⟨r, A, c, a1, a2, a3, a4, a5, a6, _⟩ := h2.rdAt_some hr
    refine (length_some h1 a1 a6).mono fun e w' ⟨he, hw⟩ => ?_
    subst hw
    exact ⟨by rw [he]; unfold V.length; rw [hr], Chg.refl _ _⟩
theorem eof_q (h : StoreV b1 w s v F) (f : Int) : Calls Try.prog 20 #[ptr s, .int .i64 f] w (Quiet (.bool (v.eof f)) w) := by
  obtain ⟨S, φ, h1, h2, rfl⟩ := h
  cases hr : v.rdAt f with
  | none =>
    refine (eof_none h1 (h2.rdAt_none hr)).mono fun e w' ⟨he, n, hw⟩ => ?_
    subst hw
    exact ⟨by rw [he]; unfold V.eof; rw [hr], (Chg.refl _ _).drewN n⟩
  | some q =>
    obtain ⟨r, A, c, a1, a2, a3, a4, a5, a6, _⟩ := h2.rdAt_some hr
    refine (eof_some h1 a1 a6).mono fun e w' ⟨he, n, hw⟩ => ?_
    subst hw
    exact ⟨by rw [he]; unfold V.eof; rw [hr, a4], (Chg.refl _ _).drewN n⟩
end
section
variable {W : World} {base s r : Nat} {v U : V} {X F : Nat → Prop} {a : RA}
/-- what looks asks of both -/
theorem get_two (h : StoreV base W s v F) (hr : RefAt W r U X a) (ha : Alike v U) (hd : U.dir.length < 1000000) (nm : ByteArray) (hsz : nm.size ≤ maxLen) : ∃ (l : List UInt8) (no : Int),
    Calls Try.prog 25 #[ptr s, .string nm] W (fun e w' => ∃ A c, e = .returned (.tuple #[.slice A l.length c, .int .i64 no]) ∧ w'.ownsRow W.heap.size 5 1 (.slice A l.length c) l.length (bv l) ∧ Chg NoB W w') ∧
    (∀ W', Chg NoB W W' → Calls Try.prog 26 #[.pointer (some ⟨r, 0, none⟩), .string nm] W' (fun e w' => Chg NoB W' w' ∧ ∃ A c, e = .returned (.tuple #[.slice A l.length c, .int .i64 no]) ∧ CellsAt w' A (bv l))) := by
  by_cases hm : mayName nm = true
  · cases hl : lookD nm v.dir with
    | none =>
      refine ⟨[], 6, ?_, fun W' hc => ?_⟩
      · obtain ⟨S, φ, h1, h2, _⟩ := h
        refine (get_no h1 hsz (n := (6 : Int)) (.inr ⟨hm, by rw [h2.look, hl]; rfl, rfl⟩)).mono fun e w' ⟨he, hch⟩ => ⟨none, 0, he, World.ownsRow_nil _ _ _ _, hch⟩
      · exact (rget_no (hr.quiet hc) hd nm hsz hm (ha.no nm hl)).mono fun e w' ⟨he, hch⟩ => ⟨hch, none, 0, he, fun h => absurd h (by simp [bv])⟩
    | some n =>
      obtain ⟨h1, h2⟩ := ha.have_ nm n hl
      obtain ⟨e, he, _⟩ := isD_some h1
      refine ⟨v.bytes n, 0, ?_, fun W' hc => ?_⟩
      · exact (get_v h hsz hm hl).mono fun e w' ⟨A, c, he, ho, _, hch⟩ => ⟨A, c, he, ho, hch⟩
      · rw [← h2 e he]
        exact rget_some (hr.quiet hc) hd nm hsz hm he h1
  · have hm' : mayName nm = false := by simpa using hm
    refine ⟨[], 2, ?_, fun W' hc => ?_⟩
    · obtain ⟨S, φ, h1, h2, _⟩ := h
      refine (get_no h1 hsz (n := (2 : Int)) (.inl ⟨hm', rfl⟩)).mono fun e w' ⟨he, hch⟩ => ⟨none, 0, he, World.ownsRow_nil _ _ _ _, hch⟩
    · exact (rget_may nm hsz hm').mono fun e w' ⟨he, hch⟩ => ⟨hch, none, 0, he, fun h => absurd h (by simp [bv])⟩
/-- where once's row of names comes from: the files that are told -/
def TellsAs (W : World) (s : Nat) (U : V) : Prop := ∀ W', Chg NoB W W' → Calls Try.prog 67 #[.pointer (some ⟨s, 0, none⟩)] W' (FilesPost W'.heap.size U.tells W')
/-- the caller's own row of bytes -/
def RowR (W0 wr : World) (A : Option Addr) (n : Nat) : Prop := ∀ k, k < n → ∃ g, A = some ⟨g, 0, none⟩ ∧ W0.heap.size ≤ g ∧ ∃ cs, Blk wr g 5 cs ∧ n ≤ cs.size ∧ ∀ j, j < n → ∃ x : Int, 0 ≤ x ∧ x < 256 ∧ cs[j]? = some (.int .u8 x)
theorem RowR.of {W0 wr : World} {A : Option Addr} {l : List UInt8} {c : Nat} (h : wr.ownsRow W0.heap.size 5 1 (.slice A l.length c) l.length (bv l)) : RowR W0 wr A l.length := fun k hk => by
  rcases h.2 with ⟨_, h0⟩ | ⟨g, cap, cur, hv, hb, hg, hnc, _, hcs, hcur⟩
  · omega
  · injection hv with hA
    subst hA
    rw [Nat.mul_one] at hcur hcs
    refine ⟨g, rfl, hb, cur, hg, by omega, fun j hj => ?_⟩
    refine ⟨(l[j].toNat : Int), by omega, by have := l[j].toNat_lt; omega, ?_⟩
    have h1 : (bv l)[j]? = some (.int .u8 (l[j].toNat : Int)) := by simp [bv, hj]
    rw [← hcur, List.getElem?_take, if_pos hj] at h1
    simpa using h1
theorem RowR.set {W0 wr : World} {g n k : Nat} {cs : Array Value} {y : Int} (hgl : W0.heap.size ≤ g) (hb : Blk wr g 5 cs) (hcs : n ≤ cs.size) (hx : ∀ j, j < n → ∃ x : Int, 0 ≤ x ∧ x < 256 ∧ cs[j]? = some (.int .u8 x)) (hk : k < n) (h0 : 0 ≤ y) (h1 : y < 256) : RowR W0 (wr.setCell ⟨g, k, none⟩ (.int .u8 y)) (some ⟨g, 0, none⟩) n := fun _ _ => by
  refine ⟨g, rfl, hgl, _, hb.set_ k _, by rw [Array.size_setIfInBounds]; exact hcs, fun j hj => ?_⟩
  by_cases hjk : k = j
  · subst hjk
    exact ⟨y, h0, h1, by rw [Array.getElem?_setIfInBounds_self_of_lt (by omega)]⟩
  · rw [Array.getElem?_setIfInBounds_ne hjk]
    exact hx j hj
theorem own_len {W0 wr : World} {A : Option Addr} {n : Nat} {c : Nat} {xs : List Value} (h : wr.ownsRow W0.heap.size 5 1 (.slice A n c) n xs) : n ≤ maxLen := by
  rcases h.2 with ⟨_, h0⟩ | ⟨g, cap, cur, hv, hb, hg, hnc, hm, _⟩
  · omega
  · omega
set_option maxRecDepth 100000 in
set_option maxHeartbeats 4000000 in
theorem looks_c (h : StoreV base W s v F) (hr : RefAt W r U X a) (ha : Alike v U) (ht : TellsAs W s U) (hs : RSmall U) (hd : U.dir.length ≤ 200) (f : Int) (nm : ByteArray) (hsz : nm.size ≤ maxLen) (most : Int) : Calls Try.prog 8 #[.pointer (some ⟨s, 0, none⟩), .pointer (some ⟨r, 0, none⟩), .int .i64 f, .string nm, .int .i64 most] W (Quiet (.bool true) W) := by
  obtain ⟨l, no, hg1, hg2⟩ := get_two h hr ha hs.d nm hsz
  have HG1 := Go.Lib.hid hg1
  have HG2 := Go.Lib.hid hg2
  have HEO := Go.Lib.hid (fun (W' : World) (hc : Chg NoB W W') => eof_q (h.quiet hc) f)
  have HRE := Go.Lib.hid (fun (W' : World) (hc : Chg NoB W W') => reof_c (hr.quiet hc) hs.r f)
  have HLE := Go.Lib.hid (fun (W' : World) (hc : Chg NoB W W') => length_q (h.quiet hc) f)
  have HRL := Go.Lib.hid (fun (W' : World) (hc : Chg NoB W W') => rlen_c (hr.quiet hc) hs.r f)
  have HAT := Go.Lib.hid (fun (W' : World) (hc : Chg NoB W W') => at_q (h.quiet hc) f)
  have HRA := Go.Lib.hid (fun (W' : World) (hc : Chg NoB W W') => rat_c (hr.quiet hc) hs.r f)
  have HRI := Go.Lib.hid (fun (W' : World) (hc : Chg NoB W W') => riders_q (h.quiet hc))
  have HRO := Go.Lib.hid (fun (W' : World) (hc : Chg NoB W W') => room_q (h.quiet hc))
  have HRR := Go.Lib.hid (fun (W' : World) (hc : Chg NoB W W') => rroom_s (hr.quiet hc) hs)
  have HMN := Go.Lib.hid (fun (W' : World) => mayName_c nm hsz W')
  have HRN := Go.Lib.hid (fun (W' : World) => refName_c nm hsz W')
  have HON := Go.Lib.hid (fun (m : Int) (W' : World) (hc : Chg NoB W W') => once_c (hr.quiet hc) (fun W'' hc' => ht W'' (hc.trans hc')) hd m)
  rw [ha.eof] at HRE
  rw [ha.len] at HRL
  rw [ha.pos] at HRA
  rw [ha.room] at HRR
  have hrd := ha.rd
  obtain ⟨_, _, c2, _⟩ := hr.cells
  obtain ⟨AR, cR, hR⟩ := own_slice hr.R
  rw [hR, hrd] at c2
  have K2 := Go.Lib.hid c2
  clear h hr ha ht hs hg1 hg2 hrd c2 hR hd
  generalize v.eof f = ve at *
  generalize v.length f = vl at *
  generalize v.posOf f = vp at *
  generalize v.rd.length = vr at *
  generalize v.room = vo at *
  generalize mayName nm = vm at *
  unfold ptr at *
  go_enter Try.func8, Try.ntmps8
  go_wp2_with fail
  refine HG1.out.mono ?_
  rintro e w1 ⟨A, c, rfl, hown, hc1⟩
  have HO := Go.Lib.hid hown
  have HC1 := Go.Lib.hid hc1
  clear hown hc1
  go_wp2_with fail
  refine (HG2.out _ HC1.out).mono ?_
  rintro e w2 ⟨hc2, A2, cc2, rfl, hcl⟩
  have HC2 := Go.Lib.hid (HC1.out.trans hc2)
  have hO2 := own_chg HO.out hc2 (fun _ _ => id)
  have hcells := cells_ownK hO2
  have HT1 := run_text (n := l.length) (c := c) (w := w2) rfl hcells
  have HT2 := run_text (n := l.length) (c := cc2) (w := w2) rfl hcl
  clear hc2
  go_wp2_with fail
  refine (num_c _ _).mono ?_
  rintro e w3 ⟨rfl, rfl⟩
  go_wp2_with fail
  clear HT1 HT2 hcells hcl
  have HRW : Hid (RowR W w3 A l.length) := Go.Lib.hid (RowR.of hO2)
  have hll := own_len hO2
  clear hO2
  go_loopw [15] (fun i wr => ∃ k : Nat, k ≤ l.length ∧ i = .int .i64 k ∧ RowR W wr A l.length ∧ Chg NoB W wr) (fun i _ => l.length - (intOf i).toNat)
  case atStart => exact ⟨0, Nat.zero_le _, rfl, HRW.out, HC2.out⟩
  case round =>
    obtain ⟨k, hk, rfl, hB, hch⟩ := hrel
    have HCh := Go.Lib.hid hch
    by_cases hlt : k < l.length
    · obtain ⟨g, rfl, hgl, cs, hb, hcs, hx⟩ := hB k hlt
      obtain ⟨x, hx0, hx1, hxc⟩ := hx k hlt
      have hz := hb.frozen k
      have hu : wr.cell? ⟨g, k, none⟩ = some (.int .u8 x) := (hb.cell k).trans hxc
      have HB := Go.Lib.hid (And.intro hb (And.intro hcs hx))
      clear hb hcs hx hxc hch hB
      have HB2 := Go.Lib.hid (RowR.set (W0 := W) hgl HB.out.1 HB.out.2.1 HB.out.2.2 hlt (y := (x + 1) % 256) (by omega) (by omega))
      have HCh2 : Hid (Chg NoB W (wr.setCell ⟨g, k, none⟩ (.int .u8 ((x + 1) % 256)))) := Go.Lib.hid (HCh.out.setCell (p := ⟨g, k, none⟩) (fun h => by simp only at h; omega) _)
      go_wp2_with fail
      have hw1 : wrap64 ((k : Int) + 1) = ((k + 1 : Nat) : Int) := by unfold wrap64; unfold maxLen at hll; omega
      rw [hw1]
      refine ⟨⟨k + 1, by omega, rfl, HB2.out, HCh2.out⟩, by simp only [intOf]; omega⟩
    · obtain rfl : k = l.length := by omega
      clear hB hch
      go_wp2_with fail
      refine regionH (fun V' => Chg NoB W V') (by kernel_rfl) (HCh.out.trans (Chg.refl NoB _).drew) (fun hS => ?_)
      refine takeH (i := 0) (t := 53) (v := ?v0y1) rfl (by kernel_rfl) (by kernel_rfl) (by kernel_rfl) (fun _ _ _ h => h) rfl (Or.inl ⟨by rfl, ?h0y1⟩) hS ?r0y1
      case h0y1 => (intro V' hSw; clear hSw; go_simp; try with_reducible rfl)
      try simp only [List.setIfInBounds_toArray, List.set_cons_zero, List.set_cons_succ]
      refine takeH (i := 1) (t := 54) (v := ?v1y2) rfl (by kernel_rfl) (by kernel_rfl) (by kernel_rfl) (fun _ _ _ h => h) rfl (Or.inl ⟨by rfl, ?h1y2⟩) hS ?r1y2
      case h1y2 => (intro V' hSw; clear hSw; go_simp; try with_reducible rfl)
      try simp only [List.setIfInBounds_toArray, List.set_cons_zero, List.set_cons_succ]
      refine takeH (i := 3) (t := 56) (v := ?v3y3) rfl (by kernel_rfl) (by kernel_rfl) (by kernel_rfl) (fun _ _ _ h => h) rfl (Or.inl ⟨by rfl, ?h3y3⟩) hS ?r3y3
      case h3y3 => (intro V' hSw; clear hSw; go_simp; try with_reducible rfl)
      try simp only [List.setIfInBounds_toArray, List.set_cons_zero, List.set_cons_succ]
      refine takeH (i := 4) (t := 57) (v := ?v4y4) rfl (by kernel_rfl) (by kernel_rfl) (by kernel_rfl) (fun _ _ _ h => h) rfl (Or.inl ⟨by rfl, ?h4y4⟩) hS ?r4y4
      case h4y4 => (intro V' hSw; clear hSw; go_simp; try with_reducible rfl)
      try simp only [List.setIfInBounds_toArray, List.set_cons_zero, List.set_cons_succ]
      refine manyH (i := 2) (l := []) (by kernel_rfl) ?hm
      case hm =>
        intro j hj
        obtain rfl : j = 2 := by simpa using hj
        refine opCallH (t := 55) (f := 20) (args := #[.pointer (some ⟨s, 0, none⟩), .int .i64 f]) rfl rfl (by rfl) ?hx ?hc
        case hx => (go_simp; try rfl)
        case hc =>
          refine (HEO.out _ hS).mono ?_
          rintro ee wq ⟨rfl, hq⟩
          have hS := hS.trans hq
          refine ⟨_, rfl, hS, ?_⟩
          try simp only [List.setIfInBounds_toArray, List.set_cons_zero, List.set_cons_succ]
          refine manyH (i := 5) (l := []) (by kernel_rfl) ?hm
          case hm =>
            intro j hj
            obtain rfl : j = 5 := by simpa using hj
            refine opCallH (t := 58) (f := 27) (args := #[.pointer (some ⟨r, 0, none⟩), .int .i64 f]) rfl rfl (by rfl) ?hx ?hc
            case hx => (go_simp; try rfl)
            case hc =>
              refine (HRE.out _ hS).mono ?_
              rintro ee wq ⟨rfl, hq⟩
              have hS := hS.trans hq
              refine ⟨_, rfl, hS, ?_⟩
              try simp only [List.setIfInBounds_toArray, List.set_cons_zero, List.set_cons_succ]
              refine takeH (i := 6) (t := 59) (v := .bool true) rfl (by kernel_rfl) (by kernel_rfl) (by kernel_rfl) (fun _ _ _ h => h) rfl (Or.inl ⟨by rfl, ?h6y5⟩) hS ?r6y5
              case h6y5 => (intro V' hSw; clear hSw; go_simp; try simp)
              try simp only [List.setIfInBounds_toArray, List.set_cons_zero, List.set_cons_succ]
              refine takeH (i := 7) (t := 60) (v := ?v7y6) rfl (by kernel_rfl) (by kernel_rfl) (by kernel_rfl) (fun _ _ _ h => h) rfl (Or.inl ⟨by rfl, ?h7y6⟩) hS ?r7y6
              case h7y6 => (intro V' hSw; clear hSw; go_simp; try with_reducible rfl)
              try simp only [List.setIfInBounds_toArray, List.set_cons_zero, List.set_cons_succ]
              refine takeH (i := 8) (t := 61) (v := ?v8y7) rfl (by kernel_rfl) (by kernel_rfl) (by kernel_rfl) (fun _ _ _ h => h) rfl (Or.inl ⟨by rfl, ?h8y7⟩) hS ?r8y7
              case h8y7 => (intro V' hSw; clear hSw; go_simp; try with_reducible rfl)
              try simp only [List.setIfInBounds_toArray, List.set_cons_zero, List.set_cons_succ]
              refine takeH (i := 9) (t := 62) (v := ?v9y8) rfl (by kernel_rfl) (by kernel_rfl) (by kernel_rfl) (fun _ _ _ h => h) rfl (Or.inl ⟨by rfl, ?h9y8⟩) hS ?r9y8
              case h9y8 => (intro V' hSw; clear hSw; go_simp; try with_reducible rfl)
              try simp only [List.setIfInBounds_toArray, List.set_cons_zero, List.set_cons_succ]
              refine takeH (i := 11) (t := 64) (v := ?v11y9) rfl (by kernel_rfl) (by kernel_rfl) (by kernel_rfl) (fun _ _ _ h => h) rfl (Or.inl ⟨by rfl, ?h11y9⟩) hS ?r11y9
              case h11y9 => (intro V' hSw; clear hSw; go_simp; try with_reducible rfl)
              try simp only [List.setIfInBounds_toArray, List.set_cons_zero, List.set_cons_succ]
              refine takeH (i := 12) (t := 65) (v := ?v12y10) rfl (by kernel_rfl) (by kernel_rfl) (by kernel_rfl) (fun _ _ _ h => h) rfl (Or.inl ⟨by rfl, ?h12y10⟩) hS ?r12y10
              case h12y10 => (intro V' hSw; clear hSw; go_simp; try with_reducible rfl)
              try simp only [List.setIfInBounds_toArray, List.set_cons_zero, List.set_cons_succ]
              refine manyH (i := 10) (l := []) (by kernel_rfl) ?hm
              case hm =>
                intro j hj
                obtain rfl : j = 10 := by simpa using hj
                refine opCallH (t := 63) (f := 22) (args := #[.pointer (some ⟨s, 0, none⟩), .int .i64 f]) rfl rfl (by rfl) ?hx ?hc
                case hx => (go_simp; try rfl)
                case hc =>
                  refine (HLE.out _ hS).mono ?_
                  rintro ee wq ⟨rfl, hq⟩
                  have hS := hS.trans hq
                  refine ⟨_, rfl, hS, ?_⟩
                  try simp only [List.setIfInBounds_toArray, List.set_cons_zero, List.set_cons_succ]
                  refine manyH (i := 13) (l := []) (by kernel_rfl) ?hm
                  case hm =>
                    intro j hj
                    obtain rfl : j = 13 := by simpa using hj
                    refine opCallH (t := 66) (f := 28) (args := #[.pointer (some ⟨r, 0, none⟩), .int .i64 f]) rfl rfl (by rfl) ?hx ?hc
                    case hx => (go_simp; try rfl)
                    case hc =>
                      refine (HRL.out _ hS).mono ?_
                      rintro ee wq ⟨rfl, hq⟩
                      have hS := hS.trans hq
                      refine ⟨_, rfl, hS, ?_⟩
                      try simp only [List.setIfInBounds_toArray, List.set_cons_zero, List.set_cons_succ]
                      refine takeH (i := 14) (t := 67) (v := .bool true) rfl (by kernel_rfl) (by kernel_rfl) (by kernel_rfl) (fun _ _ _ h => h) rfl (Or.inl ⟨by rfl, ?h14y11⟩) hS ?r14y11
                      case h14y11 => (intro V' hSw; clear hSw; go_simp; try simp)
                      try simp only [List.setIfInBounds_toArray, List.set_cons_zero, List.set_cons_succ]
                      refine takeH (i := 15) (t := 68) (v := .bool true) rfl (by kernel_rfl) (by kernel_rfl) (by kernel_rfl) (fun _ _ _ h => h) rfl (Or.inl ⟨by rfl, ?h15y12⟩) hS ?r15y12
                      case h15y12 => (intro V' hSw; clear hSw; go_simp; try simp)
                      try simp only [List.setIfInBounds_toArray, List.set_cons_zero, List.set_cons_succ]
                      refine takeH (i := 16) (t := 69) (v := ?v16y13) rfl (by kernel_rfl) (by kernel_rfl) (by kernel_rfl) (fun _ _ _ h => h) rfl (Or.inl ⟨by rfl, ?h16y13⟩) hS ?r16y13
                      case h16y13 => (intro V' hSw; clear hSw; go_simp; try with_reducible rfl)
                      try simp only [List.setIfInBounds_toArray, List.set_cons_zero, List.set_cons_succ]
                      refine takeH (i := 17) (t := 70) (v := ?v17y14) rfl (by kernel_rfl) (by kernel_rfl) (by kernel_rfl) (fun _ _ _ h => h) rfl (Or.inl ⟨by rfl, ?h17y14⟩) hS ?r17y14
                      case h17y14 => (intro V' hSw; clear hSw; go_simp; try with_reducible rfl)
                      try simp only [List.setIfInBounds_toArray, List.set_cons_zero, List.set_cons_succ]
                      refine takeH (i := 18) (t := 71) (v := ?v18y15) rfl (by kernel_rfl) (by kernel_rfl) (by kernel_rfl) (fun _ _ _ h => h) rfl (Or.inl ⟨by rfl, ?h18y15⟩) hS ?r18y15
                      case h18y15 => (intro V' hSw; clear hSw; go_simp; try with_reducible rfl)
                      try simp only [List.setIfInBounds_toArray, List.set_cons_zero, List.set_cons_succ]
                      refine takeH (i := 20) (t := 73) (v := ?v20y16) rfl (by kernel_rfl) (by kernel_rfl) (by kernel_rfl) (fun _ _ _ h => h) rfl (Or.inl ⟨by rfl, ?h20y16⟩) hS ?r20y16
                      case h20y16 => (intro V' hSw; clear hSw; go_simp; try with_reducible rfl)
                      try simp only [List.setIfInBounds_toArray, List.set_cons_zero, List.set_cons_succ]
                      refine takeH (i := 21) (t := 74) (v := ?v21y17) rfl (by kernel_rfl) (by kernel_rfl) (by kernel_rfl) (fun _ _ _ h => h) rfl (Or.inl ⟨by rfl, ?h21y17⟩) hS ?r21y17
                      case h21y17 => (intro V' hSw; clear hSw; go_simp; try with_reducible rfl)
                      try simp only [List.setIfInBounds_toArray, List.set_cons_zero, List.set_cons_succ]
                      refine manyH (i := 19) (l := []) (by kernel_rfl) ?hm
                      case hm =>
                        intro j hj
                        obtain rfl : j = 19 := by simpa using hj
                        refine opCallH (t := 72) (f := 29) (args := #[.pointer (some ⟨s, 0, none⟩), .int .i64 f]) rfl rfl (by rfl) ?hx ?hc
                        case hx => (go_simp; try rfl)
                        case hc =>
                          refine (HAT.out _ hS).mono ?_
                          rintro ee wq ⟨rfl, hq⟩
                          have hS := hS.trans hq
                          refine ⟨_, rfl, hS, ?_⟩
                          try simp only [List.setIfInBounds_toArray, List.set_cons_zero, List.set_cons_succ]
                          refine manyH (i := 22) (l := []) (by kernel_rfl) ?hm
                          case hm =>
                            intro j hj
                            obtain rfl : j = 22 := by simpa using hj
                            refine opCallH (t := 75) (f := 30) (args := #[.pointer (some ⟨r, 0, none⟩), .int .i64 f]) rfl rfl (by rfl) ?hx ?hc
                            case hx => (go_simp; try rfl)
                            case hc =>
                              refine (HRA.out _ hS).mono ?_
                              rintro ee wq ⟨rfl, rfl⟩
                              refine ⟨_, rfl, hS, ?_⟩
                              try simp only [List.setIfInBounds_toArray, List.set_cons_zero, List.set_cons_succ]
                              refine takeH (i := 23) (t := 76) (v := .bool true) rfl (by kernel_rfl) (by kernel_rfl) (by kernel_rfl) (fun _ _ _ h => h) rfl (Or.inl ⟨by rfl, ?h23y18⟩) hS ?r23y18
                              case h23y18 => (intro V' hSw; clear hSw; go_simp; try simp)
                              try simp only [List.setIfInBounds_toArray, List.set_cons_zero, List.set_cons_succ]
                              refine takeH (i := 24) (t := 77) (v := .bool true) rfl (by kernel_rfl) (by kernel_rfl) (by kernel_rfl) (fun _ _ _ h => h) rfl (Or.inl ⟨by rfl, ?h24y19⟩) hS ?r24y19
                              case h24y19 => (intro V' hSw; clear hSw; go_simp; try simp)
                              try simp only [List.setIfInBounds_toArray, List.set_cons_zero, List.set_cons_succ]
                              refine takeH (i := 25) (t := 78) (v := ?v25y20) rfl (by kernel_rfl) (by kernel_rfl) (by kernel_rfl) (fun _ _ _ h => h) rfl (Or.inl ⟨by rfl, ?h25y20⟩) hS ?r25y20
                              case h25y20 => (intro V' hSw; clear hSw; go_simp; try with_reducible rfl)
                              try simp only [List.setIfInBounds_toArray, List.set_cons_zero, List.set_cons_succ]
                              refine takeH (i := 26) (t := 79) (v := ?v26y21) rfl (by kernel_rfl) (by kernel_rfl) (by kernel_rfl) (fun _ _ _ h => h) rfl (Or.inl ⟨by rfl, ?h26y21⟩) hS ?r26y21
                              case h26y21 => (intro V' hSw; clear hSw; go_simp; try with_reducible rfl)
                              try simp only [List.setIfInBounds_toArray, List.set_cons_zero, List.set_cons_succ]
                              refine takeH (i := 28) (t := 81) (v := ?v28y22) rfl (by kernel_rfl) (by kernel_rfl) (by kernel_rfl) (fun _ _ _ h => h) rfl (Or.inl ⟨by rfl, ?h28y22⟩) hS ?r28y22
                              case h28y22 => (intro V' hSw; clear hSw; go_simp; try with_reducible rfl)
                              try simp only [List.setIfInBounds_toArray, List.set_cons_zero, List.set_cons_succ]
                              refine takeH (i := 29) (t := 82) (v := ?v29y23) rfl (by kernel_rfl) (by kernel_rfl) (by kernel_rfl) (fun _ _ _ h => h) rfl (Or.inl ⟨by rfl, ?h29y23⟩) hS ?r29y23
                              case h29y23 => (intro V' hSw; clear hSw; go_simp; try with_reducible rfl)
                              try simp only [List.setIfInBounds_toArray, List.set_cons_zero, List.set_cons_succ]
                              refine takeH (i := 30) (t := 83) (v := ?v30y24) rfl (by kernel_rfl) (by kernel_rfl) (by kernel_rfl) (fun _ _ _ h => h) rfl (Or.inl ⟨by rfl, ?h30y24⟩) hS ?r30y24
                              case h30y24 => (intro V' hSw; clear hSw; go_simp; try with_reducible rfl)
                              try simp only [List.setIfInBounds_toArray, List.set_cons_zero, List.set_cons_succ]
                              refine takeH (i := 31) (t := 84) (v := ?v31y25) rfl (by kernel_rfl) (by kernel_rfl) (by kernel_rfl) (fun _ _ _ h => h) rfl (Or.inl ⟨by rfl, ?h31y25⟩) hS ?r31y25
                              case h31y25 => (intro V' hSw; have q := cell_q hSw K2.out; clear hSw; go_simp; try with_reducible rfl)
                              try simp only [List.setIfInBounds_toArray, List.set_cons_zero, List.set_cons_succ]
                              refine takeH (i := 32) (t := 85) (v := ?v32y26) rfl (by kernel_rfl) (by kernel_rfl) (by kernel_rfl) (fun _ _ _ h => h) rfl (Or.inl ⟨by rfl, ?h32y26⟩) hS ?r32y26
                              case h32y26 => (intro V' hSw; clear hSw; go_simp; try with_reducible rfl)
                              try simp only [List.setIfInBounds_toArray, List.set_cons_zero, List.set_cons_succ]
                              refine manyH (i := 27) (l := []) (by kernel_rfl) ?hm
                              case hm =>
                                intro j hj
                                obtain rfl : j = 27 := by simpa using hj
                                refine opCallH (t := 80) (f := 31) (args := #[.pointer (some ⟨s, 0, none⟩)]) rfl rfl (by rfl) ?hx ?hc
                                case hx => (go_simp; try rfl)
                                case hc =>
                                  refine (HRI.out _ hS).mono ?_
                                  rintro ee wq ⟨rfl, hq⟩
                                  have hS := hS.trans hq
                                  refine ⟨_, rfl, hS, ?_⟩
                                  try simp only [List.setIfInBounds_toArray, List.set_cons_zero, List.set_cons_succ]
                                  refine takeH (i := 33) (t := 86) (v := .bool true) rfl (by kernel_rfl) (by kernel_rfl) (by kernel_rfl) (fun _ _ _ h => h) rfl (Or.inl ⟨by rfl, ?h33y27⟩) hS ?r33y27
                                  case h33y27 => (intro V' hSw; clear hSw; go_simp; try simp)
                                  try simp only [List.setIfInBounds_toArray, List.set_cons_zero, List.set_cons_succ]
                                  refine takeH (i := 34) (t := 87) (v := .bool true) rfl (by kernel_rfl) (by kernel_rfl) (by kernel_rfl) (fun _ _ _ h => h) rfl (Or.inl ⟨by rfl, ?h34y28⟩) hS ?r34y28
                                  case h34y28 => (intro V' hSw; clear hSw; go_simp; try simp)
                                  try simp only [List.setIfInBounds_toArray, List.set_cons_zero, List.set_cons_succ]
                                  refine takeH (i := 35) (t := 88) (v := ?v35y29) rfl (by kernel_rfl) (by kernel_rfl) (by kernel_rfl) (fun _ _ _ h => h) rfl (Or.inl ⟨by rfl, ?h35y29⟩) hS ?r35y29
                                  case h35y29 => (intro V' hSw; clear hSw; go_simp; try with_reducible rfl)
                                  try simp only [List.setIfInBounds_toArray, List.set_cons_zero, List.set_cons_succ]
                                  refine takeH (i := 36) (t := 89) (v := ?v36y30) rfl (by kernel_rfl) (by kernel_rfl) (by kernel_rfl) (fun _ _ _ h => h) rfl (Or.inl ⟨by rfl, ?h36y30⟩) hS ?r36y30
                                  case h36y30 => (intro V' hSw; clear hSw; go_simp; try with_reducible rfl)
                                  try simp only [List.setIfInBounds_toArray, List.set_cons_zero, List.set_cons_succ]
                                  refine takeH (i := 38) (t := 91) (v := ?v38y31) rfl (by kernel_rfl) (by kernel_rfl) (by kernel_rfl) (fun _ _ _ h => h) rfl (Or.inl ⟨by rfl, ?h38y31⟩) hS ?r38y31
                                  case h38y31 => (intro V' hSw; clear hSw; go_simp; try with_reducible rfl)
                                  try simp only [List.setIfInBounds_toArray, List.set_cons_zero, List.set_cons_succ]
                                  refine manyH (i := 37) (l := []) (by kernel_rfl) ?hm
                                  case hm =>
                                    intro j hj
                                    obtain rfl : j = 37 := by simpa using hj
                                    refine opCallH (t := 90) (f := 32) (args := #[.pointer (some ⟨s, 0, none⟩)]) rfl rfl (by rfl) ?hx ?hc
                                    case hx => (go_simp; try rfl)
                                    case hc =>
                                      refine (HRO.out _ hS).mono ?_
                                      rintro ee wq ⟨rfl, hq⟩
                                      have hS := hS.trans hq
                                      refine ⟨_, rfl, hS, ?_⟩
                                      try simp only [List.setIfInBounds_toArray, List.set_cons_zero, List.set_cons_succ]
                                      refine manyH (i := 39) (l := []) (by kernel_rfl) ?hm
                                      case hm =>
                                        intro j hj
                                        obtain rfl : j = 39 := by simpa using hj
                                        refine opCallH (t := 92) (f := 33) (args := #[.pointer (some ⟨r, 0, none⟩)]) rfl rfl (by rfl) ?hx ?hc
                                        case hx => (go_simp; try rfl)
                                        case hc =>
                                          refine (HRR.out _ hS).mono ?_
                                          rintro ee wq ⟨rfl, rfl⟩
                                          refine ⟨_, rfl, hS, ?_⟩
                                          try simp only [List.setIfInBounds_toArray, List.set_cons_zero, List.set_cons_succ]
                                          refine takeH (i := 40) (t := 93) (v := .bool true) rfl (by kernel_rfl) (by kernel_rfl) (by kernel_rfl) (fun _ _ _ h => h) rfl (Or.inl ⟨by rfl, ?h40y32⟩) hS ?r40y32
                                          case h40y32 => (intro V' hSw; clear hSw; go_simp; try simp)
                                          try simp only [List.setIfInBounds_toArray, List.set_cons_zero, List.set_cons_succ]
                                          refine takeH (i := 41) (t := 94) (v := .bool true) rfl (by kernel_rfl) (by kernel_rfl) (by kernel_rfl) (fun _ _ _ h => h) rfl (Or.inl ⟨by rfl, ?h41y33⟩) hS ?r41y33
                                          case h41y33 => (intro V' hSw; clear hSw; go_simp; try simp)
                                          try simp only [List.setIfInBounds_toArray, List.set_cons_zero, List.set_cons_succ]
                                          refine takeH (i := 42) (t := 95) (v := ?v42y34) rfl (by kernel_rfl) (by kernel_rfl) (by kernel_rfl) (fun _ _ _ h => h) rfl (Or.inl ⟨by rfl, ?h42y34⟩) hS ?r42y34
                                          case h42y34 => (intro V' hSw; clear hSw; go_simp; try with_reducible rfl)
                                          try simp only [List.setIfInBounds_toArray, List.set_cons_zero, List.set_cons_succ]
                                          refine takeH (i := 43) (t := 96) (v := ?v43y35) rfl (by kernel_rfl) (by kernel_rfl) (by kernel_rfl) (fun _ _ _ h => h) rfl (Or.inl ⟨by rfl, ?h43y35⟩) hS ?r43y35
                                          case h43y35 => (intro V' hSw; clear hSw; go_simp; try with_reducible rfl)
                                          try simp only [List.setIfInBounds_toArray, List.set_cons_zero, List.set_cons_succ]
                                          refine takeH (i := 45) (t := 98) (v := ?v45y36) rfl (by kernel_rfl) (by kernel_rfl) (by kernel_rfl) (fun _ _ _ h => h) rfl (Or.inl ⟨by rfl, ?h45y36⟩) hS ?r45y36
                                          case h45y36 => (intro V' hSw; clear hSw; go_simp; try with_reducible rfl)
                                          try simp only [List.setIfInBounds_toArray, List.set_cons_zero, List.set_cons_succ]
                                          refine manyH (i := 44) (l := []) (by kernel_rfl) ?hm
                                          case hm =>
                                            intro j hj
                                            obtain rfl : j = 44 := by simpa using hj
                                            refine opCallH (t := 97) (f := 34) (args := #[.string nm]) rfl rfl (by rfl) ?hx ?hc
                                            case hx => (go_simp; try rfl)
                                            case hc =>
                                              refine (HMN.out _).mono ?_
                                              rintro ee wq ⟨rfl, hq⟩
                                              have hS := hS.trans hq
                                              refine ⟨_, rfl, hS, ?_⟩
                                              try simp only [List.setIfInBounds_toArray, List.set_cons_zero, List.set_cons_succ]
                                              refine manyH (i := 46) (l := []) (by kernel_rfl) ?hm
                                              case hm =>
                                                intro j hj
                                                obtain rfl : j = 46 := by simpa using hj
                                                refine opCallH (t := 99) (f := 35) (args := #[.string nm]) rfl rfl (by rfl) ?hx ?hc
                                                case hx => (go_simp; try rfl)
                                                case hc =>
                                                  refine (HRN.out _).mono ?_
                                                  rintro ee wq ⟨rfl, rfl⟩
                                                  refine ⟨_, rfl, hS, ?_⟩
                                                  try simp only [List.setIfInBounds_toArray, List.set_cons_zero, List.set_cons_succ]
                                                  refine takeH (i := 47) (t := 100) (v := .bool true) rfl (by kernel_rfl) (by kernel_rfl) (by kernel_rfl) (fun _ _ _ h => h) rfl (Or.inl ⟨by rfl, ?h47y37⟩) hS ?r47y37
                                                  case h47y37 => (intro V' hSw; clear hSw; go_simp; try simp)
                                                  try simp only [List.setIfInBounds_toArray, List.set_cons_zero, List.set_cons_succ]
                                                  refine takeH (i := 48) (t := 101) (v := .bool true) rfl (by kernel_rfl) (by kernel_rfl) (by kernel_rfl) (fun _ _ _ h => h) rfl (Or.inl ⟨by rfl, ?h48y38⟩) hS ?r48y38
                                                  case h48y38 => (intro V' hSw; clear hSw; go_simp; try simp)
                                                  try simp only [List.setIfInBounds_toArray, List.set_cons_zero, List.set_cons_succ]
                                                  refine takeH (i := 49) (t := 102) (v := ?v49y39) rfl (by kernel_rfl) (by kernel_rfl) (by kernel_rfl) (fun _ _ _ h => h) rfl (Or.inl ⟨by rfl, ?h49y39⟩) hS ?r49y39
                                                  case h49y39 => (intro V' hSw; clear hSw; go_simp; try with_reducible rfl)
                                                  try simp only [List.setIfInBounds_toArray, List.set_cons_zero, List.set_cons_succ]
                                                  refine takeH (i := 50) (t := 103) (v := ?v50y40) rfl (by kernel_rfl) (by kernel_rfl) (by kernel_rfl) (fun _ _ _ h => h) rfl (Or.inl ⟨by rfl, ?h50y40⟩) hS ?r50y40
                                                  case h50y40 => (intro V' hSw; clear hSw; go_simp; try with_reducible rfl)
                                                  try simp only [List.setIfInBounds_toArray, List.set_cons_zero, List.set_cons_succ]
                                                  refine takeH (i := 51) (t := 104) (v := ?v51y41) rfl (by kernel_rfl) (by kernel_rfl) (by kernel_rfl) (fun _ _ _ h => h) rfl (Or.inl ⟨by rfl, ?h51y41⟩) hS ?r51y41
                                                  case h51y41 => (intro V' hSw; clear hSw; go_simp; try with_reducible rfl)
                                                  try simp only [List.setIfInBounds_toArray, List.set_cons_zero, List.set_cons_succ]
                                                  refine takeH (i := 52) (t := 105) (v := ?v52y42) rfl (by kernel_rfl) (by kernel_rfl) (by kernel_rfl) (fun _ _ _ h => h) rfl (Or.inl ⟨by rfl, ?h52y42⟩) hS ?r52y42
                                                  case h52y42 => (intro V' hSw; clear hSw; go_simp; try with_reducible rfl)
                                                  try simp only [List.setIfInBounds_toArray, List.set_cons_zero, List.set_cons_succ]
                                                  refine manyH (i := 53) (l := []) (by kernel_rfl) ?hm
                                                  case hm =>
                                                    intro j hj
                                                    obtain rfl : j = 53 := by simpa using hj
                                                    refine opCallH (t := 106) (f := 36) (args := #[.pointer (some ⟨s, 0, none⟩), .pointer (some ⟨r, 0, none⟩), .int .i64 most]) rfl rfl (by rfl) ?hx ?hc
                                                    case hx => (go_simp; try rfl)
                                                    case hc =>
                                                      refine (HON.out _ _ hS).mono ?_
                                                      rintro ee wq ⟨rfl, hq⟩
                                                      have hS := hS.trans hq
                                                      refine ⟨_, rfl, hS, ?_⟩
                                                      try simp only [List.setIfInBounds_toArray, List.set_cons_zero, List.set_cons_succ]
                                                      refine takeH (i := 54) (t := 107) (v := .bool true) rfl (by kernel_rfl) (by kernel_rfl) (by kernel_rfl) (fun _ _ _ h => h) rfl (Or.inl ⟨by rfl, ?h54y43⟩) hS ?r54y43
                                                      case h54y43 => (intro V' hSw; clear hSw; go_simp; try simp)
                                                      try simp only [List.setIfInBounds_toArray, List.set_cons_zero, List.set_cons_succ]
                                                      refine takeH (i := 55) (t := 108) (v := ?v55y44) rfl (by kernel_rfl) (by kernel_rfl) (by kernel_rfl) (fun _ _ _ h => h) rfl (Or.inl ⟨by rfl, ?h55y44⟩) hS ?r55y44
                                                      case h55y44 => (intro V' hSw; clear hSw; go_simp; try with_reducible rfl)
                                                      try simp only [List.setIfInBounds_toArray, List.set_cons_zero, List.set_cons_succ]
                                                      refine takeH (i := 56) (t := 109) (v := ?v56y45) rfl (by kernel_rfl) (by kernel_rfl) (by kernel_rfl) (fun _ _ _ h => h) rfl (Or.inl ⟨by rfl, ?h56y45⟩) hS ?r56y45
                                                      case h56y45 => (intro V' hSw; clear hSw; go_simp; try with_reducible rfl)
                                                      try simp only [List.setIfInBounds_toArray, List.set_cons_zero, List.set_cons_succ]
                                                      refine takeH (i := 57) (t := 110) (v := ?v57y46) rfl (by kernel_rfl) (by kernel_rfl) (by kernel_rfl) (fun _ _ _ h => h) rfl (Or.inl ⟨by rfl, ?h57y46⟩) hS ?r57y46
                                                      case h57y46 => (intro V' hSw; clear hSw; go_simp; try with_reducible rfl)
                                                      try simp only [List.setIfInBounds_toArray, List.set_cons_zero, List.set_cons_succ]
                                                      refine manyH (i := 58) (l := []) (by kernel_rfl) ?hm
                                                      case hm =>
                                                        intro j hj
                                                        obtain rfl : j = 58 := by simpa using hj
                                                        refine opCallH (t := 111) (f := 36) (args := #[.pointer (some ⟨s, 0, none⟩), .pointer (some ⟨r, 0, none⟩), .int .i64 0]) rfl rfl (by rfl) ?hx ?hc
                                                        case hx => (go_simp; try rfl)
                                                        case hc =>
                                                          refine (HON.out _ _ hS).mono ?_
                                                          rintro ee wq ⟨rfl, hq⟩
                                                          have hS := hS.trans hq
                                                          refine ⟨_, rfl, hS, ?_⟩
                                                          try simp only [List.setIfInBounds_toArray, List.set_cons_zero, List.set_cons_succ]
                                                          refine takeH (i := 59) (t := 112) (v := .bool true) rfl (by kernel_rfl) (by kernel_rfl) (by kernel_rfl) (fun _ _ _ h => h) rfl (Or.inl ⟨by rfl, ?h59y47⟩) hS ?r59y47
                                                          case h59y47 => (intro V' hSw; clear hSw; go_simp; try simp)
                                                          try simp only [List.setIfInBounds_toArray, List.set_cons_zero, List.set_cons_succ]
                                                          refine takeH (i := 60) (t := 10) (v := ?v60y48) rfl (by kernel_rfl) (by kernel_rfl) (by kernel_rfl) (fun _ _ _ h => h) rfl (Or.inl ⟨by rfl, ?h60y48⟩) hS ?r60y48
                                                          case h60y48 => (intro V' hSw; clear hSw; go_simp; try with_reducible rfl)
                                                          try simp only [List.setIfInBounds_toArray, List.set_cons_zero, List.set_cons_succ]
                                                          refine wpAnyH_done (by kernel_rfl) ?_ _
                                                          have HS := Go.Lib.hid hS
                                                          clear hS
                                                          go_wp2_with fail
                                                          go_ret
                                                          exact ⟨rfl, HS.out⟩
end
end Go.Proofs.Ytlglnebnldmceaa
