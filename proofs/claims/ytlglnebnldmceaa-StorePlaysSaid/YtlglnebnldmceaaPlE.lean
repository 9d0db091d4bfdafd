/- What is proved: a store and the reference's, and a copy of each, along a step; how great they may be behind so many steps. Conditions: as each theorem says. -/
import Derived.Test.YtlglnebnldmceaaPlD
set_option linter.unusedSimpArgs false
set_option linter.unusedVariables false
namespace Go.Proofs.Ytlglnebnldmceaa
open Go Go.RowKit Go.Shelf
/-- how great a store is behind so many steps -/
structure Sz (v : V) (k : Nat) : Prop where
  f : v.F.length ≤ k
  r : v.rd.length ≤ k
  d : v.dir.length ≤ k
  b : ∀ n, (v.bytes n).length ≤ 20000 * k
section
variable {v U : V} {k : Nat}
theorem Sz.more (h : Sz v k) {j : Nat} (hj : k ≤ j) : Sz v j := ⟨by have := h.f; omega, by have := h.r; omega, by have := h.d; omega, fun n => by have := h.b n; omega⟩
theorem Sz.rd_ (h : Sz v k) {rd : List VR} (hl : rd.length ≤ k + 1) : Sz { v with rd := rd } (k + 1) := ⟨by have := h.f; show v.F.length ≤ _; omega, hl, by have := h.d; show v.dir.length ≤ _; omega, fun n => by have := h.b n; show (v.bytes n).length ≤ _; omega⟩
theorem Sz.setPos (h : Sz v k) (f : Int) (p : Nat) : Sz (v.setPos f p) k := by
  unfold V.setPos
  split
  · exact ⟨h.f, by simp only [List.length_modify]; exact h.r, h.d, h.b⟩
  · exact h
theorem Sz.setFile (h : Sz v k) (n : Nat) {b : List UInt8} (hb : b.length ≤ 20000 * (k + 1)) : Sz (v.setFile n b) (k + 1) := by
  refine ⟨by simp only [V.setFile, List.length_set]; have := h.f; omega, by have := h.r; show v.rd.length ≤ _; omega, by have := h.d; show v.dir.length ≤ _; omega, fun m => ?_⟩
  unfold V.setFile V.bytes
  simp only [List.getD_eq_getElem?_getD]
  rw [List.getElem?_set]
  split
  · split
    · exact hb
    · simp
  · have := h.b m
    unfold V.bytes at this
    rw [List.getD_eq_getElem?_getD] at this
    omega
theorem Sz.addFile (h : Sz v k) {b : List UInt8} (hb : b.length ≤ 20000) : Sz (v.addFile b) (k + 1) := by
  refine ⟨by simp only [V.addFile, List.length_append, List.length_cons, List.length_nil]; have := h.f; omega, by have := h.r; show v.rd.length ≤ _; omega, by have := h.d; show v.dir.length ≤ _; omega, fun m => ?_⟩
  unfold V.addFile V.bytes
  simp only [List.getD_eq_getElem?_getD]
  by_cases hm : m < v.F.length
  · rw [List.getElem?_append_left hm]
    have := h.b m
    unfold V.bytes at this
    rw [List.getD_eq_getElem?_getD] at this
    omega
  · rw [List.getElem?_append_right (by omega)]
    cases hq : m - v.F.length with
    | zero => simp; omega
    | succ j => simp
theorem putD_len (nm : ByteArray) (g : Nat) (l : List (ByteArray × Nat)) : (putD nm g l).length ≤ l.length + 1 := by
  have := (putD_perm nm g l).length_eq
  have h2 := delD_count nm l
  simp only [List.length_cons] at this
  omega
theorem Sz.dir_ (h : Sz v k) {d : List (ByteArray × Nat)} (hd : d.length ≤ k + 1) : Sz { v with dir := d } (k + 1) :=
  ⟨by have := h.f; show v.F.length ≤ _; omega, by have := h.r; show v.rd.length ≤ _; omega, hd, fun n => by have := h.b n; show (v.bytes n).length ≤ _; omega⟩
theorem Sz.ride (h : Sz v k) (n : Nat) (nm : ByteArray) : Sz (v.ride n nm) (k + 1) := h.rd_ (by rw [List.length_append]; have := h.r; simp only [List.length_cons, List.length_nil]; omega)
theorem Sz.enter (h : Sz v k) (nm : ByteArray) (n : Nat) : Sz (v.enter nm n) (k + 1) := h.dir_ (by have := putD_len nm n v.dir; have := h.d; omega)
theorem Sz.del (h : Sz v k) (nm : ByteArray) : Sz (v.del nm) k := ⟨h.f, h.r, Nat.le_trans (delD_count nm v.dir) h.d, h.b⟩
theorem Sz.read (h : Sz v k) (f : Int) : Sz (v.read f).2 k := by
  unfold V.read
  cases v.rdAt f with
  | none => exact h
  | some q =>
    simp only
    cases (v.bytes q.n)[q.pos]? with
    | none => exact h
    | some c => exact h.setPos _ _
theorem Sz.write (h : Sz v k) (hv : VGood v) (f : Int) {l : List UInt8} (hl : l.length ≤ 20000) : Sz (v.write f l).2 (k + 1) := by
  unfold V.write
  cases hr : v.rdAt f with
  | none => exact h.more (by omega)
  | some q =>
    simp only
    split
    · refine Sz.setPos (h.setFile _ ?_) _ _
      rw [wr_length]
      have h1 := hv.ps q (rdAt_mem2 hr)
      have h2 := h.b q.n
      omega
    · exact h.more (by omega)
theorem Sz.put (h : Sz v k) (nm : ByteArray) {l : List UInt8} (hl : l.length ≤ 20000) : Sz (v.put nm l).2 (k + 1) := by
  unfold V.put
  split
  · split
    · split
      · have h1 := (h.del nm).addFile hl
        refine ⟨h1.f, h1.r, ?_, h1.b⟩
        have h2 := putD_len nm v.F.length (delD nm v.dir)
        have h3 := delD_count nm v.dir
        have h4 := h.d
        show (putD nm v.F.length (delD nm v.dir)).length ≤ k + 1
        omega
      · simp only
        split
        · exact (h.del nm).more (by omega)
        · exact (h.del nm).enter _ _
    · exact h.more (by omega)
  · exact h.more (by omega)
theorem Sz.step (h : Sz v k) (hv : VGood v) (x : St) (hx : x.b.length ≤ 20000) : Sz (v.doS x).2 (k + 1) := by
  unfold V.doS
  split
  · unfold V.old
    split
    · cases lookD x.nm v.dir with
      | none => exact h.more (by omega)
      | some n => exact h.ride _ _
    · exact h.more (by omega)
  split
  · unfold V.fresh
    split
    · have h1 := h.addFile (b := []) (by simp)
      exact ⟨h1.f, by show (v.rd ++ [_]).length ≤ _; rw [List.length_append]; have := h.r; simp only [List.length_cons, List.length_nil]; omega, h1.d, h1.b⟩
    · exact h.more (by omega)
  split
  · exact (h.read _).more (by omega)
  split
  · unfold V.readWord
    exact ((((h.read _).read _).read _).read _).more (by omega)
  split
  · exact h.write hv _ (by simp)
  split
  · exact h.write hv _ (by simp [bytesOfWord])
  split
  · unfold V.seek
    cases v.rdAt x.f with
    | none => exact h.more (by omega)
    | some q => exact (h.setPos _ _).more (by omega)
  split
  · unfold V.register
    cases v.rdAt x.f with
    | none => exact h.more (by omega)
    | some q =>
      simp only
      split
      · exact h.enter _ _
      · exact h.more (by omega)
  split
  · exact (h.del _).more (by omega)
  split
  · exact h.put _ hx
  split
  · unfold V.drop
    split
    · split
      · exact h.more (by omega)
      · exact (h.del _).more (by omega)
    · exact h.more (by omega)
  · exact h.more (by omega)
theorem RS.small (h : RS v U) (hz : Sz v k) (hk : k ≤ 1000) (hc : v.cap ≤ 67108864) : RSmall U where
  r := by rw [h.rd]; have := hz.r; omega
  d := by rw [h.len]; have := hz.d; omega
  f := by rw [h.F]; have := hz.f; omega
  b := fun n => by rw [h.bytes]; have := hz.b n; omega
  c := by rw [h.cap]; omega
theorem RS.start (c : Nat) : RS ⟨c, [], [], []⟩ ⟨c, [], [], []⟩ := ⟨rfl, rfl, rfl, List.Perm.refl _, List.Pairwise.nil⟩
end
section
variable {w0 W W' : World} {s r c q k : Nat} {v v1 v' U U1 : V} {ρ : Nat → Nat}
/-- the memory holds a store and the reference's, alike -/
def Two (w0 W : World) (s r : Nat) (v U : V) (k : Nat) : Prop :=
  (∃ base F a, StoreV base W s v F ∧ RefAt W r U F a ∧ ∀ j, F j → w0.heap.size ≤ j) ∧ w0.heap.size ≤ r ∧ RS v U ∧ Sz v k ∧ Chg NoB w0 W
theorem Two.quiet (h : Two w0 W s r v U k) (hc : Chg NoB W W') : Two w0 W' s r v U k := by
  obtain ⟨⟨base, F, a, h1, h2, h3⟩, h4, h5, h6, h7⟩ := h
  exact ⟨⟨base, F, a, h1.quiet hc, h2.quiet hc, h3⟩, h4, h5, h6, h7.trans hc⟩
theorem Two.looks (h : Two w0 W s r v U k) (hk : k ≤ 120) (f : Int) (nm : ByteArray) (hsz : nm.size ≤ maxLen) (most : Int) : Calls Try.prog 8 #[.pointer (some ⟨s, 0, none⟩), .pointer (some ⟨r, 0, none⟩), .int .i64 f, .string nm, .int .i64 most] W (Quiet (.bool true) W) := by
  obtain ⟨⟨base, F, a, h1, h2, h3⟩, h4, h5, h6, h7⟩ := h
  have hg := h1.good
  exact looks_c h1 h2 (h5.alike hg) (fun W' hc => files_r (h1.quiet hc) h5) (h5.small h6 (by omega) h1.fits.2) (by rw [h5.len]; have := h6.d; omega) f nm hsz most
/-- and a copy of each -/
structure Quad (w0 W : World) (s r c q : Nat) (v1 U1 v' U : V) : Prop where
  ex : ∃ base F a b' F' X2 a2, StoreV base W s v1 F ∧ RefAt W r U1 F a ∧ StoreV b' W c v' F' ∧ RefAt W q U X2 a2 ∧ (∀ j, F j → w0.heap.size ≤ j) ∧ (∀ j, F' j → ¬ F j ∧ j ≠ r) ∧ (∀ j, F j → X2 j) ∧ X2 r
  r0 : w0.heap.size ≤ r
  chg : Chg NoB w0 W
theorem Quad.quiet (h : Quad w0 W s r c q v1 U1 v' U) (hc : Chg NoB W W') : Quad w0 W' s r c q v1 U1 v' U := by
  obtain ⟨⟨base, F, a, b', F', X2, a2, h1, h2, h3, h4, h5, h6, h7, h8⟩, h9, h10⟩ := h
  exact ⟨⟨base, F, a, b', F', X2, a2, h1.quiet hc, h2.quiet hc, h3.quiet hc, h4.quiet hc, h5, h6, h7, h8⟩, h9, h10.trans hc⟩
/-- the store's copy, then the reference's -/
theorem Two.copy (h : Two w0 W s r v U k) : Calls Try.prog 9 #[.pointer (some ⟨s, 0, none⟩)] W fun e W1 => ∃ c v' ρ, e = .returned (.pointer (some ⟨c, 0, none⟩)) ∧ Sim v v' ρ ∧
    Calls Try.prog 10 #[.pointer (some ⟨r, 0, none⟩)] W1 fun e W2 => ∃ q, e = .returned (.pointer (some ⟨q, 0, none⟩)) ∧ Quad w0 W2 s r c q v U v' U ∧ Chg NoB W W2 := by
  obtain ⟨⟨base, F, a, h1, h2, h3⟩, h4, h5, h6, h7⟩ := h
  refine (copy_v h1).mono fun e W1 ⟨c, v', F', ρ, he, g1, g2, g3, g4⟩ => ⟨c, v', ρ, he, g2, ?_⟩
  refine (rcopy_c (h2.quiet g4)).mono fun e2 W2 ⟨q, he2, k1, k2, k3⟩ => ⟨q, he2, ?_, g4.trans k2⟩
  have hr := h2.lt
  have hs := g4.size
  have h2' := h2.quiet g4
  have hnq : ¬ F q := fun hF => by have := h1.lt hF; omega
  have hR : RefAt W2 q U (fun k => F k ∨ k = r) a := by
    have hb := h2'.copy k2 k1 k3 hnq
    exact { hb with
      f := fun i b hb' => by
        obtain ⟨x, x1, x2, x3⟩ := hb.f i b hb'
        obtain ⟨y, y1, y2, y3⟩ := h2'.f i b hb'
        rw [x1] at y1
        obtain rfl := Option.some.inj y1
        exact ⟨x, x1, x2, fun k hk => ⟨fun hx => hx.elim (x3 k hk).1 (y3 k hk).2, (x3 k hk).2⟩⟩
      xF := fun k hk => ⟨fun hx => hx.elim (hb.xF k hk).1 (h2'.xF k hk).2, (hb.xF k hk).2⟩
      xD := fun k hk => ⟨fun hx => hx.elim (hb.xD k hk).1 (h2'.xD k hk).2, (hb.xD k hk).2⟩
      xR := fun k hk => ⟨fun hx => hx.elim (hb.xR k hk).1 (h2'.xR k hk).2, (hb.xR k hk).2⟩
      xr := fun hx => hx.elim hnq (fun e => by omega) }
  exact ⟨⟨base, F, a, _, F', _, a, g3.quiet k2, h2'.quiet k2, g1.quiet k2, hR, h3, fun j hj => ⟨fun hF => by have := h1.lt hF; have := g1.low hj; omega, by have := g1.low hj; omega⟩, fun j hj => .inl hj, .inr rfl⟩, h4, (h7.trans g4).trans k2⟩
theorem Quad.do_ (h : Quad w0 W s r c q v1 U1 v' U) (x : St) (hx : StepOk W x) : Calls Try.prog 11 #[.agg #[], .pointer (some ⟨s, 0, none⟩), x.v] W fun e W' => e = .returned (.int .u32 (v1.doS x).1) ∧ Quad w0 W' s r c q (v1.doS x).2 U1 v' U ∧ Chg NoB w0 W' := by
  obtain ⟨⟨base, F, a, b', F', X2, a2, h1, h2, h3, h4, h5, h6, h7, h8⟩, h9, h10⟩ := h
  refine (do_c h1 x hx).mono fun e W' ⟨he, F1, g1, g2, g3⟩ => ?_
  have hc : Chg NoB w0 W' := h10.step g2 fun j hj hF => absurd (h5 j hF) (by omega)
  have hs := h10.size
  have hr := h2.lt
  refine ⟨he, ⟨⟨base, F1, a, b', F', fun j => X2 j ∨ F1 j, a2, g1, ?_, ?_, ?_, ?_, ?_, fun j hj => .inr hj, .inl h8⟩, h9, hc⟩, hc⟩
  · have e1 := h2.apart (X' := fun j => F j ∨ F1 j) (fun j hj => hj.elim .inl fun h => by
      rcases Nat.lt_or_ge j W.heap.size with hl | hl
      · exact .inl (g3 j h hl)
      · exact .inr hl)
    exact (e1.chg g2 fun j hj => .inl hj).apart (X' := F1) fun j hj => .inl (.inr hj)
  · exact h3.chg g2 fun j hj => (h6 j hj).1
  · have e1 := h4.apart (X' := fun j => X2 j ∨ F1 j) (fun j hj => hj.elim .inl fun h => by
      rcases Nat.lt_or_ge j W.heap.size with hl | hl
      · exact .inl (h7 j (g3 j h hl))
      · exact .inr hl)
    exact e1.chg g2 fun j hj => .inl (h7 j hj)
  · intro j hj
    rcases Nat.lt_or_ge j W.heap.size with hl | hl
    · exact h5 j (g3 j hj hl)
    · omega
  · intro j hj
    refine ⟨fun hF => ?_, (h6 j hj).2⟩
    have := h3.lt hj
    exact (h6 j hj).1 (g3 j hF this)
theorem Quad.rdo (h : Quad w0 W s r c q v1 U1 v' U) (hs : RSmall U1) (hpos : ∀ p ∈ U1.rd, p.pos ≤ (U1.bytes p.n).length) (x : St) (hx : StepOk W x) : Calls Try.prog 12 #[.pointer (some ⟨r, 0, none⟩), x.v] W fun e W' => e = .returned (.int .u32 (doR U1 x).1) ∧ Quad w0 W' s r c q v1 (doR U1 x).2 v' U ∧ Chg NoB w0 W' := by
  obtain ⟨⟨base, F, a, b', F', X2, a2, h1, h2, h3, h4, h5, h6, h7, h8⟩, h9, h10⟩ := h
  refine (rdo_c h2 (fun k hk => h1.lt hk) hs hpos x hx).mono fun e W' ⟨he, ⟨a', g1⟩, g2⟩ => ?_
  have hc : Chg NoB w0 W' := h10.step g2 fun j hj hF => by omega
  exact ⟨he, ⟨⟨base, F, a', b', F', X2, a2, h1.chg g2 (fun j hj e => h2.xr (e ▸ hj)), g1, h3.chg g2 (fun j hj => (h6 j hj).2), h4.chg g2 (fun j hj => by rw [hj]; exact h8), h5, h6, h7, h8⟩, h9, hc⟩, hc⟩
theorem Quad.two (h : Quad w0 W s r c q v1 U1 v' U) (hr : RS v1 U1) (hz : Sz v1 k) : Two w0 W s r v1 U1 k := by
  obtain ⟨⟨base, F, a, b', F', X2, a2, h1, h2, h3, h4, h5, h6, h7, h8⟩, h9, h10⟩ := h
  exact ⟨⟨base, F, a, h1, h2, h5⟩, h9, hr, hz, h10⟩
theorem Quad.looks (h : Quad w0 W s r c q v1 U1 v' U) (hv : VGood v) (hr : RS v U) (hsim : Sim v v' ρ) (hz : Sz v k) (hcap : v.cap ≤ 67108864) (hk : k ≤ 120) (f : Int) (nm : ByteArray) (hsz : nm.size ≤ maxLen) (most : Int) : Calls Try.prog 8 #[.pointer (some ⟨c, 0, none⟩), .pointer (some ⟨q, 0, none⟩), .int .i64 f, .string nm, .int .i64 most] W (Quiet (.bool true) W) := by
  obtain ⟨⟨base, F, a, b', F', X2, a2, h1, h2, h3, h4, h5, h6, h7, h8⟩, h9, h10⟩ := h
  refine looks_c h3 h4 ((hr.alike hv).sim hsim) (fun W' hc => ?_) (hr.small hz (by omega) hcap) (by rw [hr.len]; have := hz.d; omega) f nm hsz most
  rw [← ren_tells hr hsim]
  exact files_r (h3.quiet hc) (ren_rs hr hsim)
theorem Quad.good (h : Quad w0 W s r c q v1 U1 v' U) : VGood v1 ∧ v1.cap ≤ 67108864 := by
  obtain ⟨⟨base, F, a, b', F', X2, a2, h1, h2, h3, h4, h5, h6, h7, h8⟩, h9, h10⟩ := h
  exact ⟨h1.good, h1.fits.2⟩
theorem Two.good (h : Two w0 W s r v U k) : VGood v ∧ v.cap ≤ 67108864 := by
  obtain ⟨⟨base, F, a, h1, h2, h3⟩, h4, h5, h6, h7⟩ := h
  exact ⟨h1.good, h1.fits.2⟩
theorem Quad.same1 (h : Quad w0 W s r c q v1 U1 v' U) (hr1 : RS v1 U1) (hr : RS v U) (hsim : Sim v v' ρ) : Calls Try.prog 13 #[.pointer (some ⟨s, 0, none⟩), .pointer (some ⟨c, 0, none⟩)] W (Quiet (.bool (decide (U1.cont = U.cont))) W) := by
  obtain ⟨⟨base, F, a, b', F', X2, a2, h1, h2, h3, h4, h5, h6, h7, h8⟩, h9, h10⟩ := h
  rw [← ren_cont hr hsim]
  exact same_r h1 h3 hr1 (ren_rs hr hsim)
theorem Quad.same2 (h : Quad w0 W s r c q v1 U1 v' U) (hr1 : RS v1 U1) (hr : RS v U) (hsim : Sim v v' ρ) : Calls Try.prog 13 #[.pointer (some ⟨c, 0, none⟩), .pointer (some ⟨s, 0, none⟩)] W (Quiet (.bool (decide (U1.cont = U.cont))) W) := by
  obtain ⟨⟨base, F, a, b', F', X2, a2, h1, h2, h3, h4, h5, h6, h7, h8⟩, h9, h10⟩ := h
  rw [← ren_cont hr hsim, show decide (U1.cont = (U.ren ρ v').cont) = decide ((U.ren ρ v').cont = U1.cont) from by rw [decide_eq_decide]; exact eq_comm]
  exact same_r h3 h1 (ren_rs hr hsim) hr1
theorem Quad.rsame (h : Quad w0 W s r c q v1 U1 v' U) (h1d : U1.dir.length < 1000000) (h2d : U.dir.length < 1000000) : Calls Try.prog 14 #[.pointer (some ⟨r, 0, none⟩), .pointer (some ⟨q, 0, none⟩)] W (Quiet (.bool (decide (U1.cont = U.cont))) W) := by
  obtain ⟨⟨base, F, a, b', F', X2, a2, h1, h2, h3, h4, h5, h6, h7, h8⟩, h9, h10⟩ := h
  exact rsame_c h2 h4 h1d h2d
end
end Go.Proofs.Ytlglnebnldmceaa
