/- What is proved: looks, at a type built out of a shape that may be. Conditions: the memory holds the shape, the type. (under way) -/
import Derived.Test.YtholeloedihkoaaVbM
import Derived.Test.YtholeloedihkoaaVbN
import Derived.Test.YtholeloedihkoaaVaI
set_option linter.unusedSimpArgs false
set_option linter.unusedVariables false
namespace Go.Proofs.Ytholeloedihkoaa
open Go Go.RowKit Go.Shelf
attribute [local go_sem] Oper.semAt_some
def LooksF (f : SF) : Prop := ∀ (i : Nat) (s : Sv) (ns : List ByteArray) (ks : SF), f.at? i = some (s, ns, ks) → ∀ (w : World) (b : Nat) (T : Ti), IsS w s ns ks → TyS w s ns ks (b, T) → errOf s ns ks = 0 → Calls Try.prog 11 #[ptr b, s.val] w (Quiet (.bool true) w)
theorem TyS.still {W W' : World} {s : Sv} {ns : List ByteArray} {ks : SF} {b : Nat} {T : Ti} (h : TyS W s ns ks (b, T)) (hc : Chg NoB W W') : TyS W' s ns ks (b, T) := by
  obtain ⟨ts, hok⟩ := h.ok
  exact (hok.keepV (.of_quiet hc)).tyS
theorem TysF.at_ {W : World} : ∀ (f : SF) {l : List (Nat × Ti)} {i : Nat} {t : Nat × Ti}, TysF W f l → l[i]? = some t → ∃ s ns ks, f.at? i = some (s, ns, ks) ∧ TyS W s ns ks t
  | .nil, l, i, t, h, ht => by rw [show l = [] from h] at ht; simp at ht
  | .cons s ns ks r, l, i, t, ⟨b, T, l', h1, h2, h3, h4, h5⟩, ht => by
    subst h1
    cases i with
    | zero =>
      simp only [List.getElem?_cons_zero, Option.some.injEq] at ht
      subst ht
      exact ⟨s, ns, ks, rfl, h2, h3, h4⟩
    | succ i => exact TysF.at_ r h5 (by simpa using ht)
/-- a record's fields, over its shape's parts -/
theorem rec_part {W : World} {s : Sv} {ns : List ByteArray} {ks : SF} {b : Nat} {T : Ti} (h : TyS W s ns ks (b, T)) (h8 : s.k = 8) : T.fs.length = ns.length ∧ ns.length = ks.len ∧ T.fs.map (·.name) = ns ∧ ∀ (k : Nat) (f : Fd), T.fs[k]? = some f → ns[k]? = some f.name ∧ ∃ s' ns' kk T', ks.at? k = some (s', ns', kk) ∧ TyS W s' ns' kk (f.base, T') := by
  obtain ⟨_, _, ts, h3, h4⟩ := h
  have hl := TysF.len ks h3
  unfold OwnTy at h4
  rw [if_neg (by omega), if_pos h8] at h4
  obtain ⟨l1, _, _, l4, _⟩ := h4
  simp only at l4
  rw [l4]
  have e1 : ((ns.zip ts).map (·.1)) = ns := List.map_fst_zip (by omega)
  have e2 : ((ns.zip ts).map (·.2)) = ts := List.map_snd_zip (by omega)
  refine ⟨by rw [recL_len, List.length_zip]; omega, by omega, by rw [recL_names, e1], fun k f hf => ?_⟩
  have n1 : ((recL (ns.zip ts)).1.map (·.name))[k]? = some f.name := by rw [List.getElem?_map, hf]; rfl
  have n2 : ((recL (ns.zip ts)).1.map (·.base))[k]? = some f.base := by rw [List.getElem?_map, hf]; rfl
  rw [recL_names, e1] at n1
  rw [recL_bases, show (fun x : ByteArray × (Nat × Ti) => x.2.1) = (fun y : Nat × Ti => y.1) ∘ (fun x : ByteArray × (Nat × Ti) => x.2) from rfl, ← List.map_map, e2, List.getElem?_map] at n2
  cases ht : ts[k]? with
  | none => rw [ht] at n2; simp at n2
  | some t =>
    rw [ht] at n2
    simp only [Option.map_some, Option.some.injEq] at n2
    obtain ⟨s', ns', kk, ha, hT⟩ := TysF.at_ ks h3 ht
    obtain ⟨tb, T'⟩ := t
    simp only at n2
    subst n2
    exact ⟨n1, s', ns', kk, T', ha, hT⟩
/-- what is no record has no fields -/
theorem no_fields {W : World} {s : Sv} {ns : List ByteArray} {ks : SF} {b : Nat} {T : Ti} (h : TyS W s ns ks (b, T)) (h8 : s.k ≠ 8) : T.fs = [] := by
  obtain ⟨_, _, ts, h3, h4⟩ := h
  unfold OwnTy at h4
  simp only at h4
  split at h4
  · obtain ⟨_, _, _, _, _, h, _⟩ := h4; exact h
  · first
      | rw [if_neg h8] at h4
      | skip
    split at h4
    · exact h4.2.1
    · obtain ⟨n, _, _, _, h⟩ := h4; rw [h]; rfl
theorem FieldsX.put {lo p b B l : Nat} {T : Ti} {W : World} {o : Obj} (o' : Obj) (hb : ∀ m, T.mb = some m → m < B) (hl : B ≤ l) (ho : W.heap[l]? = some o) (hc : o.isCells = false) (h : FieldsX lo p b T W) : FieldsX lo p b T (W.putObj l o') := by
  have hg := grownBy_putObj' W l o'
  have hch : Chg (fun k => k = l) W (W.putObj l o') := (Chg.refl _ W).grown hg (fun k e _ => (Option.some.inj e).symm)
  have hne : ∀ {k : Nat} {t : TypeId} {cs : Array Value}, Blk W k t cs → ¬ k = l := fun {k t cs} hk e => by
    subst e
    rw [show W.heap[k]? = _ from hk] at ho
    cases ho; cases hc
  refine ⟨h.1.chg2 hch (hne h.1.blk) (fun k hk e => ?_) (fun m hm e => by have := hb m hm; omega), h.2.chg hch (hne h.2)⟩
  rcases h.1.row.2 with ⟨h2, _⟩ | ⟨g, cap, cur, h2, _, hh, _⟩
  · rw [h2] at hk; simp [Value.ownBlock] at hk
  · rw [h2] at hk
    obtain rfl : g = k := by simpa [Value.ownBlock] using hk
    exact hne hh e
theorem roundOf {P : Program} {f : FuncId} {args : Array Value} {w : World} {R R' : Ending → World → Prop} {m l : Nat} (h : Calls P f args w R) (hR : ∀ e w', R e w' → R' e w') :
    Fence.wide.fn f ∧ CallsIn (Fence.wide.inRound l) m P f args w R' := ⟨trivial, (CallsIn.inRound l (callsIn_wide.2 h)).mono hR⟩
theorem bytes_ext {a b : ByteArray} (h : a.toList = b.toList) : a = b := by
  rw [ByteArray.toList_eq, ByteArray.toList_eq] at h
  exact ByteArray.ext (Array.toList_inj.1 h)
theorem keepsFrom_chg {X : Nat → Prop} {W W' : World} {B : Nat} (h : Chg X W W') (hX : ∀ b, X b → b < B) : KeepsFrom B W W' := ⟨h.size, fun k o hk ho _ => (h.block k (Array.getElem?_eq_some_iff.1 ho).1 (fun hx => by have := hX k hx; omega)).trans ho⟩
theorem snoc_fin {N : Nat} {pre : List (Fin N)} {x : Fin N} (h : pre ++ [x] <+: List.finRange N) (hl : pre.length < N) : x = ⟨pre.length, hl⟩ := by
  have h1 := h.getElem (i := pre.length) (by simp)
  simp at h1
  exact h1
def StopX (N : Nat) (cde : Code) (pre : List (Fin N)) : Prop := cde = Code.ret ∧ ¬ (pre <+: List.finRange N)
def fdAt (T : Ti) (n : Nat) : Fd := T.fs[n]?.getD ⟨⟨#[]⟩, 0, 0⟩
theorem fdAt_get {T : Ti} {n : Nat} {f : Fd} (h : T.fs[n]? = some f) : fdAt T n = f := by unfold fdAt; rw [h]; rfl
/-- what a round of the loop over the fields needs of its field -/
structure FieldK (w : World) (s : Sv) (b : Nat) (T : Ti) (n : Nat) (nb no pb po : Nat) (sv : Sv) (W : World) : Prop where
  nm : W.cell? ⟨nb, no + n, none⟩ = some (.string (fdAt T n).name)
  q0 : W.cell? ⟨pb, po + n * 4, none⟩ = some (.int .i64 sv.k)
  q1 : W.cell? ⟨pb, po + n * 4 + 1, none⟩ = some (.int .i64 sv.n)
  q2 : W.cell? ⟨pb, po + n * 4 + 2, none⟩ = some (.slice sv.nA sv.nl sv.nc)
  q3 : W.cell? ⟨pb, po + n * 4 + 3, none⟩ = some (.slice sv.pA sv.pl sv.pc)
  looks : Calls Try.prog 11 #[.pointer (some ⟨(fdAt T n).base, 0, none⟩), .agg #[.int .i64 sv.k, .int .i64 sv.n, .slice sv.nA sv.nl sv.nc, .slice sv.pA sv.pl sv.pc]] W (Quiet (.bool true) W)
  off : Calls Try.prog 29 #[.pointer (some ⟨b, 0, none⟩), .string (fdAt T n).name] W fun e w' => e = .returned (.tuple #[.int .i64 (fdAt T n).off, .int .i64 0]) ∧ W = w'
  roff : Calls Try.prog 41 #[.agg #[.int .i64 s.k, .int .i64 s.n, .slice s.nA s.nl s.nc, .slice s.pA s.pl s.pc], .int .i64 n] W (Quiet (.int .i64 (fdAt T n).off) W)
theorem field_facts {w : World} {s : Sv} {ns : List ByteArray} {ks : SF} {b : Nat} {T : Ti} (ih : LooksF ks) (h : IsS w s ns ks) (hT : TyS w s ns ks (b, T)) (he : errOf s ns ks = 0) (hl : ks.len ≤ 209715) (hs : ks.small) {n : Nat} (hn : n < T.fs.length) :
    s.k = 8 ∧ s.nl = T.fs.length ∧ (∀ m, m < T.fs.length → (fdAt T m).name = (fdAt T n).name → m = n) ∧ ∃ nb no pb po sv, s.nA = some ⟨nb, no, none⟩ ∧ s.pA = some ⟨pb, po, none⟩ ∧ ∀ W, Chg NoB w W → FieldK w s b T n nb no pb po sv W := by
  have h8 : s.k = 8 := by
    by_cases h8 : s.k = 8
    · exact h8
    · rw [no_fields hT h8] at hn; simp at hn
  obtain ⟨f1, f2, f3, f4⟩ := rec_part hT h8
  obtain ⟨ts, hok⟩ := hT.ok
  have hk : T.kind = 8 := by have := hT.2.1; simp only at this; omega
  obtain ⟨r1, r2, r3, r4⟩ := rec_names hok hk he
  simp only at r1 r2 r3 r4
  have hf : T.fs[n]? = some T.fs[n] := List.getElem?_eq_getElem hn
  obtain ⟨g1, s', ns', kk, T', ha, hT'⟩ := f4 n _ hf
  obtain ⟨pb, po, sv, ns2, kk2, hp, ha2, q0, q1, q2, q3, hIs⟩ := h.part (i := n) (by have := h.len; omega)
  rw [ha] at ha2
  injection ha2 with ha2
  injection ha2 with e1 e2
  injection e2 with e2 e3
  subst e1 e2 e3
  obtain ⟨hok2, _⟩ := err_parts he
  have he' := hok2.at_ ks ha
  obtain ⟨nb, no, hnA⟩ : ∃ nb no, s.nA = some ⟨nb, no, none⟩ := by
    obtain ⟨⟨nb, no, sp⟩, ha, hc⟩ := h.ok.names (by simp; omega)
    have := hc 0 (.string (ns[0]'(by omega))) (by rw [List.getElem?_map, List.getElem?_eq_getElem (by omega)]; rfl)
    have hsp := spot_none this
    simp only [Addr.add] at hsp
    subst hsp
    exact ⟨nb, no, ha⟩
  obtain ⟨fo, hfo, hOff⟩ := offset_at hok hk he g1
  simp only at hfo
  rw [hf] at hfo
  obtain rfl : T.fs[n] = fo := Option.some.inj hfo
  have hname : ∀ m (hm : m < T.fs.length), ns[m]? = some (fdAt T m).name := fun m hm => by
    have e : T.fs[m]? = some T.fs[m] := List.getElem?_eq_getElem hm
    rw [fdAt_get e]
    exact (f4 m _ e).1
  refine ⟨h8, by rw [h.ok.nl, f1], fun m hm e => ?_, nb, no, pb, po, s', hnA, hp, fun W hW => ?_⟩
  · have h1 := hname m hm
    have h2 := hname n hn
    rw [e] at h1
    rw [← h2] at h1
    exact (List.getElem?_inj (by omega) r2).1 h1
  have hIsW := hIs.quiet hW
  refine ⟨?_, keepC hW q0, keepC hW q1, keepC hW q2, keepC hW q3, ?_, ?_, ?_⟩
  · obtain ⟨A, hA, hc⟩ := h.ok.names (by simp; omega)
    rw [hnA] at hA
    obtain rfl := Option.some.inj hA
    have := hc n (.string (fdAt T n).name) (by rw [List.getElem?_map, hname n hn]; rfl)
    rw [add_none] at this
    exact keepC hW this
  · rw [fdAt_get hf]
    exact ih n s' ns' kk ha W _ T' hIsW (hT'.still hW) he'
  · rw [fdAt_get hf]
    exact hOff W hW
  · rw [fdAt_get hf]
    have h3 := off_same hT h8 he hf
    show Calls _ _ _ _ (Quiet (.int .i64 ((T.fs[n].off : Nat) : Int)) W)
    rw [h3]
    exact refOffset_c s ns ks (size_all ks hs) W (h.quiet hW) hok2 (by omega) (by omega)
theorem base_part {W : World} {s : Sv} {ns : List ByteArray} {ks : SF} {b : Nat} {T : Ti} (h : TyS W s ns ks (b, T)) (hs : s.k = 7 ∨ (s.k = 9 ∧ ks.len = 1)) : ∃ b0 s' ns' kk T', T.base = some b0 ∧ ks.at? 0 = some (s', ns', kk) ∧ TyS W s' ns' kk (b0, T') := by
  obtain ⟨_, _, ts, h3, h4⟩ := h
  have hl := TysF.len ks h3
  have key : ∀ b0 T0, ts[0]? = some (b0, T0) → T.base = some b0 → ∃ b0 s' ns' kk T', T.base = some b0 ∧ ks.at? 0 = some (s', ns', kk) ∧ TyS W s' ns' kk (b0, T') := fun b0 T0 ht hb => by
    obtain ⟨s', ns', kk, ha, hT⟩ := TysF.at_ ks h3 ht
    exact ⟨b0, s', ns', kk, T0, hb, ha, hT⟩
  unfold OwnTy at h4
  simp only at h4
  rcases hs with h7 | ⟨h9, h1⟩
  · rw [if_pos h7] at h4
    obtain ⟨b0, T0, h5, _, h6, _⟩ := h4
    exact key b0 T0 (by rw [h5]; rfl) h6
  · rw [if_neg (by omega), if_neg (by omega), if_pos h9] at h4
    obtain ⟨_, _, _, h6⟩ := h4
    cases ts with
    | nil => simp at hl; omega
    | cons t r =>
      cases r with
      | cons _ _ => simp at hl; omega
      | nil => exact key t.1 t.2 rfl (by rw [h6]; rfl)
/-- the length and the base -/
theorem own_n {W : World} {s : Sv} {ns : List ByteArray} {ks : SF} {b : Nat} {T : Ti} (h : TyS W s ns ks (b, T)) (he : errOf s ns ks = 0) : (s.k = 7 → (T.n : Int) = s.n) ∧ (s.k ≠ 7 → T.n = 0) ∧ (s.k ≠ 7 → ¬ (s.k = 9 ∧ ks.len = 1) → T.base = none) := by
  have h5 := (err_parts he).2
  obtain ⟨_, _, ts, h3, h4⟩ := h
  have hl := TysF.len ks h3
  unfold OwnTy at h4
  simp only at h4
  refine ⟨fun h7 => ?_, fun h7 => ?_, fun h7 h9 => ?_⟩
  · rw [if_pos h7] at h4
    obtain ⟨b0, T0, _, h6, _⟩ := h4
    rw [h7] at h5
    have := err7 h5
    omega
  · rw [if_neg h7] at h4
    split at h4
    · exact h4.2.1
    split at h4
    · exact h4.1
    · obtain ⟨n, _, _, _, h⟩ := h4; rw [h]; rfl
  · rw [if_neg h7] at h4
    split at h4
    · exact h4.2.2.1
    split at h4
    · obtain ⟨_, _, _, h6⟩ := h4
      rw [h6, if_neg (by omega)]
    · obtain ⟨n, _, _, _, h⟩ := h4; rw [h]; rfl
theorem results_bool {fn : Func} {p : Tmp} (h : fn.results = #[.cell p 4]) (tmps : Array Value) {w : World} {g : Nat} {b : Bool} (hp : tmps.getD p undef = .pointer (some ⟨g, 0, none⟩)) (hc : w.cell? ⟨g, 0, none⟩ = some (.bool b)) : (results fn tmps).run Try.prog w = .ok (.bool b) w := by
  have hp' : tmps[p]?.getD undef = .pointer (some ⟨g, 0, none⟩) := by simpa using hp
  simp [results, h, hp', asAddr, go_sem, hc, Try.underlying4]
theorem leave_looks {D g : Nat} {w wF : World} {tmps : Array Value} (hK : wF.heap[D]? = some (.deferred (some []))) (hc : wF.cell? ⟨g, 0, none⟩ = some (.bool true)) (hp : tmps.getD 4 undef = .pointer (some ⟨g, 0, none⟩)) (hw : Chg NoB w wF) (hD : w.heap.size ≤ D) :
    bodyPostM Fence.wide 9 Try.prog Try.f11 (Quiet (.bool true) w) .ret { tmps := tmps, defers := [{ target := .collected D, args := #[] }] } wF := by
  refine ⟨by simp, .inl ⟨_, _, rfl, run_takeDeferred hK, ?_⟩⟩
  exact ⟨_, results_bool rfl _ hp (cell_kept hc (grownBy_putObj' _ D _) (fun r e => by cases e; exact ⟨_, hK, rfl⟩)), rfl, hw.grown (grownBy_putObj' _ D _) (fun k e hk => by cases e; omega)⟩
/-- the last store, and the way out -/
theorem leave_set {D g : Nat} {w wB wF : World} {tmps : Array Value} (hK : wB.heap[D]? = some (.deferred (some []))) (h0 : Blk wB g 4 #[.bool false]) (hp : tmps.getD 4 undef = .pointer (some ⟨g, 0, none⟩)) (hw : Chg NoB w wB) (hBF : Chg NoB wB wF) (hD : w.heap.size ≤ D) (hgD : g < D) (hg : w.heap.size ≤ g) :
    bodyPostM Fence.wide 9 Try.prog Try.f11 (Quiet (.bool true) w) .ret { tmps := tmps, defers := [{ target := .collected D, args := #[] }] } (wF.setCell ⟨g, 0, none⟩ (.bool true)) := by
  have hK2 : wF.heap[D]? = some (.deferred (some [])) := (hBF.block D (Array.getElem?_eq_some_iff.1 hK).1 id).trans hK
  refine leave_looks ((Below.heap_setCell wF ⟨g, 0, none⟩ _ D (by simp; omega)).trans hK2) (((h0.chg hBF id).set_ 0 (.bool true)).cell 0) hp ((hw.trans hBF).setCell (fun h => by simp at h; omega) _) hD
set_option maxRecDepth 100000 in
set_option maxHeartbeats 4000000 in
theorem looks_one {s : Sv} {ns : List ByteArray} {ks : SF} (ih : LooksF ks) {w : World} {b : Nat} {T : Ti} (h : IsS w s ns ks) (hT : TyS w s ns ks (b, T)) (he : errOf s ns ks = 0) (hl : ks.len ≤ 209715) (hs : ks.small) :
    Calls Try.prog 11 #[ptr b, s.val] w (Quiet (.bool true) w) := by
  have HS := Go.Lib.hid h
  have HT := Go.Lib.hid hT
  have HE := Go.Lib.hid he
  have HL := Go.Lib.hid (And.intro hl hs)
  have HI := Go.Lib.hid ih
  clear ih h hT he hl hs
  unfold ptr Sv.val
  refine (callsIn_wide (n := 9)).1 (callsIn_of_wp_marks Try.func11 rfl trivial (wpIn_wide.2 ?_) rfl)
  simp only [Try.ntmps11, List.size_toArray, List.length_cons, List.length_nil, Nat.reduceAdd, Nat.reduceSub, Array.replicate_succ, Array.replicate_zero, List.push_toArray, List.append_toArray, List.nil_append, List.cons_append]
  go_wp2_with fail
  have hbA := ((Blk.new w PT #[.pointer (some ⟨b, 0, none⟩)]).alloc (Obj.cells #[.int .i64 s.k, .int .i64 s.n, .slice s.nA s.nl s.nc, .slice s.pA s.pl s.pc] ShT)).alloc (Obj.cells #[.bool false] 4)
  have hbB := (Blk.new (w.alloc (Obj.cells #[.pointer (some ⟨b, 0, none⟩)] PT)) ShT #[.int .i64 s.k, .int .i64 s.n, .slice s.nA s.nl s.nc, .slice s.pA s.pl s.pc]).alloc (Obj.cells #[.bool false] 4)
  have hbC := Blk.new ((w.alloc (Obj.cells #[.pointer (some ⟨b, 0, none⟩)] PT)).alloc (Obj.cells #[.int .i64 s.k, .int .i64 s.n, .slice s.nA s.nl s.nc, .slice s.pA s.pl s.pc] ShT)) 4 #[.bool false]
  have hc3 : Chg NoB w (((w.alloc (Obj.cells #[.pointer (some ⟨b, 0, none⟩)] PT)).alloc (Obj.cells #[.int .i64 s.k, .int .i64 s.n, .slice s.nA s.nl s.nc, .slice s.pA s.pl s.pc] ShT)).alloc (Obj.cells #[.bool false] 4)) := (((Chg.refl NoB w).alloc _).alloc _).alloc _
  simp only [World.size_alloc] at hbB hbC
  generalize ((w.alloc (Obj.cells #[.pointer (some ⟨b, 0, none⟩)] PT)).alloc (Obj.cells #[.int .i64 s.k, .int .i64 s.n, .slice s.nA s.nl s.nc, .slice s.pA s.pl s.pc] ShT)).alloc (Obj.cells #[.bool false] 4) = w3 at *
  have p0 := hbA.cell 0
  have s0 := hbB.cell 0
  have s1 := hbB.cell 1
  have s2 := hbB.cell 2
  have s3 := hbB.cell 3
  simp only [List.getElem?_toArray, List.getElem?_cons_succ, List.getElem?_cons_zero] at p0 s0 s1 s2 s3
  have HC3 := Go.Lib.hid hc3
  have HBL := Go.Lib.hid (And.intro hbA (And.intro hbB hbC))
  clear hbA hbB hbC hc3
  have hTk : T.kind ≠ 0 := by
    obtain ⟨_, h2, ts, _, h4⟩ := HT.out
    simp only at h2
    unfold OwnTy at h4
    split at h4
    · omega
    split at h4
    · omega
    split at h4
    · omega
    · obtain ⟨n, h5, _⟩ := h4; omega
  obtain ⟨sc, hsc1, hsc2⟩ : ∃ sc, decide (T.kind ≠ 7 ∧ T.kind ≠ 8) = sc ∧ decide (1 ≤ s.k ∧ s.k ≤ 5 ∨ s.k = 9) = sc := ⟨_, rfl, decide_eq_decide.2 (by
    obtain ⟨_, h2, ts, _, h4⟩ := HT.out
    simp only at h2
    unfold OwnTy at h4
    split at h4
    · omega
    split at h4
    · omega
    split at h4
    · omega
    · obtain ⟨n, h5, _⟩ := h4; omega)⟩
  have HKi : Hid (∀ W, Chg NoB w3 W → Calls Try.prog 37 #[.pointer (some ⟨b, 0, none⟩)] W fun e w' => e = .returned (.int .i64 s.k) ∧ W = w') := Go.Lib.hid fun W hW => by
    have h2 : (T.kind : Int) = s.k := HT.out.2.1
    rw [← h2]
    exact kind_c (HT.out.1.quiet (HC3.out.trans hW)) hTk
  have HSi : Hid (∀ W, Chg NoB w3 W → Calls Try.prog 22 #[.pointer (some ⟨b, 0, none⟩)] W fun e w' => e = .returned (.int .i64 T.size) ∧ W = w') := Go.Lib.hid fun W hW => size_c (HT.out.1.quiet (HC3.out.trans hW)) hTk
  have HRi : Hid (∀ W, Chg NoB w3 W → Calls Try.prog 30 #[s.val] W (Quiet (.int .i64 T.size) W)) := Go.Lib.hid fun W hW => by
    rw [ty_size HT.out]
    exact refSize_c (HS.out.quiet (HC3.out.trans hW)) HL.out.1 HL.out.2 HE.out
  have HCa : Hid (∀ W, Chg NoB w3 W → Calls Try.prog 38 #[.pointer (some ⟨b, 0, none⟩)] W fun e w' => e = .returned (.bool sc) ∧ W = w') := Go.Lib.hid fun W hW => by
    rw [← hsc1]
    exact scalar_c (HT.out.1.quiet (HC3.out.trans hW)) hTk
  have HRa : Hid (∀ W, Chg NoB w3 W → Calls Try.prog 39 #[s.val] W (Quiet (.bool sc) W)) := Go.Lib.hid fun W hW => by
    rw [← hsc2]
    exact refScalar_c s W
  have HTk := Go.Lib.hid hTk
  clear hTk hsc1 hsc2
  unfold Sv.val at HRi HRa
  refine Code.wp_mono NoPanic.imp ?_
  refine regionT 22 (fun V' => Chg NoB (w3) V') (by kernel_rfl) (by decide) ((Chg.refl NoB w3).drew) (fun inv hHeld => ?_)
  refine takeT (i := 0) (t := 12) (v := ?v0y29) rfl (by kernel_rfl) (by kernel_rfl) (by kernel_rfl) (fun _ _ _ h => h) (by kernel_rfl) (by kernel_rfl) (by decide) (by decide) rfl (Or.inl ⟨by rfl, ?h0y29⟩) inv hHeld ?r0y29
  case h0y29 => (intro V' hSw; have hq := keepC hSw p0; clear hSw; go_simp; try with_reducible rfl)
  clear inv
  intro inv
  try simp only [List.setIfInBounds_toArray, List.set_cons_zero, List.set_cons_succ]
  refine takeT (i := 1) (t := 13) (v := ?v1y30) rfl (by kernel_rfl) (by kernel_rfl) (by kernel_rfl) (fun _ _ _ h => h) (by kernel_rfl) (by kernel_rfl) (by decide) (by decide) rfl (Or.inl ⟨by rfl, ?h1y30⟩) inv hHeld ?r1y30
  case h1y30 => (intro V' hSw; clear hSw; go_simp; try with_reducible rfl)
  clear inv
  intro inv
  try simp only [List.setIfInBounds_toArray, List.set_cons_zero, List.set_cons_succ]
  refine takeT (i := 2) (t := 14) (v := ?v2y31) rfl (by kernel_rfl) (by kernel_rfl) (by kernel_rfl) (fun _ _ _ h => h) (by kernel_rfl) (by kernel_rfl) (by decide) (by decide) rfl (Or.inl ⟨by rfl, ?h2y31⟩) inv hHeld ?r2y31
  case h2y31 => (intro V' hSw; clear hSw; go_simp; try with_reducible rfl)
  clear inv
  intro inv
  try simp only [List.setIfInBounds_toArray, List.set_cons_zero, List.set_cons_succ]
  refine takeT (i := 3) (t := 15) (v := ?v3y32) rfl (by kernel_rfl) (by kernel_rfl) (by kernel_rfl) (fun _ _ _ h => h) (by kernel_rfl) (by kernel_rfl) (by decide) (by decide) rfl (Or.inl ⟨by rfl, ?h3y32⟩) inv hHeld ?r3y32
  case h3y32 => (intro V' hSw; have hq := keepC hSw p0; clear hSw; go_simp; try with_reducible rfl)
  clear inv
  intro inv
  try simp only [List.setIfInBounds_toArray, List.set_cons_zero, List.set_cons_succ]
  refine takeT (i := 5) (t := 17) (v := ?v5y33) rfl (by kernel_rfl) (by kernel_rfl) (by kernel_rfl) (fun _ _ _ h => h) (by kernel_rfl) (by kernel_rfl) (by decide) (by decide) rfl (Or.inl ⟨by rfl, ?h5y33⟩) inv hHeld ?r5y33
  case h5y33 => (intro V' hSw; clear hSw; go_simp; try with_reducible rfl)
  clear inv
  intro inv
  try simp only [List.setIfInBounds_toArray, List.set_cons_zero, List.set_cons_succ]
  refine takeT (i := 6) (t := 18) (v := ?v6y34) rfl (by kernel_rfl) (by kernel_rfl) (by kernel_rfl) (fun _ _ _ h => h) (by kernel_rfl) (by kernel_rfl) (by decide) (by decide) rfl (Or.inl ⟨by rfl, ?h6y34⟩) inv hHeld ?r6y34
  case h6y34 => (intro V' hSw; have hq0 := keepC hSw s0; have hq1 := keepC hSw s1; have hq2 := keepC hSw s2; have hq3 := keepC hSw s3; clear hSw; go_simp; try with_reducible rfl)
  clear inv
  intro inv
  try simp only [List.setIfInBounds_toArray, List.set_cons_zero, List.set_cons_succ]
  refine callT (i := 4) (t := 16) (f := 37) (args := #[.pointer (some ⟨b, 0, none⟩)]) rfl (by kernel_rfl) rfl (by rfl) ?hx35 inv (by decide) ?hc35
  case hx35 => (go_simp; try rfl)
  case hc35 =>
    refine (HKi.out _ hHeld).mono ?_
    rintro e wq ⟨rfl, rfl⟩
    refine ⟨_, rfl, hHeld.trans (Chg.refl NoB _), fun inv2 hHeld2 => ?_⟩
    clear inv hHeld
    have inv := inv2
    have hHeld := hHeld2
    clear inv2 hHeld2
    try simp only [List.setIfInBounds_toArray, List.set_cons_zero, List.set_cons_succ]
    refine takeT (i := 7) (t := 19) (v := ?v7y36) rfl (by kernel_rfl) (by kernel_rfl) (by kernel_rfl) (fun _ _ _ h => h) (by kernel_rfl) (by kernel_rfl) (by decide) (by decide) rfl (Or.inl ⟨by rfl, ?h7y36⟩) inv hHeld ?r7y36
    case h7y36 => (intro V' hSw; clear hSw; go_simp; try with_reducible rfl)
    clear inv
    intro inv
    try simp only [List.setIfInBounds_toArray, List.set_cons_zero, List.set_cons_succ]
    refine takeT (i := 8) (t := 20) (v := ?v8y37) rfl (by kernel_rfl) (by kernel_rfl) (by kernel_rfl) (fun _ _ _ h => h) (by kernel_rfl) (by kernel_rfl) (by decide) (by decide) rfl (Or.inl ⟨by rfl, ?h8y37⟩) inv hHeld ?r8y37
    case h8y37 => (intro V' hSw; clear hSw; go_simp; try with_reducible rfl)
    clear inv
    intro inv
    try simp only [List.setIfInBounds_toArray, List.set_cons_zero, List.set_cons_succ]
    refine takeT (i := 9) (t := 21) (v := ?v9y38) rfl (by kernel_rfl) (by kernel_rfl) (by kernel_rfl) (fun _ _ _ h => h) (by kernel_rfl) (by kernel_rfl) (by decide) (by decide) rfl (Or.inl ⟨by rfl, ?h9y38⟩) inv hHeld ?r9y38
    case h9y38 => (intro V' hSw; clear hSw; go_simp; try with_reducible rfl)
    clear inv
    intro inv
    try simp only [List.setIfInBounds_toArray, List.set_cons_zero, List.set_cons_succ]
    refine takeT (i := 10) (t := 22) (v := ?v10y39) rfl (by kernel_rfl) (by kernel_rfl) (by kernel_rfl) (fun _ _ _ h => h) (by kernel_rfl) (by kernel_rfl) (by decide) (by decide) rfl (Or.inl ⟨by rfl, ?h10y39⟩) inv hHeld ?r10y39
    case h10y39 => (intro V' hSw; have hq := keepC hSw p0; clear hSw; go_simp; try with_reducible rfl)
    clear inv
    intro inv
    try simp only [List.setIfInBounds_toArray, List.set_cons_zero, List.set_cons_succ]
    refine takeT (i := 12) (t := 24) (v := ?v12y40) rfl (by kernel_rfl) (by kernel_rfl) (by kernel_rfl) (fun _ _ _ h => h) (by kernel_rfl) (by kernel_rfl) (by decide) (by decide) rfl (Or.inl ⟨by rfl, ?h12y40⟩) inv hHeld ?r12y40
    case h12y40 => (intro V' hSw; have hq0 := keepC hSw s0; have hq1 := keepC hSw s1; have hq2 := keepC hSw s2; have hq3 := keepC hSw s3; clear hSw; go_simp; try with_reducible rfl)
    clear inv
    intro inv
    try simp only [List.setIfInBounds_toArray, List.set_cons_zero, List.set_cons_succ]
    refine callT (i := 11) (t := 23) (f := 22) (args := #[.pointer (some ⟨b, 0, none⟩)]) rfl (by kernel_rfl) rfl (by rfl) ?hx41 inv (by decide) ?hc41
    case hx41 => (go_simp; try rfl)
    case hc41 =>
      refine (HSi.out _ hHeld).mono ?_
      rintro e wq ⟨rfl, rfl⟩
      refine ⟨_, rfl, hHeld.trans (Chg.refl NoB _), fun inv2 hHeld2 => ?_⟩
      clear inv hHeld
      have inv := inv2
      have hHeld := hHeld2
      clear inv2 hHeld2
      try simp only [List.setIfInBounds_toArray, List.set_cons_zero, List.set_cons_succ]
      refine callT (i := 13) (t := 25) (f := 30) (args := #[.agg #[.int .i64 s.k, .int .i64 s.n, .slice s.nA s.nl s.nc, .slice s.pA s.pl s.pc]]) rfl (by kernel_rfl) rfl (by rfl) ?hx42 inv (by decide) ?hc42
      case hx42 => (go_simp; try rfl)
      case hc42 =>
        refine (HRi.out _ hHeld).mono ?_
        rintro e wq ⟨rfl, hcq⟩
        refine ⟨_, rfl, hHeld.trans hcq, fun inv2 hHeld2 => ?_⟩
        clear inv hHeld
        have inv := inv2
        have hHeld := hHeld2
        clear inv2 hHeld2
        try simp only [List.setIfInBounds_toArray, List.set_cons_zero, List.set_cons_succ]
        refine takeT (i := 14) (t := 26) (v := ?v14y43) rfl (by kernel_rfl) (by kernel_rfl) (by kernel_rfl) (fun _ _ _ h => h) (by kernel_rfl) (by kernel_rfl) (by decide) (by decide) rfl (Or.inl ⟨by rfl, ?h14y43⟩) inv hHeld ?r14y43
        case h14y43 => (intro V' hSw; clear hSw; go_simp; try with_reducible rfl)
        clear inv
        intro inv
        try simp only [List.setIfInBounds_toArray, List.set_cons_zero, List.set_cons_succ]
        refine takeT (i := 15) (t := 27) (v := ?v15y44) rfl (by kernel_rfl) (by kernel_rfl) (by kernel_rfl) (fun _ _ _ h => h) (by kernel_rfl) (by kernel_rfl) (by decide) (by decide) rfl (Or.inl ⟨by rfl, ?h15y44⟩) inv hHeld ?r15y44
        case h15y44 => (intro V' hSw; clear hSw; go_simp; try with_reducible rfl)
        clear inv
        intro inv
        try simp only [List.setIfInBounds_toArray, List.set_cons_zero, List.set_cons_succ]
        refine takeT (i := 16) (t := 28) (v := ?v16y45) rfl (by kernel_rfl) (by kernel_rfl) (by kernel_rfl) (fun _ _ _ h => h) (by kernel_rfl) (by kernel_rfl) (by decide) (by decide) rfl (Or.inl ⟨by rfl, ?h16y45⟩) inv hHeld ?r16y45
        case h16y45 => (intro V' hSw; clear hSw; go_simp; try with_reducible rfl)
        clear inv
        intro inv
        try simp only [List.setIfInBounds_toArray, List.set_cons_zero, List.set_cons_succ]
        refine takeT (i := 17) (t := 29) (v := ?v17y46) rfl (by kernel_rfl) (by kernel_rfl) (by kernel_rfl) (fun _ _ _ h => h) (by kernel_rfl) (by kernel_rfl) (by decide) (by decide) rfl (Or.inl ⟨by rfl, ?h17y46⟩) inv hHeld ?r17y46
        case h17y46 => (intro V' hSw; have hq := keepC hSw p0; clear hSw; go_simp; try with_reducible rfl)
        clear inv
        intro inv
        try simp only [List.setIfInBounds_toArray, List.set_cons_zero, List.set_cons_succ]
        refine takeT (i := 19) (t := 31) (v := ?v19y47) rfl (by kernel_rfl) (by kernel_rfl) (by kernel_rfl) (fun _ _ _ h => h) (by kernel_rfl) (by kernel_rfl) (by decide) (by decide) rfl (Or.inl ⟨by rfl, ?h19y47⟩) inv hHeld ?r19y47
        case h19y47 => (intro V' hSw; have hq0 := keepC hSw s0; have hq1 := keepC hSw s1; have hq2 := keepC hSw s2; have hq3 := keepC hSw s3; clear hSw; go_simp; try with_reducible rfl)
        clear inv
        intro inv
        try simp only [List.setIfInBounds_toArray, List.set_cons_zero, List.set_cons_succ]
        refine callT (i := 18) (t := 30) (f := 38) (args := #[.pointer (some ⟨b, 0, none⟩)]) rfl (by kernel_rfl) rfl (by rfl) ?hx48 inv (by decide) ?hc48
        case hx48 => (go_simp; try rfl)
        case hc48 =>
          refine (HCa.out _ hHeld).mono ?_
          rintro e wq ⟨rfl, rfl⟩
          refine ⟨_, rfl, hHeld.trans (Chg.refl NoB _), fun inv2 hHeld2 => ?_⟩
          clear inv hHeld
          have inv := inv2
          have hHeld := hHeld2
          clear inv2 hHeld2
          try simp only [List.setIfInBounds_toArray, List.set_cons_zero, List.set_cons_succ]
          refine callT (i := 20) (t := 32) (f := 39) (args := #[.agg #[.int .i64 s.k, .int .i64 s.n, .slice s.nA s.nl s.nc, .slice s.pA s.pl s.pc]]) rfl (by kernel_rfl) rfl (by rfl) ?hx49 inv (by decide) ?hc49
          case hx49 => (go_simp; try rfl)
          case hc49 =>
            refine (HRa.out _ hHeld).mono ?_
            rintro e wq ⟨rfl, hcq⟩
            refine ⟨_, rfl, hHeld.trans hcq, fun inv2 hHeld2 => ?_⟩
            clear inv hHeld
            have inv := inv2
            have hHeld := hHeld2
            clear inv2 hHeld2
            try simp only [List.setIfInBounds_toArray, List.set_cons_zero, List.set_cons_succ]
            refine takeT (i := 21) (t := 33) (v := ?v21y50) rfl (by kernel_rfl) (by kernel_rfl) (by kernel_rfl) (fun _ _ _ h => h) (by kernel_rfl) (by kernel_rfl) (by decide) (by decide) rfl (Or.inl ⟨by rfl, ?h21y50⟩) inv hHeld ?r21y50
            case h21y50 => (intro V' hSw; clear hSw; go_simp; try with_reducible rfl)
            clear inv
            intro inv
            try simp only [List.setIfInBounds_toArray, List.set_cons_zero, List.set_cons_succ]
            refine lastV (i := 22) (t := 34) (v := ?vl51) (w' := wq) rfl (by kernel_rfl) rfl (by rfl) ?hx51 (by decide) (by kernel_rfl) ?_
            case hx51 => (go_simp; try with_reducible rfl)
            clear inv
            have HW4 := Go.Lib.hid hHeld
            clear hHeld
            refine NoPanic.normal ?_
            clear p0 s0 s1 s2 s3
            have hw5 := HW4.out.alloc (Obj.cells #[.int .i64 0] 3)
            have p0 := (HBL.out.1.chg hw5 id).cell 0
            simp only [List.getElem?_toArray, List.getElem?_cons_succ, List.getElem?_cons_zero] at p0
            have hfn := fun (x : Array Value) (W : World) => run_eql_seqv_nil (.func 55) #[] x W
            have HW5 := Go.Lib.hid (And.intro hw5 (Blk.new wq 3 #[.int .i64 0]))
            clear hw5
            go_wp2_with fail
            refine (fields_c (some ⟨b, 0, none⟩) _).mono ?_
            rintro e w5 ⟨p5, rfl, _, hc5, _⟩
            have HB5 := Go.Lib.hid (And.intro (HW5.out.1.trans hc5) (HW5.out.2.chg hc5 id))
            clear hc5 p0 HW5
            have p0 := (HBL.out.1.chg HB5.out.1 id).cell 0
            simp only [List.getElem?_toArray, List.getElem?_cons_succ, List.getElem?_cons_zero] at p0
            unfold ptr
            go_wp2_with fail
            refine (fields_c (some ⟨b, 0, none⟩) _).mono ?_
            rintro e w6 ⟨p6, rfl, hbp, hc6, hp6⟩
            have HB6 := Go.Lib.hid (And.intro (HB5.out.1.trans hc6) (And.intro (HB5.out.2.chg hc6 id) (And.intro hbp (And.intro hp6 HB5.out.2.lt))))
            clear hc6 p0 HB5 hbp hp6 hfn
            unfold ptr
            go_wp2_with fail
            have hbn : Blk w6 wq.heap.size 3 #[.int .i64 0] := HB6.out.2.1
            have hp6 : Blk w6 p6 PT #[.pointer (some ⟨b, 0, none⟩)] := HB6.out.2.2.1
            have hlt6 : wq.heap.size < p6 := by
              have := HB6.out.2.2.2.1
              have := HB6.out.2.2.2.2
              omega
            have hzq : w.heap.size + 3 ≤ wq.heap.size := by
              have := HW4.out.size
              have := HBL.out.2.2.lt
              omega
            have hz36 := HB6.out.1.size
            refine (wpIn_wide (n := 9)).1 (wpIn_rangeFunc_ownH (n := 9) rfl (by omega) (gf := 55) (lb := #[.pointer (some ⟨p6, 0, none⟩)]) (encs := fun x : Fin T.fs.length => encD T.fs[x]) rfl trivial (enters_of Try.func55 (by kernel_rfl) rfl)
              (fields_runs (lo := 0) (b := b) (9 - 1) ⟨HT.out.1.quiet (HC3.out.trans HB6.out.1), hp6⟩ HTk.out)
              (fun h k hx => k (h hx)) (fun W l o o' hl ho hc _ hx => hx.put o' (B := w6.heap.size) (fun m hm => Nat.lt_of_lt_of_le (HT.out.1.map m hm).lt (HC3.out.trans HB6.out.1).size) hl ho hc) (Below.refl _ _) (fun _ => rfl)
              (fun pre W' => Chg NoB w3 W' ∧ Blk W' wq.heap.size 3 #[.int .i64 (pre.length : Nat)])
              (fun cde pre W' => StopX T.fs.length cde pre)
              (fun pre A B row hs hg hr => ⟨hs.1.grown hg (fun k e hk => by have := (hr k e).1; omega), hs.2.grown hg (fun e => by have := (hr _ e.symm).1; have := hbn.lt; omega)⟩)
              (fun cde pre A B row hs hg hr => hs)
              ⟨HB6.out.1, hbn⟩
              (fun (x : Fin T.fs.length) (a' : Act) (_ : World) => a' = { tmps := List.toArray (.pointer (some ⟨b, 0, none⟩) :: .agg #[.int .i64 s.k, .int .i64 s.n, .slice s.nA s.nl s.nc, .slice s.pA s.pl s.pc] :: .pointer (some ⟨w.heap.size, 0, none⟩) :: .pointer (some ⟨w.heap.size + 1, 0, none⟩) :: .pointer (some ⟨w.heap.size + 1 + 1, 0, none⟩) :: .pointer (some ⟨wq.heap.size, 0, none⟩) :: .string (fdAt T x).name :: .pointer (some ⟨(fdAt T x).base, 0, none⟩) :: undef :: undef :: undef :: undef :: .pointer (some ⟨b, 0, none⟩) :: .bool false :: .bool false :: .pointer (some ⟨b, 0, none⟩) :: .int .i64 s.k :: .pointer (some ⟨w.heap.size + 1, 0, none⟩) :: .int .i64 s.k :: .bool false :: .bool false :: .bool false :: .pointer (some ⟨b, 0, none⟩) :: .int .i64 T.size :: .agg #[.int .i64 s.k, .int .i64 s.n, .slice s.nA s.nl s.nc, .slice s.pA s.pl s.pc] :: .int .i64 T.size :: .bool false :: .bool false :: .bool false :: .pointer (some ⟨b, 0, none⟩) :: .bool sc :: .agg #[.int .i64 s.k, .int .i64 s.n, .slice s.nA s.nl s.nc, .slice s.pA s.pl s.pc] :: .bool sc :: .bool false :: .bool false :: .pointer (some ⟨b, 0, none⟩) :: .func (.func 55) #[] #[.pointer (some ⟨p5, 0, none⟩)] :: .bool false :: .pointer (some ⟨b, 0, none⟩) :: .func (.func 55) #[] #[.pointer (some ⟨p6, 0, none⟩)] :: .string (fdAt T x).name :: .pointer (some ⟨(fdAt T x).base, 0, none⟩) :: undef :: undef :: undef :: undef :: undef :: undef :: undef :: undef :: undef :: undef :: undef :: undef :: undef :: undef :: undef :: undef :: undef :: undef :: undef :: undef :: undef :: undef :: undef :: undef :: undef :: undef :: undef :: undef :: undef :: undef :: undef :: undef :: undef :: undef :: undef :: undef :: undef :: undef :: undef :: undef :: undef :: undef :: undef :: undef :: undef :: undef :: undef :: undef :: undef :: undef :: undef :: undef :: undef :: undef :: undef :: undef :: undef :: undef :: undef :: undef :: undef :: undef :: undef :: undef :: undef :: undef :: undef :: undef :: undef :: undef :: undef :: undef :: undef :: undef :: undef :: undef :: undef :: undef :: undef :: undef :: undef :: undef :: undef :: undef :: undef :: undef :: undef :: undef :: undef :: undef :: undef :: undef :: undef :: undef :: undef :: undef :: undef :: undef :: undef :: undef :: undef :: undef :: undef :: undef :: undef :: undef :: undef :: undef :: undef :: undef :: undef :: undef :: undef :: undef :: undef :: undef :: undef :: undef :: undef :: undef :: undef :: undef :: undef :: undef :: undef :: undef :: undef :: undef :: []), defers := [] })
              (fun x a' _ A B row hs hg hr => hs)
              ?assign ?body ?done ?stop)
            case assign =>
              rintro l pre x W K hI hK
              have hx : T.fs[x] = fdAt T x := (fdAt_get (List.getElem?_eq_getElem x.isLt)).symm
              rw [hx]
              unfold encD
              gi_wp2
              exact hK _ _ ⟨Nat.le_refl _, fun k o _ ho _ => ho⟩ id hI rfl
            case stop =>
              rintro D cde pre W' hD hSp ⟨_, hn⟩ hK
              exact absurd hSp hn
            case body =>
              rintro l pre x a' Wb _ _ hI rfl hlt2
              obtain ⟨h8, hnl, huq, nb, no, pb, po, sv, hnA, hpA, hFK⟩ := field_facts HI.out HS.out HT.out HE.out HL.out.1 HL.out.2 hlt2
              obtain ⟨xn, hxn⟩ := x
              simp only
              obtain ⟨hcb, hbn2⟩ := hI
              have hfk := hFK Wb (HC3.out.trans hcb)
              have hbA := HBL.out.1.chg hcb id
              have hbB := HBL.out.2.1.chg hcb id
              have p0 : Wb.cell? ⟨w.heap.size, 0, none⟩ = some (.pointer (some ⟨b, 0, none⟩)) := hbA.cell 0
              have s0 : Wb.cell? ⟨w.heap.size + 1, 0, none⟩ = some (.int .i64 s.k) := hbB.cell 0
              have s2 : Wb.cell? ⟨w.heap.size + 1, 2, none⟩ = some (.slice (some ⟨nb, no, none⟩) s.nl s.nc) := by rw [← hnA]; exact hbB.cell 2
              have s3 : Wb.cell? ⟨w.heap.size + 1, 3, none⟩ = some (.slice (some ⟨pb, po, none⟩) s.pl s.pc) := by rw [← hpA]; exact hbB.cell 3
              have r0 : Wb.cell? ⟨w.heap.size + 1 + 1, 0, none⟩ = some (.bool false) := (HBL.out.2.2.chg hcb id).cell 0
              have fz4 := (HBL.out.2.2.chg hcb id).frozen 0
              have n0 : Wb.cell? ⟨wq.heap.size, 0, none⟩ = some (.int .i64 (pre.length : Nat)) := hbn2.cell 0
              have hnlt : pre.length < s.nl := by rw [hnl]; exact hlt2
              have hplt : pre.length < s.pl := by
                obtain ⟨f1, f2, _, _⟩ := rec_part HT.out h8
                have := HS.out.len
                omega
              have hnc := HS.out.ok.nc
              have hpc := HS.out.ok.pc
              unfold maxLen at hnc hpc
              have hk8 : (s.k != 8) = false := by rw [h8]; rfl
              have hge : decide ((s.nl : Int) ≤ (pre.length : Nat)) = false := by simp; omega
              have hgn : decide (s.nl ≤ pre.length) = false := by simp; omega
              have HUQ := Go.Lib.hid huq
              have HZQ : Hid (w.heap.size + 3 ≤ wq.heap.size ∧ wq.heap.size < w6.heap.size ∧ p6 < w6.heap.size ∧ wq.heap.size < p6) := Go.Lib.hid ⟨hzq, hbn.lt, hp6.lt, hlt6⟩
              have HSA := Go.Lib.hid (And.intro hnA hpA)
              have HCB := Go.Lib.hid (And.intro hcb hbn2)
              have HNL := Go.Lib.hid (And.intro hnl (And.intro hxn hlt2))
              have HPL : Hid ((pre ++ [(⟨xn, hxn⟩ : Fin T.fs.length)]).length = pre.length + 1) := Go.Lib.hid (by simp)
              have HFK := Go.Lib.hid hFK
              obtain ⟨c0, c1, c2, c3, c4, HLK, HOF, HRO⟩ := hfk
              have HLK := Go.Lib.hid HLK
              clear hbn hp6 hlt6 hzq hz36 huq hcb hbn2 hnl hnA hpA hbA hbB h8 hlt2 hFK HOF HRO
              by_cases hx : xn = pre.length
              · subst hx
                have hnm : ((fdAt T pre.length).name.toList == (fdAt T pre.length).name.toList) = true := by simp
                gi_wp2
                refine roundOf HLK.out ?_
                rintro e W1 ⟨rfl, h1⟩
                have H1 := Go.Lib.hid h1
                have HFK1 := Go.Lib.hid (HFK.out W1 ((HC3.out.trans HCB.out.1).trans h1))
                have p0 := keepC h1 p0
                have s0 := keepC h1 s0
                have s1 := keepC h1 ((HBL.out.2.1.chg HCB.out.1 id).cell 1)
                have s2 := keepC h1 s2
                have s3 := keepC h1 s3
                have n0 := keepC h1 n0
                have HS23 := Go.Lib.hid (And.intro HSA.out.1 HSA.out.2)
                have hro := HFK1.out.roff
                rw [HSA.out.1, HSA.out.2] at hro
                have HRO1 := Go.Lib.hid hro
                clear hro h1 c0 c1 c2 c3 c4
                gi_wp2
                refine roundOf HFK1.out.off ?_
                rintro e W2 ⟨rfl, rfl⟩
                gi_wp2
                refine roundOf (num_c 0) ?_
                rintro e W2 ⟨rfl, rfl⟩
                gi_wp2
                refine roundOf HRO1.out ?_
                rintro e W3 ⟨rfl, h3⟩
                have hc3 : Chg (fun k => k = wq.heap.size) Wb (W3.setCell ⟨wq.heap.size, 0, none⟩ (.int .i64 (pre.length + 1))) := ((H1.out.trans h3).mono (fun _ _ h => h.elim) : Chg (fun k => k = wq.heap.size) Wb W3).setCell (fun _ => rfl) _
                have HR3 := Go.Lib.hid (And.intro (((HCB.out.1.trans H1.out).trans h3).setCell (p := ⟨wq.heap.size, 0, none⟩) (fun h => by have := HC3.out.size; have := HW4.out.size; simp at h; omega) (.int .i64 (pre.length + 1))) (((HCB.out.2.chg H1.out id).chg h3 id).set_ 0 (.int .i64 (pre.length + 1))))
                have HC4 := Go.Lib.hid hc3
                have n0 := keepC h3 n0
                have fzn := ((HCB.out.2.chg H1.out id).chg h3 id).frozen 0
                clear h3 hc3
                gi_wp2
                refine ⟨keepsFrom_chg HC4.out (fun k hk => by have := HZQ.out; omega), fun hX => ⟨hX.1.chg2 HC4.out (fun e => by have := HZQ.out; have := HT.out.1.blk.lt; omega) (fun k hk e => ?_) (fun m hm e => by have := HZQ.out; have := (HT.out.1.map m hm).lt; omega), hX.2.chg HC4.out (fun e => by have := HZQ.out; omega)⟩, HR3.out.1, ?_⟩
                · have := HZQ.out
                  have := (HT.out.1.row.lt k hk).2
                  omega
                · rw [HPL.out]
                  exact HR3.out.2
              · have hne : ((fdAt T xn).name.toList == (fdAt T pre.length).name.toList) = false := by
                  simp only [beq_eq_false_iff_ne, ne_eq]
                  intro e
                  exact hx (HUQ.out xn HNL.out.2.1 (bytes_ext e))
                gi_wp2
                refine ⟨trivial, ?_⟩
                gi_wp2
                refine ⟨?_, ⟨rfl, ?_⟩⟩
                · exact keepsFrom_chg (X := fun k => k = w.heap.size + 1 + 1) ((Chg.refl (fun k => k = w.heap.size + 1 + 1) Wb).setCell (p := ⟨w.heap.size + 1 + 1, 0, none⟩) (fun _ => rfl) _) (fun k hk => by have := HZQ.out; omega)
                · intro hp
                  have h1 := snoc_fin hp HNL.out.2.2
                  simp at h1
                  exact hx h1
            case done =>
              rintro D ys W' hD rfl hI hK
              have HK := Go.Lib.hid hK
              have HD : Hid (w.heap.size + 3 ≤ D) := Go.Lib.hid (by have := HBL.out.2.2.lt; omega)
              have HI2 := Go.Lib.hid hI.1
              have hbA := HBL.out.1.chg hI.1 id
              have hbB := HBL.out.2.1.chg hI.1 id
              have p0 : W'.cell? ⟨w.heap.size, 0, none⟩ = some (.pointer (some ⟨b, 0, none⟩)) := hbA.cell 0
              have s0 : W'.cell? ⟨w.heap.size + 1, 0, none⟩ = some (.int .i64 s.k) := hbB.cell 0
              have s1 : W'.cell? ⟨w.heap.size + 1, 1, none⟩ = some (.int .i64 s.n) := hbB.cell 1
              have s2 : W'.cell? ⟨w.heap.size + 1, 2, none⟩ = some (.slice s.nA s.nl s.nc) := hbB.cell 2
              have s3 : W'.cell? ⟨w.heap.size + 1, 3, none⟩ = some (.slice s.pA s.pl s.pc) := hbB.cell 3
              have r0 : W'.cell? ⟨w.heap.size + 1 + 1, 0, none⟩ = some (.bool false) := (HBL.out.2.2.chg hI.1 id).cell 0
              have fz4 := (HBL.out.2.2.chg hI.1 id).frozen 0
              have n0 : W'.cell? ⟨wq.heap.size, 0, none⟩ = some (.int .i64 (T.fs.length : Nat)) := by
                have := hI.2.cell 0
                simpa using this
              have HCW := Go.Lib.hid (HC3.out.trans hI.1)
              have hTy := HT.out.still HCW.out
              have HTy := Go.Lib.hid hTy
              have hown := own_n hTy HE.out
              have HOwn := Go.Lib.hid hown
              have HRB := Go.Lib.hid (HBL.out.2.2.chg hI.1 id)
              have HLe : Hid (∀ W, Chg NoB W' W → Calls Try.prog 23 #[.pointer (some ⟨b, 0, none⟩)] W fun e w' => e = .returned (.int .i64 T.n) ∧ W = w') := Go.Lib.hid fun W hW => len_c (HTy.out.1.quiet hW) HTk.out
              have HBa : Hid (∀ W, Chg NoB W' W → Calls Try.prog 27 #[.pointer (some ⟨b, 0, none⟩)] W fun e w' => e = .returned (optP T.base) ∧ W = w') := Go.Lib.hid fun W hW => base_c (HTy.out.1.quiet hW) HTk.out
              clear hI hK hD hbA hbB hz36 hzq hlt6 hp6 hbn hTy hown
              have hKd : (T.kind : Int) = s.k := HT.out.2.1
              by_cases h8 : s.k = 8
              · have hT8 : T.kind = 8 := by omega
                obtain ⟨f1, f2, f3, -⟩ := rec_part HTy.out h8
                obtain ⟨ts, hok⟩ := HTy.out.ok
                obtain ⟨r1, r2, r3, r4⟩ := rec_names hok hT8 HE.out
                have hnl : s.nl = T.fs.length := by rw [HS.out.ok.nl, f1]
                rw [hnl] at s2
                have hOf := offset_miss HTy.out.1 hT8 noneS (by rw [f3]; intro hm; have := r3 _ hm; rw [noneS_no] at this; cases this)
                have hn7 := HOwn.out.2.1 (by omega)
                have hb7 := HOwn.out.2.2 (by omega) (by omega)
                rw [hn7] at HLe
                rw [hb7] at HBa
                rw [h8] at s0
                have HOf := Go.Lib.hid hOf
                unfold optP at HBa
                unfold noneS ptr at HOf
                clear hOf f1 f2 f3 hok r1 r2 r3 r4 hnl hn7 hb7 hT8 hKd h8
                go_wp2_with fail
                refine HOf.out.mono ?_
                rintro e w8 ⟨rfl, rfl⟩
                go_wp2_with fail
                refine (num_c 6).mono ?_
                rintro e w8 ⟨rfl, rfl⟩
                go_wp2_with fail
                refine (HLe.out _ (Chg.refl _ _)).mono ?_
                rintro e w8 ⟨rfl, rfl⟩
                go_wp2_with fail
                refine (HBa.out _ (Chg.refl _ _)).mono ?_
                rintro e w8 ⟨rfl, rfl⟩
                simp only [Option.map_none]
                go_wp2_with fail
                exact leave_set HK.out HRB.out rfl HCW.out (Chg.refl _ _) (by have := HD.out; omega) (by have := HD.out; omega) (by omega)
              · have hT8 : T.kind ≠ 8 := by omega
                have hfs : T.fs = [] := no_fields HTy.out h8
                rw [hfs] at n0
                have hOf := offset_state HTy.out.1 HTk.out hT8 noneS
                have HOf := Go.Lib.hid hOf
                unfold noneS ptr at HOf
                have hk8 : (s.k == 8) = false := by simp; exact h8
                clear hOf hfs hT8 hKd
                go_wp2_with fail
                refine HOf.out.mono ?_
                rintro e w8 ⟨rfl, rfl⟩
                by_cases h7 : s.k = 7
                · have hk7 : (s.k == 7) = true := by simp; exact h7
                  have hn7 := HOwn.out.1 h7
                  rw [hn7] at HLe
                  obtain ⟨b0, sv, ns', kk, T', hb0, ha, hT'⟩ := base_part HTy.out (.inl h7)
                  have hkl : ks.len = 1 := by
                    have h5 := (err_parts HE.out).2
                    rw [h7] at h5
                    have := err7 h5
                    rw [← sizesF_len]
                    exact this.1
                  obtain ⟨pb, po, sv2, ns2, kk2, hp, ha2, q0, q1, q2, q3, hIs⟩ := HS.out.part (i := 0) (by rw [HS.out.len]; omega)
                  rw [ha] at ha2
                  injection ha2 with ha2
                  injection ha2 with e1 e2
                  injection e2 with e2 e3
                  subst e1 e2 e3
                  have he' := (err_parts HE.out).1.at_ ks ha
                  rw [hp] at s3
                  rw [hb0] at HBa
                  unfold optP at HBa
                  simp only [Option.map_some] at HBa
                  have q0 := keepC HCW.out q0
                  have q1 := keepC HCW.out q1
                  have q2 := keepC HCW.out q2
                  have q3 := keepC HCW.out q3
                  simp only [Nat.zero_mul, Nat.add_zero] at q0 q1 q2 q3
                  have hpl : 0 < s.pl := by rw [HS.out.len]; omega
                  have HQ := Go.Lib.hid (And.intro q0 (And.intro q1 (And.intro q2 q3)))
                  have HLk : Hid (∀ W, Chg NoB W' W → Calls Try.prog 11 #[.pointer (some ⟨b0, 0, none⟩), .agg #[.int .i64 sv.k, .int .i64 sv.n, .slice sv.nA sv.nl sv.nc, .slice sv.pA sv.pl sv.pc]] W (Quiet (.bool true) W)) := Go.Lib.hid fun W hW => HI.out 0 sv ns' kk ha W b0 T' (hIs.quiet (HCW.out.trans hW)) (hT'.still hW) he'
                  have HP0 := Go.Lib.hid (And.intro p0 (And.intro s1 s3))
                  clear ha hT' hb0 hIs he' hp q0 q1 q2 q3 hkl hn7
                  go_wp2_with fail
                  refine (num_c 7).mono ?_
                  rintro e w8 ⟨rfl, rfl⟩
                  go_wp2_with fail
                  refine Code.wp_mono NoPanic.imp ?_
                  refine regionT 14 ((fun V_ => Chg NoB (W') V_)) (by kernel_rfl) (by decide) ((Chg.refl NoB W').drew) (fun inv hHeld => ?_)
                  refine takeT (i := 0) (t := 127) (v := ?v0y1) rfl (by kernel_rfl) (by kernel_rfl) (by kernel_rfl) (fun _ _ _ h => h) (by kernel_rfl) (by kernel_rfl) (by decide) (by decide) rfl (Or.inl ⟨by rfl, ?h0y1⟩) inv hHeld ?r0y1
                  case h0y1 => (intro V' hSw; have hq := keepC hSw HP0.out.1; clear hSw; go_simp; try with_reducible rfl)
                  clear inv
                  intro inv
                  try simp only [List.setIfInBounds_toArray, List.set_cons_zero, List.set_cons_succ]
                  refine takeT (i := 2) (t := 129) (v := ?v2y2) rfl (by kernel_rfl) (by kernel_rfl) (by kernel_rfl) (fun _ _ _ h => h) (by kernel_rfl) (by kernel_rfl) (by decide) (by decide) rfl (Or.inl ⟨by rfl, ?h2y2⟩) inv hHeld ?r2y2
                  case h2y2 => (intro V' hSw; clear hSw; go_simp; try with_reducible rfl)
                  clear inv
                  intro inv
                  try simp only [List.setIfInBounds_toArray, List.set_cons_zero, List.set_cons_succ]
                  refine takeT (i := 3) (t := 130) (v := ?v3y3) rfl (by kernel_rfl) (by kernel_rfl) (by kernel_rfl) (fun _ _ _ h => h) (by kernel_rfl) (by kernel_rfl) (by decide) (by decide) rfl (Or.inl ⟨by rfl, ?h3y3⟩) inv hHeld ?r3y3
                  case h3y3 => (intro V' hSw; have hq := keepC hSw HP0.out.2.1; clear hSw; go_simp; try with_reducible rfl)
                  clear inv
                  intro inv
                  try simp only [List.setIfInBounds_toArray, List.set_cons_zero, List.set_cons_succ]
                  refine callT (i := 1) (t := 128) (f := 23) (args := #[.pointer (some ⟨b, 0, none⟩)]) rfl (by kernel_rfl) rfl (by rfl) ?hx4 inv (by decide) ?hc4
                  case hx4 => (go_simp; try rfl)
                  case hc4 =>
                    refine (HLe.out _ hHeld).mono ?_
                    rintro e wx ⟨rfl, rfl⟩
                    refine ⟨_, rfl, hHeld, fun inv2 hHeld2 => ?_⟩
                    clear inv hHeld
                    have inv := inv2
                    have hHeld := hHeld2
                    clear inv2 hHeld2
                    try simp only [List.setIfInBounds_toArray, List.set_cons_zero, List.set_cons_succ]
                    refine takeT (i := 4) (t := 131) (v := ?v4y5) rfl (by kernel_rfl) (by kernel_rfl) (by kernel_rfl) (fun _ _ _ h => h) (by kernel_rfl) (by kernel_rfl) (by decide) (by decide) rfl (Or.inl ⟨by rfl, ?h4y5⟩) inv hHeld ?r4y5
                    case h4y5 => (intro V' hSw; clear hSw; go_simp; try with_reducible rfl)
                    clear inv
                    intro inv
                    try simp only [List.setIfInBounds_toArray, List.set_cons_zero, List.set_cons_succ]
                    refine takeT (i := 5) (t := 132) (v := ?v5y6) rfl (by kernel_rfl) (by kernel_rfl) (by kernel_rfl) (fun _ _ _ h => h) (by kernel_rfl) (by kernel_rfl) (by decide) (by decide) rfl (Or.inl ⟨by rfl, ?h5y6⟩) inv hHeld ?r5y6
                    case h5y6 => (intro V' hSw; clear hSw; go_simp; try with_reducible rfl)
                    clear inv
                    intro inv
                    try simp only [List.setIfInBounds_toArray, List.set_cons_zero, List.set_cons_succ]
                    refine takeT (i := 6) (t := 133) (v := ?v6y7) rfl (by kernel_rfl) (by kernel_rfl) (by kernel_rfl) (fun _ _ _ h => h) (by kernel_rfl) (by kernel_rfl) (by decide) (by decide) rfl (Or.inl ⟨by rfl, ?h6y7⟩) inv hHeld ?r6y7
                    case h6y7 => (intro V' hSw; have hq := keepC hSw HP0.out.1; clear hSw; go_simp; try with_reducible rfl)
                    clear inv
                    intro inv
                    try simp only [List.setIfInBounds_toArray, List.set_cons_zero, List.set_cons_succ]
                    refine takeT (i := 8) (t := 135) (v := ?v8y8) rfl (by kernel_rfl) (by kernel_rfl) (by kernel_rfl) (fun _ _ _ h => h) (by kernel_rfl) (by kernel_rfl) (by decide) (by decide) rfl (Or.inl ⟨by rfl, ?h8y8⟩) inv hHeld ?r8y8
                    case h8y8 => (intro V' hSw; clear hSw; go_simp; try with_reducible rfl)
                    clear inv
                    intro inv
                    try simp only [List.setIfInBounds_toArray, List.set_cons_zero, List.set_cons_succ]
                    refine takeT (i := 9) (t := 136) (v := ?v9y9) rfl (by kernel_rfl) (by kernel_rfl) (by kernel_rfl) (fun _ _ _ h => h) (by kernel_rfl) (by kernel_rfl) (by decide) (by decide) rfl (Or.inl ⟨by rfl, ?h9y9⟩) inv hHeld ?r9y9
                    case h9y9 => (intro V' hSw; have hq := keepC hSw HP0.out.2.2; clear hSw; go_simp; try with_reducible rfl)
                    clear inv
                    intro inv
                    try simp only [List.setIfInBounds_toArray, List.set_cons_zero, List.set_cons_succ]
                    refine takeT (i := 10) (t := 137) (v := ?v10y10) rfl (by kernel_rfl) (by kernel_rfl) (by kernel_rfl) (fun _ _ _ h => h) (by kernel_rfl) (by kernel_rfl) (by decide) (by decide) rfl (Or.inl ⟨by rfl, ?h10y10⟩) inv hHeld ?r10y10
                    case h10y10 => (intro V' hSw; clear hSw; go_simp; try with_reducible rfl)
                    clear inv
                    intro inv
                    try simp only [List.setIfInBounds_toArray, List.set_cons_zero, List.set_cons_succ]
                    refine takeT (i := 11) (t := 138) (v := ?v11y11) rfl (by kernel_rfl) (by kernel_rfl) (by kernel_rfl) (fun _ _ _ h => h) (by kernel_rfl) (by kernel_rfl) (by decide) (by decide) rfl (Or.inl ⟨by rfl, ?h11y11⟩) inv hHeld ?r11y11
                    case h11y11 => (intro V' hSw; have hq0 := keepC hSw HQ.out.1; have hq1 := keepC hSw HQ.out.2.1; have hq2 := keepC hSw HQ.out.2.2.1; have hq3 := keepC hSw HQ.out.2.2.2; clear hSw; go_simp; try with_reducible rfl)
                    clear inv
                    intro inv
                    try simp only [List.setIfInBounds_toArray, List.set_cons_zero, List.set_cons_succ]
                    refine callT (i := 7) (t := 134) (f := 27) (args := #[.pointer (some ⟨b, 0, none⟩)]) rfl (by kernel_rfl) rfl (by rfl) ?hx12 inv (by decide) ?hc12
                    case hx12 => (go_simp; try rfl)
                    case hc12 =>
                      refine (HBa.out _ hHeld).mono ?_
                      rintro e wx ⟨rfl, rfl⟩
                      refine ⟨_, rfl, hHeld, fun inv2 hHeld2 => ?_⟩
                      clear inv hHeld
                      have inv := inv2
                      have hHeld := hHeld2
                      clear inv2 hHeld2
                      try simp only [List.setIfInBounds_toArray, List.set_cons_zero, List.set_cons_succ]
                      refine callT (i := 12) (t := 139) (f := 11) (args := #[.pointer (some ⟨b0, 0, none⟩), .agg #[.int .i64 sv.k, .int .i64 sv.n, .slice sv.nA sv.nl sv.nc, .slice sv.pA sv.pl sv.pc]]) rfl (by kernel_rfl) rfl (by rfl) ?hx13 inv (by decide) ?hc13
                      case hx13 => (go_simp; try rfl)
                      case hc13 =>
                        refine (HLk.out _ hHeld).mono ?_
                        rintro e wz ⟨rfl, hcz⟩
                        refine ⟨_, rfl, hHeld.trans hcz, fun inv2 hHeld2 => ?_⟩
                        clear inv hHeld
                        have inv := inv2
                        have hHeld := hHeld2
                        clear inv2 hHeld2
                        have HZ := Go.Lib.hid hHeld
                        try simp only [List.setIfInBounds_toArray, List.set_cons_zero, List.set_cons_succ]
                        refine takeT (i := 13) (t := 140) (v := ?v13y14) rfl (by kernel_rfl) (by kernel_rfl) (by kernel_rfl) (fun _ _ _ h => h) (by kernel_rfl) (by kernel_rfl) (by decide) (by decide) rfl (Or.inl ⟨by rfl, ?h13y14⟩) inv hHeld ?r13y14
                        case h13y14 => (intro V' hSw; clear hSw; go_simp; try with_reducible rfl)
                        clear inv
                        intro inv
                        try simp only [List.setIfInBounds_toArray, List.set_cons_zero, List.set_cons_succ]
                        refine lastT (i := 14) (w' := wz.setCell ⟨w.heap.size + 1 + 1, 0, none⟩ (.bool true)) rfl (by kernel_rfl) rfl (by rfl) ?hx15 (by decide) (by kernel_rfl) ?_
                        case hx15 => (have hq := keepC hHeld r0; have hz := (HRB.out.chg hHeld id).frozen 0; go_simp; try with_reducible rfl)
                        clear inv hHeld
                        refine NoPanic.normal ?_
                        go_wp2_with fail
                        exact leave_set HK.out HRB.out rfl HCW.out HZ.out (by have := HD.out; omega) (by have := HD.out; omega) (by omega)
                · have hk7 : (s.k == 7) = false := by simp; exact h7
                  have hn7 := HOwn.out.2.1 h7
                  rw [hn7] at HLe
                  by_cases h9 : s.k = 9 ∧ ks.len = 1
                  · obtain ⟨b0, sv, ns', kk, T', hb0, ha, hT'⟩ := base_part HTy.out (.inr h9)
                    have hkl : ks.len = 1 := h9.2
                    have hk9 : (s.k == 9) = true := by simp; exact h9.1
                    have hl1 : s.pl = 1 := by rw [HS.out.len]; exact hkl
                    obtain ⟨pb, po, sv2, ns2, kk2, hp, ha2, q0, q1, q2, q3, hIs⟩ := HS.out.part (i := 0) (by rw [HS.out.len]; omega)
                    rw [ha] at ha2
                    injection ha2 with ha2
                    injection ha2 with e1 e2
                    injection e2 with e2 e3
                    subst e1 e2 e3
                    have he' := (err_parts HE.out).1.at_ ks ha
                    rw [hp] at s3
                    rw [hb0] at HBa
                    unfold optP at HBa
                    simp only [Option.map_some] at HBa
                    have q0 := keepC HCW.out q0
                    have q1 := keepC HCW.out q1
                    have q2 := keepC HCW.out q2
                    have q3 := keepC HCW.out q3
                    simp only [Nat.zero_mul, Nat.add_zero] at q0 q1 q2 q3
                    have hpl : 0 < s.pl := by rw [HS.out.len]; omega
                    have HQ := Go.Lib.hid (And.intro q0 (And.intro q1 (And.intro q2 q3)))
                    have HLk : Hid (∀ W, Chg NoB W' W → Calls Try.prog 11 #[.pointer (some ⟨b0, 0, none⟩), .agg #[.int .i64 sv.k, .int .i64 sv.n, .slice sv.nA sv.nl sv.nc, .slice sv.pA sv.pl sv.pc]] W (Quiet (.bool true) W)) := Go.Lib.hid fun W hW => HI.out 0 sv ns' kk ha W b0 T' (hIs.quiet (HCW.out.trans hW)) (hT'.still hW) he'
                    have HP0 := Go.Lib.hid (And.intro p0 (And.intro s1 s3))
                    clear ha hT' hb0 hIs he' hp q0 q1 q2 q3 hkl hn7
                    rw [hl1] at s3
                    clear h7 h9 h8
                    go_wp2_with fail
                    refine (num_c 7).mono ?_
                    rintro e w8 ⟨rfl, rfl⟩
                    go_wp2_with fail
                    refine Code.wp_mono NoPanic.imp ?_
                    refine regionT 12 ((fun V_ => Chg NoB (W') V_)) (by kernel_rfl) (by decide) ((Chg.refl NoB W').drew) (fun inv hHeld => ?_)
                    refine takeT (i := 0) (t := 150) (v := ?v0y16) rfl (by kernel_rfl) (by kernel_rfl) (by kernel_rfl) (fun _ _ _ h => h) (by kernel_rfl) (by kernel_rfl) (by decide) (by decide) rfl (Or.inl ⟨by rfl, ?h0y16⟩) inv hHeld ?r0y16
                    case h0y16 => (intro V' hSw; have hq := keepC hSw HP0.out.1; clear hSw; go_simp; try with_reducible rfl)
                    clear inv
                    intro inv
                    try simp only [List.setIfInBounds_toArray, List.set_cons_zero, List.set_cons_succ]
                    refine callT (i := 1) (t := 151) (f := 23) (args := #[.pointer (some ⟨b, 0, none⟩)]) rfl (by kernel_rfl) rfl (by rfl) ?hx17 inv (by decide) ?hc17
                    case hx17 => (go_simp; try rfl)
                    case hc17 =>
                      refine (HLe.out _ hHeld).mono ?_
                      rintro e wx ⟨rfl, rfl⟩
                      refine ⟨_, rfl, hHeld, fun inv2 hHeld2 => ?_⟩
                      clear inv hHeld
                      have inv := inv2
                      have hHeld := hHeld2
                      clear inv2 hHeld2
                      try simp only [List.setIfInBounds_toArray, List.set_cons_zero, List.set_cons_succ]
                      refine takeT (i := 2) (t := 152) (v := ?v2y18) rfl (by kernel_rfl) (by kernel_rfl) (by kernel_rfl) (fun _ _ _ h => h) (by kernel_rfl) (by kernel_rfl) (by decide) (by decide) rfl (Or.inl ⟨by rfl, ?h2y18⟩) inv hHeld ?r2y18
                      case h2y18 => (intro V' hSw; clear hSw; go_simp; try with_reducible rfl)
                      clear inv
                      intro inv
                      try simp only [List.setIfInBounds_toArray, List.set_cons_zero, List.set_cons_succ]
                      refine takeT (i := 3) (t := 153) (v := ?v3y19) rfl (by kernel_rfl) (by kernel_rfl) (by kernel_rfl) (fun _ _ _ h => h) (by kernel_rfl) (by kernel_rfl) (by decide) (by decide) rfl (Or.inl ⟨by rfl, ?h3y19⟩) inv hHeld ?r3y19
                      case h3y19 => (intro V' hSw; clear hSw; go_simp; try with_reducible rfl)
                      clear inv
                      intro inv
                      try simp only [List.setIfInBounds_toArray, List.set_cons_zero, List.set_cons_succ]
                      refine takeT (i := 4) (t := 154) (v := ?v4y20) rfl (by kernel_rfl) (by kernel_rfl) (by kernel_rfl) (fun _ _ _ h => h) (by kernel_rfl) (by kernel_rfl) (by decide) (by decide) rfl (Or.inl ⟨by rfl, ?h4y20⟩) inv hHeld ?r4y20
                      case h4y20 => (intro V' hSw; have hq := keepC hSw HP0.out.1; clear hSw; go_simp; try with_reducible rfl)
                      clear inv
                      intro inv
                      try simp only [List.setIfInBounds_toArray, List.set_cons_zero, List.set_cons_succ]
                      refine takeT (i := 6) (t := 156) (v := ?v6y21) rfl (by kernel_rfl) (by kernel_rfl) (by kernel_rfl) (fun _ _ _ h => h) (by kernel_rfl) (by kernel_rfl) (by decide) (by decide) rfl (Or.inl ⟨by rfl, ?h6y21⟩) inv hHeld ?r6y21
                      case h6y21 => (intro V' hSw; clear hSw; go_simp; try with_reducible rfl)
                      clear inv
                      intro inv
                      try simp only [List.setIfInBounds_toArray, List.set_cons_zero, List.set_cons_succ]
                      refine takeT (i := 7) (t := 157) (v := ?v7y22) rfl (by kernel_rfl) (by kernel_rfl) (by kernel_rfl) (fun _ _ _ h => h) (by kernel_rfl) (by kernel_rfl) (by decide) (by decide) rfl (Or.inl ⟨by rfl, ?h7y22⟩) inv hHeld ?r7y22
                      case h7y22 => (intro V' hSw; have hq := keepC hSw HP0.out.2.2; clear hSw; go_simp; try with_reducible rfl)
                      clear inv
                      intro inv
                      try simp only [List.setIfInBounds_toArray, List.set_cons_zero, List.set_cons_succ]
                      refine takeT (i := 8) (t := 158) (v := ?v8y23) rfl (by kernel_rfl) (by kernel_rfl) (by kernel_rfl) (fun _ _ _ h => h) (by kernel_rfl) (by kernel_rfl) (by decide) (by decide) rfl (Or.inl ⟨by rfl, ?h8y23⟩) inv hHeld ?r8y23
                      case h8y23 => (intro V' hSw; clear hSw; go_simp; try with_reducible rfl)
                      clear inv
                      intro inv
                      try simp only [List.setIfInBounds_toArray, List.set_cons_zero, List.set_cons_succ]
                      refine takeT (i := 9) (t := 159) (v := ?v9y24) rfl (by kernel_rfl) (by kernel_rfl) (by kernel_rfl) (fun _ _ _ h => h) (by kernel_rfl) (by kernel_rfl) (by decide) (by decide) rfl (Or.inl ⟨by rfl, ?h9y24⟩) inv hHeld ?r9y24
                      case h9y24 => (intro V' hSw; have hq0 := keepC hSw HQ.out.1; have hq1 := keepC hSw HQ.out.2.1; have hq2 := keepC hSw HQ.out.2.2.1; have hq3 := keepC hSw HQ.out.2.2.2; clear hSw; go_simp; try with_reducible rfl)
                      clear inv
                      intro inv
                      try simp only [List.setIfInBounds_toArray, List.set_cons_zero, List.set_cons_succ]
                      refine callT (i := 5) (t := 155) (f := 27) (args := #[.pointer (some ⟨b, 0, none⟩)]) rfl (by kernel_rfl) rfl (by rfl) ?hx25 inv (by decide) ?hc25
                      case hx25 => (go_simp; try rfl)
                      case hc25 =>
                        refine (HBa.out _ hHeld).mono ?_
                        rintro e wx ⟨rfl, rfl⟩
                        refine ⟨_, rfl, hHeld, fun inv2 hHeld2 => ?_⟩
                        clear inv hHeld
                        have inv := inv2
                        have hHeld := hHeld2
                        clear inv2 hHeld2
                        try simp only [List.setIfInBounds_toArray, List.set_cons_zero, List.set_cons_succ]
                        refine callT (i := 10) (t := 160) (f := 11) (args := #[.pointer (some ⟨b0, 0, none⟩), .agg #[.int .i64 sv.k, .int .i64 sv.n, .slice sv.nA sv.nl sv.nc, .slice sv.pA sv.pl sv.pc]]) rfl (by kernel_rfl) rfl (by rfl) ?hx26 inv (by decide) ?hc26
                        case hx26 => (go_simp; try rfl)
                        case hc26 =>
                          refine (HLk.out _ hHeld).mono ?_
                          rintro e wz ⟨rfl, hcz⟩
                          refine ⟨_, rfl, hHeld.trans hcz, fun inv2 hHeld2 => ?_⟩
                          clear inv hHeld
                          have inv := inv2
                          have hHeld := hHeld2
                          clear inv2 hHeld2
                          have HZ := Go.Lib.hid hHeld
                          try simp only [List.setIfInBounds_toArray, List.set_cons_zero, List.set_cons_succ]
                          refine takeT (i := 11) (t := 161) (v := ?v11y27) rfl (by kernel_rfl) (by kernel_rfl) (by kernel_rfl) (fun _ _ _ h => h) (by kernel_rfl) (by kernel_rfl) (by decide) (by decide) rfl (Or.inl ⟨by rfl, ?h11y27⟩) inv hHeld ?r11y27
                          case h11y27 => (intro V' hSw; clear hSw; go_simp; try with_reducible rfl)
                          clear inv
                          intro inv
                          try simp only [List.setIfInBounds_toArray, List.set_cons_zero, List.set_cons_succ]
                          refine lastT (i := 12) (w' := wz.setCell ⟨w.heap.size + 1 + 1, 0, none⟩ (.bool true)) rfl (by kernel_rfl) rfl (by rfl) ?hx28 (by decide) (by kernel_rfl) ?_
                          case hx28 => (have hq := keepC hHeld r0; have hz := (HRB.out.chg hHeld id).frozen 0; go_simp; try with_reducible rfl)
                          clear inv hHeld
                          refine NoPanic.normal ?_
                          go_wp2_with fail
                          exact leave_set HK.out HRB.out rfl HCW.out HZ.out (by have := HD.out; omega) (by have := HD.out; omega) (by omega)
                  · have hb9 := HOwn.out.2.2 h7 h9
                    rw [hb9] at HBa
                    unfold optP at HBa
                    simp only [Option.map_none] at HBa
                    have hq9 : (s.k == 9) = false ∨ ((s.k == 9) = true ∧ ((s.pl : Int) == 1) = false) := by
                      by_cases h : s.k = 9
                      · refine .inr ⟨by simp; exact h, ?_⟩
                        have := HS.out.len
                        simp
                        omega
                      · exact .inl (by simp; exact h)
                    clear h7 h9 h8
                    rcases hq9 with hq9 | ⟨hq9, hq1⟩
                    all_goals
                      go_wp2_with fail
                      refine (num_c 7).mono ?_
                      rintro e w8 ⟨rfl, rfl⟩
                      go_wp2_with fail
                      refine (HLe.out _ (Chg.refl _ _)).mono ?_
                      rintro e w8 ⟨rfl, rfl⟩
                      go_wp2_with fail
                      refine (HBa.out _ (Chg.refl _ _)).mono ?_
                      rintro e w8 ⟨rfl, rfl⟩
                      go_wp2_with fail
                      exact leave_set HK.out HRB.out rfl HCW.out (Chg.refl _ _) (by have := HD.out; omega) (by have := HD.out; omega) (by omega)
theorem looks_all : ∀ f : SF, f.small → LooksF f
  | .nil, _ => fun i s ns ks h => by simp [SF.at?] at h
  | .cons s ns ks r, ⟨h1, h2, h3⟩ => fun i s' ns' ks' h w b T hIs hT he => by
    cases i with
    | zero =>
      obtain ⟨rfl, rfl, rfl⟩ : s = s' ∧ ns = ns' ∧ ks = ks' := by simpa [SF.at?] using h
      exact looks_one (looks_all ks h2) hIs hT he h1 h2
    | succ i => exact looks_all r h3 i s' ns' ks' (by simpa [SF.at?] using h) w b T hIs hT he
/-- looks of any type built out of a shape that may be -/
theorem looks_c {w : World} {s : Sv} {ns : List ByteArray} {ks : SF} {b : Nat} {T : Ti} (h : IsS w s ns ks) (hT : TyS w s ns ks (b, T)) (he : errOf s ns ks = 0) (hl : ks.len ≤ 209715) (hs : ks.small) :
    Calls Try.prog 11 #[ptr b, s.val] w (Quiet (.bool true) w) := looks_one (looks_all ks hs) h hT he hl hs
end Go.Proofs.Ytholeloedihkoaa
