/- What is proved: object.Of reads an object as the plain reader does, or tells that the bytes are none's. Conditions: the memory holds the bytes. -/
import Derived.Test.YteleglkoagnmcaaLkI
set_option linter.unusedSimpArgs false
set_option linter.unusedVariables false
namespace Go.Proofs.Yteleglkoagnmcaa
open Go Go.RowKit
abbrev U8T : TypeId := 5
abbrev U32T : TypeId := 29
abbrev INT : TypeId := 3
theorem itinfo : (Try.prog.info? IT).map (fun i => (i.zero, i.size, i.bytes)) = some (some (.agg #[.string ⟨#[]⟩, .int .u32 0]), 2, 24) := by kernel_rfl
theorem u32info : (Try.prog.info? U32T).map (fun i => (i.zero, i.size, i.bytes)) = some (some (.int .u32 0), 1, 4) := by kernel_rfl
theorem intinfo : (Try.prog.info? INT).map (fun i => (i.zero, i.size, i.bytes)) = some (some (.int .i64 0), 1, 8) := by kernel_rfl
theorem ftinfo : (Try.prog.info? FT).map (fun i => (i.zero, i.size, i.bytes)) = some (some (.agg #[.int .i64 0, .int .i64 0, .int .i64 0]), 3, 24) := by kernel_rfl
/-- what changes are blocks of other sorts -/
def Off (t : TypeId) (F : Nat → Prop) (W : World) : Prop := ∀ k, F k → k < W.heap.size → ∃ cs u fr, W.heap[k]? = some (.cells cs u fr) ∧ u ≠ t
section
variable {W W' : World} {F : Nat → Prop}
theorem own_tag {base : Nat} {e : TypeId} {size n : Nat} {v : Value} {xs : List Value} (h : W.ownsRow base e size v n xs) {k : Nat} (hk : v.ownBlock = some k) : ∃ cs fr, W.heap[k]? = some (.cells cs e fr) := by
  rcases h.2 with ⟨h1, _⟩ | ⟨g, cap, cur, h2, _, hh, _⟩
  · rw [h1] at hk; simp [Value.ownBlock] at hk
  · rw [h2] at hk
    obtain rfl : g = k := by simpa [Value.ownBlock] using hk
    exact ⟨cur, _, hh⟩
theorem own_off {base : Nat} {e : TypeId} {size n : Nat} {v : Value} {xs : List Value} (h : W.ownsRow base e size v n xs) (hc : Chg F W W') (hF : Off e F W) : W'.ownsRow base e size v n xs :=
  own_chg h hc fun k hk hFk => by
    obtain ⟨cs, fr, h1⟩ := own_tag h hk
    obtain ⟨cs2, u, fr2, h2, hne⟩ := hF k hFk (Array.getElem?_eq_some_iff.1 h1).1
    rw [h1] at h2
    injection h2 with h2
    injection h2 with _ h2
    exact hne h2.symm
theorem blk_off {g : Nat} {t : TypeId} {cs : Array Value} (h : Blk W g t cs) (hc : Chg F W W') (hF : Off t F W) : Blk W' g t cs :=
  h.chg hc fun hFk => by
    obtain ⟨cs2, u, fr2, h2, hne⟩ := hF g hFk h.lt
    rw [show W.heap[g]? = _ from h] at h2
    injection h2 with h2
    injection h2 with _ h2
    exact hne h2.symm
theorem off_blk {g : Nat} {t u : TypeId} {cs : Array Value} (h : Blk W g u cs) (hne : u ≠ t) : Off t (fun k => k = g) W := fun k hk _ => by
  subst hk
  exact ⟨cs, u, _, h, hne⟩
theorem off_own {base : Nat} {e t : TypeId} {size n : Nat} {v : Value} {xs : List Value} (h : W.ownsRow base e size v n xs) (hne : e ≠ t) : Off t (fun k => v.ownBlock = some k) W := fun k hk _ => by
  obtain ⟨cs, fr, h1⟩ := own_tag h hk
  exact ⟨cs, e, fr, h1, hne⟩
theorem off_no {t : TypeId} : Off t NoB W := fun k hk => hk.elim
theorem tag_off {ad : Addr} (h : ∃ cs fr, W.heap[ad.block]? = some (.cells cs U8T fr)) (hF : Off U8T F W) : ¬ F ad.block := fun hFk => by
  obtain ⟨cs, fr, h1⟩ := h
  obtain ⟨cs2, u, fr2, h2, hne⟩ := hF _ hFk (Array.getElem?_eq_some_iff.1 h1).1
  rw [h1] at h2
  injection h2 with h2
  injection h2 with _ h2
  exact hne h2.symm
theorem RAt.off {r : Nat} {q : Rdr} {A : Option Addr} {c : Nat} (h : RAt W r q A c) (hc : Chg F W W') (h1 : Off RT F W) (h2 : Off U8T F W) : RAt W' r q A c :=
  h.chg hc (fun hFk => by
    obtain ⟨cs2, u, fr2, h3, hne⟩ := h1 r hFk h.blk.lt
    rw [show W.heap[r]? = _ from h.blk] at h3
    injection h3 with h3
    injection h3 with _ h3
    exact hne h3.symm) fun ad ha => tag_off (h.tag ad ha) h2
theorem BRow.off {r : Nat} {l : List UInt8} {B : Option Addr} {d : Nat} (h : BRow W r l B d) (hc : Chg F W W') (h2 : Off U8T F W) : BRow W' r l B d :=
  ⟨h.row.chg hc fun ad ha => tag_off (h.tag ad ha) h2, h.cap, fun ad ha => ⟨(h.flat ad ha).1, (h.flat ad ha).2.1, Nat.lt_of_lt_of_le (h.flat ad ha).2.2 hc.size⟩, fun ad ha => by
    obtain ⟨cs, fr, h3⟩ := h.tag ad ha
    exact ⟨cs, fr, (hc.block ad.block (h.flat ad ha).2.2 (tag_off (h.tag ad ha) h2)).trans h3⟩⟩
end
/-- an object that is being read -/
structure OfI (B : Nat) (W : World) (r ob : Nat) (q : Rdr) (A : Option Addr) (c : Nat) (o : Ob) (a : OA) : Prop where
  rd : RAt W r q A c
  blk : Blk W ob OT (obArr o a)
  im : W.ownsRow B IT 2 (.slice a.iA o.imps.length a.ic) o.imps.length (impCells o.imps)
  tx : BRow W r o.text a.tA a.tc
  cd : W.ownsRow B U32T 1 (.slice a.cA o.code.length a.cc) o.code.length (codeCells o.code)
  en : W.ownsRow B INT 1 (.slice a.eA o.ents.length a.ec) o.ents.length (entCells o.ents)
  fx : W.ownsRow B FT 3 (.slice a.fA o.fixs.length a.fc) o.fixs.length (fixCells o.fixs)
  lo : B ≤ r ∧ B ≤ ob
section
variable {B : Nat} {w0 W W' : World} {r ob : Nat} {q q' : Rdr} {A A' : Option Addr} {c c' : Nat} {o : Ob} {a : OA}
theorem OfI.quiet (h : OfI B W r ob q A c o a) (hc : Chg NoB W W') : OfI B W' r ob q A c o a :=
  ⟨h.rd.quiet hc, h.blk.chg hc id, own_off h.im hc off_no, h.tx.off hc off_no, own_off h.cd hc off_no, own_off h.en hc off_no, own_off h.fx hc off_no, h.lo⟩
/-- behind a step of the reader -/
theorem OfI.read (h : OfI B W r ob q A c o a) (hr : RAt W' r q' A' c') (hc : Chg (fun k => k = r) W W') : OfI B W' r ob q' A' c' o a :=
  ⟨hr, blk_off h.blk hc (off_blk h.rd.blk (by decide)), own_off h.im hc (off_blk h.rd.blk (by decide)), h.tx.off hc (off_blk h.rd.blk (by decide)), own_off h.cd hc (off_blk h.rd.blk (by decide)), own_off h.en hc (off_blk h.rd.blk (by decide)), own_off h.fx hc (off_blk h.rd.blk (by decide)), h.lo⟩
/-- behind a store into the object -/
theorem OfI.name (h : OfI B W r ob q A c o a) (s : ByteArray) : OfI B (W.setCell ⟨ob, 0, none⟩ (.string s)) r ob q A c { o with name := s } a := by
  have hc : Chg (fun k => k = ob) W (W.setCell ⟨ob, 0, none⟩ (.string s)) := (Chg.refl (fun k => k = ob) W).setCell (p := ⟨ob, 0, none⟩) (fun _ => rfl) _
  exact ⟨h.rd.off hc (off_blk h.blk (by decide)) (off_blk h.blk (by decide)), h.blk.set_ 0 (.string s), own_off h.im hc (off_blk h.blk (by decide)), h.tx.off hc (off_blk h.blk (by decide)), own_off h.cd hc (off_blk h.blk (by decide)), own_off h.en hc (off_blk h.blk (by decide)), own_off h.fx hc (off_blk h.blk (by decide)), h.lo⟩
theorem OfI.key (h : OfI B W r ob q A c o a) (n : Nat) : OfI B (W.setCell ⟨ob, 1, none⟩ (.int .u32 n)) r ob q A c { o with key := n } a := by
  have hc : Chg (fun k => k = ob) W (W.setCell ⟨ob, 1, none⟩ (.int .u32 n)) := (Chg.refl (fun k => k = ob) W).setCell (p := ⟨ob, 1, none⟩) (fun _ => rfl) _
  exact ⟨h.rd.off hc (off_blk h.blk (by decide)) (off_blk h.blk (by decide)), h.blk.set_ 1 (.int .u32 n), own_off h.im hc (off_blk h.blk (by decide)), h.tx.off hc (off_blk h.blk (by decide)), own_off h.cd hc (off_blk h.blk (by decide)), own_off h.en hc (off_blk h.blk (by decide)), own_off h.fx hc (off_blk h.blk (by decide)), h.lo⟩
theorem OfI.vars (h : OfI B W r ob q A c o a) (n : Int) : OfI B (W.setCell ⟨ob, 3, none⟩ (.int .i64 n)) r ob q A c { o with vars := n } a := by
  have hc : Chg (fun k => k = ob) W (W.setCell ⟨ob, 3, none⟩ (.int .i64 n)) := (Chg.refl (fun k => k = ob) W).setCell (p := ⟨ob, 3, none⟩) (fun _ => rfl) _
  exact ⟨h.rd.off hc (off_blk h.blk (by decide)) (off_blk h.blk (by decide)), h.blk.set_ 3 (.int .i64 n), own_off h.im hc (off_blk h.blk (by decide)), h.tx.off hc (off_blk h.blk (by decide)), own_off h.cd hc (off_blk h.blk (by decide)), own_off h.en hc (off_blk h.blk (by decide)), own_off h.fx hc (off_blk h.blk (by decide)), h.lo⟩
theorem OfI.text (h : OfI B W r ob q A c o a) {l : List UInt8} {tA : Option Addr} {tc : Nat} (ht : BRow W r l tA tc) : OfI B (W.setCell ⟨ob, 4, none⟩ (.slice tA l.length tc)) r ob q A c { o with text := l } { a with tA := tA, tc := tc } := by
  have hc : Chg (fun k => k = ob) W (W.setCell ⟨ob, 4, none⟩ (.slice tA l.length tc)) := (Chg.refl (fun k => k = ob) W).setCell (p := ⟨ob, 4, none⟩) (fun _ => rfl) _
  exact ⟨h.rd.off hc (off_blk h.blk (by decide)) (off_blk h.blk (by decide)), h.blk.set_ 4 (.slice tA l.length tc), own_off h.im hc (off_blk h.blk (by decide)), ht.off hc (off_blk h.blk (by decide)), own_off h.cd hc (off_blk h.blk (by decide)), own_off h.en hc (off_blk h.blk (by decide)), own_off h.fx hc (off_blk h.blk (by decide)), h.lo⟩
theorem OfI.im_grow (h : OfI B W r ob q A c o a) {x : ByteArray × Nat} {ob0 : Obj} {W2 : World} {v2 : Value} (hown : W2.ownsRow B IT 2 v2 (o.imps.length + 1) (impCells o.imps ++ [.string x.1, .int .u32 x.2])) (hg : (W.alloc ob0).grownBy W2 (Value.slice a.iA o.imps.length a.ic).ownBlock) :
    ∃ A2 c2, v2 = .slice A2 (o.imps.length + 1) c2 ∧ OfI B (W2.setCell ⟨ob, 2, none⟩ v2) r ob q A c { o with imps := o.imps ++ [x] } { a with iA := A2, ic := c2 } ∧ W2.frozen? ⟨ob, 2, none⟩ = false ∧ W2.cell? ⟨ob, 2, none⟩ = some (.slice a.iA o.imps.length a.ic) ∧ Chg (fun k => (Value.slice a.iA o.imps.length a.ic).ownBlock = some k) W W2 := by
  obtain ⟨A2, c2, rfl⟩ := own_slice hown
  have hch : Chg (fun k => (Value.slice a.iA o.imps.length a.ic).ownBlock = some k) W W2 := (((Chg.refl NoB W).alloc ob0).mono fun _ _ h => h.elim).grown hg fun j hj _ => hj
  have hb2 : Blk W2 ob OT (obArr o a) := blk_off h.blk hch (off_own h.im (by decide))
  have hc2 : Chg (fun k => k = ob) W2 (W2.setCell ⟨ob, 2, none⟩ (.slice A2 (o.imps.length + 1) c2)) := (Chg.refl (fun k => k = ob) W2).setCell (p := ⟨ob, 2, none⟩) (fun _ => rfl) _
  have hlen : (o.imps ++ [x]).length = o.imps.length + 1 := by simp
  have hrow : (W2.setCell ⟨ob, 2, none⟩ (.slice A2 (o.imps.length + 1) c2)).ownsRow B IT 2 (.slice A2 (o.imps ++ [x]).length c2) (o.imps ++ [x]).length (impCells (o.imps ++ [x])) := by
    rw [hlen, show impCells (o.imps ++ [x]) = impCells o.imps ++ [.string x.1, .int .u32 x.2] from by simp [impCells]]
    exact own_off hown hc2 (off_blk hb2 (by decide))
  refine ⟨A2, c2, rfl, ⟨(h.rd.off hch (off_own h.im (by decide)) (off_own h.im (by decide))).off hc2 (off_blk hb2 (by decide)) (off_blk hb2 (by decide)), ?_, hrow, (h.tx.off hch (off_own h.im (by decide))).off hc2 (off_blk hb2 (by decide)), own_off (own_off h.cd hch (off_own h.im (by decide))) hc2 (off_blk hb2 (by decide)), own_off (own_off h.en hch (off_own h.im (by decide))) hc2 (off_blk hb2 (by decide)), own_off (own_off h.fx hch (off_own h.im (by decide))) hc2 (off_blk hb2 (by decide)), h.lo⟩, hb2.frozen 2, hb2.cell 2, hch⟩
  show Blk _ _ _ (obArr { o with imps := o.imps ++ [x] } { a with iA := A2, ic := c2 })
  unfold obArr
  simp only [hlen]
  exact hb2.set_ 2 (.slice A2 (o.imps.length + 1) c2)
theorem OfI.cd_grow (h : OfI B W r ob q A c o a) {x : Nat} {ob0 : Obj} {W2 : World} {v2 : Value} (hown : W2.ownsRow B U32T 1 v2 (o.code.length + 1) (codeCells o.code ++ [.int .u32 x])) (hg : (W.alloc ob0).grownBy W2 (Value.slice a.cA o.code.length a.cc).ownBlock) :
    ∃ A2 c2, v2 = .slice A2 (o.code.length + 1) c2 ∧ OfI B (W2.setCell ⟨ob, 5, none⟩ v2) r ob q A c { o with code := o.code ++ [x] } { a with cA := A2, cc := c2 } ∧ W2.frozen? ⟨ob, 5, none⟩ = false ∧ W2.cell? ⟨ob, 5, none⟩ = some (.slice a.cA o.code.length a.cc) ∧ Chg (fun k => (Value.slice a.cA o.code.length a.cc).ownBlock = some k) W W2 := by
  obtain ⟨A2, c2, rfl⟩ := own_slice hown
  have hch : Chg (fun k => (Value.slice a.cA o.code.length a.cc).ownBlock = some k) W W2 := (((Chg.refl NoB W).alloc ob0).mono fun _ _ h => h.elim).grown hg fun j hj _ => hj
  have hb2 : Blk W2 ob OT (obArr o a) := blk_off h.blk hch (off_own h.cd (by decide))
  have hc2 : Chg (fun k => k = ob) W2 (W2.setCell ⟨ob, 5, none⟩ (.slice A2 (o.code.length + 1) c2)) := (Chg.refl (fun k => k = ob) W2).setCell (p := ⟨ob, 5, none⟩) (fun _ => rfl) _
  have hlen : (o.code ++ [x]).length = o.code.length + 1 := by simp
  have hrow : (W2.setCell ⟨ob, 5, none⟩ (.slice A2 (o.code.length + 1) c2)).ownsRow B U32T 1 (.slice A2 (o.code ++ [x]).length c2) (o.code ++ [x]).length (codeCells (o.code ++ [x])) := by
    rw [hlen, show codeCells (o.code ++ [x]) = codeCells o.code ++ [.int .u32 x] from by simp [codeCells]]
    exact own_off hown hc2 (off_blk hb2 (by decide))
  refine ⟨A2, c2, rfl, ⟨(h.rd.off hch (off_own h.cd (by decide)) (off_own h.cd (by decide))).off hc2 (off_blk hb2 (by decide)) (off_blk hb2 (by decide)), ?_, own_off (own_off h.im hch (off_own h.cd (by decide))) hc2 (off_blk hb2 (by decide)), (h.tx.off hch (off_own h.cd (by decide))).off hc2 (off_blk hb2 (by decide)), hrow, own_off (own_off h.en hch (off_own h.cd (by decide))) hc2 (off_blk hb2 (by decide)), own_off (own_off h.fx hch (off_own h.cd (by decide))) hc2 (off_blk hb2 (by decide)), h.lo⟩, hb2.frozen 5, hb2.cell 5, hch⟩
  show Blk _ _ _ (obArr { o with code := o.code ++ [x] } { a with cA := A2, cc := c2 })
  unfold obArr
  simp only [hlen]
  exact hb2.set_ 5 (.slice A2 (o.code.length + 1) c2)
theorem OfI.en_grow (h : OfI B W r ob q A c o a) {x : Int} {ob0 : Obj} {W2 : World} {v2 : Value} (hown : W2.ownsRow B INT 1 v2 (o.ents.length + 1) (entCells o.ents ++ [.int .i64 x])) (hg : (W.alloc ob0).grownBy W2 (Value.slice a.eA o.ents.length a.ec).ownBlock) :
    ∃ A2 c2, v2 = .slice A2 (o.ents.length + 1) c2 ∧ OfI B (W2.setCell ⟨ob, 6, none⟩ v2) r ob q A c { o with ents := o.ents ++ [x] } { a with eA := A2, ec := c2 } ∧ W2.frozen? ⟨ob, 6, none⟩ = false ∧ W2.cell? ⟨ob, 6, none⟩ = some (.slice a.eA o.ents.length a.ec) ∧ Chg (fun k => (Value.slice a.eA o.ents.length a.ec).ownBlock = some k) W W2 := by
  obtain ⟨A2, c2, rfl⟩ := own_slice hown
  have hch : Chg (fun k => (Value.slice a.eA o.ents.length a.ec).ownBlock = some k) W W2 := (((Chg.refl NoB W).alloc ob0).mono fun _ _ h => h.elim).grown hg fun j hj _ => hj
  have hb2 : Blk W2 ob OT (obArr o a) := blk_off h.blk hch (off_own h.en (by decide))
  have hc2 : Chg (fun k => k = ob) W2 (W2.setCell ⟨ob, 6, none⟩ (.slice A2 (o.ents.length + 1) c2)) := (Chg.refl (fun k => k = ob) W2).setCell (p := ⟨ob, 6, none⟩) (fun _ => rfl) _
  have hlen : (o.ents ++ [x]).length = o.ents.length + 1 := by simp
  have hrow : (W2.setCell ⟨ob, 6, none⟩ (.slice A2 (o.ents.length + 1) c2)).ownsRow B INT 1 (.slice A2 (o.ents ++ [x]).length c2) (o.ents ++ [x]).length (entCells (o.ents ++ [x])) := by
    rw [hlen, show entCells (o.ents ++ [x]) = entCells o.ents ++ [.int .i64 x] from by simp [entCells]]
    exact own_off hown hc2 (off_blk hb2 (by decide))
  refine ⟨A2, c2, rfl, ⟨(h.rd.off hch (off_own h.en (by decide)) (off_own h.en (by decide))).off hc2 (off_blk hb2 (by decide)) (off_blk hb2 (by decide)), ?_, own_off (own_off h.im hch (off_own h.en (by decide))) hc2 (off_blk hb2 (by decide)), (h.tx.off hch (off_own h.en (by decide))).off hc2 (off_blk hb2 (by decide)), own_off (own_off h.cd hch (off_own h.en (by decide))) hc2 (off_blk hb2 (by decide)), hrow, own_off (own_off h.fx hch (off_own h.en (by decide))) hc2 (off_blk hb2 (by decide)), h.lo⟩, hb2.frozen 6, hb2.cell 6, hch⟩
  show Blk _ _ _ (obArr { o with ents := o.ents ++ [x] } { a with eA := A2, ec := c2 })
  unfold obArr
  simp only [hlen]
  exact hb2.set_ 6 (.slice A2 (o.ents.length + 1) c2)
theorem OfI.fx_grow (h : OfI B W r ob q A c o a) {x : Int × Int × Int} {ob0 : Obj} {W2 : World} {v2 : Value} (hown : W2.ownsRow B FT 3 v2 (o.fixs.length + 1) (fixCells o.fixs ++ [.int .i64 x.1, .int .i64 x.2.1, .int .i64 x.2.2])) (hg : (W.alloc ob0).grownBy W2 (Value.slice a.fA o.fixs.length a.fc).ownBlock) :
    ∃ A2 c2, v2 = .slice A2 (o.fixs.length + 1) c2 ∧ OfI B (W2.setCell ⟨ob, 7, none⟩ v2) r ob q A c { o with fixs := o.fixs ++ [x] } { a with fA := A2, fc := c2 } ∧ W2.frozen? ⟨ob, 7, none⟩ = false ∧ W2.cell? ⟨ob, 7, none⟩ = some (.slice a.fA o.fixs.length a.fc) ∧ Chg (fun k => (Value.slice a.fA o.fixs.length a.fc).ownBlock = some k) W W2 := by
  obtain ⟨A2, c2, rfl⟩ := own_slice hown
  have hch : Chg (fun k => (Value.slice a.fA o.fixs.length a.fc).ownBlock = some k) W W2 := (((Chg.refl NoB W).alloc ob0).mono fun _ _ h => h.elim).grown hg fun j hj _ => hj
  have hb2 : Blk W2 ob OT (obArr o a) := blk_off h.blk hch (off_own h.fx (by decide))
  have hc2 : Chg (fun k => k = ob) W2 (W2.setCell ⟨ob, 7, none⟩ (.slice A2 (o.fixs.length + 1) c2)) := (Chg.refl (fun k => k = ob) W2).setCell (p := ⟨ob, 7, none⟩) (fun _ => rfl) _
  have hlen : (o.fixs ++ [x]).length = o.fixs.length + 1 := by simp
  have hrow : (W2.setCell ⟨ob, 7, none⟩ (.slice A2 (o.fixs.length + 1) c2)).ownsRow B FT 3 (.slice A2 (o.fixs ++ [x]).length c2) (o.fixs ++ [x]).length (fixCells (o.fixs ++ [x])) := by
    rw [hlen, show fixCells (o.fixs ++ [x]) = fixCells o.fixs ++ [.int .i64 x.1, .int .i64 x.2.1, .int .i64 x.2.2] from by simp [fixCells]]
    exact own_off hown hc2 (off_blk hb2 (by decide))
  refine ⟨A2, c2, rfl, ⟨(h.rd.off hch (off_own h.fx (by decide)) (off_own h.fx (by decide))).off hc2 (off_blk hb2 (by decide)) (off_blk hb2 (by decide)), ?_, own_off (own_off h.im hch (off_own h.fx (by decide))) hc2 (off_blk hb2 (by decide)), (h.tx.off hch (off_own h.fx (by decide))).off hc2 (off_blk hb2 (by decide)), own_off (own_off h.cd hch (off_own h.fx (by decide))) hc2 (off_blk hb2 (by decide)), own_off (own_off h.en hch (off_own h.fx (by decide))) hc2 (off_blk hb2 (by decide)), hrow, h.lo⟩, hb2.frozen 7, hb2.cell 7, hch⟩
  show Blk _ _ _ (obArr { o with fixs := o.fixs ++ [x] } { a with fA := A2, fc := c2 })
  unfold obArr
  simp only [hlen]
  exact hb2.set_ 7 (.slice A2 (o.fixs.length + 1) c2)
/-- the change of a row that grew -/
theorem grow_chg {base : Nat} {e : TypeId} {size n : Nat} {v : Value} {xs : List Value} {x : Obj} {W2 : World} (hg : (W.alloc x).grownBy W2 v.ownBlock) : Chg (fun k => v.ownBlock = some k) W W2 :=
  (((Chg.refl NoB W).alloc x).mono fun _ _ h => h.elim).grown hg fun j hj _ => hj
end
/-! ### numbers within their bounds -/
theorem rep_all {α : Type} {f : Rdr → α × Rdr} {P : α → Prop} (h : ∀ q, P (f q).1) : ∀ (n : Nat) (q : Rdr), ∀ x ∈ (rep f n q).1, P x
  | 0, q, x, hx => by simp [rep] at hx
  | n + 1, q, x, hx => by
    simp only [rep, List.mem_append, List.mem_singleton] at hx
    rcases hx with hx | rfl
    · exact rep_all h n q x hx
    · exact h _
theorem rep_len {α : Type} {f : Rdr → α × Rdr} : ∀ (n : Nat) (q : Rdr), (rep f n q).1.length = n
  | 0, q => rfl
  | n + 1, q => by simp [rep, rep_len n q]
theorem bytesR_le (n : Nat) (q : Rdr) : (bytesR (n, q)).1.length ≤ n := by
  unfold bytesR
  simp only
  cases hs : (someR n q).1 with
  | none => simp
  | some l =>
    unfold someR at hs
    split at hs
    · cases hs
    · split at hs
      · cases hs
      · injection hs with hs
        rw [← hs]
        simp
        omega
theorem nameR_size (q : Rdr) : (nameR q).1.size ≤ 15 := by
  unfold nameR
  have h1 := countR_le byteR 15 q
  have h2 := bytesR_le (countR byteR 15 q).1 (countR byteR 15 q).2
  show (List.toArray _).size ≤ 15
  rw [List.size_toArray]
  exact Nat.le_trans h2 h1
structure NumsOk (o : Ob) : Prop where
  nm : o.name.size ≤ 15
  key : o.key < 4294967296
  vars : 0 ≤ o.vars ∧ o.vars ≤ 262144
  inm : ∀ x ∈ o.imps, x.1.size ≤ 15 ∧ x.2 < 4294967296
  cn : ∀ x ∈ o.code, x < 4294967296
  en : ∀ x ∈ o.ents, 0 ≤ x ∧ x ≤ 16384
  fn : ∀ x ∈ o.fixs, (0 ≤ x.1 ∧ x.1 ≤ 16384) ∧ (0 ≤ x.2.1 ∧ x.2.1 < 256) ∧ (0 ≤ x.2.2 ∧ x.2.2 < 256)
theorem fixR_in (q : Rdr) : (0 ≤ (fixR q).1.1 ∧ (fixR q).1.1 ≤ 16384) ∧ (0 ≤ (fixR q).1.2.1 ∧ (fixR q).1.2.1 < 256) ∧ (0 ≤ (fixR q).1.2.2 ∧ (fixR q).1.2.2 < 256) :=
  ⟨⟨Int.natCast_nonneg _, Int.ofNat_le.2 (countR_le wordR 16384 q)⟩, ⟨Int.natCast_nonneg _, Int.ofNat_lt.2 (byteR_lt _)⟩, ⟨Int.natCast_nonneg _, Int.ofNat_lt.2 (byteR_lt _)⟩⟩
theorem entR_in (q : Rdr) : 0 ≤ (entR q).1 ∧ (entR q).1 ≤ 16384 := ⟨Int.natCast_nonneg _, Int.ofNat_le.2 (countR_le wordR 16384 q)⟩
theorem impR_in (q : Rdr) : (impR q).1.1.size ≤ 15 ∧ (impR q).1.2 < 4294967296 := ⟨nameR_size _, wordR_lt _⟩
/-! ### the reading, step by step -/
def stNm (r0 : Rdr) : ByteArray × Rdr := nameR r0
def stKy (r0 : Rdr) : Nat × Rdr := wordR (stNm r0).2
def stNi (r0 : Rdr) : Nat × Rdr := countR byteR 12 (stKy r0).2
def stIm (r0 : Rdr) : List (ByteArray × Nat) × Rdr := rep impR (stNi r0).1 (stNi r0).2
def stVr (r0 : Rdr) : Nat × Rdr := countR wordR 262144 (stIm r0).2
def stTc (r0 : Rdr) : Nat × Rdr := countR wordR 8192 (stVr r0).2
def stTx (r0 : Rdr) : List UInt8 × Rdr := bytesR (stTc r0)
def stNc (r0 : Rdr) : Nat × Rdr := countR wordR 16384 (stTx r0).2
def stCd (r0 : Rdr) : List Nat × Rdr := rep wordR (stNc r0).1 (stNc r0).2
def stNe (r0 : Rdr) : Nat × Rdr := byteR (stCd r0).2
def stEn (r0 : Rdr) : List Int × Rdr := rep entR (stNe r0).1 (stNe r0).2
def stNf (r0 : Rdr) : Nat × Rdr := countR wordR 8192 (stEn r0).2
def stFx (r0 : Rdr) : List (Int × Int × Int) × Rdr := rep fixR (stNf r0).1 (stNf r0).2
def stOb (r0 : Rdr) : Ob := ⟨(stNm r0).1, (stKy r0).1, (stIm r0).1, (stVr r0).1, (stTx r0).1, (stCd r0).1, (stEn r0).1, (stFx r0).1⟩
theorem readO_eq (r0 : Rdr) : readO r0 = (stOb r0, (stFx r0).2) := rfl
theorem stOb_nums (r0 : Rdr) : NumsOk (stOb r0) where
  nm := nameR_size _
  key := wordR_lt _
  vars := by
    have h1 : (stVr r0).1 ≤ 262144 := countR_le wordR 262144 (stIm r0).2
    have h2 : (stOb r0).vars = ((stVr r0).1 : Int) := by simp only [stOb]
    rw [h2]
    omega
  inm := by
    have h2 : (stOb r0).imps = (rep impR (stNi r0).1 (stNi r0).2).1 := by simp only [stOb, stIm]
    rw [h2]
    intro x hx
    exact rep_all (f := impR) (P := fun x : ByteArray × Nat => x.1.size ≤ 15 ∧ x.2 < 4294967296) impR_in _ _ x hx
  cn := by
    have h2 : (stOb r0).code = (rep wordR (stNc r0).1 (stNc r0).2).1 := by simp only [stOb, stCd]
    rw [h2]
    intro x hx
    exact rep_all (f := wordR) (P := fun x : Nat => x < 4294967296) (fun q => wordR_lt q) _ _ x hx
  en := by
    have h2 : (stOb r0).ents = (rep entR (stNe r0).1 (stNe r0).2).1 := by simp only [stOb, stEn]
    rw [h2]
    intro x hx
    exact rep_all (f := entR) (P := fun x : Int => 0 ≤ x ∧ x ≤ 16384) entR_in _ _ x hx
  fn := by
    have h2 : (stOb r0).fixs = (rep fixR (stNf r0).1 (stNf r0).2).1 := by simp only [stOb, stFx]
    rw [h2]
    intro x hx
    exact rep_all (f := fixR) (P := fun x : Int × Int × Int => (0 ≤ x.1 ∧ x.1 ≤ 16384) ∧ (0 ≤ x.2.1 ∧ x.2.1 < 256) ∧ (0 ≤ x.2.2 ∧ x.2.2 < 256)) fixR_in _ _ x hx
section
variable {B : Nat} {w0 W : World} {r ob : Nat} {q : Rdr} {A : Option Addr} {c : Nat} {o : Ob} {a : OA}
theorem results_cellTmp {P : Program} {fn : Func} {p q : Tmp} {tp : TypeId} (h : fn.results = #[.cell p tp, .tmp q]) (tmps : Array Value) (w : World) {g : Nat} {t : TypeId} {cs : Array Value} {d : TypeDesc}
    (hp : tmps.getD p undef = .pointer (some ⟨g, 0, none⟩)) {x : Value} (hq : tmps.getD q undef = x) (hg : Blk w g t cs)
    (hu : P.underlying tp = some d) (hd : (match d with | .struct _ | .array _ _ => true | _ => false) = true) (hi : (P.info? tp).map (·.size) = some cs.size) :
    (results fn tmps).run P w = .ok (.tuple #[.agg cs, x]) w := by
  have hp' : tmps[p]?.getD undef = .pointer (some ⟨g, 0, none⟩) := by simpa using hp
  have hq' : tmps[q]?.getD undef = x := by simpa using hq
  simp [results, h, hp', hq', asAddr, run_loadVar_row w g t tp cs (0, 0) d hg hu hd hi]
theorem Blk.rowSet {w : World} {g : Nat} {t : TypeId} {cs : Array Value} (h : Blk w g t cs) (cs' : Array Value) : Blk (w.setRow g cs') g t cs' := setRow_heap w g cs cs' t (0, 0) h
theorem Chg.rowSet {F : Nat → Prop} {a w : World} (h : Chg F a w) {b : Nat} (hb : b < a.heap.size → F b) (cs' : Array Value) : Chg F a (w.setRow b cs') :=
  ⟨h.os, h.tape, h.output, by simpa using h.size, fun i hi hn => (setRow_other w b i cs' (by rintro rfl; exact hn (hb hi))).trans (h.block i hi hn)⟩
theorem eql_bytes_ (W : World) (a : Option Addr) (n c : Nat) : (binOp .eql 22 (.slice a n c) (.slice none 0 0)).run Try.prog W = .ok (.bool a.isNone) W := Lib.run_eql_slice_nil W 22 5 a n c 0 0 Try.underlying22
theorem bclone_c (w : World) (A : Option Addr) (c : Nat) (l : List UInt8) (hl : l.length ≤ 140737488355328) (hA : A = none → l = [] ∧ c = 0) (hc : CellsAt w A (bv l)) :
    Calls Try.prog 67 #[.slice A l.length c] w fun e w' => ∃ v, e = .returned v ∧ w'.ownsRow w.heap.size 5 1 v l.length (bv l) ∧ Chg NoB w w' := by
  obtain ⟨i0, hi0, hz0, hz1, hz2⟩ := info_parts u8info
  have Hi := Go.Lib.hid (And.intro hi0 (And.intro hz0 (And.intro hz1 hz2)))
  clear hi0 hz0 hz1 hz2
  rcases A with _ | ad
  · obtain ⟨rfl, rfl⟩ := hA rfl
    have hsl := eql_bytes_ w none 0 0
    clear hc hl hA
    simp only [List.length_nil]
    go_enter Try.func67, Try.ntmps67
    go_wp2_with fail
    go_ret
    exact ⟨_, rfl, World.ownsRow_nil _ _ _ _, Chg.refl _ _⟩
  · have Hc : Hid (∀ o, CellsAt (w.alloc o) (some ad) (bv l)) := Go.Lib.hid (fun o => hc.chg ((Chg.refl NoB w).alloc o) (fun _ _ => id))
    have Hl := Go.Lib.hid hl
    have hsl := eql_bytes_ w (some ad) l.length c
    clear hc hA hl
    go_enter Try.func67, Try.ntmps67
    go_wp2_with (at_builtin; go_must (refine wpList_app _ rfl (.tmp 5) (.tmp 6) _ rfl w.heap.size 5 i0 _ 1 Try.underlying22 Hi.out.1 Hi.out.2.1 Hi.out.2.2.1 Hi.out.2.2.2 rfl (.slice (some ⟨w.heap.size, 0, none⟩) 0 0) 0 [] rfl (World.ownsRow_made w #[] 0 (Nat.le_refl _) (by unfold maxLen; omega) rfl) (some ad) l.length c (bv l) rfl (bv_length l) (Hc.out _) (bv_one _) (by have := Hl.out; unfold maxLen; omega) (by have := Hl.out; omega) (by simp) ?_); intro v1 w1 hown1 hg1 hat1)
    go_ret
    refine ⟨v1, rfl, by simpa using hown1, ((Chg.refl NoB w).alloc _).grown hg1 fun k hk hlt => ?_⟩
    simp only [Value.ownBlock, Option.some.injEq] at hk
    omega
def ob0 : Ob := ⟨⟨#[]⟩, 0, [], 0, [], [], [], []⟩
def oa0 : OA := ⟨none, 0, none, 0, none, 0, none, 0, none, 0⟩
theorem OfI.start (h : RAt W r q A c) (hB : B ≤ r) (hB2 : B ≤ W.heap.size) : OfI B (W.alloc (Obj.cells (obArr ob0 oa0) OT)) r W.heap.size q A c ob0 oa0 :=
  ⟨h.quiet ((Chg.refl NoB W).alloc _), Blk.new _ _ _, World.ownsRow_nil _ _ _ _, ⟨fun h => by simp [bv, ob0] at h, by simp [ob0, oa0, maxLen], (fun ad h => by cases h), fun ad h => by cases h⟩, World.ownsRow_nil _ _ _ _, World.ownsRow_nil _ _ _ _, World.ownsRow_nil _ _ _ _, hB, hB2⟩
theorem ofO_no {l : List UInt8} (h : ¬ (someR 2 (l, false)).1 = some [79, 49]) : ofO l = none := by unfold ofO; rw [if_neg h]
theorem ofO_in {l : List UInt8} (h : (someR 2 (l, false)).1 = some [79, 49]) : ofO l = if (readO (someR 2 (l, false)).2).2.2 = false ∧ (readO (someR 2 (l, false)).2).2.1 = [] ∧ mayO (readO (someR 2 (l, false)).2).1 = true then some (readO (someR 2 (l, false)).2).1 else none := by unfold ofO; rw [if_pos h]
theorem ofO_some {l : List UInt8} (h : (someR 2 (l, false)).1 = some [79, 49]) (h2 : (stFx (someR 2 (l, false)).2).2.2 = false ∧ (stFx (someR 2 (l, false)).2).2.1 = [] ∧ mayO (stOb (someR 2 (l, false)).2) = true) : ofO l = some (stOb (someR 2 (l, false)).2) := by
  have h3 := ofO_in h
  have h4 := readO_eq (someR 2 (l, false)).2
  generalize stOb (someR 2 (l, false)).2 = o1 at *
  generalize (stFx (someR 2 (l, false)).2).2 = r1 at *
  generalize readO (someR 2 (l, false)).2 = x at *
  subst h4
  rw [h3, if_pos h2]
theorem ofO_none {l : List UInt8} (h : (someR 2 (l, false)).1 = some [79, 49]) (h2 : ¬ ((stFx (someR 2 (l, false)).2).2.2 = false ∧ (stFx (someR 2 (l, false)).2).2.1 = [] ∧ mayO (stOb (someR 2 (l, false)).2) = true)) : ofO l = none := by
  have h3 := ofO_in h
  have h4 := readO_eq (someR 2 (l, false)).2
  generalize stOb (someR 2 (l, false)).2 = o1 at *
  generalize (stFx (someR 2 (l, false)).2).2 = r1 at *
  generalize readO (someR 2 (l, false)).2 = x at *
  subst h4
  rw [h3, if_neg h2]
theorem bytes2 (q : Rdr) : (bytesR (2, q)).1 = [79, 49] ↔ (someR 2 q).1 = some [79, 49] := by
  unfold bytesR
  simp only
  cases (someR 2 q).1 <;> simp
/-- what is read, by letters -/
structure StL (q0 : Rdr) where
  nm : ByteArray
  q1 : Rdr
  ky : Nat
  q2 : Rdr
  ni : Nat
  q3 : Rdr
  im : List (ByteArray × Nat)
  q4 : Rdr
  vr : Nat
  q5 : Rdr
  tn : Nat
  q6 : Rdr
  tx : List UInt8
  q7 : Rdr
  nc : Nat
  q8 : Rdr
  cd : List Nat
  q9 : Rdr
  ne : Nat
  q10 : Rdr
  en : List Int
  q11 : Rdr
  nf : Nat
  q12 : Rdr
  fx : List (Int × Int × Int)
  q13 : Rdr
  e1 : nameR q0 = (nm, q1)
  e2 : wordR q1 = (ky, q2)
  e3 : countR byteR 12 q2 = (ni, q3)
  e4 : rep impR ni q3 = (im, q4)
  e5 : countR wordR 262144 q4 = (vr, q5)
  e6 : countR wordR 8192 q5 = (tn, q6)
  e7 : bytesR (tn, q6) = (tx, q7)
  e8 : countR wordR 16384 q7 = (nc, q8)
  e9 : rep wordR nc q8 = (cd, q9)
  e10 : byteR q9 = (ne, q10)
  e11 : rep entR ne q10 = (en, q11)
  e12 : countR wordR 8192 q11 = (nf, q12)
  e13 : rep fixR nf q12 = (fx, q13)
  eob : stOb q0 = ⟨nm, ky, im, vr, tx, cd, en, fx⟩
  efx : (stFx q0).2 = q13
  bni : ni ≤ 12
  bnc : nc ≤ 16384
  bne : ne < 256
  bnf : nf ≤ 8192
  btn : tn ≤ 8192
def stL (q0 : Rdr) : StL q0 :=
  ⟨(stNm q0).1, (stNm q0).2, (stKy q0).1, (stKy q0).2, (stNi q0).1, (stNi q0).2, (stIm q0).1, (stIm q0).2, (stVr q0).1, (stVr q0).2, (stTc q0).1, (stTc q0).2, (stTx q0).1, (stTx q0).2, (stNc q0).1, (stNc q0).2, (stCd q0).1, (stCd q0).2, (stNe q0).1, (stNe q0).2, (stEn q0).1, (stEn q0).2, (stNf q0).1, (stNf q0).2, (stFx q0).1, (stFx q0).2,
   by simp only [stNm], by simp only [stKy], by simp only [stNi], by simp only [stIm], by simp only [stVr], by simp only [stTc], by simp only [stTx], by simp only [stNc], by simp only [stCd], by simp only [stNe], by simp only [stEn], by simp only [stNf], by simp only [stFx], by simp only [stOb], by simp only [],
   countR_le byteR 12 (stKy q0).2, countR_le wordR 16384 (stTx q0).2, byteR_lt (stCd q0).2, countR_le wordR 8192 (stEn q0).2, countR_le wordR 8192 (stVr q0).2⟩
theorem own_cap {base : Nat} {e : TypeId} {size n : Nat} {A : Option Addr} {c : Nat} {xs : List Value} (h : W.ownsRow base e size (.slice A n c) n xs) : n ≤ c ∧ c ≤ maxLen := by
  rcases h.2 with ⟨h1, h2⟩ | ⟨g, cap, cur, h1, _, _, h2, h3, _⟩
  · injection h1 with h3 h4 h5
    rw [h2, h5]
    simp [maxLen]
  · injection h1 with h4 h5 h6
    rw [h6]
    exact ⟨h2, h3⟩
theorem own_cells_ {base : Nat} {e : TypeId} {size n : Nat} {A : Option Addr} {c : Nat} {xs : List Value} (h : W.ownsRow base e size (.slice A n c) n xs) : CellsAt W A xs := by
  intro hl
  have hn : 0 < n := by
    have := h.1
    rcases Nat.eq_zero_or_pos n with h0 | h0
    · subst h0; rw [Nat.zero_mul] at this; omega
    · exact h0
  obtain ⟨g, cap, hv, _⟩ := h.form hn
  injection hv with hA
  subst hA
  exact ⟨_, rfl, h.cells rfl⟩
theorem own_tag' {base : Nat} {e : TypeId} {size n : Nat} {A : Option Addr} {c : Nat} {xs : List Value} (h : W.ownsRow base e size (.slice A n c) n xs) {ad : Addr} (ha : A = some ad) : ∃ cs fr, W.heap[ad.block]? = some (.cells cs e fr) := own_tag h (by rw [ha]; rfl)
/-- an object lies in memory in rows of its own -/
structure ObT (W : World) (o : Ob) (a : OA) : Prop where
  is_ : ObIs W o a
  tag : ∀ ad, (a.iA = some ad ∨ a.tA = some ad ∨ a.cA = some ad ∨ a.eA = some ad ∨ a.fA = some ad) → ∃ cs t fr, W.heap[ad.block]? = some (.cells cs t fr) ∧ (t = IT ∨ t = U8T ∨ t = U32T ∨ t = INT ∨ t = FT)
theorem ObT.off {W' : World} {F : Nat → Prop} (h : ObT W o a) (hc : Chg F W W') (hF : ∀ t, (t = IT ∨ t = U8T ∨ t = U32T ∨ t = INT ∨ t = FT) → Off t F W) : ObT W' o a := by
  have key : ∀ ad, (a.iA = some ad ∨ a.tA = some ad ∨ a.cA = some ad ∨ a.eA = some ad ∨ a.fA = some ad) → ¬ F ad.block := fun ad ha hFk => by
    obtain ⟨cs, t, fr, h1, h2⟩ := h.tag ad ha
    obtain ⟨cs2, u, fr2, h3, hne⟩ := hF t h2 _ hFk (Array.getElem?_eq_some_iff.1 h1).1
    rw [h1] at h3
    injection h3 with h3
    injection h3 with _ h3
    exact hne h3.symm
  have hi := h.is_
  refine ⟨⟨hi.imps.chg hc fun ad ha => key ad (.inl ha), hi.text.chg hc fun ad ha => key ad (.inr (.inl ha)), hi.code.chg hc fun ad ha => key ad (.inr (.inr (.inl ha))), hi.ents.chg hc fun ad ha => key ad (.inr (.inr (.inr (.inl ha)))), hi.fixs.chg hc fun ad ha => key ad (.inr (.inr (.inr (.inr ha)))), hi.icap, hi.tcap, hi.ccap, hi.ecap, hi.fcap, hi.nm, hi.key, hi.vars, hi.inm, hi.cn, hi.en, hi.fn⟩, fun ad ha => ?_⟩
  obtain ⟨cs, t, fr, h1, h2⟩ := h.tag ad ha
  exact ⟨cs, t, fr, (hc.block _ (Array.getElem?_eq_some_iff.1 h1).1 (key ad ha)).trans h1, h2⟩
theorem OfI.obT (h : OfI B W r ob q A c o a) (hn : NumsOk o) : ObT W o a := by
  refine ⟨⟨own_cells_ h.im, h.tx.row, own_cells_ h.cd, own_cells_ h.en, own_cells_ h.fx, own_cap h.im, h.tx.cap, own_cap h.cd, own_cap h.en, own_cap h.fx, ?_, hn.key, ?_, ?_, hn.cn, ?_, ?_⟩, fun ad ha => ?_⟩
  · have := hn.nm; unfold maxLen; omega
  · have := hn.vars; unfold isI64; omega
  · intro x hx
    have := hn.inm x hx
    exact ⟨by unfold maxLen; omega, this.2⟩
  · intro x hx
    have := hn.en x hx
    unfold isI64
    omega
  · intro x hx
    have := hn.fn x hx
    unfold isI64
    omega
  · rcases ha with ha | ha | ha | ha | ha
    · obtain ⟨cs, fr, h1⟩ := own_tag' h.im ha
      exact ⟨cs, _, fr, h1, .inl rfl⟩
    · obtain ⟨cs, fr, h1⟩ := h.tx.tag ad ha
      exact ⟨cs, _, fr, h1, .inr (.inl rfl)⟩
    · obtain ⟨cs, fr, h1⟩ := own_tag' h.cd ha
      exact ⟨cs, _, fr, h1, .inr (.inr (.inl rfl))⟩
    · obtain ⟨cs, fr, h1⟩ := own_tag' h.en ha
      exact ⟨cs, _, fr, h1, .inr (.inr (.inr (.inl rfl)))⟩
    · obtain ⟨cs, fr, h1⟩ := own_tag' h.fx ha
      exact ⟨cs, _, fr, h1, .inr (.inr (.inr (.inr rfl)))⟩
theorem off_ot {g : Nat} {cs : Array Value} (h : Blk W g OT cs) : ∀ t, (t = IT ∨ t = U8T ∨ t = U32T ∨ t = INT ∨ t = FT) → Off t (fun k => k = g) W := fun t ht => by
  rcases ht with rfl | rfl | rfl | rfl | rfl
  · exact off_blk h (by decide)
  · exact off_blk h (by decide)
  · exact off_blk h (by decide)
  · exact off_blk h (by decide)
  · exact off_blk h (by decide)
def OfPost (l : List UInt8) (w : World) (e : Ending) (w' : World) : Prop :=
  Chg NoB w w' ∧ ((ofO l = none ∧ e = .returned (.tuple #[obVal ob0 oa0, .int .i64 4])) ∨ ∃ o a, ofO l = some o ∧ e = .returned (.tuple #[obVal o a, .int .i64 0]) ∧ ObT w' o a)
set_option maxRecDepth 100000 in
set_option maxHeartbeats 32000000 in
theorem of_c {w0 : World} {A0 : Option Addr} {c0 : Nat} {l : List UInt8} (hl : l.length ≤ 1000000000) (hA0 : A0 = none → l = [] ∧ c0 = 0) (hrow : CellsAt w0 A0 (bv l)) :
    Calls Try.prog 37 #[.slice A0 l.length c0] w0 (OfPost l w0) := by
  obtain ⟨wA, hwA⟩ : ∃ wA, w0.alloc (Obj.cells (obArr ob0 oa0) OT) = wA := ⟨_, rfl⟩
  have hCA : Chg NoB w0 wA := by rw [← hwA]; exact (Chg.refl NoB w0).alloc _
  have hBA : Blk wA w0.heap.size OT (obArr ob0 oa0) := by rw [← hwA]; exact Blk.new _ _ _
  have HCL := Go.Lib.hid (bclone_c wA A0 c0 l (by omega) hA0 (hrow.chg hCA fun _ _ => id))
  have HL := Go.Lib.hid hl
  have HA := Go.Lib.hid (And.intro hCA hBA)
  have HwA := Go.Lib.hid hwA
  clear hl hA0 hrow hCA hBA hwA
  go_enter Try.func37, Try.ntmps37
  go_wp2_with fail
  change Calls _ _ _ (w0.alloc (Obj.cells (obArr ob0 oa0) OT)) _
  rw [HwA.out]
  clear HwA
  refine HCL.out.mono ?_
  rintro e w1 ⟨v1, rfl, own1, hc1⟩
  obtain ⟨A1, c1, rfl⟩ := own_slice own1
  have hra : RAt (w1.alloc (Obj.cells #[.slice A1 l.length c1, .bool false] RT)) w1.heap.size (l, false) A1 c1 := by
    have hq : Chg NoB w1 (w1.alloc (Obj.cells #[.slice A1 l.length c1, .bool false] RT)) := (Chg.refl NoB w1).alloc _
    refine ⟨Blk.new _ _ _, (CellsAt.of_own own1).chg hq fun _ _ => id, ?_, fun ad ha => ?_, fun ad ha => ?_⟩
    · rcases own1.2 with ⟨h1, h2⟩ | ⟨g, cap, cur, h1, _, _, h2, h3, _⟩
      · injection h1 with h3 h4 h5
        show l.length ≤ c1 ∧ c1 ≤ maxLen
        rw [h2, h5]
        simp [maxLen]
      · injection h1 with h4 h5 h6
        show l.length ≤ c1 ∧ c1 ≤ maxLen
        rw [h6]
        exact ⟨h2, h3⟩
    · rcases own1.2 with ⟨h1, h2⟩ | ⟨g, cap, cur, h1, _, hh, _⟩
      · injection h1 with h3; rw [h3] at ha; cases ha
      · injection h1 with h4
        rw [h4] at ha
        injection ha with ha
        subst ha
        have := (Array.getElem?_eq_some_iff.1 hh).1
        exact ⟨rfl, by simp; omega, by simp; omega⟩
    · rcases own1.2 with ⟨h1, h2⟩ | ⟨g, cap, cur, h1, _, hh, _⟩
      · injection h1 with h3; rw [h3] at ha; cases ha
      · injection h1 with h4
        rw [h4] at ha
        injection ha with ha
        subst ha
        have hlt := (Array.getElem?_eq_some_iff.1 hh).1
        exact ⟨cur, _, (hq.block g hlt id).trans hh⟩
  have HC2 := Go.Lib.hid (hc1.trans ((Chg.refl NoB w1).alloc (Obj.cells #[.slice A1 l.length c1, .bool false] RT)))
  have HR2 := Go.Lib.hid hra
  have hrlt : wA.heap.size ≤ w1.heap.size := hc1.size
  clear own1 hc1 hra HCL
  go_wp2_with fail
  have hsb := some_bytes HR2.out 2 (by omega)
  refine hsb.mono ?_
  clear hsb
  rintro e w3 ⟨A3, c3, Bb, d, rfl, hb, hr, hc⟩
  have ht := run_text (w := w3) (l := (bytesR (2, (l, false))).1) (c := d) rfl hb.row
  have HR3 := Go.Lib.hid (And.intro hr (HC2.out.step hc fun i hi e => by subst e; omega))
  have HB2 := Go.Lib.hid (bytes2 (l, false))
  have HOF : Hid ((someR 2 (l, false)).1 = some [79, 49] → (((stFx (someR 2 (l, false)).2).2.2 = false ∧ (stFx (someR 2 (l, false)).2).2.1 = [] ∧ mayO (stOb (someR 2 (l, false)).2) = true) → ofO l = some (stOb (someR 2 (l, false)).2)) ∧ (¬ ((stFx (someR 2 (l, false)).2).2.2 = false ∧ (stFx (someR 2 (l, false)).2).2.1 = [] ∧ mayO (stOb (someR 2 (l, false)).2) = true) → ofO l = none)) := Go.Lib.hid fun h => ⟨ofO_some h, ofO_none h⟩
  have HON := Go.Lib.hid (@ofO_no l)
  have hbe : (bytesR (2, (l, false))).2 = (someR 2 (l, false)).2 := rfl
  rw [hbe] at HR3
  have HRL := Go.Lib.hid hrlt
  generalize (bytesR (2, (l, false))).1 = t2 at *
  generalize (someR 2 (l, false)).2 = q0 at *
  clear hb hr hc hbe HR2 HC2 hrlt
  generalize w1.heap.size = r at *
  by_cases h2 : t2 = [79, 49]
  · have hs2 := HOF.out (HB2.out.1 h2)
    have HS2 := Go.Lib.hid hs2
    subst h2
    clear hs2 HOF HON HB2
    simp only [List.length_cons, List.length_nil] at ht ⊢
    have hbe : ((⟨#[79, 49]⟩ : ByteArray).toList == (⟨#[79, 49]⟩ : ByteArray).toList) = true := by simp
    go_wp2_with fail
    clear ht hbe
    have hI := OfI.start (B := wA.heap.size) HR3.out.1 HRL.out HR3.out.2.size
    have hC : Chg NoB wA (w3.alloc (Obj.cells (obArr ob0 oa0) OT)) := HR3.out.2.alloc _
    change Calls _ _ _ (w3.alloc (Obj.cells (obArr ob0 oa0) OT)) _
    generalize w3.alloc (Obj.cells (obArr ob0 oa0) OT) = w4 at *
    generalize w3.heap.size = ob at *
    clear HR3
    have HI := Go.Lib.hid hI
    have HC := Go.Lib.hid hC
    clear hI hC
    obtain ⟨nm, q1, ky, q2, ni, q3, im, q4, vr, q5, tn, q6, tx, q7, nc, q8, cd, q9, ne, q10, en, q11, nf, q12, fx, q13, e1, e2, e3, e4, e5, e6, e7, e8, e9, e10, e11, e12, e13, eob, efx, bni, bnc, bne, bnf, btn⟩ := stL q0
    have hs2 := HS2.out
    have hnums := stOb_nums q0
    rw [eob, efx] at hs2
    rw [eob] at hnums
    have HS := Go.Lib.hid hs2
    have HNums := Go.Lib.hid hnums
    have Bni := Go.Lib.hid bni
    have Bnc := Go.Lib.hid bnc
    have Bne := Go.Lib.hid bne
    have Bnf := Go.Lib.hid bnf
    have Btn := Go.Lib.hid btn
    have X1 := Go.Lib.hid e1
    have X2 := Go.Lib.hid e2
    have X3 := Go.Lib.hid e3
    have X4 := Go.Lib.hid e4
    have X5 := Go.Lib.hid e5
    have X6 := Go.Lib.hid e6
    have X7 := Go.Lib.hid e7
    have X8 := Go.Lib.hid e8
    have X9 := Go.Lib.hid e9
    have X10 := Go.Lib.hid e10
    have X11 := Go.Lib.hid e11
    have X12 := Go.Lib.hid e12
    have X13 := Go.Lib.hid e13
    clear HS2 hs2 hnums bni bnc bne bnf btn eob efx e1 e2 e3 e4 e5 e6 e7 e8 e9 e10 e11 e12 e13
    have hcall := name_c HI.out.rd
    rw [X1.out] at hcall

    simp only at hcall
    refine hcall.mono ?_
    clear hcall
    rintro e v1 ⟨A1, c1, rfl, hr, hc⟩
    have hI := HI.out.read hr hc
    have hC := HC.out.step hc fun i hi e => by subst e; have := HI.out.lo.1; omega
    have x0 := hI.blk.cell 0
    have z0 := hI.blk.frozen 0
    have HI1 := Go.Lib.hid (hI.name nm)
    have HC1 := Go.Lib.hid (hC.setCell (p := ⟨ob, 0, none⟩) (fun h => by have := hI.lo.2; simp at h; omega) (.string nm))
    clear hr hc hC hI
    go_wp2_with fail
    clear x0 z0
    generalize v1.setCell ⟨ob, 0, none⟩ (.string nm) = u1 at *
    have hcall := word_c HI1.out.rd
    rw [X2.out] at hcall
    unfold NumPost at hcall
    simp only at hcall
    refine hcall.mono ?_
    clear hcall
    rintro e v2 ⟨A2, c2, rfl, hr, hc⟩
    have hI := HI1.out.read hr hc
    have hC := HC1.out.step hc fun i hi e => by subst e; have := HI1.out.lo.1; omega
    have x0 := hI.blk.cell 1
    have z0 := hI.blk.frozen 1
    have HI2 := Go.Lib.hid (hI.key ky)
    have HC2 := Go.Lib.hid (hC.setCell (p := ⟨ob, 1, none⟩) (fun h => by have := hI.lo.2; simp at h; omega) (.int .u32 (ky : Int)))
    clear hr hc hC hI
    go_wp2_with fail
    clear x0 z0
    generalize v2.setCell ⟨ob, 1, none⟩ (.int .u32 (ky : Int)) = u2 at *
    have hcall := count_small HI2.out.rd 12 (by decide)
    rw [X3.out] at hcall
    unfold NumPost at hcall
    simp only at hcall
    refine hcall.mono ?_
    clear hcall
    rintro e v3 ⟨A3, c3, rfl, hr, hc⟩
    have hI := HI2.out.read hr hc
    have hC := HC2.out.step hc fun i hi e => by subst e; have := HI2.out.lo.1; omega
    have HI3 := Go.Lib.hid hI
    have HC3 := Go.Lib.hid hC
    clear hr hc hC hI
    go_wp2_with fail
    obtain ⟨i0, hi0, hz0, hz1, hz2⟩ := info_parts itinfo
    have Hi := Go.Lib.hid (And.intro hi0 (And.intro hz0 (And.intro hz1 hz2)))
    clear hi0 hz0 hz1 hz2
    have hbnd := Bni.out
    go_loopw [25] (fun v25 wr => ∃ (k : Nat) (A : Option Addr) (c : Nat) (a : OA), k ≤ ni ∧ v25 = .int .i64 k ∧ OfI wA.heap.size wr r ob (rep impR k q3).2 A c ⟨nm, ky, (rep impR k q3).1, 0, [], [], [], []⟩ a ∧ Chg NoB wA wr) (fun v25 _ => ni - (intOf v25).toNat)
    case atStart => exact ⟨0, _, _, _, Nat.zero_le _, rfl, HI3.out, HC3.out⟩
    case round =>
      obtain ⟨k, A, c, a, hk, rfl, hI, hC⟩ := hrel
      by_cases hlt : k < ni
      · obtain ⟨⟨l, qk⟩, hlk⟩ : ∃ x, rep impR k q3 = x := ⟨_, rfl⟩
        have hll : l.length = k := by have := rep_len (f := impR) k q3; rw [hlk] at this; exact this
        have HLN : Hid (l.length ≤ 16384) := Go.Lib.hid (by rw [hll]; have := Bni.out; omega)
        obtain ⟨⟨nm', qa⟩, hE1⟩ : ∃ x, nameR qk = x := ⟨_, rfl⟩
        obtain ⟨⟨ky', qb⟩, hE2⟩ : ∃ x, wordR qa = x := ⟨_, rfl⟩
        have hE : impR qk = ((nm', ky'), qb) := by simp only [impR, hE1, hE2]
        have E1 := Go.Lib.hid hE1
        have E2 := Go.Lib.hid hE2
        clear hE1 hE2
        have HREP : Hid (rep impR (k + 1) q3 = (l ++ [(nm', ky')], qb)) := Go.Lib.hid (by
          show ((rep impR k q3).1 ++ [(impR (rep impR k q3).2).1], (impR (rep impR k q3).2).2) = _
          rw [hlk]
          show (l ++ [(impR qk).1], (impR qk).2) = _
          rw [hE])
        rw [hlk] at hI
        simp only at hI
        have HI0 := Go.Lib.hid (hI.quiet (Chg.refl NoB wr).drew)
        have HC0 := Go.Lib.hid hC.drew
        clear hI hC hlk hll hE
        go_wp2_with fail
        refine regionT 10 (fun V' => V'.cell? ⟨ob, 2, none⟩ = some (.slice a.iA l.length a.ic)) (by kernel_rfl) (by decide) (HI0.out.blk.cell 2) (fun inv hHeld => ?_)
        refine tkT 0 27 ?v1036 inv hHeld ?h1036 ?_
        case h1036 => (intro V' hSw; go_simp; try with_reducible rfl)
        clear inv; intro inv; try simp only [sw1, sw2, sw3]
        refine tkT 1 28 ?v1037 inv hHeld ?h1037 ?_
        case h1037 => (intro V' hSw; go_simp; try with_reducible rfl)
        clear inv; intro inv; try simp only [sw1, sw2, sw3]
        refine tkT 2 29 ?v1038 inv hHeld ?h1038 ?_
        case h1038 => (intro V' hSw; go_simp; try with_reducible rfl)
        clear inv; intro inv; try simp only [sw1, sw2, sw3]
        refine tkT 4 31 ?v1039 inv hHeld ?h1039 ?_
        case h1039 => (intro V' hSw; go_simp; try with_reducible rfl)
        clear inv; intro inv; try simp only [sw1, sw2, sw3]
        have hcall1 := name_c HI0.out.rd
        rw [E1.out] at hcall1
        try unfold NumPost at hcall1
        simp only at hcall1
        refine callT (i := 3) (t := 30) (f := 69) (args := #[.pointer (some ⟨r, 0, none⟩)]) rfl (by kernel_rfl) rfl (by rfl) ?hx5 inv (by decide) ?hc5
        case hx5 => (go_simp; try rfl)
        case hc5 =>
          refine hcall1.mono ?_
          rintro e w1x ⟨A1, c1, rfl, hr, hc⟩
          have HI1 := Go.Lib.hid (HI0.out.read hr hc)
          have HC1 := Go.Lib.hid (HC0.out.step hc fun i hi e => by subst e; have := HI0.out.lo.1; omega)
          refine ⟨_, rfl, HI1.out.blk.cell 2, fun inv2 hHeld2 => ?_⟩
          clear inv hHeld hr hc hcall1
          have inv := inv2
          have hHeld := hHeld2
          clear inv2 hHeld2
          simp only
          try simp only [sw1, sw2, sw3]
          have hcall2 := word_c HI1.out.rd
          rw [E2.out] at hcall2
          try unfold NumPost at hcall2
          simp only at hcall2
          refine callT (i := 5) (t := 32) (f := 70) (args := #[.pointer (some ⟨r, 0, none⟩)]) rfl (by kernel_rfl) rfl (by rfl) ?hx6 inv (by decide) ?hc6
          case hx6 => (go_simp; try rfl)
          case hc6 =>
            refine hcall2.mono ?_
            rintro e w2x ⟨A2, c2, rfl, hr, hc⟩
            have HI2 := Go.Lib.hid (HI1.out.read hr hc)
            have HC2 := Go.Lib.hid (HC1.out.step hc fun i hi e => by subst e; have := HI1.out.lo.1; omega)
            refine ⟨_, rfl, HI2.out.blk.cell 2, fun inv2 hHeld2 => ?_⟩
            clear inv hHeld hr hc hcall2
            have inv := inv2
            have hHeld := hHeld2
            clear inv2 hHeld2
            simp only
            try simp only [sw1, sw2, sw3]
            refine tkT 6 33 ?v1040 inv hHeld ?h1040 ?_
            case h1040 => (intro V' hSw; go_simp; try with_reducible rfl)
            clear inv; intro inv; try simp only [sw1, sw2, sw3]
            refine valT (i := 7) (t := 34) (v := .slice (some ⟨w2x.heap.size, 0, none⟩) 1 1) (w' := w2x.alloc (.cells #[.string nm', .int .u32 (ky' : Int)] IT)) rfl (by kernel_rfl) rfl (by rfl) ?hxb inv (by decide) ((HI2.out.quiet ((Chg.refl NoB w2x).alloc _)).blk.cell 2) ?rb
            case hxb => (go_simp; try rfl)
            case rb =>
              intro inv2 hHeld2
              clear inv hHeld
              have inv := inv2
              have hHeld := hHeld2
              clear inv2 hHeld2
              try simp only [sw1, sw2, sw3]
              refine wpT (i := 8) rfl (by kernel_rfl) (by rfl) inv (by decide) (fun inv2 => ?_)
              clear inv
              have inv := inv2
              clear inv2
              refine wp_appK _ (.tmp 28) (.tmp 34) _ rfl wA.heap.size IT i0 (.agg #[.string ⟨#[]⟩, .int .u32 0]) 2 24 Try.underlying47 Hi.out.1 Hi.out.2.1 Hi.out.2.2.1 Hi.out.2.2.2 rfl (by decide) (.slice a.iA l.length a.ic) l.length (impCells l) (by rfl) ((HI2.out.quiet ((Chg.refl NoB w2x).alloc _)).im) (some ⟨w2x.heap.size, 0, none⟩) 1 1 [.string nm', .int .u32 (ky' : Int)] (by rfl) rfl (cells_of_blk (Blk.new w2x _ _)) (by simp [Value.oneCell']) (by have := HLN.out; unfold maxLen; omega) (by have := HLN.out; omega) (by have := HC2.out.size; simp; omega) ?_
              intro v2 w2 own2 gr2 _
              obtain ⟨Ar, cr, rfl, hI3, hfr, hcl, hch⟩ := HI2.out.im_grow (x := (nm', ky')) own2 gr2
              have HI9 := Go.Lib.hid hI3
              have HC9 := Go.Lib.hid ((HC2.out.step hch fun i hi hk => by have := (HI2.out.im.lt i hk).1; omega).setCell (p := ⟨ob, 2, none⟩) (fun h => by have := HI2.out.lo.2; simp at h; omega) (.slice Ar (l.length + 1) cr))
              clear own2 gr2 hI3 hch
              refine ⟨fun _ => hcl, ?_⟩
              clear hHeld
              have hHeld := hcl
              try simp only [sw1, sw2, sw3]
              refine tkT 9 36 ?v1041 inv hHeld ?h1041 ?_
              case h1041 => (intro V' hSw; go_simp; try with_reducible rfl)
              clear inv; intro inv; try simp only [sw1, sw2, sw3]
              refine lastT (i := 10) (w' := w2.setCell ⟨ob, 2, none⟩ (.slice Ar (l.length + 1) cr)) rfl (by kernel_rfl) rfl (by rfl) ?hxl (by decide) (by kernel_rfl) ?_
              case hxl => (go_simp; try with_reducible rfl)
              clear inv hHeld hcl hfr
              go_wp2_with fail
              go_roundw
              case rel => exact ⟨k + 1, A2, c2, _, by omega, by go_num, by rw [HREP.out]; exact HI9.out, HC9.out⟩
              case measure => simp [intOf]; omega
      · obtain rfl : k = ni := by omega
        rw [X4.out] at hI
        simp only at hI
        have HI4 := Go.Lib.hid hI
        have HC4 := Go.Lib.hid hC
        clear hI hC hlt hk hbnd
        go_wp2_with fail
        have hcall := count_word HI4.out.rd 262144 (by decide)
        rw [X5.out] at hcall
        unfold NumPost at hcall
        simp only at hcall
        refine hcall.mono ?_
        clear hcall
        rintro e v5 ⟨A5, c5, rfl, hr, hc⟩
        have hI := HI4.out.read hr hc
        have hC := HC4.out.step hc fun i hi e => by subst e; have := HI4.out.lo.1; omega
        have x0 := hI.blk.cell 3
        have z0 := hI.blk.frozen 3
        have HI5 := Go.Lib.hid (hI.vars (vr : Int))
        have HC5 := Go.Lib.hid (hC.setCell (p := ⟨ob, 3, none⟩) (fun h => by have := hI.lo.2; simp at h; omega) (.int .i64 (vr : Int)))
        clear hr hc hC hI
        go_wp2_with fail
        clear x0 z0
        generalize v5.setCell ⟨ob, 3, none⟩ (.int .i64 (vr : Int)) = u5 at *
        have hcall := count_word HI5.out.rd 8192 (by decide)
        rw [X6.out] at hcall
        unfold NumPost at hcall
        simp only at hcall
        refine hcall.mono ?_
        clear hcall
        rintro e v6 ⟨A6, c6, rfl, hr, hc⟩
        have hI := HI5.out.read hr hc
        have hC := HC5.out.step hc fun i hi e => by subst e; have := HI5.out.lo.1; omega
        have HI6 := Go.Lib.hid hI
        have HC6 := Go.Lib.hid hC
        clear hr hc hC hI
        go_wp2_with fail
        have hcall := some_bytes HI6.out.rd tn (by have := Btn.out; omega)
        rw [X7.out] at hcall
        unfold BytesPost at hcall
        simp only at hcall
        refine hcall.mono ?_
        clear hcall
        rintro e v7 ⟨A7, c7, tA, td, rfl, hbr, hr, hc⟩
        have hI := HI6.out.read hr hc
        have hC := HC6.out.step hc fun i hi e => by subst e; have := HI6.out.lo.1; omega
        have x0 := hI.blk.cell 4
        have z0 := hI.blk.frozen 4
        have HI7 := Go.Lib.hid (hI.text hbr)
        have HC7 := Go.Lib.hid (hC.setCell (p := ⟨ob, 4, none⟩) (fun h => by have := hI.lo.2; simp at h; omega) (.slice tA tx.length td))
        clear hr hc hC hI
        go_wp2_with fail
        clear x0 z0
        generalize v7.setCell ⟨ob, 4, none⟩ (.slice tA tx.length td) = u7 at *
        have hcall := count_word HI7.out.rd 16384 (by decide)
        rw [X8.out] at hcall
        unfold NumPost at hcall
        simp only at hcall
        refine hcall.mono ?_
        clear hcall
        rintro e v8 ⟨A8, c8, rfl, hr, hc⟩
        have hI := HI7.out.read hr hc
        have hC := HC7.out.step hc fun i hi e => by subst e; have := HI7.out.lo.1; omega
        have HI8 := Go.Lib.hid hI
        have HC8 := Go.Lib.hid hC
        clear hr hc hC hI
        go_wp2_with fail
        obtain ⟨i0, hi0, hz0, hz1, hz2⟩ := info_parts u32info
        have Hi := Go.Lib.hid (And.intro hi0 (And.intro hz0 (And.intro hz1 hz2)))
        clear hi0 hz0 hz1 hz2
        have hbnd := Bnc.out
        go_loopw [54] (fun v25 wr => ∃ (k : Nat) (A : Option Addr) (c : Nat) (a : OA), k ≤ nc ∧ v25 = .int .i64 k ∧ OfI wA.heap.size wr r ob (rep wordR k q8).2 A c ⟨nm, ky, im, (vr : Int), tx, (rep wordR k q8).1, [], []⟩ a ∧ Chg NoB wA wr) (fun v25 _ => nc - (intOf v25).toNat)
        case atStart => exact ⟨0, _, _, _, Nat.zero_le _, rfl, HI8.out, HC8.out⟩
        case round =>
          obtain ⟨k, A, c, a, hk, rfl, hI, hC⟩ := hrel
          by_cases hlt : k < nc
          · obtain ⟨⟨l, qk⟩, hlk⟩ : ∃ x, rep wordR k q8 = x := ⟨_, rfl⟩
            have hll : l.length = k := by have := rep_len (f := wordR) k q8; rw [hlk] at this; exact this
            have HLN : Hid (l.length ≤ 16384) := Go.Lib.hid (by rw [hll]; have := Bnc.out; omega)
            obtain ⟨⟨x', qb⟩, hE⟩ : ∃ x, wordR qk = x := ⟨_, rfl⟩
            have E1 := Go.Lib.hid hE
            have HREP : Hid (rep wordR (k + 1) q8 = (l ++ [x'], qb)) := Go.Lib.hid (by
              show ((rep wordR k q8).1 ++ [(wordR (rep wordR k q8).2).1], (wordR (rep wordR k q8).2).2) = _
              rw [hlk]
              show (l ++ [(wordR qk).1], (wordR qk).2) = _
              rw [hE])
            rw [hlk] at hI
            simp only at hI
            have HI0 := Go.Lib.hid (hI.quiet (Chg.refl NoB wr).drew)
            have HC0 := Go.Lib.hid hC.drew
            clear hI hC hlk hll hE
            go_wp2_with fail
            refine regionT 7 (fun V' => V'.cell? ⟨ob, 5, none⟩ = some (.slice a.cA l.length a.cc)) (by kernel_rfl) (by decide) (HI0.out.blk.cell 5) (fun inv hHeld => ?_)
            refine tkT 0 56 ?v1042 inv hHeld ?h1042 ?_
            case h1042 => (intro V' hSw; go_simp; try with_reducible rfl)
            clear inv; intro inv; try simp only [sw1, sw2, sw3]
            refine tkT 1 57 ?v1043 inv hHeld ?h1043 ?_
            case h1043 => (intro V' hSw; go_simp; try with_reducible rfl)
            clear inv; intro inv; try simp only [sw1, sw2, sw3]
            refine tkT 2 58 ?v1044 inv hHeld ?h1044 ?_
            case h1044 => (intro V' hSw; go_simp; try with_reducible rfl)
            clear inv; intro inv; try simp only [sw1, sw2, sw3]
            have hcall1 := word_c HI0.out.rd
            rw [E1.out] at hcall1
            try unfold NumPost at hcall1
            simp only at hcall1
            refine callT (i := 3) (t := 59) (f := 70) (args := #[.pointer (some ⟨r, 0, none⟩)]) rfl (by kernel_rfl) rfl (by rfl) ?hx15 inv (by decide) ?hc15
            case hx15 => (go_simp; try rfl)
            case hc15 =>
              refine hcall1.mono ?_
              rintro e w1x ⟨A1, c1, rfl, hr, hc⟩
              have HI1 := Go.Lib.hid (HI0.out.read hr hc)
              have HC1 := Go.Lib.hid (HC0.out.step hc fun i hi e => by subst e; have := HI0.out.lo.1; omega)
              refine ⟨_, rfl, HI1.out.blk.cell 5, fun inv2 hHeld2 => ?_⟩
              clear inv hHeld hr hc hcall1
              have inv := inv2
              have hHeld := hHeld2
              clear inv2 hHeld2
              simp only
              try simp only [sw1, sw2, sw3]
              refine valT (i := 4) (t := 60) (v := .slice (some ⟨w1x.heap.size, 0, none⟩) 1 1) (w' := w1x.alloc (.cells #[.int .u32 (x' : Int)] U32T)) rfl (by kernel_rfl) rfl (by rfl) ?hxb inv (by decide) ((HI1.out.quiet ((Chg.refl NoB w1x).alloc _)).blk.cell 5) ?rb
              case hxb => (go_simp; try rfl)
              case rb =>
                intro inv2 hHeld2
                clear inv hHeld
                have inv := inv2
                have hHeld := hHeld2
                clear inv2 hHeld2
                try simp only [sw1, sw2, sw3]
                refine wpT (i := 5) rfl (by kernel_rfl) (by rfl) inv (by decide) (fun inv2 => ?_)
                clear inv
                have inv := inv2
                clear inv2
                refine wp_appK _ (.tmp 57) (.tmp 60) _ rfl wA.heap.size U32T i0 (.int .u32 0) 1 4 Try.underlying33 Hi.out.1 Hi.out.2.1 Hi.out.2.2.1 Hi.out.2.2.2 rfl (by decide) (.slice a.cA l.length a.cc) l.length (codeCells l) (by rfl) ((HI1.out.quiet ((Chg.refl NoB w1x).alloc _)).cd) (some ⟨w1x.heap.size, 0, none⟩) 1 1 [.int .u32 (x' : Int)] (by rfl) rfl (cells_of_blk (Blk.new w1x _ _)) (by simp [Value.oneCell']) (by have := HLN.out; unfold maxLen; omega) (by have := HLN.out; omega) (by have := HC1.out.size; simp; omega) ?_
                intro v2 w2 own2 gr2 _
                obtain ⟨Ar, cr, rfl, hI3, hfr, hcl, hch⟩ := HI1.out.cd_grow (x := x') own2 gr2
                have HI9 := Go.Lib.hid hI3
                have HC9 := Go.Lib.hid ((HC1.out.step hch fun i hi hk => by have := (HI1.out.cd.lt i hk).1; omega).setCell (p := ⟨ob, 5, none⟩) (fun h => by have := HI1.out.lo.2; simp at h; omega) (.slice Ar (l.length + 1) cr))
                clear own2 gr2 hI3 hch
                refine ⟨fun _ => hcl, ?_⟩
                clear hHeld
                have hHeld := hcl
                try simp only [sw1, sw2, sw3]
                refine tkT 6 62 ?v1045 inv hHeld ?h1045 ?_
                case h1045 => (intro V' hSw; go_simp; try with_reducible rfl)
                clear inv; intro inv; try simp only [sw1, sw2, sw3]
                refine lastT (i := 7) (w' := w2.setCell ⟨ob, 5, none⟩ (.slice Ar (l.length + 1) cr)) rfl (by kernel_rfl) rfl (by rfl) ?hxl (by decide) (by kernel_rfl) ?_
                case hxl => (go_simp; try with_reducible rfl)
                clear inv hHeld hcl hfr
                go_wp2_with fail
                go_roundw
                case rel => exact ⟨k + 1, A1, c1, _, by omega, by go_num, by rw [HREP.out]; exact HI9.out, HC9.out⟩
                case measure => simp [intOf]; omega
          · obtain rfl : k = nc := by omega
            rw [X9.out] at hI
            simp only at hI
            have HI9 := Go.Lib.hid hI
            have HC9 := Go.Lib.hid hC
            clear hI hC hlt hk hbnd
            go_wp2_with fail
            have hcall := byte_c HI9.out.rd
            rw [X10.out] at hcall
            unfold NumPost at hcall
            simp only at hcall
            refine hcall.mono ?_
            clear hcall
            rintro e v10 ⟨A10, c10, rfl, hr, hc⟩
            have hI := HI9.out.read hr hc
            have hC := HC9.out.step hc fun i hi e => by subst e; have := HI9.out.lo.1; omega
            have HI10 := Go.Lib.hid hI
            have HC10 := Go.Lib.hid hC
            clear hr hc hC hI
            go_wp2_with fail
            obtain ⟨i0, hi0, hz0, hz1, hz2⟩ := info_parts intinfo
            have Hi := Go.Lib.hid (And.intro hi0 (And.intro hz0 (And.intro hz1 hz2)))
            clear hi0 hz0 hz1 hz2
            have hbnd := Bne.out
            go_loopw [66] (fun v25 wr => ∃ (k : Nat) (A : Option Addr) (c : Nat) (a : OA), k ≤ ne ∧ v25 = .int .i64 k ∧ OfI wA.heap.size wr r ob (rep entR k q10).2 A c ⟨nm, ky, im, (vr : Int), tx, cd, (rep entR k q10).1, []⟩ a ∧ Chg NoB wA wr) (fun v25 _ => ne - (intOf v25).toNat)
            case atStart => exact ⟨0, _, _, _, Nat.zero_le _, rfl, HI10.out, HC10.out⟩
            case round =>
              obtain ⟨k, A, c, a, hk, rfl, hI, hC⟩ := hrel
              by_cases hlt : k < ne
              · obtain ⟨⟨l, qk⟩, hlk⟩ : ∃ x, rep entR k q10 = x := ⟨_, rfl⟩
                have hll : l.length = k := by have := rep_len (f := entR) k q10; rw [hlk] at this; exact this
                have HLN : Hid (l.length ≤ 16384) := Go.Lib.hid (by rw [hll]; have := Bne.out; omega)
                obtain ⟨⟨x', qb⟩, hE1⟩ : ∃ x, countR wordR 16384 qk = x := ⟨_, rfl⟩
                have hE : entR qk = ((x' : Int), qb) := by simp only [entR, hE1]
                have E1 := Go.Lib.hid hE1
                clear hE1
                have HREP : Hid (rep entR (k + 1) q10 = (l ++ [(x' : Int)], qb)) := Go.Lib.hid (by
                  show ((rep entR k q10).1 ++ [(entR (rep entR k q10).2).1], (entR (rep entR k q10).2).2) = _
                  rw [hlk]
                  show (l ++ [(entR qk).1], (entR qk).2) = _
                  rw [hE])
                rw [hlk] at hI
                simp only at hI
                have HI0 := Go.Lib.hid (hI.quiet (Chg.refl NoB wr).drew)
                have HC0 := Go.Lib.hid hC.drew
                clear hI hC hlk hll hE
                go_wp2_with fail
                refine regionT 9 (fun V' => V'.cell? ⟨ob, 6, none⟩ = some (.slice a.eA l.length a.ec)) (by kernel_rfl) (by decide) (HI0.out.blk.cell 6) (fun inv hHeld => ?_)
                refine tkT 0 68 ?v1046 inv hHeld ?h1046 ?_
                case h1046 => (intro V' hSw; go_simp; try with_reducible rfl)
                clear inv; intro inv; try simp only [sw1, sw2, sw3]
                refine tkT 1 69 ?v1047 inv hHeld ?h1047 ?_
                case h1047 => (intro V' hSw; go_simp; try with_reducible rfl)
                clear inv; intro inv; try simp only [sw1, sw2, sw3]
                refine tkT 2 70 ?v1048 inv hHeld ?h1048 ?_
                case h1048 => (intro V' hSw; go_simp; try with_reducible rfl)
                clear inv; intro inv; try simp only [sw1, sw2, sw3]
                refine tkT 3 71 ?v1049 inv hHeld ?h1049 ?_
                case h1049 => (intro V' hSw; go_simp; try with_reducible rfl)
                clear inv; intro inv; try simp only [sw1, sw2, sw3]
                refine tkT 4 72 ?v1050 inv hHeld ?h1050 ?_
                case h1050 => (intro V' hSw; go_simp; try with_reducible rfl)
                clear inv; intro inv; try simp only [sw1, sw2, sw3]
                have hcall1 := count_word HI0.out.rd 16384 (by decide)
                rw [E1.out] at hcall1
                try unfold NumPost at hcall1
                simp only at hcall1
                refine callT (i := 5) (t := 73) (f := 71) (args := #[.pointer (some ⟨r, 0, none⟩), .func (.func 70) #[.pointer (some ⟨r, 0, none⟩)] #[], .int .i64 16384]) rfl (by kernel_rfl) rfl (by rfl) ?hx25 inv (by decide) ?hc25
                case hx25 => (go_simp; try rfl)
                case hc25 =>
                  refine hcall1.mono ?_
                  rintro e w1x ⟨A1, c1, rfl, hr, hc⟩
                  have HI1 := Go.Lib.hid (HI0.out.read hr hc)
                  have HC1 := Go.Lib.hid (HC0.out.step hc fun i hi e => by subst e; have := HI0.out.lo.1; omega)
                  refine ⟨_, rfl, HI1.out.blk.cell 6, fun inv2 hHeld2 => ?_⟩
                  clear inv hHeld hr hc hcall1
                  have inv := inv2
                  have hHeld := hHeld2
                  clear inv2 hHeld2
                  simp only
                  try simp only [sw1, sw2, sw3]
                  refine valT (i := 6) (t := 74) (v := .slice (some ⟨w1x.heap.size, 0, none⟩) 1 1) (w' := w1x.alloc (.cells #[.int .i64 (x' : Int)] INT)) rfl (by kernel_rfl) rfl (by rfl) ?hxb inv (by decide) ((HI1.out.quiet ((Chg.refl NoB w1x).alloc _)).blk.cell 6) ?rb
                  case hxb => (go_simp; try rfl)
                  case rb =>
                    intro inv2 hHeld2
                    clear inv hHeld
                    have inv := inv2
                    have hHeld := hHeld2
                    clear inv2 hHeld2
                    try simp only [sw1, sw2, sw3]
                    refine wpT (i := 7) rfl (by kernel_rfl) (by rfl) inv (by decide) (fun inv2 => ?_)
                    clear inv
                    have inv := inv2
                    clear inv2
                    refine wp_appK _ (.tmp 69) (.tmp 74) _ rfl wA.heap.size INT i0 (.int .i64 0) 1 8 Try.underlying41 Hi.out.1 Hi.out.2.1 Hi.out.2.2.1 Hi.out.2.2.2 rfl (by decide) (.slice a.eA l.length a.ec) l.length (entCells l) (by rfl) ((HI1.out.quiet ((Chg.refl NoB w1x).alloc _)).en) (some ⟨w1x.heap.size, 0, none⟩) 1 1 [.int .i64 (x' : Int)] (by rfl) rfl (cells_of_blk (Blk.new w1x _ _)) (by simp [Value.oneCell']) (by have := HLN.out; unfold maxLen; omega) (by have := HLN.out; omega) (by have := HC1.out.size; simp; omega) ?_
                    intro v2 w2 own2 gr2 _
                    obtain ⟨Ar, cr, rfl, hI3, hfr, hcl, hch⟩ := HI1.out.en_grow (x := (x' : Int)) own2 gr2
                    have HI9 := Go.Lib.hid hI3
                    have HC9 := Go.Lib.hid ((HC1.out.step hch fun i hi hk => by have := (HI1.out.en.lt i hk).1; omega).setCell (p := ⟨ob, 6, none⟩) (fun h => by have := HI1.out.lo.2; simp at h; omega) (.slice Ar (l.length + 1) cr))
                    clear own2 gr2 hI3 hch
                    refine ⟨fun _ => hcl, ?_⟩
                    clear hHeld
                    have hHeld := hcl
                    try simp only [sw1, sw2, sw3]
                    refine tkT 8 76 ?v1051 inv hHeld ?h1051 ?_
                    case h1051 => (intro V' hSw; go_simp; try with_reducible rfl)
                    clear inv; intro inv; try simp only [sw1, sw2, sw3]
                    refine lastT (i := 9) (w' := w2.setCell ⟨ob, 6, none⟩ (.slice Ar (l.length + 1) cr)) rfl (by kernel_rfl) rfl (by rfl) ?hxl (by decide) (by kernel_rfl) ?_
                    case hxl => (go_simp; try with_reducible rfl)
                    clear inv hHeld hcl hfr
                    go_wp2_with fail
                    go_roundw
                    case rel => exact ⟨k + 1, A1, c1, _, by omega, by go_num, by rw [HREP.out]; exact HI9.out, HC9.out⟩
                    case measure => simp [intOf]; omega
              · obtain rfl : k = ne := by omega
                rw [X11.out] at hI
                simp only at hI
                have HI11 := Go.Lib.hid hI
                have HC11 := Go.Lib.hid hC
                clear hI hC hlt hk hbnd
                go_wp2_with fail
                have hcall := count_word HI11.out.rd 8192 (by decide)
                rw [X12.out] at hcall
                unfold NumPost at hcall
                simp only at hcall
                refine hcall.mono ?_
                clear hcall
                rintro e v12 ⟨A12, c12, rfl, hr, hc⟩
                have hI := HI11.out.read hr hc
                have hC := HC11.out.step hc fun i hi e => by subst e; have := HI11.out.lo.1; omega
                have HI12 := Go.Lib.hid hI
                have HC12 := Go.Lib.hid hC
                clear hr hc hC hI
                go_wp2_with fail
                obtain ⟨i0, hi0, hz0, hz1, hz2⟩ := info_parts ftinfo
                have Hi := Go.Lib.hid (And.intro hi0 (And.intro hz0 (And.intro hz1 hz2)))
                clear hi0 hz0 hz1 hz2
                have hbnd := Bnf.out
                go_loopw [82] (fun v25 wr => ∃ (k : Nat) (A : Option Addr) (c : Nat) (a : OA), k ≤ nf ∧ v25 = .int .i64 k ∧ OfI wA.heap.size wr r ob (rep fixR k q12).2 A c ⟨nm, ky, im, (vr : Int), tx, cd, en, (rep fixR k q12).1⟩ a ∧ Chg NoB wA wr) (fun v25 _ => nf - (intOf v25).toNat)
                case atStart => exact ⟨0, _, _, _, Nat.zero_le _, rfl, HI12.out, HC12.out⟩
                case round =>
                  obtain ⟨k, A, c, a, hk, rfl, hI, hC⟩ := hrel
                  by_cases hlt : k < nf
                  · obtain ⟨⟨l, qk⟩, hlk⟩ : ∃ x, rep fixR k q12 = x := ⟨_, rfl⟩
                    have hll : l.length = k := by have := rep_len (f := fixR) k q12; rw [hlk] at this; exact this
                    have HLN : Hid (l.length ≤ 16384) := Go.Lib.hid (by rw [hll]; have := Bnf.out; omega)
                    obtain ⟨⟨x1, qa⟩, hE1⟩ : ∃ x, countR wordR 16384 qk = x := ⟨_, rfl⟩
                    obtain ⟨⟨x2, qb⟩, hE2⟩ : ∃ x, byteR qa = x := ⟨_, rfl⟩
                    obtain ⟨⟨x3, qc⟩, hE3⟩ : ∃ x, byteR qb = x := ⟨_, rfl⟩
                    have hE : fixR qk = (((x1 : Int), (x2 : Int), (x3 : Int)), qc) := by simp only [fixR, hE1, hE2, hE3]
                    have E1 := Go.Lib.hid hE1
                    have E2 := Go.Lib.hid hE2
                    have E3 := Go.Lib.hid hE3
                    clear hE1 hE2 hE3
                    have HREP : Hid (rep fixR (k + 1) q12 = (l ++ [((x1 : Int), (x2 : Int), (x3 : Int))], qc)) := Go.Lib.hid (by
                      show ((rep fixR k q12).1 ++ [(fixR (rep fixR k q12).2).1], (fixR (rep fixR k q12).2).2) = _
                      rw [hlk]
                      show (l ++ [(fixR qk).1], (fixR qk).2) = _
                      rw [hE])
                    rw [hlk] at hI
                    simp only at hI
                    have HI0 := Go.Lib.hid (hI.quiet (Chg.refl NoB wr).drew)
                    have HC0 := Go.Lib.hid hC.drew
                    clear hI hC hlk hll hE
                    go_wp2_with fail
                    refine regionT 14 (fun V' => V'.cell? ⟨ob, 7, none⟩ = some (.slice a.fA l.length a.fc)) (by kernel_rfl) (by decide) (HI0.out.blk.cell 7) (fun inv hHeld => ?_)
                    refine tkT 0 84 ?v1052 inv hHeld ?h1052 ?_
                    case h1052 => (intro V' hSw; go_simp; try with_reducible rfl)
                    clear inv; intro inv; try simp only [sw1, sw2, sw3]
                    refine tkT 1 85 ?v1053 inv hHeld ?h1053 ?_
                    case h1053 => (intro V' hSw; go_simp; try with_reducible rfl)
                    clear inv; intro inv; try simp only [sw1, sw2, sw3]
                    refine tkT 2 86 ?v1054 inv hHeld ?h1054 ?_
                    case h1054 => (intro V' hSw; go_simp; try with_reducible rfl)
                    clear inv; intro inv; try simp only [sw1, sw2, sw3]
                    refine tkT 3 87 ?v1055 inv hHeld ?h1055 ?_
                    case h1055 => (intro V' hSw; go_simp; try with_reducible rfl)
                    clear inv; intro inv; try simp only [sw1, sw2, sw3]
                    refine tkT 4 88 ?v1056 inv hHeld ?h1056 ?_
                    case h1056 => (intro V' hSw; go_simp; try with_reducible rfl)
                    clear inv; intro inv; try simp only [sw1, sw2, sw3]
                    refine tkT 6 90 ?v1057 inv hHeld ?h1057 ?_
                    case h1057 => (intro V' hSw; go_simp; try with_reducible rfl)
                    clear inv; intro inv; try simp only [sw1, sw2, sw3]
                    refine tkT 8 92 ?v1058 inv hHeld ?h1058 ?_
                    case h1058 => (intro V' hSw; go_simp; try with_reducible rfl)
                    clear inv; intro inv; try simp only [sw1, sw2, sw3]
                    have hcall1 := count_word HI0.out.rd 16384 (by decide)
                    rw [E1.out] at hcall1
                    try unfold NumPost at hcall1
                    simp only at hcall1
                    refine callT (i := 5) (t := 89) (f := 71) (args := #[.pointer (some ⟨r, 0, none⟩), .func (.func 70) #[.pointer (some ⟨r, 0, none⟩)] #[], .int .i64 16384]) rfl (by kernel_rfl) rfl (by rfl) ?hx37 inv (by decide) ?hc37
                    case hx37 => (go_simp; try rfl)
                    case hc37 =>
                      refine hcall1.mono ?_
                      rintro e w1x ⟨A1, c1, rfl, hr, hc⟩
                      have HI1 := Go.Lib.hid (HI0.out.read hr hc)
                      have HC1 := Go.Lib.hid (HC0.out.step hc fun i hi e => by subst e; have := HI0.out.lo.1; omega)
                      refine ⟨_, rfl, HI1.out.blk.cell 7, fun inv2 hHeld2 => ?_⟩
                      clear inv hHeld hr hc hcall1
                      have inv := inv2
                      have hHeld := hHeld2
                      clear inv2 hHeld2
                      simp only
                      try simp only [sw1, sw2, sw3]
                      have hcall2 := byte_c HI1.out.rd
                      rw [E2.out] at hcall2
                      try unfold NumPost at hcall2
                      simp only at hcall2
                      refine callT (i := 7) (t := 91) (f := 73) (args := #[.pointer (some ⟨r, 0, none⟩)]) rfl (by kernel_rfl) rfl (by rfl) ?hx38 inv (by decide) ?hc38
                      case hx38 => (go_simp; try rfl)
                      case hc38 =>
                        refine hcall2.mono ?_
                        rintro e w2x ⟨A2, c2, rfl, hr, hc⟩
                        have HI2 := Go.Lib.hid (HI1.out.read hr hc)
                        have HC2 := Go.Lib.hid (HC1.out.step hc fun i hi e => by subst e; have := HI1.out.lo.1; omega)
                        refine ⟨_, rfl, HI2.out.blk.cell 7, fun inv2 hHeld2 => ?_⟩
                        clear inv hHeld hr hc hcall2
                        have inv := inv2
                        have hHeld := hHeld2
                        clear inv2 hHeld2
                        simp only
                        try simp only [sw1, sw2, sw3]
                        have hcall3 := byte_c HI2.out.rd
                        rw [E3.out] at hcall3
                        try unfold NumPost at hcall3
                        simp only at hcall3
                        refine callT (i := 9) (t := 93) (f := 73) (args := #[.pointer (some ⟨r, 0, none⟩)]) rfl (by kernel_rfl) rfl (by rfl) ?hx39 inv (by decide) ?hc39
                        case hx39 => (go_simp; try rfl)
                        case hc39 =>
                          refine hcall3.mono ?_
                          rintro e w3x ⟨A3, c3, rfl, hr, hc⟩
                          have HI3 := Go.Lib.hid (HI2.out.read hr hc)
                          have HC3 := Go.Lib.hid (HC2.out.step hc fun i hi e => by subst e; have := HI2.out.lo.1; omega)
                          refine ⟨_, rfl, HI3.out.blk.cell 7, fun inv2 hHeld2 => ?_⟩
                          clear inv hHeld hr hc hcall3
                          have inv := inv2
                          have hHeld := hHeld2
                          clear inv2 hHeld2
                          simp only
                          try simp only [sw1, sw2, sw3]
                          refine tkT 10 94 ?v1059 inv hHeld ?h1059 ?_
                          case h1059 => (intro V' hSw; go_simp; try with_reducible rfl)
                          clear inv; intro inv; try simp only [sw1, sw2, sw3]
                          refine valT (i := 11) (t := 95) (v := .slice (some ⟨w3x.heap.size, 0, none⟩) 1 1) (w' := w3x.alloc (.cells #[.int .i64 (x1 : Int), .int .i64 (x2 : Int), .int .i64 (x3 : Int)] FT)) rfl (by kernel_rfl) rfl (by rfl) ?hxb inv (by decide) ((HI3.out.quiet ((Chg.refl NoB w3x).alloc _)).blk.cell 7) ?rb
                          case hxb => (go_simp; try rfl)
                          case rb =>
                            intro inv2 hHeld2
                            clear inv hHeld
                            have inv := inv2
                            have hHeld := hHeld2
                            clear inv2 hHeld2
                            try simp only [sw1, sw2, sw3]
                            refine wpT (i := 12) rfl (by kernel_rfl) (by rfl) inv (by decide) (fun inv2 => ?_)
                            clear inv
                            have inv := inv2
                            clear inv2
                            refine wp_appK _ (.tmp 85) (.tmp 95) _ rfl wA.heap.size FT i0 (.agg #[.int .i64 0, .int .i64 0, .int .i64 0]) 3 24 Try.underlying48 Hi.out.1 Hi.out.2.1 Hi.out.2.2.1 Hi.out.2.2.2 rfl (by decide) (.slice a.fA l.length a.fc) l.length (fixCells l) (by rfl) ((HI3.out.quiet ((Chg.refl NoB w3x).alloc _)).fx) (some ⟨w3x.heap.size, 0, none⟩) 1 1 [.int .i64 (x1 : Int), .int .i64 (x2 : Int), .int .i64 (x3 : Int)] (by rfl) rfl (cells_of_blk (Blk.new w3x _ _)) (by simp [Value.oneCell']) (by have := HLN.out; unfold maxLen; omega) (by have := HLN.out; omega) (by have := HC3.out.size; simp; omega) ?_
                            intro v2 w2 own2 gr2 _
                            obtain ⟨Ar, cr, rfl, hI3, hfr, hcl, hch⟩ := HI3.out.fx_grow (x := ((x1 : Int), (x2 : Int), (x3 : Int))) own2 gr2
                            have HI9 := Go.Lib.hid hI3
                            have HC9 := Go.Lib.hid ((HC3.out.step hch fun i hi hk => by have := (HI3.out.fx.lt i hk).1; omega).setCell (p := ⟨ob, 7, none⟩) (fun h => by have := HI3.out.lo.2; simp at h; omega) (.slice Ar (l.length + 1) cr))
                            clear own2 gr2 hI3 hch
                            refine ⟨fun _ => hcl, ?_⟩
                            clear hHeld
                            have hHeld := hcl
                            try simp only [sw1, sw2, sw3]
                            refine tkT 13 97 ?v1060 inv hHeld ?h1060 ?_
                            case h1060 => (intro V' hSw; go_simp; try with_reducible rfl)
                            clear inv; intro inv; try simp only [sw1, sw2, sw3]
                            refine lastT (i := 14) (w' := w2.setCell ⟨ob, 7, none⟩ (.slice Ar (l.length + 1) cr)) rfl (by kernel_rfl) rfl (by rfl) ?hxl (by decide) (by kernel_rfl) ?_
                            case hxl => (go_simp; try with_reducible rfl)
                            clear inv hHeld hcl hfr
                            go_wp2_with fail
                            go_roundw
                            case rel => exact ⟨k + 1, A3, c3, _, by omega, by go_num, by rw [HREP.out]; exact HI9.out, HC9.out⟩
                            case measure => simp [intOf]; omega
                  · obtain rfl : k = nf := by omega
                    rw [X13.out] at hI
                    simp only at hI
                    have HI13 := Go.Lib.hid hI
                    have HC13 := Go.Lib.hid hC
                    clear hI hC hlt hk hbnd

                    obtain ⟨l13, b13⟩ := q13
                    have k0 := HI13.out.rd.blk.cell 0
                    have k1 := HI13.out.rd.blk.cell 1
                    simp only [List.getElem?_toArray, List.getElem?_cons_succ, List.getElem?_cons_zero] at k0 k1
                    cases b13 with
                    | true =>
                      have HRB := Go.Lib.hid (HA.out.2.chg HC13.out id)
                      go_wp2_with (refine wpList_store_row rfl OT (.tmp 2) (.tmp 116) rfl w0.heap.size (obArr ob0 oa0) rfl rfl OT (obArr ob0 oa0) HRB.out (by kernel_rfl) (by rfl) (by kernel_rfl) ?_)
                      refine bodyPost_ret (results_cellTmp rfl _ _ rfl rfl (HRB.out.rowSet (obArr ob0 oa0)) Try.underlying50 rfl (by kernel_rfl)) rfl ?_
                      exact ⟨(HA.out.1.trans HC13.out).rowSet (fun h => absurd h (by omega)) _, .inl ⟨HS.out.2 (fun h => by have := h.1; cases this), rfl⟩⟩
                    | false =>
                      by_cases hl13 : l13 = []
                      · subst hl13
                        simp only [List.length_nil] at k0
                        have b0 := HI13.out.blk.cell 0
                        have b1 := HI13.out.blk.cell 1
                        have b2 := HI13.out.blk.cell 2
                        have b3 := HI13.out.blk.cell 3
                        have b4 := HI13.out.blk.cell 4
                        have b5 := HI13.out.blk.cell 5
                        have b6 := HI13.out.blk.cell 6
                        have b7 := HI13.out.blk.cell 7
                        unfold obArr at b0 b1 b2 b3 b4 b5 b6 b7
                        simp only [List.getElem?_toArray, List.getElem?_cons_succ, List.getElem?_cons_zero] at b0 b1 b2 b3 b4 b5 b6 b7
                        have hT := HI13.out.obT HNums.out
                        have HT := Go.Lib.hid hT
                        clear hT
                        go_wp2_with fail
                        refine (may_c HT.out.is_).mono ?_
                        rintro e w9 ⟨rfl, hc9⟩
                        have HT9 := Go.Lib.hid (HT.out.off hc9 (fun t _ => off_no))
                        have HO9 := Go.Lib.hid (HI13.out.blk.chg hc9 id)
                        have HC9 := Go.Lib.hid (HC13.out.trans hc9)
                        obtain ⟨mb, hmb⟩ : ∃ b, mayO ⟨nm, ky, im, (vr : Int), tx, cd, en, fx⟩ = b := ⟨_, rfl⟩
                        rw [hmb]
                        have HMB := Go.Lib.hid hmb
                        clear hc9 hmb b0 b1 b2 b3 b4 b5 b6 b7 k0 k1
                        cases mb with
                        | false =>
                          have HRB := Go.Lib.hid (HA.out.2.chg HC9.out id)
                          go_wp2_with (refine wpList_store_row rfl OT (.tmp 2) (.tmp 116) rfl w0.heap.size (obArr ob0 oa0) rfl rfl OT (obArr ob0 oa0) HRB.out (by kernel_rfl) (by rfl) (by kernel_rfl) ?_)
                          refine bodyPost_ret (results_cellTmp rfl _ _ rfl rfl (HRB.out.rowSet (obArr ob0 oa0)) Try.underlying50 rfl (by kernel_rfl)) rfl ?_
                          exact ⟨(HA.out.1.trans HC9.out).rowSet (fun h => absurd h (by omega)) _, .inl ⟨HS.out.2 (fun h => by have := h.2.2; rw [HMB.out] at this; cases this), rfl⟩⟩
                        | true =>
                          have HRB := Go.Lib.hid (HA.out.2.chg HC9.out id)
                          have d0 := HO9.out.cell 0
                          have d1 := HO9.out.cell 1
                          have d2 := HO9.out.cell 2
                          have d3 := HO9.out.cell 3
                          have d4 := HO9.out.cell 4
                          have d5 := HO9.out.cell 5
                          have d6 := HO9.out.cell 6
                          have d7 := HO9.out.cell 7
                          unfold obArr at d0 d1 d2 d3 d4 d5 d6 d7
                          simp only [List.getElem?_toArray, List.getElem?_cons_succ, List.getElem?_cons_zero] at d0 d1 d2 d3 d4 d5 d6 d7
                          go_wp2_with (refine wpList_store_row rfl OT (.tmp 2) (.tmp 117) rfl w0.heap.size (obArr ⟨nm, ky, im, (vr : Int), tx, cd, en, fx⟩ a) rfl rfl OT (obArr ob0 oa0) HRB.out (by kernel_rfl) (by rfl) (by kernel_rfl) ?_)
                          refine bodyPost_ret (results_cellTmp rfl _ _ rfl rfl (HRB.out.rowSet (obArr ⟨nm, ky, im, (vr : Int), tx, cd, en, fx⟩ a)) Try.underlying50 rfl (by kernel_rfl)) rfl ?_
                          have hset : Chg (fun k => k = w0.heap.size) w9 (w9.setRow w0.heap.size (obArr ⟨nm, ky, im, (vr : Int), tx, cd, en, fx⟩ a)) := (Chg.refl (fun k => k = w0.heap.size) w9).rowSet (fun _ => rfl) _
                          exact ⟨(HA.out.1.trans HC9.out).rowSet (fun h => absurd h (by omega)) _, .inr ⟨_, a, HS.out.1 (by first | exact ⟨rfl, rfl, HMB.out⟩ | exact ⟨trivial, trivial, HMB.out⟩), rfl, HT9.out.off hset (off_ot HRB.out)⟩⟩
                      · obtain ⟨n13, hn13⟩ : ∃ n, l13.length = n := ⟨_, rfl⟩
                        rw [hn13] at k0
                        have hpos : 0 < n13 := by rw [← hn13]; exact List.length_pos_iff.2 hl13
                        have f1 : decide (0 < (n13 : Int)) = true := by simp; omega
                        have f2 : decide (0 < n13) = true := by simp; omega
                        have HL13 := Go.Lib.hid hl13
                        clear hn13 hl13
                        have HRB := Go.Lib.hid (HA.out.2.chg HC13.out id)
                        go_wp2_with (refine wpList_store_row rfl OT (.tmp 2) (.tmp 116) rfl w0.heap.size (obArr ob0 oa0) rfl rfl OT (obArr ob0 oa0) HRB.out (by kernel_rfl) (by rfl) (by kernel_rfl) ?_)
                        refine bodyPost_ret (results_cellTmp rfl _ _ rfl rfl (HRB.out.rowSet (obArr ob0 oa0)) Try.underlying50 rfl (by kernel_rfl)) rfl ?_
                        exact ⟨(HA.out.1.trans HC13.out).rowSet (fun h => absurd h (by omega)) _, .inl ⟨HS.out.2 (fun h => HL13.out h.2.1), rfl⟩⟩
  · have hne : ((⟨t2.toArray⟩ : ByteArray).toList == (⟨#[79, 49]⟩ : ByteArray).toList) = false := by
      simp only [beq_eq_false_iff_ne, ne_eq]
      intro e
      have := bytes_ext e
      injection this with this
      exact h2 (by simpa using congrArg Array.toList this)
    have hne2 : (t2 == [79, 49]) = false := by simpa using h2
    have HN := Go.Lib.hid (HON.out fun h => h2 (HB2.out.2 h))
    have HRB := Go.Lib.hid (HA.out.2.chg HR3.out.2 id)
    clear h2
    go_wp2_with (refine wpList_store_row rfl OT (.tmp 2) (.tmp 14) rfl w0.heap.size (obArr ob0 oa0) rfl rfl OT (obArr ob0 oa0) HRB.out (by kernel_rfl) (by rfl) (by kernel_rfl) ?_)
    refine bodyPost_ret (results_cellTmp rfl _ _ rfl rfl (HRB.out.rowSet (obArr ob0 oa0)) Try.underlying50 rfl (by kernel_rfl)) rfl ?_
    exact ⟨(HA.out.1.trans HR3.out.2).rowSet (fun h => absurd h (by omega)) _, .inl ⟨HN.out, rfl⟩⟩
end
end Go.Proofs.Yteleglkoagnmcaa
