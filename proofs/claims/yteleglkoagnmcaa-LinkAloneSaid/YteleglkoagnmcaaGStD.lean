/- What is proved: the store behind a write; the contract of put. Conditions: the memory holds a store, and the bytes that are handed in. · What is proved: the contract of put. Conditions: the memory holds a store, and the bytes that are handed in, outside of the store. · What is proved: the contract of put where the file grows, or there is no room. Conditions: the memory holds a store, and the bytes that are handed in, outside of the store. · What is proved: the contracts of Write and WriteWord. Conditions: the memory holds a store. -/
import Derived.Test.YteleglkoagnmcaaGStC
import Derived.Test.YteleglkoagnmcaaOps2
import Derived.StillTailTactics
import Derived.Deep.RegionLaw
set_option linter.unusedSimpArgs false
set_option linter.unusedVariables false
namespace Go.Proofs.Yteleglkoagnmcaa
open Go.RowKit
section
variable {base : Nat} {w w1 : World} {s : Nat} {S : Sto}

def Sto.setFile (S : Sto) (f : Nat) (x : Fl) : Sto := { S with fl := fun g => if g = f then some x else S.fl g }

/-- a store whose file f has other bytes, in a row of the call's own -/
theorem StoreAt.setFile (h : StoreAt base w s S) {f : Nat} {x y : Fl} (hx : S.fl f = some x) (hc : Chg (fun k => k = f ∨ x.v.ownBlock = some k) w w1) (hb : Blk w1 f 99 #[y.v]) (ho : w1.ownsRow base 5 1 y.v y.b.length (bv y.b))
    (hn : ∀ k, y.v.ownBlock = some k → x.v.ownBlock = some k ∨ w.heap.size ≤ k) (hpos : ∀ r ∈ S.rd, r.f = f → r.pos ≤ y.b.length) (hu : S.used + y.b.length ≤ S.cap + x.b.length) (hle : x.b.length ≤ y.b.length) (hin : f ∈ S.held) :
    StoreAt base w1 s (S.setFile f y) ∧ ∀ k, foot s (S.setFile f y) k → k < w.heap.size → foot s S k := by
  have hfb := h.flb _ _ hx
  have hfo := h.flo _ _ hx
  have hnb : ∀ {t : TypeId} {cs : Array Value} {g : Nat}, Blk w g t cs → t ≠ 99 → t ≠ 5 → ¬ (g = f ∨ x.v.ownBlock = some g) := fun hg h1 h2 he => he.elim (fun e => hg.ne_ hfb h1 e) (own_blk_ne hfo hg (Ne.symm h2))
  have hold : ∀ g z, (S.setFile f y).fl g = some z → (g = f ∧ z = y) ∨ (g ≠ f ∧ S.fl g = some z) := fun g z hg => by
    unfold Sto.setFile at hg
    simp only at hg
    split at hg
    · rename_i e; injection hg with hg; exact .inl ⟨e, hg.symm⟩
    · rename_i e; exact .inr ⟨e, hg⟩
  have hsome : ∀ g z, S.fl g = some z → ∃ z', (S.setFile f y).fl g = some z' := fun g z hg => by
    unfold Sto.setFile
    simp only
    split
    · exact ⟨y, rfl⟩
    · exact ⟨z, hg⟩
  have hft : ∀ k, foot s (S.setFile f y) k → k < w.heap.size → foot s S k := by
    intro k hk hlt
    rcases hk with hk | hk | hk | hk | ⟨g, z, hg, hk⟩
    · exact .inl hk
    · exact .inr (.inl hk)
    · exact .inr (.inr (.inl hk))
    · exact .inr (.inr (.inr (.inl hk)))
    · rcases hold g z hg with ⟨rfl, rfl⟩ | ⟨_, hg'⟩
      · rcases hk with rfl | hk
        · exact .inr (.inr (.inr (.inr ⟨k, x, hx, .inl rfl⟩)))
        · rcases hn k hk with h1 | h1
          · exact .inr (.inr (.inr (.inr ⟨g, x, hx, .inr h1⟩)))
          · omega
      · exact .inr (.inr (.inr (.inr ⟨g, z, hg', hk⟩)))
  have hbase : base ≤ w.heap.size := by have := h.low s (.inl rfl); have := h.blk.lt; omega
  refine ⟨?_, hft⟩
  exact {
    blk := h.blk.chg hc (hnb h.blk (by decide) (by decide))
    map := h.map.chg hc (fun he => he.elim (fun e => h.map.blk_ne hfb e) (h.map.own_ne hfo))
    row := own_chg h.row hc (fun k hk he => he.elim (fun e => by subst e; exact own_blk_ne h.row hfb (by decide) hk) (fun he => own_own_ne hfo h.row (by decide) he hk))
    rdb := fun r hr => (h.rdb r hr).chg hc (hnb (h.rdb r hr) (by decide) (by decide))
    rdn := h.rdn
    rdf := fun r hr => by
      obtain ⟨z, hz, hp⟩ := h.rdf r hr
      by_cases e : r.f = f
      · exact ⟨y, by simp [Sto.setFile, e], hpos r hr e⟩
      · exact ⟨z, by simp [Sto.setFile, e, hz], hp⟩
    dirf := fun e he => by
      obtain ⟨z, hz⟩ := h.dirf e he
      exact hsome _ _ hz
    flb := fun g z hg => by
      rcases hold g z hg with ⟨rfl, rfl⟩ | ⟨hgf, hg'⟩
      · exact hb
      · refine (h.flb g z hg').chg hc (fun he => he.elim hgf (own_blk_ne hfo (h.flb g z hg') (by decide)))
    flo := fun g z hg => by
      rcases hold g z hg with ⟨rfl, rfl⟩ | ⟨hgf, hg'⟩
      · exact ho
      · exact own_chg (h.flo g z hg') hc (fun k hk he => he.elim (fun e => by subst e; exact own_blk_ne (h.flo g z hg') hfb (by decide) hk) (fun he => h.sep f g x z k hx hg' (Ne.symm hgf) he hk))
    sep := fun a b p q k ha hb' hab hk hk' => by
      rcases hold a p ha with ⟨rfl, rfl⟩ | ⟨ha1, ha'⟩ <;> rcases hold b q hb' with ⟨rfl, rfl⟩ | ⟨hb1, hb''⟩
      · exact hab rfl
      · rcases hn k hk with h1 | h1
        · exact h.sep a b x q k hx hb'' hab h1 hk'
        · have := ((h.flo _ _ hb'').lt k hk').2; omega
      · rcases hn k hk' with h1 | h1
        · exact h.sep a b p x k ha' hx hab hk h1
        · have := ((h.flo _ _ ha').lt k hk).2; omega
      · exact h.sep a b p q k ha' hb'' hab hk hk'
    low := fun k hk => by
      rcases Nat.lt_or_ge k w.heap.size with hlt | hge
      · exact h.low k (hft k hk hlt)
      · omega
    keys := h.keys
    dnames := h.dnames
    rnames := h.rnames
    small := h.small
    fits := by
      have e1 : (S.setFile f y).held = S.held := rfl
      have hd := nodup_dedup S.held
      obtain ⟨m1, m2, hm⟩ := List.append_of_mem (mem_dedup.2 hin)
      have hlf : S.len f = x.b.length := by simp [Sto.len, hx]
      have hlf' : (S.setFile f y).len f = y.b.length := by simp [Sto.len, Sto.setFile]
      have hrest : ∀ g, g ≠ f → (S.setFile f y).len g = S.len g := fun g hg => by simp [Sto.len, Sto.setFile, hg]
      have hd2 := hd
      rw [hm, List.nodup_append] at hd2
      obtain ⟨_, hn2, hn3⟩ := hd2
      have c1 : sumOf (S.setFile f y).len m1 = sumOf S.len m1 := sumOf_congr (fun g hg => hrest g (fun e => by subst e; exact hn3 g hg g (by simp) rfl))
      have c2 : sumOf (S.setFile f y).len m2 = sumOf S.len m2 := sumOf_congr (fun g hg => hrest g (fun e => by subst e; exact (List.nodup_cons.1 hn2).1 hg))
      have u1 : S.used = sumOf S.len m1 + (x.b.length + sumOf S.len m2) := by unfold Sto.used; rw [hm, sumOf_append, sumOf_cons, hlf]
      have u2 : (S.setFile f y).used = sumOf S.len m1 + (y.b.length + sumOf S.len m2) := by unfold Sto.used; rw [e1, hm, sumOf_append, sumOf_cons, hlf', c1, c2]
      have e2 : (S.setFile f y).cap = S.cap := rfl
      rw [u2, e2]
      omega
    nrd := h.nrd
    ndir := h.ndir }
end
end Go.Proofs.Yteleglkoagnmcaa
set_option linter.unusedSimpArgs false
set_option linter.unusedVariables false
namespace Go.Proofs.Yteleglkoagnmcaa
open Go.RowKit
section
variable {base : Nat} {w w1 : World} {s : Nat} {S : Sto}

/-- bytes written from a place on -/
def wr (b : List UInt8) (p : Nat) (l : List UInt8) : List UInt8 := over (b ++ List.replicate (p + l.length - b.length) 0) p l
theorem wr_length {b : List UInt8} {p : Nat} {l : List UInt8} : (wr b p l).length = max b.length (p + l.length) := by
  unfold wr
  rw [over_length (by simp; omega)]
  simp
  omega
theorem wr_in {b : List UInt8} {p : Nat} {l : List UInt8} (h : p + l.length ≤ b.length) : wr b p l = over b p l := by
  unfold wr
  rw [show p + l.length - b.length = 0 by omega]
  simp

def WritePost (base s : Nat) (S : Sto) (f : Int) (r : Rd) (x : Fl) (l : List UInt8) (w : World) (e : Ending) (w' : World) : Prop :=
  ∃ A c, e = .returned (.int .i64 0) ∧ StoreAt base w' s ((S.setFile r.f ⟨A, c, wr x.b r.pos l⟩).setPos f (r.pos + l.length)) ∧ Chg (foot s S) w w' ∧
    ∀ k, foot s ((S.setFile r.f ⟨A, c, wr x.b r.pos l⟩).setPos f (r.pos + l.length)) k → k < w.heap.size → foot s S k

theorem cap_le {w : World} {base : Nat} {e : TypeId} {x : Fl} {xs : List Value} (h : w.ownsRow base e 1 x.v x.b.length xs) : x.b.length ≤ x.c := by
  rcases h.2 with ⟨h1, h2⟩ | ⟨g, cap, cur, h1, h2, h3, h4, _⟩
  · omega
  · unfold Fl.v at h1; injection h1 with _ _ h5; omega

theorem StoreAt.rpos (h : StoreAt base w s S) {f : Int} {r : Rd} (hr : S.rdAt f = some r) : w.cell? ⟨r.blk, 2, none⟩ = some (.int .i64 r.pos) ∧ w.frozen? ⟨r.blk, 2, none⟩ = false := by
  obtain ⟨_, _, _, _, _, _, c2, z2, _⟩ := h.rfacts hr
  exact ⟨c2, z2⟩
theorem u8size : (Try.prog.info? 5).map (·.size) = some 1 := by kernel_rfl

/-- what a copy into a file's bytes comes to -/
theorem write_fin (h : StoreAt base w s S) {f : Int} {r : Rd} {x : Fl} {l : List UInt8} (hr : S.rdAt f = some r) (hx : S.fl r.f = some x) (hin : r.pos + l.length ≤ x.b.length) :
    ∀ w2, w2.ownsRow base 5 1 (.slice x.A x.b.length x.c) x.b.length (over (bv x.b) r.pos (bv l)) → Chg (fun k => (Value.slice x.A x.b.length x.c).ownBlock = some k) w w2 →
      StoreAt base w2 s (S.setFile r.f ⟨x.A, x.c, wr x.b r.pos l⟩) ∧ (∀ k, foot s (S.setFile r.f ⟨x.A, x.c, wr x.b r.pos l⟩) k → k < w.heap.size → foot s S k) ∧ Chg (foot s S) w w2 ∧
      (StoreAt base (w2.setCell ⟨r.blk, 2, none⟩ (.int .i64 ((r.pos : Int) + l.length))) s ((S.setFile r.f ⟨x.A, x.c, wr x.b r.pos l⟩).setPos f (r.pos + l.length)) ∧ Chg (fun k => k = r.blk) w2 (w2.setCell ⟨r.blk, 2, none⟩ (.int .i64 ((r.pos : Int) + l.length)))) := by
  intro w2 ho hc
  obtain ⟨_, _, _, hm⟩ := rdAt_some hr
  have hlen : (wr x.b r.pos l).length = x.b.length := by rw [wr_length]; omega
  have hv : (⟨x.A, x.c, wr x.b r.pos l⟩ : Fl).v = x.v := by unfold Fl.v; simp only [hlen]
  have hbv : over (bv x.b) r.pos (bv l) = bv (wr x.b r.pos l) := by rw [wr_in hin]; exact (over_map _ _ _ _).symm
  have hb := (h.flb _ _ hx).chg hc (fun hk => own_blk_ne (h.flo _ _ hx) (h.flb _ _ hx) (by decide) hk)
  obtain ⟨h2, hf2⟩ := h.setFile (y := ⟨x.A, x.c, wr x.b r.pos l⟩) hx (hc.mono (fun k _ hk => .inr hk)) (by rw [hv]; exact hb) (by rw [hv, ← hbv, hlen]; exact ho) (fun k hk => .inl (by rw [hv] at hk; exact hk))
    (fun q hq hqf => by
      obtain ⟨y, hy, hp⟩ := h.rdf q hq
      rw [hqf, hx] at hy
      cases hy
      show q.pos ≤ (wr x.b r.pos l).length
      omega) (by simp only [hlen]; have := h.fits; omega) (by simp only [hlen]; omega) (StoreAt.rd_held hm)
  have hx2 : (S.setFile r.f ⟨x.A, x.c, wr x.b r.pos l⟩).fl r.f = some ⟨x.A, x.c, wr x.b r.pos l⟩ := by simp [Sto.setFile]
  have hset := h2.setPos (f := f) (r := r) hr hx2 (p := r.pos + l.length) (by simp only [hlen]; exact hin)
  refine ⟨h2, hf2, hc.mono (fun k _ hk => .inr (.inr (.inr (.inr ⟨r.f, x, hx, .inr hk⟩)))), hset⟩

end
end Go.Proofs.Yteleglkoagnmcaa
set_option linter.unusedSimpArgs false
set_option linter.unusedVariables false
namespace Go.Proofs.Yteleglkoagnmcaa
open Go.RowKit
section
variable {base : Nat} {w w1 : World} {s : Nat} {S : Sto}

theorem grow_facts (h : StoreAt base w s S) {f : Int} {r : Rd} {x : Fl} (hr : S.rdAt f = some r) (hx : S.fl r.f = some x) : base ≤ w.heap.size ∧ ∀ w3, w.grownBy w3 (Value.slice x.A x.b.length x.c).ownBlock →
    w3.cell? ⟨r.blk, 0, none⟩ = some (.pointer (some ⟨r.f, 0, none⟩)) ∧ w3.cell? ⟨r.f, 0, none⟩ = some (.slice x.A x.b.length x.c) ∧ w3.frozen? ⟨r.f, 0, none⟩ = false := by
  refine ⟨by have := h.low s (.inl rfl); have := h.blk.lt; omega, fun w3 hg => ?_⟩
  have hb := (h.rdb r (rdAt_some hr).2.2.2).grown hg (fun e => own_blk_ne (h.flo _ _ hx) (h.rdb r (rdAt_some hr).2.2.2) (by decide) e.symm)
  have hf := (h.flb _ _ hx).grown hg (fun e => own_blk_ne (h.flo _ _ hx) (h.flb _ _ hx) (by decide) e.symm)
  exact ⟨hb.cell 0, hf.cell 0, hf.frozen 0⟩

theorem setFile_twice (S : Sto) (f : Nat) (y z : Fl) : (S.setFile f y).setFile f z = S.setFile f z := by
  have e : (fun g => if g = f then some z else if g = f then some y else S.fl g) = fun g => if g = f then some z else S.fl g := by
    funext g
    split <;> rfl
  unfold Sto.setFile
  simp only [e]
theorem bv_replicate (k : Nat) : bv (List.replicate k 0) = List.replicate k (.int .u8 0) := by simp [bv]

theorem grow_fin (h : StoreAt base w s S) {f : Int} {r : Rd} {x : Fl} (hr : S.rdAt f = some r) (hx : S.fl r.f = some x) {w3 : World} {A1 : Option Addr} {c1 k : Nat} (hg : w.grownBy w3 (Value.slice x.A x.b.length x.c).ownBlock)
    (ho : w3.ownsRow base 5 1 (.slice A1 (x.b.length + k) c1) (x.b.length + k) (bv x.b ++ List.replicate k (.int .u8 0)))
    (hat : (Value.slice A1 (x.b.length + k) c1).ownBlock = (Value.slice x.A x.b.length x.c).ownBlock ∨ (Value.slice A1 (x.b.length + k) c1).ownBlock = some w.heap.size) (hk : k ≤ S.room) :
    StoreAt base (w3.setCell ⟨r.f, 0, none⟩ (.slice A1 (x.b.length + k) c1)) s (S.setFile r.f ⟨A1, c1, x.b ++ List.replicate k 0⟩) ∧ Chg (foot s S) w (w3.setCell ⟨r.f, 0, none⟩ (.slice A1 (x.b.length + k) c1)) ∧
      ∀ j, foot s (S.setFile r.f ⟨A1, c1, x.b ++ List.replicate k 0⟩) j → j < w.heap.size → foot s S j := by
  have hm := (rdAt_some hr).2.2.2
  have hlen : (x.b ++ List.replicate k (0 : UInt8)).length = x.b.length + k := by simp
  have hv : (⟨A1, c1, x.b ++ List.replicate k 0⟩ : Fl).v = .slice A1 (x.b.length + k) c1 := by unfold Fl.v; rw [hlen]
  have hc : Chg (fun j => j = r.f ∨ x.v.ownBlock = some j) w (w3.setCell ⟨r.f, 0, none⟩ (.slice A1 (x.b.length + k) c1)) :=
    ((Chg.refl (fun j => j = r.f ∨ x.v.ownBlock = some j) w).grown hg (fun j hj _ => .inr hj)).setCell (p := ⟨r.f, 0, none⟩) (fun _ => .inl rfl) _
  have hb := ((h.flb _ _ hx).grown hg (fun e => own_blk_ne (h.flo _ _ hx) (h.flb _ _ hx) (by decide) e.symm))
  have ho' : (w3.setCell ⟨r.f, 0, none⟩ (.slice A1 (x.b.length + k) c1)).ownsRow base 5 1 (.slice A1 (x.b.length + k) c1) (x.b.length + k) (bv x.b ++ List.replicate k (.int .u8 0)) :=
    own_chg ho ((Chg.refl (fun j => j = r.f) w3).setCell (p := ⟨r.f, 0, none⟩) (fun _ => rfl) _) (fun j hj e => by subst e; exact own_blk_ne ho hb (by decide) hj)
  obtain ⟨h4, hf4⟩ := h.setFile (y := ⟨A1, c1, x.b ++ List.replicate k 0⟩) hx hc (by rw [hv]; exact hb.set_ 0 _) (by
      rw [hv, hlen, bv_append, bv_replicate]; exact ho') (fun j hj => by
      rw [hv] at hj
      rcases hat with e | e
      · exact .inl (e ▸ hj)
      · rw [hj] at e; injection e with e; exact .inr (by omega)) (fun q hq hqf => by
      obtain ⟨y, hy, hp⟩ := h.rdf q hq
      rw [hqf, hx] at hy
      cases hy
      show q.pos ≤ (x.b ++ List.replicate k (0 : UInt8)).length
      rw [hlen]
      omega) (by
      show S.used + (x.b ++ List.replicate k (0 : UInt8)).length ≤ S.cap + x.b.length
      rw [hlen]
      have := h.fits
      unfold Sto.room at hk
      omega) (by show x.b.length ≤ (x.b ++ List.replicate k (0 : UInt8)).length; rw [hlen]; omega) (StoreAt.rd_held hm)
  exact ⟨h4, hc.mono (fun j _ hj => .inr (.inr (.inr (.inr ⟨r.f, x, hx, hj⟩)))), hf4⟩

end
end Go.Proofs.Yteleglkoagnmcaa
set_option linter.unusedSimpArgs false
set_option linter.unusedVariables false
namespace Go.Proofs.Yteleglkoagnmcaa
open Go.RowKit
section
variable {base : Nat} {w w1 : World} {s : Nat} {S : Sto}

/-- what a write, in the world behind another step that changes nothing of the store, comes to -/
theorem WritePost.pre {f : Int} {r : Rd} {x : Fl} {l : List UInt8} {e : Ending} {w2 : World} (hc : Chg NoB w w1) (h : WritePost base s S f r x l w1 e w2) : WritePost base s S f r x l w e w2 := by
  obtain ⟨A, c, h1, h2, h3, h4⟩ := h
  exact ⟨A, c, h1, h2, (hc.mono (fun _ _ h => h.elim)).trans h3, fun k hk hlt => h4 k hk (by have := hc.size; omega)⟩

theorem bytesOfWord_length (n : Nat) : (bytesOfWord n).length = 4 := rfl

end
end Go.Proofs.Yteleglkoagnmcaa
