import Derived.Test.YtggknljlibhkjaaGreatGStC
import Derived.Test.YtggknljlibhkjaaGreatOps2
import Derived.StillTailTactics
import Derived.Deep.RegionLaw
set_option linter.unusedSimpArgs false
set_option linter.unusedVariables false
namespace Go.Proofs.YtggknljlibhkjaaGreat
open Go.RowKit
section
variable {base : Nat} {w w1 : World} {s : Nat} {S : Sto}
def Sto.setFile (S : Sto) (f : Nat) (x : Fl) : Sto := { S with fl := fun g => if g = f then some x else S.fl g }
theorem StoreAt.setFile (h : StoreAt base w s S) {f : Nat} {x y : Fl} (hx : S.fl f = some x) (hc : Chg (fun k => k = f ∨ x.v.ownBlock = some k) w w1) (hb : Blk w1 f 96 #[y.v]) (ho : w1.ownsRow base 5 1 y.v y.b.length (bv y.b))
    (hn : ∀ k, y.v.ownBlock = some k → x.v.ownBlock = some k ∨ w.heap.size ≤ k) (hpos : ∀ r ∈ S.rd, r.f = f → r.pos ≤ y.b.length) (hu : S.used + y.b.length ≤ S.cap + x.b.length) (hle : x.b.length ≤ y.b.length) (hin : f ∈ S.held) :
    StoreAt base w1 s (S.setFile f y) ∧ ∀ k, foot s (S.setFile f y) k → k < w.heap.size → foot s S k := by
  have hfb := h.flb _ _ hx
  have hfo := h.flo _ _ hx
  have hnb : ∀ {t : TypeId} {cs : Array Value} {g : Nat}, Blk w g t cs → t ≠ 96 → t ≠ 5 → ¬ (g = f ∨ x.v.ownBlock = some g) := fun hg h1 h2 he => he.elim (fun e => hg.ne_ hfb h1 e) (own_blk_ne hfo hg (Ne.symm h2))
  have hold : ∀ g z, (S.setFile f y).fl g = some z → (g = f ∧ z = y) ∨ (g ≠ f ∧ S.fl g = some z) := fun g z hg => by
    unfold Sto.setFile at hg
    simp only at hg
    split at hg
    · rename_i e; injection hg with hg; exact .inl ⟨e, hg.symm⟩
    · rename_i e; exact .inr ⟨e, hg⟩
  have hsome : ∀ g z, S.fl g = some z → ∃ z', (S.setFile f y).fl g = some z' := fun g z hg => by
    unfold Sto.setFile
    simp only
    split
    · exact ⟨y, rfl⟩
    · exact ⟨z, hg⟩
  have hft : ∀ k, foot s (S.setFile f y) k → k < w.heap.size → foot s S k := by
    intro k hk hlt
    rcases hk with hk | hk | hk | hk | ⟨g, z, hg, hk⟩
    · exact .inl hk
    · exact .inr (.inl hk)
    · exact .inr (.inr (.inl hk))
    · exact .inr (.inr (.inr (.inl hk)))
    · rcases hold g z hg with ⟨rfl, rfl⟩ | ⟨_, hg'⟩
      · rcases hk with rfl | hk
        · exact .inr (.inr (.inr (.inr ⟨k, x, hx, .inl rfl⟩)))
        · rcases hn k hk with h1 | h1
          · exact .inr (.inr (.inr (.inr ⟨g, x, hx, .inr h1⟩)))
          · omega
      · exact .inr (.inr (.inr (.inr ⟨g, z, hg', hk⟩)))
  have hbase : base ≤ w.heap.size := by have := h.low s (.inl rfl); have := h.blk.lt; omega
  refine ⟨?_, hft⟩
  exact {
    blk := h.blk.chg hc (hnb h.blk (by decide) (by decide))
    map := h.map.chg hc (fun he => he.elim (fun e => h.map.blk_ne hfb e) (h.map.own_ne hfo))
    row := own_chg h.row hc (fun k hk he => he.elim (fun e => by subst e; exact own_blk_ne h.row hfb (by decide) hk) (fun he => own_own_ne hfo h.row (by decide) he hk))
    rdb := fun r hr => (h.rdb r hr).chg hc (hnb (h.rdb r hr) (by decide) (by decide))
    rdn := h.rdn
    rdf := fun r hr => by
      obtain ⟨z, hz, hp⟩ := h.rdf r hr
      by_cases e : r.f = f
      · exact ⟨y, by simp [Sto.setFile, e], hpos r hr e⟩
      · exact ⟨z, by simp [Sto.setFile, e, hz], hp⟩
    dirf := fun e he => by
      obtain ⟨z, hz⟩ := h.dirf e he
      exact hsome _ _ hz
    flb := fun g z hg => by
      rcases hold g z hg with ⟨rfl, rfl⟩ | ⟨hgf, hg'⟩
      · exact hb
      · refine (h.flb g z hg').chg hc (fun he => he.elim hgf (own_blk_ne hfo (h.flb g z hg') (by decide)))
    flo := fun g z hg => by
      rcases hold g z hg with ⟨rfl, rfl⟩ | ⟨hgf, hg'⟩
      · exact ho
      · exact own_chg (h.flo g z hg') hc (fun k hk he => he.elim (fun e => by subst e; exact own_blk_ne (h.flo g z hg') hfb (by decide) hk) (fun he => h.sep f g x z k hx hg' (Ne.symm hgf) he hk))
    sep := fun a b p q k ha hb' hab hk hk' => by
      rcases hold a p ha with ⟨rfl, rfl⟩ | ⟨ha1, ha'⟩ <;> rcases hold b q hb' with ⟨rfl, rfl⟩ | ⟨hb1, hb''⟩
      · exact hab rfl
      · rcases hn k hk with h1 | h1
        · exact h.sep a b x q k hx hb'' hab h1 hk'
        · have := ((h.flo _ _ hb'').lt k hk').2; omega
      · rcases hn k hk' with h1 | h1
        · exact h.sep a b p x k ha' hx hab hk h1
        · have := ((h.flo _ _ ha').lt k hk).2; omega
      · exact h.sep a b p q k ha' hb'' hab hk hk'
    low := fun k hk => by
      rcases Nat.lt_or_ge k w.heap.size with hlt | hge
      · exact h.low k (hft k hk hlt)
      · omega
    keys := h.keys
    dnames := h.dnames
    rnames := h.rnames
    small := h.small
    fits := by
      have e1 : (S.setFile f y).held = S.held := rfl
      have hd := nodup_dedup S.held
      obtain ⟨m1, m2, hm⟩ := List.append_of_mem (mem_dedup.2 hin)
      have hlf : S.len f = x.b.length := by simp [Sto.len, hx]
      have hlf' : (S.setFile f y).len f = y.b.length := by simp [Sto.len, Sto.setFile]
      have hrest : ∀ g, g ≠ f → (S.setFile f y).len g = S.len g := fun g hg => by simp [Sto.len, Sto.setFile, hg]
      have hd2 := hd
      rw [hm, List.nodup_append] at hd2
      obtain ⟨_, hn2, hn3⟩ := hd2
      have c1 : sumOf (S.setFile f y).len m1 = sumOf S.len m1 := sumOf_congr (fun g hg => hrest g (fun e => by subst e; exact hn3 g hg g (by simp) rfl))
      have c2 : sumOf (S.setFile f y).len m2 = sumOf S.len m2 := sumOf_congr (fun g hg => hrest g (fun e => by subst e; exact (List.nodup_cons.1 hn2).1 hg))
      have u1 : S.used = sumOf S.len m1 + (x.b.length + sumOf S.len m2) := by unfold Sto.used; rw [hm, sumOf_append, sumOf_cons, hlf]
      have u2 : (S.setFile f y).used = sumOf S.len m1 + (y.b.length + sumOf S.len m2) := by unfold Sto.used; rw [e1, hm, sumOf_append, sumOf_cons, hlf', c1, c2]
      have e2 : (S.setFile f y).cap = S.cap := rfl
      rw [u2, e2]
      omega
    nrd := h.nrd
    ndir := h.ndir }
end
end Go.Proofs.YtggknljlibhkjaaGreat
set_option linter.unusedSimpArgs false
set_option linter.unusedVariables false
namespace Go.Proofs.YtggknljlibhkjaaGreat
open Go.RowKit
section
variable {base : Nat} {w w1 : World} {s : Nat} {S : Sto}
def wr (b : List UInt8) (p : Nat) (l : List UInt8) : List UInt8 := over (b ++ List.replicate (p + l.length - b.length) 0) p l
theorem wr_length {b : List UInt8} {p : Nat} {l : List UInt8} : (wr b p l).length = max b.length (p + l.length) := by
  unfold wr
  rw [over_length (by simp; omega)]
  simp
  omega
theorem wr_in {b : List UInt8} {p : Nat} {l : List UInt8} (h : p + l.length ≤ b.length) : wr b p l = over b p l := by
  unfold wr
  rw [show p + l.length - b.length = 0 by omega]
  simp
def WritePost (base s : Nat) (S : Sto) (f : Int) (r : Rd) (x : Fl) (l : List UInt8) (w : World) (e : Ending) (w' : World) : Prop :=
  ∃ A c, e = .returned (.int .i64 0) ∧ StoreAt base w' s ((S.setFile r.f ⟨A, c, wr x.b r.pos l⟩).setPos f (r.pos + l.length)) ∧ Chg (foot s S) w w' ∧
    ∀ k, foot s ((S.setFile r.f ⟨A, c, wr x.b r.pos l⟩).setPos f (r.pos + l.length)) k → k < w.heap.size → foot s S k
theorem lput_none (h : StoreAt base w s S) {f : Int} (hr : S.rdAt f = none) (v : Value) :
    Calls Tryz.prog 101 #[ptr s, .int .i64 f, v] w fun e w' => e = .returned (.int .i64 0) ∧ w = w' := by
  have Hr := Go.Lib.hid (rider_none h hr)
  have Hth := Go.Lib.hid (there_c h)
  clear h hr
  unfold ptr at Hr Hth ⊢
  go_enter Tryz.func101, Tryz.ntmps101
  go_wp2_with fail
  refine Hr.out.mono ?_
  rintro e w' ⟨rfl, rfl⟩
  go_wp2_with fail
  refine Hth.out.mono ?_
  rintro e w' ⟨rfl, rfl⟩
  go_wp2_with fail
  go_ret
  exact ⟨rfl, rfl⟩
theorem cap_le {w : World} {base : Nat} {e : TypeId} {x : Fl} {xs : List Value} (h : w.ownsRow base e 1 x.v x.b.length xs) : x.b.length ≤ x.c := by
  rcases h.2 with ⟨h1, h2⟩ | ⟨g, cap, cur, h1, h2, h3, h4, _⟩
  · omega
  · unfold Fl.v at h1; injection h1 with _ _ h5; omega
theorem StoreAt.rpos (h : StoreAt base w s S) {f : Int} {r : Rd} (hr : S.rdAt f = some r) : w.cell? ⟨r.blk, 2, none⟩ = some (.int .i64 r.pos) ∧ w.frozen? ⟨r.blk, 2, none⟩ = false := by
  obtain ⟨_, _, _, _, _, _, c2, z2, _⟩ := h.rfacts hr
  exact ⟨c2, z2⟩
theorem u8size : (Tryz.prog.info? 5).map (·.size) = some 1 := by kernel_rfl
theorem write_fin (h : StoreAt base w s S) {f : Int} {r : Rd} {x : Fl} {l : List UInt8} (hr : S.rdAt f = some r) (hx : S.fl r.f = some x) (hin : r.pos + l.length ≤ x.b.length) :
    ∀ w2, w2.ownsRow base 5 1 (.slice x.A x.b.length x.c) x.b.length (over (bv x.b) r.pos (bv l)) → Chg (fun k => (Value.slice x.A x.b.length x.c).ownBlock = some k) w w2 →
      StoreAt base w2 s (S.setFile r.f ⟨x.A, x.c, wr x.b r.pos l⟩) ∧ (∀ k, foot s (S.setFile r.f ⟨x.A, x.c, wr x.b r.pos l⟩) k → k < w.heap.size → foot s S k) ∧ Chg (foot s S) w w2 ∧
      (StoreAt base (w2.setCell ⟨r.blk, 2, none⟩ (.int .i64 ((r.pos : Int) + l.length))) s ((S.setFile r.f ⟨x.A, x.c, wr x.b r.pos l⟩).setPos f (r.pos + l.length)) ∧ Chg (fun k => k = r.blk) w2 (w2.setCell ⟨r.blk, 2, none⟩ (.int .i64 ((r.pos : Int) + l.length)))) := by
  intro w2 ho hc
  obtain ⟨_, _, _, hm⟩ := rdAt_some hr
  have hlen : (wr x.b r.pos l).length = x.b.length := by rw [wr_length]; omega
  have hv : (⟨x.A, x.c, wr x.b r.pos l⟩ : Fl).v = x.v := by unfold Fl.v; simp only [hlen]
  have hbv : over (bv x.b) r.pos (bv l) = bv (wr x.b r.pos l) := by rw [wr_in hin]; exact (over_map _ _ _ _).symm
  have hb := (h.flb _ _ hx).chg hc (fun hk => own_blk_ne (h.flo _ _ hx) (h.flb _ _ hx) (by decide) hk)
  obtain ⟨h2, hf2⟩ := h.setFile (y := ⟨x.A, x.c, wr x.b r.pos l⟩) hx (hc.mono (fun k _ hk => .inr hk)) (by rw [hv]; exact hb) (by rw [hv, ← hbv, hlen]; exact ho) (fun k hk => .inl (by rw [hv] at hk; exact hk))
    (fun q hq hqf => by
      obtain ⟨y, hy, hp⟩ := h.rdf q hq
      rw [hqf, hx] at hy
      cases hy
      show q.pos ≤ (wr x.b r.pos l).length
      omega) (by simp only [hlen]; have := h.fits; omega) (by simp only [hlen]; omega) (StoreAt.rd_held hm)
  have hx2 : (S.setFile r.f ⟨x.A, x.c, wr x.b r.pos l⟩).fl r.f = some ⟨x.A, x.c, wr x.b r.pos l⟩ := by simp [Sto.setFile]
  have hset := h2.setPos (f := f) (r := r) hr hx2 (p := r.pos + l.length) (by simp only [hlen]; exact hin)
  refine ⟨h2, hf2, hc.mono (fun k _ hk => .inr (.inr (.inr (.inr ⟨r.f, x, hx, .inr hk⟩)))), hset⟩
set_option maxHeartbeats 1000000 in
theorem lput_in (h : StoreAt base w s S) {f : Int} {r : Rd} {x : Fl} (hr : S.rdAt f = some r) (hx : S.fl r.f = some x) {A : Option Addr} {c : Nat} {l : List UInt8} (hcl : CellsAt w A (bv l)) (hin : r.pos + l.length ≤ x.b.length) :
    Calls Tryz.prog 101 #[ptr s, .int .i64 f, .slice A l.length c] w (WritePost base s S f r x l w) := by
  obtain ⟨x', hx', hp, hle, c0, c1, c2, z2, cf⟩ := h.rfacts hr
  obtain rfl : x' = x := by rw [hx] at hx'; exact (Option.some.inj hx').symm
  have Hr := Go.Lib.hid (rider_some h hr)
  have Hth := Go.Lib.hid (there_c h)
  have H := Go.Lib.hid h
  have HR := Go.Lib.hid hr
  have HX := Go.Lib.hid hx
  have Hcl := Go.Lib.hid hcl
  have Hin := Go.Lib.hid hin
  have hs1 : IntKind.i64.wrap ((r.pos : Int) + (l.length : Int)) = (r.pos : Int) + l.length := by rw [IntKind.wrap_i64]; omega
  have hs2 : IntKind.i64.wrap ((r.pos : Int) + (l.length : Int) - (x'.b.length : Int)) = (r.pos : Int) + l.length - x'.b.length := by rw [IntKind.wrap_i64]; omega
  have hin' : (r.pos : Int) + (l.length : Int) ≤ (x'.b.length : Int) := by omega
  have d1 : decide ((0 : Int) < (r.pos : Int) + (l.length : Int) - (x'.b.length : Int)) = false := by simp; omega
  clear h hr hx hcl hx' hin c1
  unfold ptr at Hr Hth c0 ⊢
  go_enter Tryz.func101, Tryz.ntmps101
  go_wp2_with fail
  refine Hr.out.mono ?_
  rintro e w' ⟨rfl, rfl⟩
  go_wp2_with fail
  refine Hth.out.mono ?_
  rintro e w' ⟨rfl, rfl⟩
  go_wp2_with fail
  go_quiet (fail)
  rename_i nq
  go_wp2_with fail
  have H1 := Go.Lib.hid (H.out.chg ((Chg.refl NoB w).drewN nq) (fun _ _ => id))
  have Hcl1 := Go.Lib.hid (Hcl.out.chg ((Chg.refl NoB w).drewN nq) (fun _ _ => id))
  have Hch1 := Go.Lib.hid ((Chg.refl NoB w).drewN nq)
  clear c0 c2 z2 cf hs1 hs2 d1 Hr Hth
  generalize w.drewN nq = W at *
  obtain ⟨x'', hx'', _, _, c0, _, c2, z2, cf⟩ := H1.out.rfacts HR.out
  obtain rfl : x'' = x' := by rw [HX.out] at hx''; exact (Option.some.inj hx'').symm
  clear hx''
  have hcap : (x''.b.length : Int) ≤ x''.c := by have := cap_le (H1.out.flo _ _ HX.out); omega
  have hp0 : (0 : Int) ≤ r.pos := by omega
  have hp1 : (r.pos : Int) ≤ x''.b.length := by omega
  unfold ptr at c0
  set_option maxRecDepth 100000 in go_still_tail 13, (by kernel_rfl)
  have Hfin := Go.Lib.hid (write_fin H1.out HR.out HX.out (l := l) (Hin.out))
  change wpList _ _ _ _ _ W.drew
  refine wpList_copy_over _ rfl _ _ _ _ rfl 5 Tryz.underlying44 u8size base x''.A x''.b.length x''.c (bv x''.b) (H1.out.flo _ _ HX.out) r.pos _ A _ c l.length (bv l) (bv_length l) rfl rfl Hin.out (fun h0 => if_neg (by have := Hin.out; omega)) (Hcl1.out.chg ((Chg.refl NoB W).drew) (fun _ _ => id)) (bv_one l) ?_
  intro w2 ho2 hc2 hz2
  obtain ⟨h2, hf2, hcw2, hset⟩ := Hfin.out w2 ho2 (((Chg.refl _ W).drew).trans hc2)
  obtain ⟨c2', z2'⟩ := h2.rpos HR.out
  have Hset := Go.Lib.hid hset
  have Hcw2 := Go.Lib.hid hcw2
  have Hf2 := Go.Lib.hid hf2
  clear c0 c2 z2 cf ho2 hc2 hz2 h2 hcw2 hset hf2 hcap
  go_wp2_with fail
  all_goals go_ret
  all_goals obtain ⟨h3, hc3⟩ := Hset.out
  all_goals refine ⟨_, _, rfl, h3, ?_, ?_⟩
  all_goals first
  | exact ((Hch1.out.mono (fun _ _ h => h.elim)).trans Hcw2.out).step hc3 (fun k hk hk' => by subst hk'; exact .inr (.inr (.inr (.inl ⟨r, (rdAt_some HR.out).2.2.2, rfl⟩))))
  | exact fun k hk hlt => Hf2.out k (foot_setPos hk) (by have := Hch1.out.size; omega)
end
end Go.Proofs.YtggknljlibhkjaaGreat
set_option linter.unusedSimpArgs false
set_option linter.unusedVariables false
namespace Go.Proofs.YtggknljlibhkjaaGreat
open Go.RowKit
section
variable {base : Nat} {w w1 : World} {s : Nat} {S : Sto}
theorem lput_full (h : StoreAt base w s S) {f : Int} {r : Rd} {x : Fl} (hr : S.rdAt f = some r) (hx : S.fl r.f = some x) {A : Option Addr} {c m : Nat} (hm : m ≤ 140737488355328) (hfull : x.b.length + S.room < r.pos + m) :
    Calls Tryz.prog 101 #[ptr s, .int .i64 f, .slice A m c] w (Quiet (.int .i64 5) w) := by
  obtain ⟨x', hx', hp, hle, c0, c1, c2, z2, cf⟩ := h.rfacts hr
  obtain rfl : x' = x := by rw [hx] at hx'; exact (Option.some.inj hx').symm
  have Hr := Go.Lib.hid (rider_some h hr)
  have Hth := Go.Lib.hid (there_c h)
  have H := Go.Lib.hid h
  obtain ⟨k, hk⟩ : ∃ k : Nat, k = r.pos + m - x'.b.length := ⟨_, rfl⟩
  have hs1 : IntKind.i64.wrap ((r.pos : Int) + (m : Int)) = (r.pos : Int) + m := by rw [IntKind.wrap_i64]; omega
  have hs2 : IntKind.i64.wrap ((r.pos : Int) + (m : Int) - (x'.b.length : Int)) = k := by rw [IntKind.wrap_i64]; omega
  have hk0 : (0 : Int) < k := by omega
  have d2 : decide (S.room < k) = true := by simp; omega
  clear h hr hx hx' c1 hk hfull
  unfold ptr at Hr Hth c0 ⊢
  go_enter Tryz.func101, Tryz.ntmps101
  go_wp2_with fail
  refine Hr.out.mono ?_
  rintro e w' ⟨rfl, rfl⟩
  go_wp2_with fail
  refine Hth.out.mono ?_
  rintro e w' ⟨rfl, rfl⟩
  go_wp2_with fail
  go_quiet (fail)
  rename_i nq
  have H1 := Go.Lib.hid (H.out.chg ((Chg.refl NoB w).drewN nq) (fun _ _ => id))
  have Hch1 := Go.Lib.hid ((Chg.refl NoB w).drewN nq)
  have Hroom := Go.Lib.hid (room_c H1.out)
  clear c0 c2 z2 cf hs1 hs2 Hr Hth
  generalize w.drewN nq = W at *
  unfold ptr at Hroom
  go_wp2_with fail
  refine Hroom.out.mono ?_
  rintro e w2 ⟨rfl, hc2⟩
  have Hc2 := Go.Lib.hid hc2
  clear hc2
  go_wp2_with fail
  go_ret
  exact ⟨rfl, Hch1.out.trans Hc2.out⟩
theorem grow_facts (h : StoreAt base w s S) {f : Int} {r : Rd} {x : Fl} (hr : S.rdAt f = some r) (hx : S.fl r.f = some x) : base ≤ w.heap.size ∧ ∀ w3, w.grownBy w3 (Value.slice x.A x.b.length x.c).ownBlock →
    w3.cell? ⟨r.blk, 0, none⟩ = some (.pointer (some ⟨r.f, 0, none⟩)) ∧ w3.cell? ⟨r.f, 0, none⟩ = some (.slice x.A x.b.length x.c) ∧ w3.frozen? ⟨r.f, 0, none⟩ = false := by
  refine ⟨by have := h.low s (.inl rfl); have := h.blk.lt; omega, fun w3 hg => ?_⟩
  have hb := (h.rdb r (rdAt_some hr).2.2.2).grown hg (fun e => own_blk_ne (h.flo _ _ hx) (h.rdb r (rdAt_some hr).2.2.2) (by decide) e.symm)
  have hf := (h.flb _ _ hx).grown hg (fun e => own_blk_ne (h.flo _ _ hx) (h.flb _ _ hx) (by decide) e.symm)
  exact ⟨hb.cell 0, hf.cell 0, hf.frozen 0⟩
theorem setFile_twice (S : Sto) (f : Nat) (y z : Fl) : (S.setFile f y).setFile f z = S.setFile f z := by
  have e : (fun g => if g = f then some z else if g = f then some y else S.fl g) = fun g => if g = f then some z else S.fl g := by
    funext g
    split <;> rfl
  unfold Sto.setFile
  simp only [e]
theorem bv_replicate (k : Nat) : bv (List.replicate k 0) = List.replicate k (.int .u8 0) := by simp [bv]
theorem grow_fin (h : StoreAt base w s S) {f : Int} {r : Rd} {x : Fl} (hr : S.rdAt f = some r) (hx : S.fl r.f = some x) {w3 : World} {A1 : Option Addr} {c1 k : Nat} (hg : w.grownBy w3 (Value.slice x.A x.b.length x.c).ownBlock)
    (ho : w3.ownsRow base 5 1 (.slice A1 (x.b.length + k) c1) (x.b.length + k) (bv x.b ++ List.replicate k (.int .u8 0)))
    (hat : (Value.slice A1 (x.b.length + k) c1).ownBlock = (Value.slice x.A x.b.length x.c).ownBlock ∨ (Value.slice A1 (x.b.length + k) c1).ownBlock = some w.heap.size) (hk : k ≤ S.room) :
    StoreAt base (w3.setCell ⟨r.f, 0, none⟩ (.slice A1 (x.b.length + k) c1)) s (S.setFile r.f ⟨A1, c1, x.b ++ List.replicate k 0⟩) ∧ Chg (foot s S) w (w3.setCell ⟨r.f, 0, none⟩ (.slice A1 (x.b.length + k) c1)) ∧
      ∀ j, foot s (S.setFile r.f ⟨A1, c1, x.b ++ List.replicate k 0⟩) j → j < w.heap.size → foot s S j := by
  have hm := (rdAt_some hr).2.2.2
  have hlen : (x.b ++ List.replicate k (0 : UInt8)).length = x.b.length + k := by simp
  have hv : (⟨A1, c1, x.b ++ List.replicate k 0⟩ : Fl).v = .slice A1 (x.b.length + k) c1 := by unfold Fl.v; rw [hlen]
  have hc : Chg (fun j => j = r.f ∨ x.v.ownBlock = some j) w (w3.setCell ⟨r.f, 0, none⟩ (.slice A1 (x.b.length + k) c1)) :=
    ((Chg.refl (fun j => j = r.f ∨ x.v.ownBlock = some j) w).grown hg (fun j hj _ => .inr hj)).setCell (p := ⟨r.f, 0, none⟩) (fun _ => .inl rfl) _
  have hb := ((h.flb _ _ hx).grown hg (fun e => own_blk_ne (h.flo _ _ hx) (h.flb _ _ hx) (by decide) e.symm))
  have ho' : (w3.setCell ⟨r.f, 0, none⟩ (.slice A1 (x.b.length + k) c1)).ownsRow base 5 1 (.slice A1 (x.b.length + k) c1) (x.b.length + k) (bv x.b ++ List.replicate k (.int .u8 0)) :=
    own_chg ho ((Chg.refl (fun j => j = r.f) w3).setCell (p := ⟨r.f, 0, none⟩) (fun _ => rfl) _) (fun j hj e => by subst e; exact own_blk_ne ho hb (by decide) hj)
  obtain ⟨h4, hf4⟩ := h.setFile (y := ⟨A1, c1, x.b ++ List.replicate k 0⟩) hx hc (by rw [hv]; exact hb.set_ 0 _) (by
      rw [hv, hlen, bv_append, bv_replicate]; exact ho') (fun j hj => by
      rw [hv] at hj
      rcases hat with e | e
      · exact .inl (e ▸ hj)
      · rw [hj] at e; injection e with e; exact .inr (by omega)) (fun q hq hqf => by
      obtain ⟨y, hy, hp⟩ := h.rdf q hq
      rw [hqf, hx] at hy
      cases hy
      show q.pos ≤ (x.b ++ List.replicate k (0 : UInt8)).length
      rw [hlen]
      omega) (by
      show S.used + (x.b ++ List.replicate k (0 : UInt8)).length ≤ S.cap + x.b.length
      rw [hlen]
      have := h.fits
      unfold Sto.room at hk
      omega) (by show x.b.length ≤ (x.b ++ List.replicate k (0 : UInt8)).length; rw [hlen]; omega) (StoreAt.rd_held hm)
  exact ⟨h4, hc.mono (fun j _ hj => .inr (.inr (.inr (.inr ⟨r.f, x, hx, hj⟩)))), hf4⟩
set_option maxHeartbeats 2000000 in
theorem lput_grow (h : StoreAt base w s S) {f : Int} {r : Rd} {x : Fl} (hr : S.rdAt f = some r) (hx : S.fl r.f = some x) {A : Option Addr} {c : Nat} {l : List UInt8} (hcl : CellsAt w A (bv l)) (hap : ∀ ad, A = some ad → ¬ foot s S ad.block)
    (hl : l.length ≤ 140737488355328) (hmore : x.b.length < r.pos + l.length) (hroom : r.pos + l.length ≤ x.b.length + S.room) :
    Calls Tryz.prog 101 #[ptr s, .int .i64 f, .slice A l.length c] w (WritePost base s S f r x l w) := by
  obtain ⟨i0, hi0, hz0, hz1, hz2⟩ := info_parts u8info
  have Hi := Go.Lib.hid (And.intro hi0 (And.intro hz0 (And.intro hz1 hz2)))
  clear hi0 hz0 hz1 hz2
  obtain ⟨x', hx', hp, hle, c0, c1, c2, z2, cf⟩ := h.rfacts hr
  obtain rfl : x' = x := by rw [hx] at hx'; exact (Option.some.inj hx').symm
  have Hr := Go.Lib.hid (rider_some h hr)
  have Hth := Go.Lib.hid (there_c h)
  have H := Go.Lib.hid h
  have HR := Go.Lib.hid hr
  have HX := Go.Lib.hid hx
  have Hcl := Go.Lib.hid hcl
  have Hap := Go.Lib.hid hap
  obtain ⟨k, hk⟩ : ∃ k : Nat, k = r.pos + l.length - x'.b.length := ⟨_, rfl⟩
  have hs1 : IntKind.i64.wrap ((r.pos : Int) + (l.length : Int)) = (r.pos : Int) + l.length := by rw [IntKind.wrap_i64]; omega
  have hs2 : IntKind.i64.wrap ((r.pos : Int) + (l.length : Int) - (x'.b.length : Int)) = k := by rw [IntKind.wrap_i64]; omega
  have hk0 : (0 : Int) < k := by omega
  have d2 : decide (S.room < k) = false := by simp; omega
  have Hk := Go.Lib.hid hk
  have Hmore := Go.Lib.hid hmore
  have Hl := Go.Lib.hid hl
  have hrs : S.room ≤ 67108864 := room_small h
  have Hsmall : Hid (x'.b.length + k ≤ 140737488355328) := Go.Lib.hid (by omega)
  clear h hr hx hcl hap hx' c1 hk hmore hroom hl hrs
  unfold ptr at Hr Hth c0 ⊢
  go_enter Tryz.func101, Tryz.ntmps101
  go_wp2_with fail
  refine Hr.out.mono ?_
  rintro e w' ⟨rfl, rfl⟩
  go_wp2_with fail
  refine Hth.out.mono ?_
  rintro e w' ⟨rfl, rfl⟩
  go_wp2_with fail
  go_quiet (fail)
  rename_i nq
  have H1 := Go.Lib.hid (H.out.chg ((Chg.refl NoB w).drewN nq) (fun _ _ => id))
  have Hch1 := Go.Lib.hid ((Chg.refl NoB w).drewN nq)
  have Hroom := Go.Lib.hid (room_c H1.out)
  clear c0 c2 z2 cf hs1 hs2 Hr Hth
  generalize w.drewN nq = W at *
  unfold ptr at Hroom
  go_wp2_with fail
  refine Hroom.out.mono ?_
  rintro e w2 ⟨rfl, hc2⟩
  have H2 := Go.Lib.hid (H1.out.chg hc2 (fun _ _ => id))
  have Hch2 := Go.Lib.hid (Hch1.out.trans hc2)
  clear hc2 Hroom
  go_wp2_with fail
  obtain ⟨x'', hx'', _, _, c0, _, c2, z2, cf⟩ := H2.out.rfacts HR.out
  obtain rfl : x'' = x' := by rw [HX.out] at hx''; exact (Option.some.inj hx'').symm
  have hnn : ¬ r.blk = r.f := Ne.symm ((H2.out.flb _ _ HX.out).ne_ (H2.out.rdb _ (rdAt_some HR.out).2.2.2) (by decide))
  have Hb1 := Go.Lib.hid (grow_facts H2.out HR.out HX.out)
  clear hx''
  unfold ptr at c0
  set_option maxRecDepth 100000 in
  go_region_law (first
    | (refine step_app_zeros _ rfl _ _ _ _ (by rfl) base 5 i0 (.int .u8 0) .i64 Tryz.underlying44 Tryz.underlying3 Hi.out.1 Hi.out.2.1 Hi.out.2.2.1 Hi.out.2.2.2 rfl rfl (.slice x''.A x''.b.length x''.c) x''.b.length (bv x''.b) (by rfl) (H2.out.flo _ _ HX.out) .i64 k (by rfl) (by omega) Hsmall.out Hb1.out.1 ?_
       intro v1 w3 ho hg hat
       obtain ⟨A1, c1, rfl⟩ := own_slice ho
       obtain ⟨e1, e2, e3⟩ := Hb1.out.2 w3 ⟨hg.os, hg.tape, hg.output, hg.size, hg.block⟩))
  all_goals
    have hgf := grow_fin H2.out HR.out HX.out ⟨hg.os, hg.tape, hg.output, hg.size, hg.block⟩ ho hat (by have := Hk.out; have := Hmore.out; have := of_decide_eq_false d2; omega)
    have hsz3 : w2.heap.size ≤ w3.heap.size := hg.size
    clear ho hg hat e1 e2 e3 c0 c2 z2 cf hp hle
    generalize w3.setCell ⟨r.f, 0, none⟩ (.slice A1 (x''.b.length + k) c1) = W4 at *
    obtain ⟨h4, hch4, hf4⟩ := hgf
    have hx4 : (S.setFile r.f ⟨A1, c1, x''.b ++ List.replicate k 0⟩).fl r.f = some ⟨A1, c1, x''.b ++ List.replicate k 0⟩ := by simp [Sto.setFile]
    have hr4 : (S.setFile r.f ⟨A1, c1, x''.b ++ List.replicate k 0⟩).rdAt f = some r := HR.out
    have Hin : Hid (r.pos + l.length ≤ (x''.b ++ List.replicate k 0).length) := Go.Lib.hid (by have := Hk.out; have := Hmore.out; simp; omega)
    have Hcl4 := Go.Lib.hid ((Hcl.out.chg Hch2.out (fun _ _ => id)).chg hch4 Hap.out)
    have Hwr : Hid (wr (x''.b ++ List.replicate k 0) r.pos l = wr x''.b r.pos l) := Go.Lib.hid (by have := Hk.out; unfold wr; rw [this]; simp; rw [show r.pos + l.length - (x''.b.length + (r.pos + l.length - x''.b.length)) = 0 by omega]; simp)
    have H4 := Go.Lib.hid h4
    have HR4 := Go.Lib.hid hr4
    have HX4 := Go.Lib.hid hx4
    have Hch4 := Go.Lib.hid ((Hch2.out.mono (fun _ _ h => h.elim)).trans hch4)
    have Hf4 := Go.Lib.hid hf4
    clear h4 hch4 hf4 hx4 hr4 hk0 d2 Hb1 hsz3 hnn
    have Hset : Hid (∀ y z, (S.setFile r.f y).setFile r.f z = S.setFile r.f z) := Go.Lib.hid (setFile_twice S r.f)
    generalize x''.b ++ List.replicate k 0 = b4 at *
    obtain ⟨x5, hx5, _, _, c0, _, c2, z2, cf⟩ := H4.out.rfacts HR4.out
    obtain rfl : x5 = ⟨A1, c1, b4⟩ := by rw [HX4.out] at hx5; exact (Option.some.inj hx5).symm
    clear hx5
    simp only at cf
    have hle4 : b4.length ≤ 67108864 := by assumption
    have hcap : (b4.length : Int) ≤ c1 := by have := cap_le (H4.out.flo _ _ HX4.out); simp only at this; omega
    have hp0 : (0 : Int) ≤ r.pos := by omega
    have hin4 : (r.pos : Int) + l.length ≤ b4.length := by have := Hin.out; omega
    have hp1 : (r.pos : Int) ≤ b4.length := by omega
    have Hfin := Go.Lib.hid (write_fin H4.out HR4.out HX4.out (l := l) (Hin.out))
    unfold ptr at c0
    go_wp2_with fail
    set_option maxRecDepth 100000 in go_still_tail 13, (by kernel_rfl)
    change wpList _ _ _ _ _ W4.drew
    refine wpList_copy_over _ rfl _ _ _ _ rfl 5 Tryz.underlying44 u8size base A1 b4.length c1 (bv b4) (H4.out.flo _ _ HX4.out) r.pos _ A _ c l.length (bv l) (bv_length l) rfl rfl Hin.out (fun h0 => if_neg (by have := Hin.out; omega)) (Hcl4.out.chg ((Chg.refl NoB W4).drew) (fun _ _ => id)) (bv_one l) ?_
    intro w5 ho5 hc5 hz5
    obtain ⟨h5, hf5, hcw5, hset⟩ := Hfin.out w5 ho5 (((Chg.refl _ W4).drew).trans hc5)
    obtain ⟨c2', z2'⟩ := h5.rpos HR4.out
    rw [Hset.out, Hwr.out] at hset hf5
    have Hset5 := Go.Lib.hid hset
    have Hcw5 := Go.Lib.hid hcw5
    have Hf5 := Go.Lib.hid hf5
    clear c0 c2 z2 cf ho5 hc5 hz5 h5 hcw5 hset hf5 hcap
    go_wp2_with fail
    all_goals go_ret
    all_goals obtain ⟨h6, hc6⟩ := Hset5.out
    all_goals refine ⟨_, _, rfl, h6, ?_, ?_⟩
    all_goals first
    | exact (Hch4.out.step Hcw5.out (fun j hj hf => Hf4.out j hf (by have := Hch2.out.size; omega))).step hc6 (fun k hk hk' => by subst hk'; exact .inr (.inr (.inr (.inl ⟨r, (rdAt_some HR.out).2.2.2, rfl⟩))))
    | exact fun j hk hlt => Hf4.out j (Hf5.out j (foot_setPos hk) (by have := Hch4.out.size; omega)) (by have := Hch2.out.size; omega)
end
end Go.Proofs.YtggknljlibhkjaaGreat
set_option linter.unusedSimpArgs false
set_option linter.unusedVariables false
namespace Go.Proofs.YtggknljlibhkjaaGreat
open Go.RowKit
section
variable {base : Nat} {w w1 : World} {s : Nat} {S : Sto}
theorem lput_ok (h : StoreAt base w s S) {f : Int} {r : Rd} {x : Fl} (hr : S.rdAt f = some r) (hx : S.fl r.f = some x) {A : Option Addr} {c : Nat} {l : List UInt8} (hcl : CellsAt w A (bv l)) (hap : ∀ ad, A = some ad → ¬ foot s S ad.block)
    (hl : l.length ≤ 140737488355328) (hroom : r.pos + l.length ≤ x.b.length + S.room) :
    Calls Tryz.prog 101 #[ptr s, .int .i64 f, .slice A l.length c] w (WritePost base s S f r x l w) := by
  by_cases hin : r.pos + l.length ≤ x.b.length
  · exact lput_in h hr hx hcl hin
  · exact lput_grow h hr hx hcl hap hl (by omega) hroom
theorem WritePost.pre {f : Int} {r : Rd} {x : Fl} {l : List UInt8} {e : Ending} {w2 : World} (hc : Chg NoB w w1) (h : WritePost base s S f r x l w1 e w2) : WritePost base s S f r x l w e w2 := by
  obtain ⟨A, c, h1, h2, h3, h4⟩ := h
  exact ⟨A, c, h1, h2, (hc.mono (fun _ _ h => h.elim)).trans h3, fun k hk hlt => h4 k hk (by have := hc.size; omega)⟩
theorem write_ok (h : StoreAt base w s S) {f : Int} {r : Rd} {x : Fl} (hr : S.rdAt f = some r) (hx : S.fl r.f = some x) (b : UInt8) (hroom : r.pos + 1 ≤ x.b.length + S.room) :
    Calls Tryz.prog 50 #[ptr s, .int .i64 f, .int .u8 b.toNat] w (WritePost base s S f r x [b] w) := by
  have hca : Chg NoB w (w.alloc (Obj.cells #[Value.int .u8 b.toNat] 5)) := (Chg.refl _ _).alloc _
  have h1 := h.chg hca (fun _ _ => id)
  have Hp := Go.Lib.hid (lput_ok h1 hr hx (A := some ⟨w.heap.size, 0, none⟩) (c := 1) (l := [b]) (cells_of_blk (Blk.new w 5 #[Value.int .u8 b.toNat])) (fun ad hA hf => by
    cases hA
    have := h.lt _ hf
    simp only at this
    omega) (by simp) hroom)
  have Hca := Go.Lib.hid hca
  clear h h1 hr hx hroom hca
  unfold ptr at Hp ⊢
  go_enter Tryz.func50, Tryz.ntmps50
  go_wp2_with fail
  refine Hp.out.mono ?_
  rintro e w2 hw
  have hw' := hw.pre Hca.out
  obtain ⟨A, c, rfl, _⟩ := hw
  have Hw := Go.Lib.hid hw'
  clear hw'
  go_wp2_with fail
  go_ret
  exact Hw.out
theorem write_none (h : StoreAt base w s S) {f : Int} (hr : S.rdAt f = none) (b : UInt8) :
    Calls Tryz.prog 50 #[ptr s, .int .i64 f, .int .u8 b.toNat] w (Quiet (.int .i64 0) w) := by
  have hca : Chg NoB w (w.alloc (Obj.cells #[Value.int .u8 b.toNat] 5)) := (Chg.refl _ _).alloc _
  have Hp := fun v => Go.Lib.hid (lput_none (h.chg hca (fun _ _ => id)) hr v)
  have Hca := Go.Lib.hid hca
  clear h hr hca
  unfold ptr at Hp ⊢
  go_enter Tryz.func50, Tryz.ntmps50
  go_wp2_with fail
  refine (Hp _).out.mono ?_
  rintro e w2 ⟨rfl, rfl⟩
  go_wp2_with fail
  go_ret
  exact ⟨rfl, Hca.out⟩
theorem write_full (h : StoreAt base w s S) {f : Int} {r : Rd} {x : Fl} (hr : S.rdAt f = some r) (hx : S.fl r.f = some x) (b : UInt8) (hfull : x.b.length + S.room < r.pos + 1) :
    Calls Tryz.prog 50 #[ptr s, .int .i64 f, .int .u8 b.toNat] w (Quiet (.int .i64 5) w) := by
  have hca : Chg NoB w (w.alloc (Obj.cells #[Value.int .u8 b.toNat] 5)) := (Chg.refl _ _).alloc _
  have Hp := Go.Lib.hid (lput_full (h.chg hca (fun _ _ => id)) hr hx (A := some ⟨w.heap.size, 0, none⟩) (c := 1) (m := 1) (by omega) hfull)
  have Hca := Go.Lib.hid hca
  clear h hr hx hca hfull
  unfold ptr at Hp ⊢
  go_enter Tryz.func50, Tryz.ntmps50
  go_wp2_with fail
  refine Hp.out.mono ?_
  rintro e w2 ⟨rfl, hc⟩
  have Hc := Go.Lib.hid (Hca.out.trans hc)
  clear hc
  go_wp2_with fail
  go_ret
  exact ⟨rfl, Hc.out⟩
theorem bytesOfWord_length (n : Nat) : (bytesOfWord n).length = 4 := rfl
theorem writeWord_ok (h : StoreAt base w s S) {f : Int} {r : Rd} {x : Fl} (hr : S.rdAt f = some r) (hx : S.fl r.f = some x) (n : Nat) (hn : n < 4294967296) (hroom : r.pos + 4 ≤ x.b.length + S.room) :
    Calls Tryz.prog 51 #[ptr s, .int .i64 f, .int .u32 n] w (WritePost base s S f r x (bytesOfWord n) w) := by
  have hca : Chg NoB w (w.alloc (Obj.cells #[Value.int .u32 n] 23)) := (Chg.refl _ _).alloc _
  have Hwb := Go.Lib.hid (wordBytes_c (w.alloc (Obj.cells #[Value.int .u32 n] 23)) w.heap.size n hn ((Blk.new w 23 #[Value.int .u32 n]).cell 0))
  have Hca := Go.Lib.hid hca
  have H := Go.Lib.hid h
  have HR := Go.Lib.hid hr
  have HX := Go.Lib.hid hx
  have Hroom := Go.Lib.hid hroom
  clear h hr hx hroom hca hn
  unfold ptr
  go_enter Tryz.func51, Tryz.ntmps51
  go_wp2_with fail
  refine Hwb.out.mono ?_
  rintro e w2 ⟨v, rfl, ho, hc⟩
  obtain ⟨A, c, rfl⟩ := own_slice ho
  have hc2 := Hca.out.trans hc
  have Hp := Go.Lib.hid (lput_ok (H.out.chg hc2 (fun _ _ => id)) HR.out HX.out (A := A) (c := c) (l := bytesOfWord n) (CellsAt.of_own ho) (fun ad hA hf => by
    have h1 := H.out.lt _ hf
    have h2 := (ho.lt ad.block (by rw [hA]; rfl)).1
    simp at h2
    omega) (by rw [bytesOfWord_length]; omega) (by rw [bytesOfWord_length]; exact Hroom.out))
  have Hc2 := Go.Lib.hid hc2
  clear ho hc hc2
  rw [bytesOfWord_length] at Hp
  unfold ptr at Hp
  go_wp2_with fail
  refine Hp.out.mono ?_
  rintro e w3 hw
  have hw' := hw.pre Hc2.out
  obtain ⟨A, c, rfl, _⟩ := hw
  have Hw := Go.Lib.hid hw'
  clear hw'
  go_wp2_with fail
  go_ret
  exact Hw.out
theorem writeWord_none (h : StoreAt base w s S) {f : Int} (hr : S.rdAt f = none) (n : Nat) (hn : n < 4294967296) :
    Calls Tryz.prog 51 #[ptr s, .int .i64 f, .int .u32 n] w (Quiet (.int .i64 0) w) := by
  have hca : Chg NoB w (w.alloc (Obj.cells #[Value.int .u32 n] 23)) := (Chg.refl _ _).alloc _
  have Hwb := Go.Lib.hid (wordBytes_c (w.alloc (Obj.cells #[Value.int .u32 n] 23)) w.heap.size n hn ((Blk.new w 23 #[Value.int .u32 n]).cell 0))
  have Hca := Go.Lib.hid hca
  have H := Go.Lib.hid h
  have HR := Go.Lib.hid hr
  clear h hr hca hn
  unfold ptr
  go_enter Tryz.func51, Tryz.ntmps51
  go_wp2_with fail
  refine Hwb.out.mono ?_
  rintro e w2 ⟨v, rfl, ho, hc⟩
  have hc2 := Hca.out.trans hc
  have Hp := Go.Lib.hid (lput_none (H.out.chg hc2 (fun _ _ => id)) HR.out v)
  have Hc2 := Go.Lib.hid hc2
  clear ho hc hc2
  unfold ptr at Hp
  go_wp2_with fail
  refine Hp.out.mono ?_
  rintro e w3 ⟨rfl, rfl⟩
  go_wp2_with fail
  go_ret
  exact ⟨rfl, Hc2.out⟩
theorem writeWord_full (h : StoreAt base w s S) {f : Int} {r : Rd} {x : Fl} (hr : S.rdAt f = some r) (hx : S.fl r.f = some x) (n : Nat) (hn : n < 4294967296) (hfull : x.b.length + S.room < r.pos + 4) :
    Calls Tryz.prog 51 #[ptr s, .int .i64 f, .int .u32 n] w (Quiet (.int .i64 5) w) := by
  have hca : Chg NoB w (w.alloc (Obj.cells #[Value.int .u32 n] 23)) := (Chg.refl _ _).alloc _
  have Hwb := Go.Lib.hid (wordBytes_c (w.alloc (Obj.cells #[Value.int .u32 n] 23)) w.heap.size n hn ((Blk.new w 23 #[Value.int .u32 n]).cell 0))
  have Hca := Go.Lib.hid hca
  have H := Go.Lib.hid h
  have HR := Go.Lib.hid hr
  have HX := Go.Lib.hid hx
  have Hfull := Go.Lib.hid hfull
  clear h hr hx hca hn hfull
  unfold ptr
  go_enter Tryz.func51, Tryz.ntmps51
  go_wp2_with fail
  refine Hwb.out.mono ?_
  rintro e w2 ⟨v, rfl, ho, hc⟩
  obtain ⟨A, c, rfl⟩ := own_slice ho
  have hc2 := Hca.out.trans hc
  have Hp := Go.Lib.hid (lput_full (H.out.chg hc2 (fun _ _ => id)) HR.out HX.out (A := A) (c := c) (m := 4) (by omega) Hfull.out)
  have Hc2 := Go.Lib.hid hc2
  clear ho hc hc2
  unfold ptr at Hp
  go_wp2_with fail
  refine Hp.out.mono ?_
  rintro e w3 ⟨rfl, hc3⟩
  have Hc3 := Go.Lib.hid (Hc2.out.trans hc3)
  clear hc3
  go_wp2_with fail
  go_ret
  exact ⟨rfl, Hc3.out⟩
end
end Go.Proofs.YtggknljlibhkjaaGreat
