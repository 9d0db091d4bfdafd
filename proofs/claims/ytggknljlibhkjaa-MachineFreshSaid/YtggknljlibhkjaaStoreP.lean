/- What is proved: the contract of put. Conditions: the memory holds a store, and the bytes that are handed in, outside of the store. -/
import Derived.Test.YtggknljlibhkjaaStoreO
namespace Go.Proofs.Ytggknljlibhkjaa
open Go.RowKit
section
variable {base : Nat} {w w1 : World} {s : Nat} {S : Sto}

/-- bytes written from a place on -/
def wr (b : List UInt8) (p : Nat) (l : List UInt8) : List UInt8 := over (b ++ List.replicate (p + l.length - b.length) 0) p l
theorem wr_length {b : List UInt8} {p : Nat} {l : List UInt8} : (wr b p l).length = max b.length (p + l.length) := by
  unfold wr
  rw [over_length (by simp; omega)]
  simp
  omega
theorem wr_in {b : List UInt8} {p : Nat} {l : List UInt8} (h : p + l.length ≤ b.length) : wr b p l = over b p l := by
  unfold wr
  rw [show p + l.length - b.length = 0 by omega]
  simp

def WritePost (base s : Nat) (S : Sto) (f : Int) (r : Rd) (x : Fl) (l : List UInt8) (w : World) (e : Ending) (w' : World) : Prop :=
  ∃ A c, e = .returned (.int .i64 0) ∧ StoreAt base w' s ((S.setFile r.f ⟨A, c, wr x.b r.pos l⟩).setPos f (r.pos + l.length)) ∧ Chg (foot s S) w w' ∧
    ∀ k, foot s ((S.setFile r.f ⟨A, c, wr x.b r.pos l⟩).setPos f (r.pos + l.length)) k → k < w.heap.size → foot s S k

theorem lput_none (h : StoreAt base w s S) {f : Int} (hr : S.rdAt f = none) (v : Value) :
    Calls Try.prog 78 #[ptr s, .int .i64 f, v] w fun e w' => e = .returned (.int .i64 0) ∧ w = w' := by
  have Hr := Go.Lib.hid (rider_none h hr)
  have Hth := Go.Lib.hid (there_c h)
  clear h hr
  unfold ptr at Hr Hth ⊢
  go_enter Try.func78, Try.ntmps78
  go_wp2_with fail
  refine Hr.out.mono ?_
  rintro e w' ⟨rfl, rfl⟩
  go_wp2_with fail
  refine Hth.out.mono ?_
  rintro e w' ⟨rfl, rfl⟩
  go_wp2_with fail
  go_ret
  exact ⟨rfl, rfl⟩

theorem cap_le {w : World} {base : Nat} {e : TypeId} {x : Fl} {xs : List Value} (h : w.ownsRow base e 1 x.v x.b.length xs) : x.b.length ≤ x.c := by
  rcases h.2 with ⟨h1, h2⟩ | ⟨g, cap, cur, h1, h2, h3, h4, _⟩
  · omega
  · unfold Fl.v at h1; injection h1 with _ _ h5; omega

theorem StoreAt.rpos (h : StoreAt base w s S) {f : Int} {r : Rd} (hr : S.rdAt f = some r) : w.cell? ⟨r.blk, 2, none⟩ = some (.int .i64 r.pos) ∧ w.frozen? ⟨r.blk, 2, none⟩ = false := by
  obtain ⟨_, _, _, _, _, _, c2, z2, _⟩ := h.rfacts hr
  exact ⟨c2, z2⟩
theorem u8size : (Try.prog.info? 5).map (·.size) = some 1 := by kernel_rfl

/-- what a copy into a file's bytes comes to -/
theorem write_fin (h : StoreAt base w s S) {f : Int} {r : Rd} {x : Fl} {l : List UInt8} (hr : S.rdAt f = some r) (hx : S.fl r.f = some x) (hin : r.pos + l.length ≤ x.b.length) :
    ∀ w2, w2.ownsRow base 5 1 (.slice x.A x.b.length x.c) x.b.length (over (bv x.b) r.pos (bv l)) → Chg (fun k => (Value.slice x.A x.b.length x.c).ownBlock = some k) w w2 →
      StoreAt base w2 s (S.setFile r.f ⟨x.A, x.c, wr x.b r.pos l⟩) ∧ (∀ k, foot s (S.setFile r.f ⟨x.A, x.c, wr x.b r.pos l⟩) k → k < w.heap.size → foot s S k) ∧ Chg (foot s S) w w2 ∧
      (StoreAt base (w2.setCell ⟨r.blk, 2, none⟩ (.int .i64 ((r.pos : Int) + l.length))) s ((S.setFile r.f ⟨x.A, x.c, wr x.b r.pos l⟩).setPos f (r.pos + l.length)) ∧ Chg (fun k => k = r.blk) w2 (w2.setCell ⟨r.blk, 2, none⟩ (.int .i64 ((r.pos : Int) + l.length)))) := by
  intro w2 ho hc
  obtain ⟨_, _, _, hm⟩ := rdAt_some hr
  have hlen : (wr x.b r.pos l).length = x.b.length := by rw [wr_length]; omega
  have hv : (⟨x.A, x.c, wr x.b r.pos l⟩ : Fl).v = x.v := by unfold Fl.v; simp only [hlen]
  have hbv : over (bv x.b) r.pos (bv l) = bv (wr x.b r.pos l) := by rw [wr_in hin]; exact (over_map _ _ _ _).symm
  have hb := (h.flb _ _ hx).chg hc (fun hk => own_blk_ne (h.flo _ _ hx) (h.flb _ _ hx) (by decide) hk)
  obtain ⟨h2, hf2⟩ := h.setFile (y := ⟨x.A, x.c, wr x.b r.pos l⟩) hx (hc.mono (fun k _ hk => .inr hk)) (by rw [hv]; exact hb) (by rw [hv, ← hbv, hlen]; exact ho) (fun k hk => .inl (by rw [hv] at hk; exact hk))
    (fun q hq hqf => by
      obtain ⟨y, hy, hp⟩ := h.rdf q hq
      rw [hqf, hx] at hy
      cases hy
      show q.pos ≤ (wr x.b r.pos l).length
      omega) (by simp only [hlen]; have := h.fits; omega) (by simp only [hlen]; omega) (StoreAt.rd_held hm)
  have hx2 : (S.setFile r.f ⟨x.A, x.c, wr x.b r.pos l⟩).fl r.f = some ⟨x.A, x.c, wr x.b r.pos l⟩ := by simp [Sto.setFile]
  have hset := h2.setPos (f := f) (r := r) hr hx2 (p := r.pos + l.length) (by simp only [hlen]; exact hin)
  refine ⟨h2, hf2, hc.mono (fun k _ hk => .inr (.inr (.inr (.inr ⟨r.f, x, hx, .inr hk⟩)))), hset⟩

set_option maxHeartbeats 1000000 in
theorem lput_in (h : StoreAt base w s S) {f : Int} {r : Rd} {x : Fl} (hr : S.rdAt f = some r) (hx : S.fl r.f = some x) {A : Option Addr} {c : Nat} {l : List UInt8} (hcl : CellsAt w A (bv l)) (hin : r.pos + l.length ≤ x.b.length) :
    Calls Try.prog 78 #[ptr s, .int .i64 f, .slice A l.length c] w (WritePost base s S f r x l w) := by
  obtain ⟨x', hx', hp, hle, c0, c1, c2, z2, cf⟩ := h.rfacts hr
  obtain rfl : x' = x := by rw [hx] at hx'; exact (Option.some.inj hx').symm
  have Hr := Go.Lib.hid (rider_some h hr)
  have Hth := Go.Lib.hid (there_c h)
  have H := Go.Lib.hid h
  have HR := Go.Lib.hid hr
  have HX := Go.Lib.hid hx
  have Hcl := Go.Lib.hid hcl
  have Hin := Go.Lib.hid hin
  have hs1 : IntKind.i64.wrap ((r.pos : Int) + (l.length : Int)) = (r.pos : Int) + l.length := by rw [IntKind.wrap_i64]; omega
  have hs2 : IntKind.i64.wrap ((r.pos : Int) + (l.length : Int) - (x'.b.length : Int)) = (r.pos : Int) + l.length - x'.b.length := by rw [IntKind.wrap_i64]; omega
  have hin' : (r.pos : Int) + (l.length : Int) ≤ (x'.b.length : Int) := by omega
  have d1 : decide ((0 : Int) < (r.pos : Int) + (l.length : Int) - (x'.b.length : Int)) = false := by simp; omega
  clear h hr hx hcl hx' hin c1
  unfold ptr at Hr Hth c0 ⊢
  go_enter Try.func78, Try.ntmps78
  go_wp2_with fail
  refine Hr.out.mono ?_
  rintro e w' ⟨rfl, rfl⟩
  go_wp2_with fail
  refine Hth.out.mono ?_
  rintro e w' ⟨rfl, rfl⟩
  go_wp2_with fail
  go_quiet (fail)
  rename_i nq
  go_wp2_with fail
  have H1 := Go.Lib.hid (H.out.chg ((Chg.refl NoB w).drewN nq) (fun _ _ => id))
  have Hcl1 := Go.Lib.hid (Hcl.out.chg ((Chg.refl NoB w).drewN nq) (fun _ _ => id))
  have Hch1 := Go.Lib.hid ((Chg.refl NoB w).drewN nq)
  clear c0 c2 z2 cf hs1 hs2 d1 Hr Hth
  generalize w.drewN nq = W at *
  obtain ⟨x'', hx'', _, _, c0, _, c2, z2, cf⟩ := H1.out.rfacts HR.out
  obtain rfl : x'' = x' := by rw [HX.out] at hx''; exact (Option.some.inj hx'').symm
  clear hx''
  have hcap : (x''.b.length : Int) ≤ x''.c := by have := cap_le (H1.out.flo _ _ HX.out); omega
  have hp0 : (0 : Int) ≤ r.pos := by omega
  have hp1 : (r.pos : Int) ≤ x''.b.length := by omega
  unfold ptr at c0
  set_option maxRecDepth 100000 in go_still_tail 13, (by kernel_rfl)
  have Hfin := Go.Lib.hid (write_fin H1.out HR.out HX.out (l := l) (Hin.out))
  change wpList _ _ _ _ _ W.drew
  refine wpList_copy_over _ rfl _ _ _ _ rfl 5 Try.underlying62 u8size base x''.A x''.b.length x''.c (bv x''.b) (H1.out.flo _ _ HX.out) r.pos _ A _ c l.length (bv l) (bv_length l) rfl rfl Hin.out (fun h0 => if_neg (by have := Hin.out; omega)) (Hcl1.out.chg ((Chg.refl NoB W).drew) (fun _ _ => id)) (bv_one l) ?_
  intro w2 ho2 hc2 hz2
  obtain ⟨h2, hf2, hcw2, hset⟩ := Hfin.out w2 ho2 (((Chg.refl _ W).drew).trans hc2)
  obtain ⟨c2', z2'⟩ := h2.rpos HR.out
  have Hset := Go.Lib.hid hset
  have Hcw2 := Go.Lib.hid hcw2
  have Hf2 := Go.Lib.hid hf2
  clear c0 c2 z2 cf ho2 hc2 hz2 h2 hcw2 hset hf2 hcap
  go_wp2_with fail
  all_goals go_ret
  all_goals obtain ⟨h3, hc3⟩ := Hset.out
  all_goals refine ⟨_, _, rfl, h3, ?_, ?_⟩
  all_goals first
  | exact ((Hch1.out.mono (fun _ _ h => h.elim)).trans Hcw2.out).step hc3 (fun k hk hk' => by subst hk'; exact .inr (.inr (.inr (.inl ⟨r, (rdAt_some HR.out).2.2.2, rfl⟩))))
  | exact fun k hk hlt => Hf2.out k (foot_setPos hk) (by have := Hch1.out.size; omega)
end
end Go.Proofs.Ytggknljlibhkjaa
