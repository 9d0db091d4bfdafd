/- What is proved: the contract of put where the file grows, or there is no room. Conditions: the memory holds a store, and the bytes that are handed in, outside of the store. -/
import Derived.Test.YtggknljlibhkjaaStoreP
namespace Go.Proofs.Ytggknljlibhkjaa
open Go.RowKit
section
variable {base : Nat} {w w1 : World} {s : Nat} {S : Sto}

theorem lput_full (h : StoreAt base w s S) {f : Int} {r : Rd} {x : Fl} (hr : S.rdAt f = some r) (hx : S.fl r.f = some x) {A : Option Addr} {c m : Nat} (hm : m ≤ 140737488355328) (hfull : x.b.length + S.room < r.pos + m) :
    Calls Try.prog 78 #[ptr s, .int .i64 f, .slice A m c] w (Quiet (.int .i64 5) w) := by
  obtain ⟨x', hx', hp, hle, c0, c1, c2, z2, cf⟩ := h.rfacts hr
  obtain rfl : x' = x := by rw [hx] at hx'; exact (Option.some.inj hx').symm
  have Hr := Go.Lib.hid (rider_some h hr)
  have Hth := Go.Lib.hid (there_c h)
  have H := Go.Lib.hid h
  obtain ⟨k, hk⟩ : ∃ k : Nat, k = r.pos + m - x'.b.length := ⟨_, rfl⟩
  have hs1 : IntKind.i64.wrap ((r.pos : Int) + (m : Int)) = (r.pos : Int) + m := by rw [IntKind.wrap_i64]; omega
  have hs2 : IntKind.i64.wrap ((r.pos : Int) + (m : Int) - (x'.b.length : Int)) = k := by rw [IntKind.wrap_i64]; omega
  have hk0 : (0 : Int) < k := by omega
  have d2 : decide (S.room < k) = true := by simp; omega
  clear h hr hx hx' c1 hk hfull
  unfold ptr at Hr Hth c0 ⊢
  go_enter Try.func78, Try.ntmps78
  go_wp2_with fail
  refine Hr.out.mono ?_
  rintro e w' ⟨rfl, rfl⟩
  go_wp2_with fail
  refine Hth.out.mono ?_
  rintro e w' ⟨rfl, rfl⟩
  go_wp2_with fail
  go_quiet (fail)
  rename_i nq
  have H1 := Go.Lib.hid (H.out.chg ((Chg.refl NoB w).drewN nq) (fun _ _ => id))
  have Hch1 := Go.Lib.hid ((Chg.refl NoB w).drewN nq)
  have Hroom := Go.Lib.hid (room_c H1.out)
  clear c0 c2 z2 cf hs1 hs2 Hr Hth
  generalize w.drewN nq = W at *
  unfold ptr at Hroom
  go_wp2_with fail
  refine Hroom.out.mono ?_
  rintro e w2 ⟨rfl, hc2⟩
  have Hc2 := Go.Lib.hid hc2
  clear hc2
  go_wp2_with fail
  go_ret
  exact ⟨rfl, Hch1.out.trans Hc2.out⟩

theorem grow_facts (h : StoreAt base w s S) {f : Int} {r : Rd} {x : Fl} (hr : S.rdAt f = some r) (hx : S.fl r.f = some x) : base ≤ w.heap.size ∧ ∀ w3, w.grownBy w3 (Value.slice x.A x.b.length x.c).ownBlock →
    w3.cell? ⟨r.blk, 0, none⟩ = some (.pointer (some ⟨r.f, 0, none⟩)) ∧ w3.cell? ⟨r.f, 0, none⟩ = some (.slice x.A x.b.length x.c) ∧ w3.frozen? ⟨r.f, 0, none⟩ = false := by
  refine ⟨by have := h.low s (.inl rfl); have := h.blk.lt; omega, fun w3 hg => ?_⟩
  have hb := (h.rdb r (rdAt_some hr).2.2.2).grown hg (fun e => own_blk_ne (h.flo _ _ hx) (h.rdb r (rdAt_some hr).2.2.2) (by decide) e.symm)
  have hf := (h.flb _ _ hx).grown hg (fun e => own_blk_ne (h.flo _ _ hx) (h.flb _ _ hx) (by decide) e.symm)
  exact ⟨hb.cell 0, hf.cell 0, hf.frozen 0⟩

theorem setFile_twice (S : Sto) (f : Nat) (y z : Fl) : (S.setFile f y).setFile f z = S.setFile f z := by
  have e : (fun g => if g = f then some z else if g = f then some y else S.fl g) = fun g => if g = f then some z else S.fl g := by
    funext g
    split <;> rfl
  unfold Sto.setFile
  simp only [e]
theorem bv_replicate (k : Nat) : bv (List.replicate k 0) = List.replicate k (.int .u8 0) := by simp [bv]

theorem grow_fin (h : StoreAt base w s S) {f : Int} {r : Rd} {x : Fl} (hr : S.rdAt f = some r) (hx : S.fl r.f = some x) {w3 : World} {A1 : Option Addr} {c1 k : Nat} (hg : w.grownBy w3 (Value.slice x.A x.b.length x.c).ownBlock)
    (ho : w3.ownsRow base 5 1 (.slice A1 (x.b.length + k) c1) (x.b.length + k) (bv x.b ++ List.replicate k (.int .u8 0)))
    (hat : (Value.slice A1 (x.b.length + k) c1).ownBlock = (Value.slice x.A x.b.length x.c).ownBlock ∨ (Value.slice A1 (x.b.length + k) c1).ownBlock = some w.heap.size) (hk : k ≤ S.room) :
    StoreAt base (w3.setCell ⟨r.f, 0, none⟩ (.slice A1 (x.b.length + k) c1)) s (S.setFile r.f ⟨A1, c1, x.b ++ List.replicate k 0⟩) ∧ Chg (foot s S) w (w3.setCell ⟨r.f, 0, none⟩ (.slice A1 (x.b.length + k) c1)) ∧
      ∀ j, foot s (S.setFile r.f ⟨A1, c1, x.b ++ List.replicate k 0⟩) j → j < w.heap.size → foot s S j := by
  have hm := (rdAt_some hr).2.2.2
  have hlen : (x.b ++ List.replicate k (0 : UInt8)).length = x.b.length + k := by simp
  have hv : (⟨A1, c1, x.b ++ List.replicate k 0⟩ : Fl).v = .slice A1 (x.b.length + k) c1 := by unfold Fl.v; rw [hlen]
  have hc : Chg (fun j => j = r.f ∨ x.v.ownBlock = some j) w (w3.setCell ⟨r.f, 0, none⟩ (.slice A1 (x.b.length + k) c1)) :=
    ((Chg.refl (fun j => j = r.f ∨ x.v.ownBlock = some j) w).grown hg (fun j hj _ => .inr hj)).setCell (p := ⟨r.f, 0, none⟩) (fun _ => .inl rfl) _
  have hb := ((h.flb _ _ hx).grown hg (fun e => own_blk_ne (h.flo _ _ hx) (h.flb _ _ hx) (by decide) e.symm))
  have ho' : (w3.setCell ⟨r.f, 0, none⟩ (.slice A1 (x.b.length + k) c1)).ownsRow base 5 1 (.slice A1 (x.b.length + k) c1) (x.b.length + k) (bv x.b ++ List.replicate k (.int .u8 0)) :=
    own_chg ho ((Chg.refl (fun j => j = r.f) w3).setCell (p := ⟨r.f, 0, none⟩) (fun _ => rfl) _) (fun j hj e => by subst e; exact own_blk_ne ho hb (by decide) hj)
  obtain ⟨h4, hf4⟩ := h.setFile (y := ⟨A1, c1, x.b ++ List.replicate k 0⟩) hx hc (by rw [hv]; exact hb.set_ 0 _) (by
      rw [hv, hlen, bv_append, bv_replicate]; exact ho') (fun j hj => by
      rw [hv] at hj
      rcases hat with e | e
      · exact .inl (e ▸ hj)
      · rw [hj] at e; injection e with e; exact .inr (by omega)) (fun q hq hqf => by
      obtain ⟨y, hy, hp⟩ := h.rdf q hq
      rw [hqf, hx] at hy
      cases hy
      show q.pos ≤ (x.b ++ List.replicate k (0 : UInt8)).length
      rw [hlen]
      omega) (by
      show S.used + (x.b ++ List.replicate k (0 : UInt8)).length ≤ S.cap + x.b.length
      rw [hlen]
      have := h.fits
      unfold Sto.room at hk
      omega) (by show x.b.length ≤ (x.b ++ List.replicate k (0 : UInt8)).length; rw [hlen]; omega) (StoreAt.rd_held hm)
  exact ⟨h4, hc.mono (fun j _ hj => .inr (.inr (.inr (.inr ⟨r.f, x, hx, hj⟩)))), hf4⟩

set_option maxHeartbeats 2000000 in
theorem lput_grow (h : StoreAt base w s S) {f : Int} {r : Rd} {x : Fl} (hr : S.rdAt f = some r) (hx : S.fl r.f = some x) {A : Option Addr} {c : Nat} {l : List UInt8} (hcl : CellsAt w A (bv l)) (hap : ∀ ad, A = some ad → ¬ foot s S ad.block)
    (hl : l.length ≤ 140737488355328) (hmore : x.b.length < r.pos + l.length) (hroom : r.pos + l.length ≤ x.b.length + S.room) :
    Calls Try.prog 78 #[ptr s, .int .i64 f, .slice A l.length c] w (WritePost base s S f r x l w) := by
  obtain ⟨i0, hi0, hz0, hz1, hz2⟩ := info_parts u8info
  have Hi := Go.Lib.hid (And.intro hi0 (And.intro hz0 (And.intro hz1 hz2)))
  clear hi0 hz0 hz1 hz2
  obtain ⟨x', hx', hp, hle, c0, c1, c2, z2, cf⟩ := h.rfacts hr
  obtain rfl : x' = x := by rw [hx] at hx'; exact (Option.some.inj hx').symm
  have Hr := Go.Lib.hid (rider_some h hr)
  have Hth := Go.Lib.hid (there_c h)
  have H := Go.Lib.hid h
  have HR := Go.Lib.hid hr
  have HX := Go.Lib.hid hx
  have Hcl := Go.Lib.hid hcl
  have Hap := Go.Lib.hid hap
  obtain ⟨k, hk⟩ : ∃ k : Nat, k = r.pos + l.length - x'.b.length := ⟨_, rfl⟩
  have hs1 : IntKind.i64.wrap ((r.pos : Int) + (l.length : Int)) = (r.pos : Int) + l.length := by rw [IntKind.wrap_i64]; omega
  have hs2 : IntKind.i64.wrap ((r.pos : Int) + (l.length : Int) - (x'.b.length : Int)) = k := by rw [IntKind.wrap_i64]; omega
  have hk0 : (0 : Int) < k := by omega
  have d2 : decide (S.room < k) = false := by simp; omega
  have Hk := Go.Lib.hid hk
  have Hmore := Go.Lib.hid hmore
  have Hl := Go.Lib.hid hl
  have hrs : S.room ≤ 67108864 := room_small h
  have Hsmall : Hid (x'.b.length + k ≤ 140737488355328) := Go.Lib.hid (by omega)
  clear h hr hx hcl hap hx' c1 hk hmore hroom hl hrs
  unfold ptr at Hr Hth c0 ⊢
  go_enter Try.func78, Try.ntmps78
  go_wp2_with fail
  refine Hr.out.mono ?_
  rintro e w' ⟨rfl, rfl⟩
  go_wp2_with fail
  refine Hth.out.mono ?_
  rintro e w' ⟨rfl, rfl⟩
  go_wp2_with fail
  go_quiet (fail)
  rename_i nq
  have H1 := Go.Lib.hid (H.out.chg ((Chg.refl NoB w).drewN nq) (fun _ _ => id))
  have Hch1 := Go.Lib.hid ((Chg.refl NoB w).drewN nq)
  have Hroom := Go.Lib.hid (room_c H1.out)
  clear c0 c2 z2 cf hs1 hs2 Hr Hth
  generalize w.drewN nq = W at *
  unfold ptr at Hroom
  go_wp2_with fail
  refine Hroom.out.mono ?_
  rintro e w2 ⟨rfl, hc2⟩
  have H2 := Go.Lib.hid (H1.out.chg hc2 (fun _ _ => id))
  have Hch2 := Go.Lib.hid (Hch1.out.trans hc2)
  clear hc2 Hroom
  go_wp2_with fail
  obtain ⟨x'', hx'', _, _, c0, _, c2, z2, cf⟩ := H2.out.rfacts HR.out
  obtain rfl : x'' = x' := by rw [HX.out] at hx''; exact (Option.some.inj hx'').symm
  have hnn : ¬ r.blk = r.f := Ne.symm ((H2.out.flb _ _ HX.out).ne_ (H2.out.rdb _ (rdAt_some HR.out).2.2.2) (by decide))
  have Hb1 := Go.Lib.hid (grow_facts H2.out HR.out HX.out)
  clear hx''
  unfold ptr at c0
  set_option maxRecDepth 100000 in
  go_region_law (first
    | (refine step_app_zeros _ rfl _ _ _ _ (by rfl) base 5 i0 (.int .u8 0) .i64 Try.underlying62 Try.underlying3 Hi.out.1 Hi.out.2.1 Hi.out.2.2.1 Hi.out.2.2.2 rfl rfl (.slice x''.A x''.b.length x''.c) x''.b.length (bv x''.b) (by rfl) (H2.out.flo _ _ HX.out) .i64 k (by rfl) (by omega) Hsmall.out Hb1.out.1 ?_
       intro v1 w3 ho hg hat
       obtain ⟨A1, c1, rfl⟩ := own_slice ho
       obtain ⟨e1, e2, e3⟩ := Hb1.out.2 w3 ⟨hg.os, hg.tape, hg.output, hg.size, hg.block⟩))
  all_goals
    have hgf := grow_fin H2.out HR.out HX.out ⟨hg.os, hg.tape, hg.output, hg.size, hg.block⟩ ho hat (by have := Hk.out; have := Hmore.out; have := of_decide_eq_false d2; omega)
    have hsz3 : w2.heap.size ≤ w3.heap.size := hg.size
    clear ho hg hat e1 e2 e3 c0 c2 z2 cf hp hle
    generalize w3.setCell ⟨r.f, 0, none⟩ (.slice A1 (x''.b.length + k) c1) = W4 at *
    obtain ⟨h4, hch4, hf4⟩ := hgf
    have hx4 : (S.setFile r.f ⟨A1, c1, x''.b ++ List.replicate k 0⟩).fl r.f = some ⟨A1, c1, x''.b ++ List.replicate k 0⟩ := by simp [Sto.setFile]
    have hr4 : (S.setFile r.f ⟨A1, c1, x''.b ++ List.replicate k 0⟩).rdAt f = some r := HR.out
    have Hin : Hid (r.pos + l.length ≤ (x''.b ++ List.replicate k 0).length) := Go.Lib.hid (by have := Hk.out; have := Hmore.out; simp; omega)
    have Hcl4 := Go.Lib.hid ((Hcl.out.chg Hch2.out (fun _ _ => id)).chg hch4 Hap.out)
    have Hwr : Hid (wr (x''.b ++ List.replicate k 0) r.pos l = wr x''.b r.pos l) := Go.Lib.hid (by have := Hk.out; unfold wr; rw [this]; simp; rw [show r.pos + l.length - (x''.b.length + (r.pos + l.length - x''.b.length)) = 0 by omega]; simp)
    have H4 := Go.Lib.hid h4
    have HR4 := Go.Lib.hid hr4
    have HX4 := Go.Lib.hid hx4
    have Hch4 := Go.Lib.hid ((Hch2.out.mono (fun _ _ h => h.elim)).trans hch4)
    have Hf4 := Go.Lib.hid hf4
    clear h4 hch4 hf4 hx4 hr4 hk0 d2 Hb1 hsz3 hnn
    have Hset : Hid (∀ y z, (S.setFile r.f y).setFile r.f z = S.setFile r.f z) := Go.Lib.hid (setFile_twice S r.f)
    generalize x''.b ++ List.replicate k 0 = b4 at *
    obtain ⟨x5, hx5, _, _, c0, _, c2, z2, cf⟩ := H4.out.rfacts HR4.out
    obtain rfl : x5 = ⟨A1, c1, b4⟩ := by rw [HX4.out] at hx5; exact (Option.some.inj hx5).symm
    clear hx5
    simp only at cf
    have hle4 : b4.length ≤ 67108864 := by assumption
    have hcap : (b4.length : Int) ≤ c1 := by have := cap_le (H4.out.flo _ _ HX4.out); simp only at this; omega
    have hp0 : (0 : Int) ≤ r.pos := by omega
    have hin4 : (r.pos : Int) + l.length ≤ b4.length := by have := Hin.out; omega
    have hp1 : (r.pos : Int) ≤ b4.length := by omega
    have Hfin := Go.Lib.hid (write_fin H4.out HR4.out HX4.out (l := l) (Hin.out))
    unfold ptr at c0
    go_wp2_with fail
    set_option maxRecDepth 100000 in go_still_tail 13, (by kernel_rfl)
    change wpList _ _ _ _ _ W4.drew
    refine wpList_copy_over _ rfl _ _ _ _ rfl 5 Try.underlying62 u8size base A1 b4.length c1 (bv b4) (H4.out.flo _ _ HX4.out) r.pos _ A _ c l.length (bv l) (bv_length l) rfl rfl Hin.out (fun h0 => if_neg (by have := Hin.out; omega)) (Hcl4.out.chg ((Chg.refl NoB W4).drew) (fun _ _ => id)) (bv_one l) ?_
    intro w5 ho5 hc5 hz5
    obtain ⟨h5, hf5, hcw5, hset⟩ := Hfin.out w5 ho5 (((Chg.refl _ W4).drew).trans hc5)
    obtain ⟨c2', z2'⟩ := h5.rpos HR4.out
    rw [Hset.out, Hwr.out] at hset hf5
    have Hset5 := Go.Lib.hid hset
    have Hcw5 := Go.Lib.hid hcw5
    have Hf5 := Go.Lib.hid hf5
    clear c0 c2 z2 cf ho5 hc5 hz5 h5 hcw5 hset hf5 hcap
    go_wp2_with fail
    all_goals go_ret
    all_goals obtain ⟨h6, hc6⟩ := Hset5.out
    all_goals refine ⟨_, _, rfl, h6, ?_, ?_⟩
    all_goals first
    | exact (Hch4.out.step Hcw5.out (fun j hj hf => Hf4.out j hf (by have := Hch2.out.size; omega))).step hc6 (fun k hk hk' => by subst hk'; exact .inr (.inr (.inr (.inl ⟨r, (rdAt_some HR.out).2.2.2, rfl⟩))))
    | exact fun j hk hlt => Hf4.out j (Hf5.out j (foot_setPos hk) (by have := Hch4.out.size; omega)) (by have := Hch2.out.size; omega)
end
end Go.Proofs.Ytggknljlibhkjaa
