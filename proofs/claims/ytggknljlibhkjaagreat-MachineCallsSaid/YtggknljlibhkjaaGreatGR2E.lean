import Derived.Test.YtggknljlibhkjaaGreatR2N
import Derived.Test.YtggknljlibhkjaaGreatGDo
set_option linter.unusedSimpArgs false
set_option linter.unusedVariables false
namespace Go.Proofs.YtggknljlibhkjaaGreat
open Go Go.RowKit
def doR (U : V) (x : St) : Nat × V :=
 if x.kind = 1 then oldR U x.nm else if x.kind = 2 then U.fresh x.nm else if x.kind = 3 then ((U.read x.f).1.toNat, (U.read x.f).2) else if x.kind = 4 then U.readWord x.f
 else if x.kind = 5 then writeR U x.f [UInt8.ofNat x.w] else if x.kind = 6 then writeR U x.f (bytesOfWord x.w) else if x.kind = 7 then (0, seekZ U x.f (sgn x.w)) else if x.kind = 8 then registerR U x.f
 else if x.kind = 9 then (0, delR U x.nm) else if x.kind = 10 then putR U x.nm x.b else if x.kind = 11 then (dropR U x.nm, delR U x.nm) else (0, U)
theorem oldR_le (v : V) (nm : ByteArray) : (oldR v nm).1 ≤ 255 := by
 unfold oldR
 split
 ·simp
 ·split
  ·rename_i h; simp; omega
  ·simp
theorem enterR_le (v : V) (nm : ByteArray) (n : Nat) : (enterR v nm n).1 ≤ 5 := by
 unfold enterR
 split
 ·simp
 ·split <;> simp
theorem writeR_le (v : V) (f : Int) (l : List UInt8) : (writeR v f l).1 ≤ 5 := by
 unfold writeR
 split
 ·simp
 ·split <;> simp
theorem registerR_le (v : V) (f : Int) : (registerR v f).1 ≤ 5 := by
 unfold registerR
 split
 ·simp
 ·exact enterR_le _ _ _
theorem dropR_le (v : V) (nm : ByteArray) : dropR v nm ≤ 6 := by
 unfold dropR
 split
 ·split <;> simp
 ·simp
theorem putR_le (v : V) (nm : ByteArray) (l : List UInt8) : (putR v nm l).1 ≤ 5 := by
 unfold putR
 split
 ·split
  ·split
   ·simp
   ·exact enterR_le _ _ _
  ·simp
 ·simp
theorem cells4b {n : Nat} (hn : n < 4294967296) (w : World) (t : TypeId) : CellsAt (w.alloc (.cells #[.int .u8 ((n : Int) % 256), .int .u8 ((n : Int) / 256 % 256), .int .u8 ((n : Int) / 65536 % 256), .int .u8 ((n : Int) / 16777216)] t)) (some ⟨w.heap.size, 0, none⟩) (bv (bytesOfWord n)) := by
 have h := cells_of_blk (Blk.new w t #[.int .u8 ((n : Int) % 256), .int .u8 ((n : Int) / 256 % 256), .int .u8 ((n : Int) / 65536 % 256), .int .u8 ((n : Int) / 16777216)])
 rw [bytesOfWord_vals, show (n : Int) / 16777216 % 256 = (n : Int) / 16777216 by omega]
 exact h
theorem cells4a {n : Nat} (hn : n < 4294967296) (w : World) (t : TypeId) : CellsAt (w.alloc (.cells #[.int .u8 ((n : Int) % 256), .int .u8 ((n : Int) / 256 % 256), .int .u8 ((n : Int) / 65536 % 256), .int .u8 ((n : Int) / 16777216)] t)) (some ⟨w.heap.size, 0, none⟩) (bv [UInt8.ofNat n]) := by
 intro _
 obtain ⟨ad, h1, h2⟩ := cells4b hn w t (by rw [bytesOfWord_vals]; exact Nat.succ_pos _)
 refine ⟨ad, h1, fun j u hj => h2 j u ?_⟩
 rw [bytesOfWord_vals]
 have e : bv [UInt8.ofNat n] = [.int .u8 ((n : Int) % 256)] := by
  simp only [bv, List.map_cons, List.map_nil, UInt8.toNat_ofNat']
  congr 2
 rw [e] at hj
 match j, hj with
 | 0, hj => exact hj
section
variable {W W' : World} {r : Nat} {U : V} {X F : Nat → Prop} {a : RA}
theorem RPost.from {w1 : World} {x : Value} {U' : V} {e : Ending} {w' : World} (h : RPost r X x U' w1 e w') (hc : Chg NoB W w1) : (∃ a', RefAt w' r U' X a') ∧ Chg (fun k => k = r) W w' :=
 ⟨h.2.1, (hc.mono fun _ _ h => h.elim).trans h.2.2⟩
set_option maxRecDepth 100000 in
set_option maxHeartbeats 4000000 in
theorem rdo_1 (h : RefAt W r U X a) (hX : ∀ k, X k → k < W.heap.size) (hs : RSmall U) (hpos : ∀ q ∈ U.rd, q.pos ≤ (U.bytes q.n).length) (f : Int) (n : Nat) (hn : n < 4294967296) (nm : ByteArray) (hsz : nm.size ≤ maxLen) (bv0 : Value) :
  Calls Tryz.prog 31 #[.pointer (some ⟨r, 0, none⟩), .agg #[.int .i64 1, .int .i64 f, .int .u32 n, .string nm, bv0]] W (RPost r X (.int .u32 (oldR U nm).1) (oldR U nm).2 W) := by
 have Hc := Go.Lib.hid (fun (W' : World) (hW : Chg NoB W W') => rold_c (h.quiet hW) (fun k hk => Nat.lt_of_lt_of_le (hX k hk) hW.size) hs.r hs.d nm)
 have hb := oldR_le U nm
 obtain ⟨rr, Hr⟩ : ∃ rr, Hid ((oldR U nm) = rr) := ⟨_, Go.Lib.hid rfl⟩
 rw [Hr.out] at Hc hb ⊢
 have hw0 : (n : Int) % 256 % 256 = (n : Int) % 256 := by omega
 have hrl := h.lt
 clear h hX hs hpos
 go_enter Tryz.func31, Tryz.ntmps31
 go_wp2_with fail
 refine (Hc.out _ (((Chg.refl NoB W).alloc _).alloc _)).mono ?_
 intro e w2 hp
 obtain rfl := hp.1
 have HP := Go.Lib.hid (RPost.from hp (((Chg.refl NoB W).alloc _).alloc _))
 clear hp Hc
 go_wp2_with fail
 go_ret
 exact ⟨rfl, HP.out.1, HP.out.2⟩
set_option maxRecDepth 100000 in
set_option maxHeartbeats 4000000 in
theorem rdo_2 (h : RefAt W r U X a) (hX : ∀ k, X k → k < W.heap.size) (hs : RSmall U) (hpos : ∀ q ∈ U.rd, q.pos ≤ (U.bytes q.n).length) (f : Int) (n : Nat) (hn : n < 4294967296) (nm : ByteArray) (hsz : nm.size ≤ maxLen) (bv0 : Value) :
  Calls Tryz.prog 31 #[.pointer (some ⟨r, 0, none⟩), .agg #[.int .i64 2, .int .i64 f, .int .u32 n, .string nm, bv0]] W (RPost r X (.int .u32 (U.fresh nm).1) (U.fresh nm).2 W) := by
 have Hc := Go.Lib.hid (fun (W' : World) (hW : Chg NoB W W') => rfresh_c (h.quiet hW) (fun k hk => Nat.lt_of_lt_of_le (hX k hk) hW.size) hs.r hs.f nm hsz)
 have hb := V.fresh_le U nm
 obtain ⟨rr, Hr⟩ : ∃ rr, Hid ((U.fresh nm) = rr) := ⟨_, Go.Lib.hid rfl⟩
 rw [Hr.out] at Hc hb ⊢
 have hw0 : (n : Int) % 256 % 256 = (n : Int) % 256 := by omega
 have hrl := h.lt
 clear h hX hs hpos
 go_enter Tryz.func31, Tryz.ntmps31
 go_wp2_with fail
 refine (Hc.out _ (((Chg.refl NoB W).alloc _).alloc _)).mono ?_
 intro e w2 hp
 obtain rfl := hp.1
 have HP := Go.Lib.hid (RPost.from hp (((Chg.refl NoB W).alloc _).alloc _))
 clear hp Hc
 go_wp2_with fail
 go_ret
 exact ⟨rfl, HP.out.1, HP.out.2⟩
set_option maxRecDepth 100000 in
set_option maxHeartbeats 4000000 in
theorem rdo_3 (h : RefAt W r U X a) (hX : ∀ k, X k → k < W.heap.size) (hs : RSmall U) (hpos : ∀ q ∈ U.rd, q.pos ≤ (U.bytes q.n).length) (f : Int) (n : Nat) (hn : n < 4294967296) (nm : ByteArray) (hsz : nm.size ≤ maxLen) (bv0 : Value) :
  Calls Tryz.prog 31 #[.pointer (some ⟨r, 0, none⟩), .agg #[.int .i64 3, .int .i64 f, .int .u32 n, .string nm, bv0]] W (RPost r X (.int .u32 (U.read f).1.toNat) (U.read f).2 W) := by
 have Hc := Go.Lib.hid (fun (W' : World) (hW : Chg NoB W W') => rread_c (h.quiet hW) (fun k hk => Nat.lt_of_lt_of_le (hX k hk) hW.size) hs.r hs.b f)
 obtain ⟨rr, Hr⟩ : ∃ rr, Hid (U.read f = rr) := ⟨_, Go.Lib.hid rfl⟩
 rw [Hr.out] at Hc ⊢
 have hb : (rr.1.toNat : Int) < 256 := by have := rr.1.toNat_lt; omega
 have hb0 : (0 : Int) ≤ (rr.1.toNat : Int) := by omega
 have hw0 : (n : Int) % 256 % 256 = (n : Int) % 256 := by omega
 have hrl := h.lt
 clear h hX hs hpos
 go_enter Tryz.func31, Tryz.ntmps31
 go_wp2_with fail
 refine (Hc.out _ (((Chg.refl NoB W).alloc _).alloc _)).mono ?_
 intro e w2 hp
 obtain rfl := hp.1
 have HP := Go.Lib.hid (RPost.from hp (((Chg.refl NoB W).alloc _).alloc _))
 clear hp Hc
 go_wp2_with fail
 go_ret
 exact ⟨rfl, HP.out.1, HP.out.2⟩
set_option maxRecDepth 100000 in
set_option maxHeartbeats 4000000 in
theorem rdo_4 (h : RefAt W r U X a) (hX : ∀ k, X k → k < W.heap.size) (hs : RSmall U) (hpos : ∀ q ∈ U.rd, q.pos ≤ (U.bytes q.n).length) (f : Int) (n : Nat) (hn : n < 4294967296) (nm : ByteArray) (hsz : nm.size ≤ maxLen) (bv0 : Value) :
  Calls Tryz.prog 31 #[.pointer (some ⟨r, 0, none⟩), .agg #[.int .i64 4, .int .i64 f, .int .u32 n, .string nm, bv0]] W (RPost r X (.int .u32 (U.readWord f).1) (U.readWord f).2 W) := by
 have Hc := Go.Lib.hid (fun (W' : World) (hW : Chg NoB W W') => rreadWord_c (h.quiet hW) (fun k hk => Nat.lt_of_lt_of_le (hX k hk) hW.size) hs.r hs.b f)
 have hw0 : (n : Int) % 256 % 256 = (n : Int) % 256 := by omega
 have hrl := h.lt
 clear h hX hs hpos
 go_enter Tryz.func31, Tryz.ntmps31
 go_wp2_with fail
 refine (Hc.out _ (((Chg.refl NoB W).alloc _).alloc _)).mono ?_
 intro e w2 hp
 obtain rfl := hp.1
 have HP := Go.Lib.hid (RPost.from hp (((Chg.refl NoB W).alloc _).alloc _))
 clear hp Hc
 go_wp2_with fail
 go_ret
 exact ⟨rfl, HP.out.1, HP.out.2⟩
end
end Go.Proofs.YtggknljlibhkjaaGreat
set_option linter.unusedSimpArgs false
set_option linter.unusedVariables false
namespace Go.Proofs.YtggknljlibhkjaaGreat
open Go Go.RowKit
section
variable {W W' : World} {r : Nat} {U : V} {X F : Nat → Prop} {a : RA}
set_option maxRecDepth 100000 in
set_option maxHeartbeats 4000000 in
theorem rdo_5 (h : RefAt W r U X a) (hX : ∀ k, X k → k < W.heap.size) (hs : RSmall U) (hpos : ∀ q ∈ U.rd, q.pos ≤ (U.bytes q.n).length) (f : Int) (n : Nat) (hn : n < 4294967296) (nm : ByteArray) (hsz : nm.size ≤ maxLen) (bv0 : Value) :
  Calls Tryz.prog 31 #[.pointer (some ⟨r, 0, none⟩), .agg #[.int .i64 5, .int .i64 f, .int .u32 n, .string nm, bv0]] W (RPost r X (.int .u32 (writeR U f [UInt8.ofNat n]).1) (writeR U f [UInt8.ofNat n]).2 W) := by
 have Hc : Hid (∀ (W' : World) (hW : Chg NoB W W') (A : Option Addr), CellsAt W' A (bv [UInt8.ofNat n]) → Calls Tryz.prog 84 #[.pointer (some ⟨r, 0, none⟩), .int .i64 f, .slice A 1 4] W' (RPost r X (.int .i64 (writeR U f [UInt8.ofNat n]).1) (writeR U f [UInt8.ofNat n]).2 W')) := Go.Lib.hid (fun W' hW A hB => by
  have hL : [UInt8.ofNat n].length = 1 := rfl
  have := rwrite_c (h.quiet hW) (fun k hk => Nat.lt_of_lt_of_le (hX k hk) hW.size) hs hpos f [UInt8.ofNat n] (by rw [hL]; omega) A 4 hB
  rw [hL] at this
  exact this)
 have hb := writeR_le U f [UInt8.ofNat n]
 obtain ⟨rr, Hr⟩ : ∃ rr, Hid ((writeR U f [UInt8.ofNat n]) = rr) := ⟨_, Go.Lib.hid rfl⟩
 rw [Hr.out] at Hc hb ⊢
 have hw0 : (n : Int) % 256 % 256 = (n : Int) % 256 := by omega
 have hrl := h.lt
 clear h hX hs hpos
 go_enter Tryz.func31, Tryz.ntmps31
 go_wp2_with fail
 have hW0 : Chg NoB W (World.alloc (World.alloc W (.cells #[.int .i64 5, .int .i64 f, .int .u32 n, .string nm, bv0] 80)) (.cells #[.int .u8 ((n : Int) % 256), .int .u8 ((n : Int) / 256 % 256), .int .u8 ((n : Int) / 65536 % 256), .int .u8 ((n : Int) / 16777216)] 5)) := ((Chg.refl NoB W).alloc _).alloc _
 have hk1 := (Blk.new W 80 #[.int .i64 5, .int .i64 f, .int .u32 n, .string nm, bv0]).alloc (.cells #[.int .u8 ((n : Int) % 256), .int .u8 ((n : Int) / 256 % 256), .int .u8 ((n : Int) / 65536 % 256), .int .u8 ((n : Int) / 16777216)] 5)
 have K : Hid (World.cell? _ ⟨W.heap.size, 1, none⟩ = some (.int .i64 f) ∧ World.cell? _ ⟨W.heap.size, 2, none⟩ = some (.int .u32 n)) := Go.Lib.hid ⟨hk1.cell 1, hk1.cell 2⟩
 have hB0 := cells4a hn (World.alloc W (.cells #[.int .i64 5, .int .i64 f, .int .u32 n, .string nm, bv0] 80)) 5
 simp only [World.alloc, Array.size_push] at hB0
 change CellsAt (World.alloc (World.alloc W _) _) _ _ at hB0
 have HB0 := Go.Lib.hid hB0
 clear hk1 hB0
 generalize World.alloc (World.alloc W (.cells #[.int .i64 5, .int .i64 f, .int .u32 n, .string nm, bv0] 80)) (.cells #[.int .u8 ((n : Int) % 256), .int .u8 ((n : Int) / 256 % 256), .int .u8 ((n : Int) / 65536 % 256), .int .u8 ((n : Int) / 16777216)] 5) = W0 at *
 have hne : ¬ W.heap.size = r := by omega
 have HW0 := Go.Lib.hid hW0
 clear hW0
 refine regionH (fun V' => Chg (fun k => k = r) W0 V') (by kernel_rfl) (Chg.refl _ W0).drew (fun hS => ?_)
 refine takeH (i := 0) (t := 56) (v := ?v0y1) rfl (by kernel_rfl) (fun _ _ _ h => h) rfl (Or.inl ⟨by rfl, ?h0y1⟩) hS ?r0y1
 case h0y1 => (intro V' hSw; go_simp; try with_reducible rfl)
 try simp only [sw1, sw2, sw3]
 refine takeH (i := 1) (t := 57) (v := ?v1y2) rfl (by kernel_rfl) (fun _ _ _ h => h) rfl (Or.inl ⟨by rfl, ?h1y2⟩) hS ?r1y2
 case h1y2 => (intro V' hSw; go_simp; try with_reducible rfl)
 try simp only [sw1, sw2, sw3]
 refine takeH (i := 2) (t := 58) (v := ?v2y3) rfl (by kernel_rfl) (fun _ _ _ h => h) rfl (Or.inl ⟨by rfl, ?h2y3⟩) hS ?r2y3
 case h2y3 => (intro V' hSw; have q := (World.cell?_of_block (hSw.block _ (World.block_lt_of_cell? W0 _ K.out.1) hne)).trans K.out.1; clear hSw; go_simp; try with_reducible rfl)
 try simp only [sw1, sw2, sw3]
 refine takeH (i := 3) (t := 59) (v := ?v3y4) rfl (by kernel_rfl) (fun _ _ _ h => h) rfl (Or.inl ⟨by rfl, ?h3y4⟩) hS ?r3y4
 case h3y4 => (intro V' hSw; go_simp; try with_reducible rfl)
 try simp only [sw1, sw2, sw3]
 refine takeH (i := 4) (t := 60) (v := ?v4y5) rfl (by kernel_rfl) (fun _ _ _ h => h) rfl (Or.inl ⟨by rfl, ?h4y5⟩) hS ?r4y5
 case h4y5 => (intro V' hSw; go_simp; try with_reducible rfl)
 try simp only [sw1, sw2, sw3]
 refine manyH (i := 5) (l := []) (by kernel_rfl) ?hm
 case hm =>
  intro j hj
  obtain rfl : j = 5 := by simpa using hj
  refine opCallH (t := 61) (f := 84) (args := #[.pointer (some ⟨r, 0, none⟩), .int .i64 f, .slice (some ⟨W.heap.size + 1, 0, none⟩) 1 4]) rfl rfl (by rfl) ?hx ?hc
  case hx => (go_simp; try rfl)
  case hc =>
   refine (Hc.out _ HW0.out.drew (some ⟨W.heap.size + 1, 0, none⟩) (HB0.out.chg (Chg.refl NoB W0).drew (fun _ _ => id))).mono ?_
   intro e w2 hp
   obtain rfl := hp.1
   have HP := Go.Lib.hid (RPost.from hp HW0.out.drew)
   have hS := ((Chg.refl (fun k => k = r) W0).drew).trans hp.2.2
   clear hp Hc
   refine ⟨_, rfl, hS, ?_⟩
   try simp only [sw1, sw2, sw3]
   refine takeH (i := 6) (t := 62) (v := .int .u32 rr.1) rfl (by kernel_rfl) (fun _ _ _ h => h) rfl (Or.inl ⟨by rfl, ?h6y6⟩) hS ?r6y6
   case h6y6 => (intro V' hSw; clear hSw; have e : IntKind.u32.wrap (rr.fst : Int) = (rr.fst : Int) := (by simp [IntKind.wrap, IntKind.signed, IntKind.bits]; omega); go_simp; try simp only [e])
   try simp only [sw1, sw2, sw3]
   refine takeH (i := 7) (t := 4) (v := ?v7y7) rfl (by kernel_rfl) (fun _ _ _ h => h) rfl (Or.inl ⟨by rfl, ?h7y7⟩) hS ?r7y7
   case h7y7 => (intro V' hSw; go_simp; try with_reducible rfl)
   try simp only [sw1, sw2, sw3]
   refine wpAnyH_done (by kernel_rfl) ?_ _
   clear hS
   go_wp2_with fail
   go_ret
   exact ⟨rfl, HP.out.1, HP.out.2⟩
set_option maxRecDepth 100000 in
set_option maxHeartbeats 4000000 in
theorem rdo_6 (h : RefAt W r U X a) (hX : ∀ k, X k → k < W.heap.size) (hs : RSmall U) (hpos : ∀ q ∈ U.rd, q.pos ≤ (U.bytes q.n).length) (f : Int) (n : Nat) (hn : n < 4294967296) (nm : ByteArray) (hsz : nm.size ≤ maxLen) (bv0 : Value) :
  Calls Tryz.prog 31 #[.pointer (some ⟨r, 0, none⟩), .agg #[.int .i64 6, .int .i64 f, .int .u32 n, .string nm, bv0]] W (RPost r X (.int .u32 (writeR U f (bytesOfWord n)).1) (writeR U f (bytesOfWord n)).2 W) := by
 have Hc : Hid (∀ (W' : World) (hW : Chg NoB W W') (A : Option Addr), CellsAt W' A (bv (bytesOfWord n)) → Calls Tryz.prog 84 #[.pointer (some ⟨r, 0, none⟩), .int .i64 f, .slice A 4 4] W' (RPost r X (.int .i64 (writeR U f (bytesOfWord n)).1) (writeR U f (bytesOfWord n)).2 W')) := Go.Lib.hid (fun W' hW A hB => by
  have hL : (bytesOfWord n).length = 4 := rfl
  have := rwrite_c (h.quiet hW) (fun k hk => Nat.lt_of_lt_of_le (hX k hk) hW.size) hs hpos f (bytesOfWord n) (by rw [hL]; omega) A 4 hB
  rw [hL] at this
  exact this)
 have hb := writeR_le U f (bytesOfWord n)
 obtain ⟨rr, Hr⟩ : ∃ rr, Hid ((writeR U f (bytesOfWord n)) = rr) := ⟨_, Go.Lib.hid rfl⟩
 rw [Hr.out] at Hc hb ⊢
 have hw0 : (n : Int) % 256 % 256 = (n : Int) % 256 := by omega
 have hrl := h.lt
 clear h hX hs hpos
 go_enter Tryz.func31, Tryz.ntmps31
 go_wp2_with fail
 have hB0 := cells4b hn (World.alloc W (.cells #[.int .i64 6, .int .i64 f, .int .u32 n, .string nm, bv0] 80)) 5
 simp only [World.alloc, Array.size_push] at hB0
 change CellsAt (World.alloc (World.alloc W _) _) _ _ at hB0
 refine (Hc.out _ (((Chg.refl NoB W).alloc _).alloc _) (some ⟨W.heap.size + 1, 0, none⟩) hB0).mono ?_
 intro e w2 hp
 obtain rfl := hp.1
 have HP := Go.Lib.hid (RPost.from hp (((Chg.refl NoB W).alloc _).alloc _))
 clear hp Hc
 go_wp2_with fail
 go_ret
 exact ⟨rfl, HP.out.1, HP.out.2⟩
end
end Go.Proofs.YtggknljlibhkjaaGreat
set_option linter.unusedSimpArgs false
set_option linter.unusedVariables false
namespace Go.Proofs.YtggknljlibhkjaaGreat
open Go Go.RowKit
section
variable {W W' : World} {r : Nat} {U : V} {X F : Nat → Prop} {a : RA}
set_option maxRecDepth 100000 in
set_option maxHeartbeats 4000000 in
theorem rdo_7 (h : RefAt W r U X a) (hX : ∀ k, X k → k < W.heap.size) (hs : RSmall U) (hpos : ∀ q ∈ U.rd, q.pos ≤ (U.bytes q.n).length) (f : Int) (n : Nat) (hn : n < 4294967296) (nm : ByteArray) (hsz : nm.size ≤ maxLen) (bv0 : Value) :
  Calls Tryz.prog 31 #[.pointer (some ⟨r, 0, none⟩), .agg #[.int .i64 7, .int .i64 f, .int .u32 n, .string nm, bv0]] W (RPost r X (.int .u32 (0, seekZ U f (sgn n)).1) (0, seekZ U f (sgn n)).2 W) := by
 have hsg : -2147483648 ≤ sgn n ∧ sgn n < 2147483648 := by unfold sgn; split <;> omega
 have HS := Go.Lib.hid (fun (W : World) => rsigned_c n hn W)
 have Hc := Go.Lib.hid (fun (W' : World) (hW : Chg NoB W W') => rseek_c (h.quiet hW) (fun k hk => Nat.lt_of_lt_of_le (hX k hk) hW.size) hs.r f (sgn n) hsg)
 generalize sgn n = zz at *
 have hw0 : (n : Int) % 256 % 256 = (n : Int) % 256 := by omega
 have hrl := h.lt
 clear h hX hs hpos
 go_enter Tryz.func31, Tryz.ntmps31
 go_wp2_with fail
 have hW0 : Chg NoB W (World.alloc (World.alloc W (.cells #[.int .i64 7, .int .i64 f, .int .u32 n, .string nm, bv0] 80)) (.cells #[.int .u8 ((n : Int) % 256), .int .u8 ((n : Int) / 256 % 256), .int .u8 ((n : Int) / 65536 % 256), .int .u8 ((n : Int) / 16777216)] 5)) := ((Chg.refl NoB W).alloc _).alloc _
 have hk1 := (Blk.new W 80 #[.int .i64 7, .int .i64 f, .int .u32 n, .string nm, bv0]).alloc (.cells #[.int .u8 ((n : Int) % 256), .int .u8 ((n : Int) / 256 % 256), .int .u8 ((n : Int) / 65536 % 256), .int .u8 ((n : Int) / 16777216)] 5)
 have K : Hid (World.cell? _ ⟨W.heap.size, 1, none⟩ = some (.int .i64 f) ∧ World.cell? _ ⟨W.heap.size, 2, none⟩ = some (.int .u32 n)) := Go.Lib.hid ⟨hk1.cell 1, hk1.cell 2⟩
 have hB0 := cells4a hn (World.alloc W (.cells #[.int .i64 7, .int .i64 f, .int .u32 n, .string nm, bv0] 80)) 5
 simp only [World.alloc, Array.size_push] at hB0
 change CellsAt (World.alloc (World.alloc W _) _) _ _ at hB0
 have HB0 := Go.Lib.hid hB0
 clear hk1 hB0
 generalize World.alloc (World.alloc W (.cells #[.int .i64 7, .int .i64 f, .int .u32 n, .string nm, bv0] 80)) (.cells #[.int .u8 ((n : Int) % 256), .int .u8 ((n : Int) / 256 % 256), .int .u8 ((n : Int) / 65536 % 256), .int .u8 ((n : Int) / 16777216)] 5) = W0 at *
 have hne : ¬ W.heap.size = r := by omega
 have HW0 := Go.Lib.hid hW0
 clear hW0
 refine regionH (fun V' => Chg (fun k => k = r) W0 V') (by kernel_rfl) (Chg.refl _ W0).drew (fun hS => ?_)
 refine takeH (i := 0) (t := 73) (v := ?v0y8) rfl (by kernel_rfl) (fun _ _ _ h => h) rfl (Or.inl ⟨by rfl, ?h0y8⟩) hS ?r0y8
 case h0y8 => (intro V' hSw; go_simp; try with_reducible rfl)
 try simp only [sw1, sw2, sw3]
 refine takeH (i := 1) (t := 74) (v := ?v1y9) rfl (by kernel_rfl) (fun _ _ _ h => h) rfl (Or.inl ⟨by rfl, ?h1y9⟩) hS ?r1y9
 case h1y9 => (intro V' hSw; go_simp; try with_reducible rfl)
 try simp only [sw1, sw2, sw3]
 refine takeH (i := 2) (t := 75) (v := ?v2y10) rfl (by kernel_rfl) (fun _ _ _ h => h) rfl (Or.inl ⟨by rfl, ?h2y10⟩) hS ?r2y10
 case h2y10 => (intro V' hSw; have q := (World.cell?_of_block (hSw.block _ (World.block_lt_of_cell? W0 _ K.out.1) hne)).trans K.out.1; clear hSw; go_simp; try with_reducible rfl)
 try simp only [sw1, sw2, sw3]
 refine takeH (i := 3) (t := 76) (v := ?v3y11) rfl (by kernel_rfl) (fun _ _ _ h => h) rfl (Or.inl ⟨by rfl, ?h3y11⟩) hS ?r3y11
 case h3y11 => (intro V' hSw; go_simp; try with_reducible rfl)
 try simp only [sw1, sw2, sw3]
 refine takeH (i := 4) (t := 77) (v := ?v4y12) rfl (by kernel_rfl) (fun _ _ _ h => h) rfl (Or.inl ⟨by rfl, ?h4y12⟩) hS ?r4y12
 case h4y12 => (intro V' hSw; have q := (World.cell?_of_block (hSw.block _ (World.block_lt_of_cell? W0 _ K.out.2) hne)).trans K.out.2; clear hSw; go_simp; try with_reducible rfl)
 try simp only [sw1, sw2, sw3]
 refine manyH (i := 5) (l := []) (by kernel_rfl) ?hm
 case hm =>
  intro j hj
  obtain rfl : j = 5 := by simpa using hj
  refine opCallH (t := 78) (f := 86) (args := #[.int .u32 n]) rfl rfl (by rfl) ?hx ?hc
  case hx => (go_simp; try rfl)
  case hc =>
   refine (HS.out _).mono ?_
   rintro e ws ⟨rfl, rfl⟩
   refine ⟨_, rfl, hS, ?_⟩
   try simp only [sw1, sw2, sw3]
   refine manyH (i := 6) (l := []) (by kernel_rfl) ?hm
   case hm =>
    intro j hj
    obtain rfl : j = 6 := by simpa using hj
    refine opCallH (t := 79) (f := 85) (args := #[.pointer (some ⟨r, 0, none⟩), .int .i64 f, .int .i64 zz]) rfl rfl (by rfl) ?hx ?hc
    case hx => (go_simp; try rfl)
    case hc =>
     refine (Hc.out _ HW0.out.drew).mono ?_
     intro e w2 hp
     obtain rfl := hp.1
     have HP := Go.Lib.hid (RPost.from hp HW0.out.drew)
     have hS := ((Chg.refl (fun k => k = r) W0).drew).trans hp.2.2
     clear hp Hc
     refine ⟨_, rfl, hS, ?_⟩
     try simp only [sw1, sw2, sw3]
     refine wpAnyH_done (by kernel_rfl) ?_ _
     clear hS
     go_wp2_with fail
     go_ret
     exact ⟨rfl, HP.out.1, HP.out.2⟩
set_option maxRecDepth 100000 in
set_option maxHeartbeats 4000000 in
theorem rdo_8 (h : RefAt W r U X a) (hX : ∀ k, X k → k < W.heap.size) (hs : RSmall U) (hpos : ∀ q ∈ U.rd, q.pos ≤ (U.bytes q.n).length) (f : Int) (n : Nat) (hn : n < 4294967296) (nm : ByteArray) (hsz : nm.size ≤ maxLen) (bv0 : Value) :
  Calls Tryz.prog 31 #[.pointer (some ⟨r, 0, none⟩), .agg #[.int .i64 8, .int .i64 f, .int .u32 n, .string nm, bv0]] W (RPost r X (.int .u32 (registerR U f).1) (registerR U f).2 W) := by
 have Hc := Go.Lib.hid (fun (W' : World) (hW : Chg NoB W W') => rregister_c (h.quiet hW) (fun k hk => Nat.lt_of_lt_of_le (hX k hk) hW.size) hs.r hs.d f)
 have hb := registerR_le U f
 obtain ⟨rr, Hr⟩ : ∃ rr, Hid ((registerR U f) = rr) := ⟨_, Go.Lib.hid rfl⟩
 rw [Hr.out] at Hc hb ⊢
 have hw0 : (n : Int) % 256 % 256 = (n : Int) % 256 := by omega
 have hrl := h.lt
 clear h hX hs hpos
 go_enter Tryz.func31, Tryz.ntmps31
 go_wp2_with fail
 refine (Hc.out _ (((Chg.refl NoB W).alloc _).alloc _)).mono ?_
 intro e w2 hp
 obtain rfl := hp.1
 have HP := Go.Lib.hid (RPost.from hp (((Chg.refl NoB W).alloc _).alloc _))
 clear hp Hc
 go_wp2_with fail
 go_ret
 exact ⟨rfl, HP.out.1, HP.out.2⟩
set_option maxRecDepth 100000 in
set_option maxHeartbeats 4000000 in
theorem rdo_9 (h : RefAt W r U X a) (hX : ∀ k, X k → k < W.heap.size) (hs : RSmall U) (hpos : ∀ q ∈ U.rd, q.pos ≤ (U.bytes q.n).length) (f : Int) (n : Nat) (hn : n < 4294967296) (nm : ByteArray) (hsz : nm.size ≤ maxLen) (bv0 : Value) :
  Calls Tryz.prog 31 #[.pointer (some ⟨r, 0, none⟩), .agg #[.int .i64 9, .int .i64 f, .int .u32 n, .string nm, bv0]] W (RPost r X (.int .u32 (0, delR U nm).1) (0, delR U nm).2 W) := by
 have Hc := Go.Lib.hid (fun (W' : World) (hW : Chg NoB W W') => rdel_c (h.quiet hW) (fun k hk => Nat.lt_of_lt_of_le (hX k hk) hW.size) hs.d nm)
 have hw0 : (n : Int) % 256 % 256 = (n : Int) % 256 := by omega
 have hrl := h.lt
 clear h hX hs hpos
 go_enter Tryz.func31, Tryz.ntmps31
 go_wp2_with fail
 refine (Hc.out _ (((Chg.refl NoB W).alloc _).alloc _)).mono ?_
 intro e w2 hp
 obtain rfl := hp.1
 have HP := Go.Lib.hid (RPost.from hp (((Chg.refl NoB W).alloc _).alloc _))
 clear hp Hc
 go_wp2_with fail
 go_ret
 exact ⟨rfl, HP.out.1, HP.out.2⟩
set_option maxRecDepth 100000 in
set_option maxHeartbeats 4000000 in
theorem rdo_10 (h : RefAt W r U X a) (hX : ∀ k, X k → k < W.heap.size) (hs : RSmall U) (hpos : ∀ q ∈ U.rd, q.pos ≤ (U.bytes q.n).length) (f : Int) (n : Nat) (hn : n < 4294967296) (nm : ByteArray) (hsz : nm.size ≤ maxLen) (l : List UInt8) (hl : l.length < 1000000) (A : Option Addr) (c : Nat) (hB : CellsAt W A (bv l)) :
  Calls Tryz.prog 31 #[.pointer (some ⟨r, 0, none⟩), .agg #[.int .i64 10, .int .i64 f, .int .u32 n, .string nm, .slice A l.length c]] W (RPost r X (.int .u32 (putR U nm l).1) (putR U nm l).2 W) := by
 have Hc := Go.Lib.hid (fun (W' : World) (hW : Chg NoB W W') => rput_c (h.quiet hW) (fun k hk => Nat.lt_of_lt_of_le (hX k hk) hW.size) hs nm hsz l hl A c (hB.chg hW (fun _ _ => id)))
 have hb := putR_le U nm l
 obtain ⟨rr, Hr⟩ : ∃ rr, Hid ((putR U nm l) = rr) := ⟨_, Go.Lib.hid rfl⟩
 rw [Hr.out] at Hc hb ⊢
 have hw0 : (n : Int) % 256 % 256 = (n : Int) % 256 := by omega
 have hrl := h.lt
 clear h hX hs hpos
 go_enter Tryz.func31, Tryz.ntmps31
 go_wp2_with fail
 refine (Hc.out _ (((Chg.refl NoB W).alloc _).alloc _)).mono ?_
 intro e w2 hp
 obtain rfl := hp.1
 have HP := Go.Lib.hid (RPost.from hp (((Chg.refl NoB W).alloc _).alloc _))
 clear hp Hc
 go_wp2_with fail
 go_ret
 exact ⟨rfl, HP.out.1, HP.out.2⟩
set_option maxRecDepth 100000 in
set_option maxHeartbeats 4000000 in
theorem rdo_11 (h : RefAt W r U X a) (hX : ∀ k, X k → k < W.heap.size) (hs : RSmall U) (hpos : ∀ q ∈ U.rd, q.pos ≤ (U.bytes q.n).length) (f : Int) (n : Nat) (hn : n < 4294967296) (nm : ByteArray) (hsz : nm.size ≤ maxLen) (bv0 : Value) :
  Calls Tryz.prog 31 #[.pointer (some ⟨r, 0, none⟩), .agg #[.int .i64 11, .int .i64 f, .int .u32 n, .string nm, bv0]] W (RPost r X (.int .u32 (dropR U nm, delR U nm).1) (dropR U nm, delR U nm).2 W) := by
 have Hc := Go.Lib.hid (fun (W' : World) (hW : Chg NoB W W') => rdrop_c (h.quiet hW) (fun k hk => Nat.lt_of_lt_of_le (hX k hk) hW.size) hs.d nm hsz)
 have hb := dropR_le U nm
 simp only
 generalize dropR U nm = rn at *
 have hw0 : (n : Int) % 256 % 256 = (n : Int) % 256 := by omega
 have hrl := h.lt
 clear h hX hs hpos
 go_enter Tryz.func31, Tryz.ntmps31
 go_wp2_with fail
 refine (Hc.out _ (((Chg.refl NoB W).alloc _).alloc _)).mono ?_
 intro e w2 hp
 obtain rfl := hp.1
 have HP := Go.Lib.hid (RPost.from hp (((Chg.refl NoB W).alloc _).alloc _))
 clear hp Hc
 go_wp2_with fail
 go_ret
 exact ⟨rfl, HP.out.1, HP.out.2⟩
end
end Go.Proofs.YtggknljlibhkjaaGreat
set_option linter.unusedSimpArgs false
set_option linter.unusedVariables false
namespace Go.Proofs.YtggknljlibhkjaaGreat
open Go Go.RowKit
section
variable {W W' : World} {r : Nat} {U : V} {X F : Nat → Prop} {a : RA}
set_option maxRecDepth 100000 in
set_option maxHeartbeats 4000000 in
theorem rdo_else (h : RefAt W r U X a) (k f : Int) (n : Nat) (hn : n < 4294967296) (nm : ByteArray) (bv0 : Value) (h1 : k ≠ 1) (h2 : k ≠ 2) (h3 : k ≠ 3) (h4 : k ≠ 4) (h5 : k ≠ 5) (h6 : k ≠ 6) (h7 : k ≠ 7) (h8 : k ≠ 8) (h9 : k ≠ 9) (h10 : k ≠ 10) (h11 : k ≠ 11) :
  Calls Tryz.prog 31 #[.pointer (some ⟨r, 0, none⟩), .agg #[.int .i64 k, .int .i64 f, .int .u32 n, .string nm, bv0]] W (RPost r X (.int .u32 0) U W) := by
 have e1 : (k == 1) = false := by simpa using h1
 have e2 : (k == 2) = false := by simpa using h2
 have e3 : (k == 3) = false := by simpa using h3
 have e4 : (k == 4) = false := by simpa using h4
 have e5 : (k == 5) = false := by simpa using h5
 have e6 : (k == 6) = false := by simpa using h6
 have e7 : (k == 7) = false := by simpa using h7
 have e8 : (k == 8) = false := by simpa using h8
 have e9 : (k == 9) = false := by simpa using h9
 have e10 : (k == 10) = false := by simpa using h10
 have e11 : (k == 11) = false := by simpa using h11
 have hw0 : (n : Int) % 256 % 256 = (n : Int) % 256 := by omega
 have H := Go.Lib.hid h
 clear h h1 h2 h3 h4 h5 h6 h7 h8 h9 h10 h11
 go_enter Tryz.func31, Tryz.ntmps31
 go_wp2_with fail
 go_ret
 exact ⟨rfl, ⟨a, H.out.quiet (((Chg.refl NoB W).alloc _).alloc _)⟩, ((Chg.refl _ W).alloc _).alloc _⟩
theorem rdo_c (h : RefAt W r U X a) (hX : ∀ k, X k → k < W.heap.size) (hs : RSmall U) (hpos : ∀ q ∈ U.rd, q.pos ≤ (U.bytes q.n).length) (x : St) (hx : StepOk W x) : Calls Tryz.prog 31 #[.pointer (some ⟨r, 0, none⟩), x.v] W (RPost r X (.int .u32 (doR U x).1) (doR U x).2 W) := by
 obtain ⟨k, f, n, nm, A, c, b⟩ := x
 unfold St.v doR
 simp only
 by_cases h1 : k = 1
 ·subst h1
  simp only [if_false, if_true]
  exact rdo_1 h hX hs hpos f n hx.n nm hx.nm _
 by_cases h2 : k = 2
 ·subst h2
  simp only [show ¬ (2 : Int) = 1 by decide, if_false, if_true]
  exact rdo_2 h hX hs hpos f n hx.n nm hx.nm _
 by_cases h3 : k = 3
 ·subst h3
  simp only [show ¬ (3 : Int) = 1 by decide, show ¬ (3 : Int) = 2 by decide, if_false, if_true]
  exact rdo_3 h hX hs hpos f n hx.n nm hx.nm _
 by_cases h4 : k = 4
 ·subst h4
  simp only [show ¬ (4 : Int) = 1 by decide, show ¬ (4 : Int) = 2 by decide, show ¬ (4 : Int) = 3 by decide, if_false, if_true]
  exact rdo_4 h hX hs hpos f n hx.n nm hx.nm _
 by_cases h5 : k = 5
 ·subst h5
  simp only [show ¬ (5 : Int) = 1 by decide, show ¬ (5 : Int) = 2 by decide, show ¬ (5 : Int) = 3 by decide, show ¬ (5 : Int) = 4 by decide, if_false, if_true]
  exact rdo_5 h hX hs hpos f n hx.n nm hx.nm _
 by_cases h6 : k = 6
 ·subst h6
  simp only [show ¬ (6 : Int) = 1 by decide, show ¬ (6 : Int) = 2 by decide, show ¬ (6 : Int) = 3 by decide, show ¬ (6 : Int) = 4 by decide, show ¬ (6 : Int) = 5 by decide, if_false, if_true]
  exact rdo_6 h hX hs hpos f n hx.n nm hx.nm _
 by_cases h7 : k = 7
 ·subst h7
  simp only [show ¬ (7 : Int) = 1 by decide, show ¬ (7 : Int) = 2 by decide, show ¬ (7 : Int) = 3 by decide, show ¬ (7 : Int) = 4 by decide, show ¬ (7 : Int) = 5 by decide, show ¬ (7 : Int) = 6 by decide, if_false, if_true]
  exact rdo_7 h hX hs hpos f n hx.n nm hx.nm _
 by_cases h8 : k = 8
 ·subst h8
  simp only [show ¬ (8 : Int) = 1 by decide, show ¬ (8 : Int) = 2 by decide, show ¬ (8 : Int) = 3 by decide, show ¬ (8 : Int) = 4 by decide, show ¬ (8 : Int) = 5 by decide, show ¬ (8 : Int) = 6 by decide, show ¬ (8 : Int) = 7 by decide, if_false, if_true]
  exact rdo_8 h hX hs hpos f n hx.n nm hx.nm _
 by_cases h9 : k = 9
 ·subst h9
  simp only [show ¬ (9 : Int) = 1 by decide, show ¬ (9 : Int) = 2 by decide, show ¬ (9 : Int) = 3 by decide, show ¬ (9 : Int) = 4 by decide, show ¬ (9 : Int) = 5 by decide, show ¬ (9 : Int) = 6 by decide, show ¬ (9 : Int) = 7 by decide, show ¬ (9 : Int) = 8 by decide, if_false, if_true]
  exact rdo_9 h hX hs hpos f n hx.n nm hx.nm _
 by_cases h10 : k = 10
 ·subst h10
  simp only [show ¬ (10 : Int) = 1 by decide, show ¬ (10 : Int) = 2 by decide, show ¬ (10 : Int) = 3 by decide, show ¬ (10 : Int) = 4 by decide, show ¬ (10 : Int) = 5 by decide, show ¬ (10 : Int) = 6 by decide, show ¬ (10 : Int) = 7 by decide, show ¬ (10 : Int) = 8 by decide, show ¬ (10 : Int) = 9 by decide, if_false, if_true]
  exact rdo_10 h hX hs hpos f n hx.n nm hx.nm b (by have := hx.b; simp only at this; omega) A c hx.cells
 by_cases h11 : k = 11
 ·subst h11
  simp only [show ¬ (11 : Int) = 1 by decide, show ¬ (11 : Int) = 2 by decide, show ¬ (11 : Int) = 3 by decide, show ¬ (11 : Int) = 4 by decide, show ¬ (11 : Int) = 5 by decide, show ¬ (11 : Int) = 6 by decide, show ¬ (11 : Int) = 7 by decide, show ¬ (11 : Int) = 8 by decide, show ¬ (11 : Int) = 9 by decide, show ¬ (11 : Int) = 10 by decide, if_false, if_true]
  exact rdo_11 h hX hs hpos f n hx.n nm hx.nm _
 simp only [h1, h2, h3, h4, h5, h6, h7, h8, h9, h10, h11, if_false]
 exact rdo_else h k f n hx.n nm _ h1 h2 h3 h4 h5 h6 h7 h8 h9 h10 h11
end
end Go.Proofs.YtggknljlibhkjaaGreat
