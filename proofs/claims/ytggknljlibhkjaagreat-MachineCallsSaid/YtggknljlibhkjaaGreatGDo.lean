import Derived.Test.YtggknljlibhkjaaGreatFiR
import Derived.Test.YtggknljlibhkjaaGreatStoreX
import Derived.Test.YtggknljlibhkjaaGreatStoreS
import Derived.Test.YtggknljlibhkjaaGreatTail2
set_option linter.unusedSimpArgs false
set_option linter.unusedVariables false
namespace Go.Proofs.YtggknljlibhkjaaGreat
open Go.RowKit
structure St where
 kind : Int
 f : Int
 w : Nat
 nm : ByteArray
 A : Option Addr
 c : Nat
 b : List UInt8
def St.v (x : St) : Value := .agg #[.int .i64 x.kind, .int .i64 x.f, .int .u32 x.w, .string x.nm, .slice x.A x.b.length x.c]
def V.doS (v : V) (x : St) : Nat × V :=
 if x.kind = 1 then v.old x.nm else if x.kind = 2 then v.fresh x.nm else if x.kind = 3 then ((v.read x.f).1.toNat, (v.read x.f).2) else if x.kind = 4 then v.readWord x.f
 else if x.kind = 5 then v.write x.f [UInt8.ofNat x.w] else if x.kind = 6 then v.write x.f (bytesOfWord x.w) else if x.kind = 7 then (0, v.seek x.f x.w) else if x.kind = 8 then v.register x.f
 else if x.kind = 9 then (0, v.del x.nm) else if x.kind = 10 then v.put x.nm x.b else if x.kind = 11 then v.drop x.nm else (0, v)
theorem V.old_le (v : V) (nm : ByteArray) : (v.old nm).1 ≤ 255 := by
 unfold V.old
 split
 ·rename_i h
  split
  ·simp
  ·simp; omega
 ·simp
theorem V.fresh_le (v : V) (nm : ByteArray) : (v.fresh nm).1 ≤ 255 := by
 unfold V.fresh
 split
 ·rename_i h; simp; omega
 ·simp
theorem V.write_le (v : V) (f : Int) (l : List UInt8) : (v.write f l).1 ≤ 5 := by
 unfold V.write
 split
 ·simp
 ·split <;> simp
theorem V.register_le (v : V) (f : Int) : (v.register f).1 ≤ 5 := by
 unfold V.register
 split
 ·simp
 ·split <;> simp
theorem V.drop_le (v : V) (nm : ByteArray) : (v.drop nm).1 ≤ 6 := by
 unfold V.drop
 split
 ·split <;> simp
 ·simp
theorem V.put_le (v : V) (nm : ByteArray) (l : List UInt8) : (v.put nm l).1 ≤ 5 := by
 unfold V.put
 split
 ·split
  ·split <;> simp
  ·simp
 ·simp
section
variable {base : Nat} {w : World} {s : Nat} {v : V} {F : Nat → Prop}
theorem VPost.from {w1 : World} {r r' : Value} {v' : V} {e : Ending} {w' : World} (h : VPost base s F r v' w1 e w') (hc : Chg NoB w w1) (hF : ∀ k, F k → k < w.heap.size) : ∃ F', StoreV base w' s v' F' ∧ Chg F w w' ∧ (∀ k, F' k → k < w.heap.size → F k) := by
 obtain ⟨_, F', h1, h2, h3⟩ := h
 exact ⟨F', h1, (hc.mono fun _ _ h => h.elim).trans h2, fun k hk hlt => h3 k hk (Nat.lt_of_lt_of_le hlt hc.size)⟩
set_option maxHeartbeats 2000000
theorem do_1 (h : StoreV base w s v F) (f : Int) (n : Nat) (hn : n < 4294967296) (nm : ByteArray) (hsz : nm.size ≤ maxLen) (bv0 : Value) :
  Calls Tryz.prog 30 #[.agg #[], ptr s, .agg #[.int .i64 1, .int .i64 f, .int .u32 n, .string nm, bv0]] w (VPost base s F (.int .u32 (v.old nm).1) (v.old nm).2 w) := by
 have Hc := Go.Lib.hid (fun (W : World) (hW : Chg NoB w W) => old_v (h.quiet hW) nm hsz)
 have HF := Go.Lib.hid (fun k (hk : F k) => h.lt hk)
 have N := Go.Lib.hid snum_c
 have hb := V.old_le v nm
 obtain ⟨r, Hr⟩ : ∃ r, Hid ((v.old nm) = r) := ⟨_, Go.Lib.hid rfl⟩
 rw [Hr.out] at Hc hb ⊢
 clear h
 unfold ptr at Hc ⊢
 go_enter Tryz.func30, Tryz.ntmps30
 go_wp2_with fail
 refine (Hc.out _ (((Chg.refl NoB w).alloc _).alloc _)).mono ?_
 rintro e w2 ⟨rfl, F', h1, h2, h3⟩
 have HP : Hid (∃ F', StoreV base w2 s r.2 F' ∧ Chg F w w2 ∧ ∀ k, F' k → k < w.heap.size → F k) := Go.Lib.hid (VPost.from (r := .tuple #[]) (r' := .tuple #[]) ⟨rfl, F', h1, h2, h3⟩ (((Chg.refl NoB w).alloc _).alloc _) HF.out)
 clear h1 h2 h3 Hc
 go_wp2_with fail
 go_ret
 exact ⟨rfl, HP.out⟩
theorem do_2 (h : StoreV base w s v F) (f : Int) (n : Nat) (hn : n < 4294967296) (nm : ByteArray) (hsz : nm.size ≤ maxLen) (bv0 : Value) :
  Calls Tryz.prog 30 #[.agg #[], ptr s, .agg #[.int .i64 2, .int .i64 f, .int .u32 n, .string nm, bv0]] w (VPost base s F (.int .u32 (v.fresh nm).1) (v.fresh nm).2 w) := by
 have Hc := Go.Lib.hid (fun (W : World) (hW : Chg NoB w W) => fresh_v (h.quiet hW) nm hsz)
 have HF := Go.Lib.hid (fun k (hk : F k) => h.lt hk)
 have N := Go.Lib.hid snum_c
 have hb := V.fresh_le v nm
 obtain ⟨r, Hr⟩ : ∃ r, Hid ((v.fresh nm) = r) := ⟨_, Go.Lib.hid rfl⟩
 rw [Hr.out] at Hc hb ⊢
 clear h
 unfold ptr at Hc ⊢
 go_enter Tryz.func30, Tryz.ntmps30
 go_wp2_with fail
 refine (Hc.out _ (((Chg.refl NoB w).alloc _).alloc _)).mono ?_
 rintro e w2 ⟨rfl, F', h1, h2, h3⟩
 have HP : Hid (∃ F', StoreV base w2 s r.2 F' ∧ Chg F w w2 ∧ ∀ k, F' k → k < w.heap.size → F k) := Go.Lib.hid (VPost.from (r := .tuple #[]) (r' := .tuple #[]) ⟨rfl, F', h1, h2, h3⟩ (((Chg.refl NoB w).alloc _).alloc _) HF.out)
 clear h1 h2 h3 Hc
 go_wp2_with fail
 go_ret
 exact ⟨rfl, HP.out⟩
theorem do_3 (h : StoreV base w s v F) (f : Int) (n : Nat) (hn : n < 4294967296) (nm : ByteArray) (hsz : nm.size ≤ maxLen) (bv0 : Value) :
  Calls Tryz.prog 30 #[.agg #[], ptr s, .agg #[.int .i64 3, .int .i64 f, .int .u32 n, .string nm, bv0]] w (VPost base s F (.int .u32 (v.read f).1.toNat) (v.read f).2 w) := by
 have Hc := Go.Lib.hid (fun (W : World) (hW : Chg NoB w W) => read_v (h.quiet hW) f)
 have HF := Go.Lib.hid (fun k (hk : F k) => h.lt hk)
 have N := Go.Lib.hid snum_c
 obtain ⟨r, Hr⟩ : ∃ r, Hid (v.read f = r) := ⟨_, Go.Lib.hid rfl⟩
 rw [Hr.out] at Hc ⊢
 have hb : (r.1.toNat : Int) < 256 := by have := r.1.toNat_lt; omega
 have hb0 : (0 : Int) ≤ (r.1.toNat : Int) := by omega
 clear h
 unfold ptr at Hc ⊢
 go_enter Tryz.func30, Tryz.ntmps30
 go_wp2_with fail
 refine (Hc.out _ (((Chg.refl NoB w).alloc _).alloc _)).mono ?_
 rintro e w2 ⟨rfl, F', h1, h2, h3⟩
 have HP : Hid (∃ F', StoreV base w2 s r.2 F' ∧ Chg F w w2 ∧ ∀ k, F' k → k < w.heap.size → F k) := Go.Lib.hid (VPost.from (r := .tuple #[]) (r' := .tuple #[]) ⟨rfl, F', h1, h2, h3⟩ (((Chg.refl NoB w).alloc _).alloc _) HF.out)
 clear h1 h2 h3 Hc
 go_wp2_with fail
 go_ret
 exact ⟨rfl, HP.out⟩
theorem do_4 (h : StoreV base w s v F) (f : Int) (n : Nat) (hn : n < 4294967296) (nm : ByteArray) (hsz : nm.size ≤ maxLen) (bv0 : Value) :
  Calls Tryz.prog 30 #[.agg #[], ptr s, .agg #[.int .i64 4, .int .i64 f, .int .u32 n, .string nm, bv0]] w (VPost base s F (.int .u32 (v.readWord f).1) (v.readWord f).2 w) := by
 have Hc := Go.Lib.hid (fun (W : World) (hW : Chg NoB w W) => readWord_v (h.quiet hW) f)
 have HF := Go.Lib.hid (fun k (hk : F k) => h.lt hk)
 have N := Go.Lib.hid snum_c
 clear h
 unfold ptr at Hc ⊢
 go_enter Tryz.func30, Tryz.ntmps30
 go_wp2_with fail
 refine (Hc.out _ (((Chg.refl NoB w).alloc _).alloc _)).mono ?_
 rintro e w2 ⟨rfl, F', h1, h2, h3⟩
 have HP : Hid (∃ F', StoreV base w2 s (v.readWord f).2 F' ∧ Chg F w w2 ∧ ∀ k, F' k → k < w.heap.size → F k) := Go.Lib.hid (VPost.from (r := .tuple #[]) (r' := .tuple #[]) ⟨rfl, F', h1, h2, h3⟩ (((Chg.refl NoB w).alloc _).alloc _) HF.out)
 clear h1 h2 h3 Hc
 go_wp2_with fail
 go_ret
 exact ⟨rfl, HP.out⟩
theorem do_5 (h : StoreV base w s v F) (f : Int) (n : Nat) (hn : n < 4294967296) (nm : ByteArray) (hsz : nm.size ≤ maxLen) (bv0 : Value) :
  Calls Tryz.prog 30 #[.agg #[], ptr s, .agg #[.int .i64 5, .int .i64 f, .int .u32 n, .string nm, bv0]] w (VPost base s F (.int .u32 (v.write f [UInt8.ofNat n]).1) (v.write f [UInt8.ofNat n]).2 w) := by
 have Hc := Go.Lib.hid (fun (W : World) (hW : Chg NoB w W) => write_v (h.quiet hW) f (UInt8.ofNat n))
 have HF := Go.Lib.hid (fun k (hk : F k) => h.lt hk)
 have N := Go.Lib.hid snum_c
 have hw8 : IntKind.u8.wrap (n : Int) = ((UInt8.ofNat n).toNat : Int) := by
  rw [UInt8.toNat_ofNat']
  simp [IntKind.wrap, IntKind.signed, IntKind.bits]
  try omega
 have hb := V.write_le v f [UInt8.ofNat n]
 obtain ⟨r, Hr⟩ : ∃ r, Hid ((v.write f [UInt8.ofNat n]) = r) := ⟨_, Go.Lib.hid rfl⟩
 rw [Hr.out] at Hc hb ⊢
 clear h
 unfold ptr at Hc ⊢
 go_enter Tryz.func30, Tryz.ntmps30
 go_wp2_with fail
 refine (Hc.out _ (((Chg.refl NoB w).alloc _).alloc _)).mono ?_
 rintro e w2 ⟨rfl, F', h1, h2, h3⟩
 have HP : Hid (∃ F', StoreV base w2 s r.2 F' ∧ Chg F w w2 ∧ ∀ k, F' k → k < w.heap.size → F k) := Go.Lib.hid (VPost.from (r := .tuple #[]) (r' := .tuple #[]) ⟨rfl, F', h1, h2, h3⟩ (((Chg.refl NoB w).alloc _).alloc _) HF.out)
 clear h1 h2 h3 Hc
 go_wp2_with fail
 refine (N.out _ _).mono ?_
 rintro e wn ⟨rfl, he⟩
 obtain rfl := he.symm
 clear he
 go_wp2_with fail
 go_ret
 exact ⟨rfl, HP.out⟩
theorem do_6 (h : StoreV base w s v F) (f : Int) (n : Nat) (hn : n < 4294967296) (nm : ByteArray) (hsz : nm.size ≤ maxLen) (bv0 : Value) :
  Calls Tryz.prog 30 #[.agg #[], ptr s, .agg #[.int .i64 6, .int .i64 f, .int .u32 n, .string nm, bv0]] w (VPost base s F (.int .u32 (v.write f (bytesOfWord n)).1) (v.write f (bytesOfWord n)).2 w) := by
 have Hc := Go.Lib.hid (fun (W : World) (hW : Chg NoB w W) => writeWord_v (h.quiet hW) f n hn)
 have HF := Go.Lib.hid (fun k (hk : F k) => h.lt hk)
 have N := Go.Lib.hid snum_c
 have hb := V.write_le v f (bytesOfWord n)
 obtain ⟨r, Hr⟩ : ∃ r, Hid ((v.write f (bytesOfWord n)) = r) := ⟨_, Go.Lib.hid rfl⟩
 rw [Hr.out] at Hc hb ⊢
 clear h
 unfold ptr at Hc ⊢
 go_enter Tryz.func30, Tryz.ntmps30
 go_wp2_with fail
 refine (Hc.out _ (((Chg.refl NoB w).alloc _).alloc _)).mono ?_
 rintro e w2 ⟨rfl, F', h1, h2, h3⟩
 have HP : Hid (∃ F', StoreV base w2 s r.2 F' ∧ Chg F w w2 ∧ ∀ k, F' k → k < w.heap.size → F k) := Go.Lib.hid (VPost.from (r := .tuple #[]) (r' := .tuple #[]) ⟨rfl, F', h1, h2, h3⟩ (((Chg.refl NoB w).alloc _).alloc _) HF.out)
 clear h1 h2 h3 Hc
 go_wp2_with fail
 refine (N.out _ _).mono ?_
 rintro e wn ⟨rfl, he⟩
 obtain rfl := he.symm
 clear he
 go_wp2_with fail
 go_ret
 exact ⟨rfl, HP.out⟩
theorem do_7 (h : StoreV base w s v F) (f : Int) (n : Nat) (hn : n < 4294967296) (nm : ByteArray) (hsz : nm.size ≤ maxLen) (bv0 : Value) :
  Calls Tryz.prog 30 #[.agg #[], ptr s, .agg #[.int .i64 7, .int .i64 f, .int .u32 n, .string nm, bv0]] w (VPost base s F (.int .u32 (0, v.seek f n).1) (0, v.seek f n).2 w) := by
 have Hc := Go.Lib.hid (fun (W : World) (hW : Chg NoB w W) => seek_v (h.quiet hW) f n hn)
 have HF := Go.Lib.hid (fun k (hk : F k) => h.lt hk)
 have N := Go.Lib.hid snum_c
 clear h
 unfold ptr at Hc ⊢
 go_enter Tryz.func30, Tryz.ntmps30
 go_wp2_with fail
 refine (Hc.out _ (((Chg.refl NoB w).alloc _).alloc _)).mono ?_
 rintro e w2 ⟨rfl, F', h1, h2, h3⟩
 have HP : Hid (∃ F', StoreV base w2 s (0, v.seek f n).2 F' ∧ Chg F w w2 ∧ ∀ k, F' k → k < w.heap.size → F k) := Go.Lib.hid (VPost.from (r := .tuple #[]) (r' := .tuple #[]) ⟨rfl, F', h1, h2, h3⟩ (((Chg.refl NoB w).alloc _).alloc _) HF.out)
 clear h1 h2 h3 Hc
 go_wp2_with fail
 go_ret
 exact ⟨rfl, HP.out⟩
theorem do_8 (h : StoreV base w s v F) (f : Int) (n : Nat) (hn : n < 4294967296) (nm : ByteArray) (hsz : nm.size ≤ maxLen) (bv0 : Value) :
  Calls Tryz.prog 30 #[.agg #[], ptr s, .agg #[.int .i64 8, .int .i64 f, .int .u32 n, .string nm, bv0]] w (VPost base s F (.int .u32 (v.register f).1) (v.register f).2 w) := by
 have Hc := Go.Lib.hid (fun (W : World) (hW : Chg NoB w W) => register_v (h.quiet hW) f)
 have HF := Go.Lib.hid (fun k (hk : F k) => h.lt hk)
 have N := Go.Lib.hid snum_c
 have hb := V.register_le v f
 obtain ⟨r, Hr⟩ : ∃ r, Hid ((v.register f) = r) := ⟨_, Go.Lib.hid rfl⟩
 rw [Hr.out] at Hc hb ⊢
 clear h
 unfold ptr at Hc ⊢
 go_enter Tryz.func30, Tryz.ntmps30
 go_wp2_with fail
 refine (Hc.out _ (((Chg.refl NoB w).alloc _).alloc _)).mono ?_
 rintro e w2 ⟨rfl, F', h1, h2, h3⟩
 have HP : Hid (∃ F', StoreV base w2 s r.2 F' ∧ Chg F w w2 ∧ ∀ k, F' k → k < w.heap.size → F k) := Go.Lib.hid (VPost.from (r := .tuple #[]) (r' := .tuple #[]) ⟨rfl, F', h1, h2, h3⟩ (((Chg.refl NoB w).alloc _).alloc _) HF.out)
 clear h1 h2 h3 Hc
 go_wp2_with fail
 refine (N.out _ _).mono ?_
 rintro e wn ⟨rfl, he⟩
 obtain rfl := he.symm
 clear he
 go_wp2_with fail
 go_ret
 exact ⟨rfl, HP.out⟩
theorem do_9 (h : StoreV base w s v F) (f : Int) (n : Nat) (hn : n < 4294967296) (nm : ByteArray) (hsz : nm.size ≤ maxLen) (bv0 : Value) :
  Calls Tryz.prog 30 #[.agg #[], ptr s, .agg #[.int .i64 9, .int .i64 f, .int .u32 n, .string nm, bv0]] w (VPost base s F (.int .u32 (0, v.del nm).1) (0, v.del nm).2 w) := by
 have Hc := Go.Lib.hid (fun (W : World) (hW : Chg NoB w W) => delete_v (h.quiet hW) nm)
 have HF := Go.Lib.hid (fun k (hk : F k) => h.lt hk)
 have N := Go.Lib.hid snum_c
 clear h
 unfold ptr at Hc ⊢
 go_enter Tryz.func30, Tryz.ntmps30
 go_wp2_with fail
 refine (Hc.out _ (((Chg.refl NoB w).alloc _).alloc _)).mono ?_
 rintro e w2 ⟨rfl, F', h1, h2, h3⟩
 have HP : Hid (∃ F', StoreV base w2 s (0, v.del nm).2 F' ∧ Chg F w w2 ∧ ∀ k, F' k → k < w.heap.size → F k) := Go.Lib.hid (VPost.from (r := .tuple #[]) (r' := .tuple #[]) ⟨rfl, F', h1, h2, h3⟩ (((Chg.refl NoB w).alloc _).alloc _) HF.out)
 clear h1 h2 h3 Hc
 go_wp2_with fail
 go_ret
 exact ⟨rfl, HP.out⟩
theorem do_11 (h : StoreV base w s v F) (f : Int) (n : Nat) (hn : n < 4294967296) (nm : ByteArray) (hsz : nm.size ≤ maxLen) (bv0 : Value) :
  Calls Tryz.prog 30 #[.agg #[], ptr s, .agg #[.int .i64 11, .int .i64 f, .int .u32 n, .string nm, bv0]] w (VPost base s F (.int .u32 (v.drop nm).1) (v.drop nm).2 w) := by
 have Hc := Go.Lib.hid (fun (W : World) (hW : Chg NoB w W) => drop_v (h.quiet hW) nm hsz)
 have HF := Go.Lib.hid (fun k (hk : F k) => h.lt hk)
 have N := Go.Lib.hid snum_c
 have hb := V.drop_le v nm
 obtain ⟨r, Hr⟩ : ∃ r, Hid ((v.drop nm) = r) := ⟨_, Go.Lib.hid rfl⟩
 rw [Hr.out] at Hc hb ⊢
 clear h
 unfold ptr at Hc ⊢
 go_enter Tryz.func30, Tryz.ntmps30
 go_wp2_with fail
 refine (Hc.out _ (((Chg.refl NoB w).alloc _).alloc _)).mono ?_
 rintro e w2 ⟨rfl, F', h1, h2, h3⟩
 have HP : Hid (∃ F', StoreV base w2 s r.2 F' ∧ Chg F w w2 ∧ ∀ k, F' k → k < w.heap.size → F k) := Go.Lib.hid (VPost.from (r := .tuple #[]) (r' := .tuple #[]) ⟨rfl, F', h1, h2, h3⟩ (((Chg.refl NoB w).alloc _).alloc _) HF.out)
 clear h1 h2 h3 Hc
 go_wp2_with fail
 refine (N.out _ _).mono ?_
 rintro e wn ⟨rfl, he⟩
 obtain rfl := he.symm
 clear he
 go_wp2_with fail
 go_ret
 exact ⟨rfl, HP.out⟩
end
end Go.Proofs.YtggknljlibhkjaaGreat
set_option linter.unusedSimpArgs false
set_option linter.unusedVariables false
namespace Go.Proofs.YtggknljlibhkjaaGreat
open Go.RowKit
section
variable {base : Nat} {w : World} {s : Nat} {v : V} {F : Nat → Prop}
theorem CellsAt.front {W : World} {b : Nat} {e : TypeId} {n : Nat} {A : Option Addr} {c : Nat} {xs ys : List Value} (h : W.ownsRow b e 1 (.slice A n c) n (xs ++ ys)) : CellsAt W A xs := by
 intro hl
 obtain ⟨ad, hA, hc⟩ := CellsAt.of_own h (by rw [List.length_append]; omega)
 exact ⟨ad, hA, fun j u hj => hc j u (by rw [List.getElem?_append_left (List.getElem?_eq_some_iff.1 hj).1]; exact hj)⟩
set_option maxHeartbeats 4000000 in
theorem do_10 (h : StoreV base w s v F) (f : Int) (n : Nat) (nm : ByteArray) (hsz : nm.size ≤ maxLen) {A : Option Addr} {c : Nat} {l : List UInt8} (hl : l.length ≤ 20000) (hcl : CellsAt w A (bv l)) :
  Calls Tryz.prog 30 #[.agg #[], ptr s, .agg #[.int .i64 10, .int .i64 f, .int .u32 n, .string nm, .slice A l.length c]] w (VPost base s F (.int .u32 (v.put nm l).1) (v.put nm l).2 w) := by
 have HF := Go.Lib.hid (fun k (hk : F k) => h.lt hk)
 have N := Go.Lib.hid snum_c
 have H := Go.Lib.hid h
 have Hcl := Go.Lib.hid hcl
 have HL := Go.Lib.hid hl
 have Hsz := Go.Lib.hid hsz
 have Hput : Hid ((v.put nm l).1 ≤ 5) := Go.Lib.hid (V.put_le v nm l)
 obtain ⟨i0, hi0, hz0, hz1, hz2⟩ := info_parts u8info
 have Hi := Go.Lib.hid (And.intro hi0 (And.intro hz0 (And.intro hz1 hz2)))
 clear hi0 hz0 hz1 hz2 h hcl hsz
 unfold ptr
 go_enter Tryz.func30, Tryz.ntmps30
 have hW0 : Chg NoB w ((w.alloc (Obj.cells #[] 84)).alloc (Obj.cells #[.int .i64 10, .int .i64 f, .int .u32 n, .string nm, .slice A l.length c] 80)) := ((Chg.refl NoB w).alloc _).alloc _
 have hcl0 : CellsAt ((w.alloc (Obj.cells #[] 84)).alloc (Obj.cells #[.int .i64 10, .int .i64 f, .int .u32 n, .string nm, .slice A l.length c] 80)) A (bv l) := Hcl.out.chg hW0 (fun _ _ => id)
 have hbx0 : Blk ((w.alloc (Obj.cells #[] 84)).alloc (Obj.cells #[.int .i64 10, .int .i64 f, .int .u32 n, .string nm, .slice A l.length c] 80)) (w.heap.size + 1) 80 #[.int .i64 10, .int .i64 f, .int .u32 n, .string nm, .slice A l.length c] := Blk.new1 _ _ _ _
 have HW0 := Go.Lib.hid hW0
 have HCL0 := Go.Lib.hid hcl0
 have HBX0 := Go.Lib.hid hbx0
 clear hW0 hcl0 hbx0
 go_wp2_with (first
  | (at_builtin; (refine wpList_app _ rfl (.const (.slice none 0 0)) (.tmp 85) _ rfl w.heap.size 5 i0 _ 1 Tryz.underlying44 Hi.out.1 Hi.out.2.1 Hi.out.2.2.1 Hi.out.2.2.2 rfl (.slice none 0 0) 0 [] rfl (World.ownsRow_nil _ _ _ _) A l.length c (bv l) rfl (bv_length l) HCL0.out (bv_one _) (by unfold maxLen; omega) (by omega) (by simp; omega) ?_); intro v1 w1 own1 gr1 at1)
  | (at_builtin; (refine wpList_app _ rfl (.tmp 86) (.tmp 87) _ rfl w.heap.size 5 i0 _ 1 Tryz.underlying44 Hi.out.1 Hi.out.2.1 Hi.out.2.2.1 Hi.out.2.2.2 rfl v1 (0 + l.length) _ rfl (own1.alloc _) (some ⟨w1.heap.size, 0, none⟩) 1 1 [.int .u8 7] rfl rfl (cells_of_blk (Blk.new w1 _ _)) (by simp [Value.oneCell']) (by unfold maxLen; omega) (by omega) (by have h1 := gr1.size; have h2 := HW0.out.size; simp at h1 ⊢; omega) ?_); intro v2 w2 own2 gr2 at2))
 have own2a : w2.ownsRow w.heap.size 5 1 v2 (l.length + 1) (bv l ++ [.int .u8 7]) := by simpa using own2
 have hC1 : Chg NoB w w1 := HW0.out.grown gr1 (fun k e _ => by simp [Value.ownBlock] at e)
 have hC2 : Chg NoB w w2 := (hC1.alloc _).grown gr2 (fun k e hk => by have := (own1.lt k e).1; omega)
 have hb1 : Blk w1 (w.heap.size + 1) 80 #[.int .i64 10, .int .i64 f, .int .u32 n, .string nm, .slice A l.length c] := HBX0.out.grown gr1 (by simp [Value.ownBlock])
 have hb2 : Blk w2 (w.heap.size + 1) 80 #[.int .i64 10, .int .i64 f, .int .u32 n, .string nm, .slice A l.length c] := (hb1.alloc _).grown gr2 (fun e => own_blk_ne own1 hb1 (by decide) e.symm)
 obtain ⟨g, cap, cur, rfl, hg0, hgb, hcap, hmax, hcs, htake⟩ : ∃ g cap cur, v2 = .slice (some ⟨g, 0, none⟩) (l.length + 1) cap ∧ w.heap.size ≤ g ∧ w2.heap[g]? = some (.cells cur 5 (0, 0)) ∧ l.length + 1 ≤ cap ∧ cap ≤ maxLen ∧ cur.size = cap * 1 ∧ cur.toList.take ((l.length + 1) * 1) = bv l ++ [.int .u8 7] := by
  rcases own2a.2 with ⟨_, h0⟩ | h0
  ·omega
  ·exact h0
 have hcl2 : CellsAt w2.drew (some ⟨g, 0, none⟩) (bv l) := CellsAt.front own2a
 have hgl : g < w2.heap.size := (Array.getElem?_eq_some_iff.1 hgb).1
 have hBg : Blk w2 g 5 cur := hgb
 have HBG := Go.Lib.hid (And.intro hBg (show cur.size = cap by omega))
 have HC2 := Go.Lib.hid hC2
 have Hgl := Go.Lib.hid (And.intro hg0 hgl)
 have Hput2 := Go.Lib.hid (put_v (H.out.quiet (hC2.drew)) nm Hsz.out (A := some ⟨g, 0, none⟩) (c := cap) (l := l) (fun h => by cases h) hcl2)
 have b3 : w2.drew.cell? ⟨w.heap.size + 1, 3, none⟩ = some (.string nm) := hb2.cell 3
 have b4 : w2.drew.cell? ⟨w.heap.size + 1, 4, none⟩ = some (.slice A l.length c) := hb2.cell 4
 have hi0 : (0 : Int) ≤ (l.length : Int) := by omega
 have hi1 : (l.length : Int) ≤ (cap : Int) := by omega
 have Hcap := Go.Lib.hid (And.intro hcap hmax)
 unfold maxLen at hmax
 clear own2 own2a own1 gr1 gr2 at1 at2 hC1 hC2 hb1 hb2 hg0 hgb hcs htake hcl2 hgl hBg
 unfold ptr at Hput2
 refine regionT 8 (fun W' => W'.cell? ⟨w.heap.size + 1, 3, none⟩ = some (.string nm) ∧ W'.cell? ⟨w.heap.size + 1, 4, none⟩ = some (.slice A l.length c)) (by kernel_rfl) (by decide) (⟨b3, b4⟩) (fun inv0 hHeld => ?_)
 refine takeT (i := 0) (t := 89) (v := ?v0) rfl (by kernel_rfl) (fun _ _ _ h => h) rfl (Or.inl ⟨by rfl, ?h0⟩) inv0 hHeld ?r0
 case h0 => (intro w hSw; (try dsimp only at hSw); go_simp; try with_reducible rfl)
 intro inv01
 clear inv0
 try simp only [sw1, sw2, sw3]
 refine takeT (i := 1) (t := 90) (v := ?v1) rfl (by kernel_rfl) (fun _ _ _ h => h) rfl (Or.inl ⟨by rfl, ?h1⟩) inv01 hHeld ?r1
 case h1 => (intro w hSw; (try dsimp only at hSw); go_simp; try with_reducible rfl)
 intro inv11
 clear inv01
 try simp only [sw1, sw2, sw3]
 refine takeT (i := 2) (t := 91) (v := ?v2) rfl (by kernel_rfl) (fun _ _ _ h => h) rfl (Or.inl ⟨by rfl, ?h2⟩) inv11 hHeld ?r2
 case h2 => (intro w hSw; (try dsimp only at hSw); go_simp; try with_reducible rfl)
 intro inv21
 clear inv11
 try simp only [sw1, sw2, sw3]
 refine takeT (i := 3) (t := 92) (v := ?v3) rfl (by kernel_rfl) (fun _ _ _ h => h) rfl (Or.inl ⟨by rfl, ?h3⟩) inv21 hHeld ?r3
 case h3 => (intro w hSw; (try dsimp only at hSw); go_simp; try with_reducible rfl)
 intro inv31
 clear inv21
 try simp only [sw1, sw2, sw3]
 refine takeT (i := 4) (t := 93) (v := ?v4) rfl (by kernel_rfl) (fun _ _ _ h => h) rfl (Or.inl ⟨by rfl, ?h4⟩) inv31 hHeld ?r4
 case h4 => (intro w hSw; (try dsimp only at hSw); go_simp; try with_reducible rfl)
 intro inv41
 clear inv31
 try simp only [sw1, sw2, sw3]
 refine takeT (i := 5) (t := 94) (v := ?v5) rfl (by kernel_rfl) (fun _ _ _ h => h) rfl (Or.inl ⟨by rfl, ?h5⟩) inv41 hHeld ?r5
 case h5 => (intro w hSw; (try dsimp only at hSw); go_simp; try with_reducible rfl)
 intro inv51
 clear inv41
 try simp only [sw1, sw2, sw3]
 refine takeT (i := 6) (t := 95) (v := ?v6) rfl (by kernel_rfl) (fun _ _ _ h => h) rfl (Or.inl ⟨by rfl, ?h6⟩) inv51 hHeld ?r6
 case h6 => (intro w hSw; (try dsimp only at hSw); go_simp; try with_reducible rfl)
 intro inv61
 clear inv51
 try simp only [sw1, sw2, sw3]
 refine takeT (i := 7) (t := 96) (v := ?v7) rfl (by kernel_rfl) (fun _ _ _ h => h) rfl (Or.inl ⟨by rfl, ?h7⟩) inv61 hHeld ?r7
 case h7 => (intro w hSw; (try dsimp only at hSw); go_simp; try with_reducible rfl)
 intro inv71
 clear inv61
 try simp only [sw1, sw2, sw3]
 refine callE (i := 8) (t := 97) (f := 79) (args := #[.pointer (some ⟨s, 0, none⟩), .string nm, .slice (some ⟨g, 0, none⟩) l.length cap]) rfl (by kernel_rfl) rfl (by rfl) ?hx8 (by decide) ?hc8
 case hx8 => (go_simp; try rfl)
 case hc8 =>
  refine Hput2.out.mono ?_
  rintro e w3 ⟨rfl, F', h1, h2, h3⟩
  refine ⟨_, rfl, ?_⟩
  try simp only [sw1, sw2, sw3]
  refine lastV (i := 9) (t := 8) (v := ?v9) (w' := w3) rfl (by kernel_rfl) rfl (by rfl) ?hx9 (by decide) (by kernel_rfl) ?_
  case hx9 => (go_simp; try with_reducible rfl)
  try simp only [sw1, sw2, sw3]
  have HP : Hid (StoreV base w3 s (v.put nm l).2 F' ∧ Chg F w w3 ∧ (∀ k, F' k → k < w.heap.size → F k) ∧ ¬ F' g ∧ Blk w3 g 5 cur) := Go.Lib.hid (by
   have hFg : ¬ F g := fun hF => by have := HF.out g hF; have := Hgl.out.1; omega
   refine ⟨h1, (HC2.out.drew.mono fun _ _ h => h.elim).trans h2, fun k hk hlt => h3 k hk (Nat.lt_of_lt_of_le hlt HC2.out.size), fun hF => hFg (h3 g hF Hgl.out.2), ?_⟩
   have hb : Blk w2.drew g 5 cur := HBG.out.1
   exact hb.chg h2 hFg)
  clear h1 h2 h3 Hput2 inv71 hHeld b3 b4
  obtain ⟨r, Hr⟩ : ∃ r, Hid (v.put nm l = r) := ⟨_, Go.Lib.hid rfl⟩
  have hb := Hput.out
  rw [Hr.out] at HP hb ⊢
  have hlen : l.length + 1 ≤ cap := Hcap.out.1
  go_wp2_with fail
  go_loopw [9] (fun i wr => ∃ k : Nat, k ≤ l.length + 1 ∧ i = .int .i64 k ∧ (∃ cs, Blk wr g 5 cs ∧ cs.size = cap) ∧ Chg (fun k => k = g) w3 wr) (fun i _ => l.length + 1 - (intOf i).toNat)
  case atStart => exact ⟨0, Nat.zero_le _, rfl, ⟨cur, HP.out.2.2.2.2, HBG.out.2⟩, Chg.refl _ _⟩
  case round =>
   obtain ⟨k, hk, rfl, ⟨cs, hB, hcs⟩, hch⟩ := hrel
   have HB := Go.Lib.hid (And.intro hB hcs)
   have HCh := Go.Lib.hid hch
   by_cases hlt : k < l.length + 1
   ·have hz := hB.frozen k
    obtain ⟨u, hu⟩ : ∃ u, wr.cell? ⟨g, k, none⟩ = some u := ⟨_, (hB.cell k).trans (Array.getElem?_eq_getElem (by omega))⟩
    clear hB hcs hch
    go_wp2_with fail
    have HB2 : Hid (Blk (wr.setCell ⟨g, k, none⟩ (.int .u8 9)) g 5 (cs.setIfInBounds k (.int .u8 9)) ∧ (cs.setIfInBounds k (.int .u8 9)).size = cap) := Go.Lib.hid ⟨HB.out.1.set_ k _, by rw [Array.size_setIfInBounds]; exact HB.out.2⟩
    have HCh2 : Hid (Chg (fun k => k = g) w3 (wr.setCell ⟨g, k, none⟩ (.int .u8 9))) := Go.Lib.hid (HCh.out.setCell (p := ⟨g, k, none⟩) (fun _ => rfl) _)
    clear hz hu
    go_roundw
    case rel => exact ⟨k + 1, by omega, by go_num, ⟨_, HB2.out⟩, HCh2.out⟩
    case measure => simp [intOf]; omega
   ·obtain rfl : k = l.length + 1 := by omega
    clear hB hcs hch
    go_wp2_with fail
    refine (N.out _ _).mono ?_
    rintro e wn ⟨rfl, he⟩
    obtain rfl := he.symm
    clear he
    go_wp2_with fail
    go_ret
    have hr := Hr.out
    subst hr
    obtain ⟨h1, h2, h3, h4, h5⟩ := HP.out
    exact ⟨rfl, F', h1.chg HCh.out (fun k hk e => h4 (e ▸ hk)), h2.step HCh.out (fun k hk e => by have := Hgl.out.1; omega), h3⟩
end
end Go.Proofs.YtggknljlibhkjaaGreat
set_option linter.unusedSimpArgs false
set_option linter.unusedVariables false
namespace Go.Proofs.YtggknljlibhkjaaGreat
open Go.RowKit
section
variable {base : Nat} {w : World} {s : Nat} {v : V} {F : Nat → Prop}
set_option maxHeartbeats 2000000 in
theorem do_else (h : StoreV base w s v F) (k f : Int) (n : Nat) (nm : ByteArray) (bv0 : Value)
  (h1 : k ≠ 1) (h2 : k ≠ 2) (h3 : k ≠ 3) (h4 : k ≠ 4) (h5 : k ≠ 5) (h6 : k ≠ 6) (h7 : k ≠ 7) (h8 : k ≠ 8) (h9 : k ≠ 9) (h10 : k ≠ 10) (h11 : k ≠ 11) :
  Calls Tryz.prog 30 #[.agg #[], ptr s, .agg #[.int .i64 k, .int .i64 f, .int .u32 n, .string nm, bv0]] w (VPost base s F (.int .u32 0) v w) := by
 have e1 : (k == 1) = false := by simpa using h1
 have e2 : (k == 2) = false := by simpa using h2
 have e3 : (k == 3) = false := by simpa using h3
 have e4 : (k == 4) = false := by simpa using h4
 have e5 : (k == 5) = false := by simpa using h5
 have e6 : (k == 6) = false := by simpa using h6
 have e7 : (k == 7) = false := by simpa using h7
 have e8 : (k == 8) = false := by simpa using h8
 have e9 : (k == 9) = false := by simpa using h9
 have e10 : (k == 10) = false := by simpa using h10
 have e11 : (k == 11) = false := by simpa using h11
 clear h1 h2 h3 h4 h5 h6 h7 h8 h9 h10 h11
 have H := Go.Lib.hid h
 clear h
 unfold ptr
 go_enter Tryz.func30, Tryz.ntmps30
 go_wp2_with fail
 go_ret
 exact VPost.quiet H.out rfl (((Chg.refl NoB w).alloc _).alloc _)
structure StepOk (w : World) (x : St) : Prop where
 n : x.w < 4294967296
 nm : x.nm.size ≤ maxLen
 b : x.b.length ≤ 20000
 cells : CellsAt w x.A (bv x.b)
theorem do_c (h : StoreV base w s v F) (x : St) (hx : StepOk w x) : Calls Tryz.prog 30 #[.agg #[], ptr s, x.v] w (VPost base s F (.int .u32 (v.doS x).1) (v.doS x).2 w) := by
 obtain ⟨k, f, n, nm, A, c, b⟩ := x
 unfold St.v V.doS
 simp only
 by_cases h1 : k = 1
 ·subst h1
  simp only [if_false, if_true]
  exact do_1 h f n hx.n nm hx.nm _
 by_cases h2 : k = 2
 ·subst h2
  simp only [show ¬ (2 : Int) = 1 by decide, if_false, if_true]
  exact do_2 h f n hx.n nm hx.nm _
 by_cases h3 : k = 3
 ·subst h3
  simp only [show ¬ (3 : Int) = 1 by decide, show ¬ (3 : Int) = 2 by decide, if_false, if_true]
  exact do_3 h f n hx.n nm hx.nm _
 by_cases h4 : k = 4
 ·subst h4
  simp only [show ¬ (4 : Int) = 1 by decide, show ¬ (4 : Int) = 2 by decide, show ¬ (4 : Int) = 3 by decide, if_false, if_true]
  exact do_4 h f n hx.n nm hx.nm _
 by_cases h5 : k = 5
 ·subst h5
  simp only [show ¬ (5 : Int) = 1 by decide, show ¬ (5 : Int) = 2 by decide, show ¬ (5 : Int) = 3 by decide, show ¬ (5 : Int) = 4 by decide, if_false, if_true]
  exact do_5 h f n hx.n nm hx.nm _
 by_cases h6 : k = 6
 ·subst h6
  simp only [show ¬ (6 : Int) = 1 by decide, show ¬ (6 : Int) = 2 by decide, show ¬ (6 : Int) = 3 by decide, show ¬ (6 : Int) = 4 by decide, show ¬ (6 : Int) = 5 by decide, if_false, if_true]
  exact do_6 h f n hx.n nm hx.nm _
 by_cases h7 : k = 7
 ·subst h7
  simp only [show ¬ (7 : Int) = 1 by decide, show ¬ (7 : Int) = 2 by decide, show ¬ (7 : Int) = 3 by decide, show ¬ (7 : Int) = 4 by decide, show ¬ (7 : Int) = 5 by decide, show ¬ (7 : Int) = 6 by decide, if_false, if_true]
  exact do_7 h f n hx.n nm hx.nm _
 by_cases h8 : k = 8
 ·subst h8
  simp only [show ¬ (8 : Int) = 1 by decide, show ¬ (8 : Int) = 2 by decide, show ¬ (8 : Int) = 3 by decide, show ¬ (8 : Int) = 4 by decide, show ¬ (8 : Int) = 5 by decide, show ¬ (8 : Int) = 6 by decide, show ¬ (8 : Int) = 7 by decide, if_false, if_true]
  exact do_8 h f n hx.n nm hx.nm _
 by_cases h9 : k = 9
 ·subst h9
  simp only [show ¬ (9 : Int) = 1 by decide, show ¬ (9 : Int) = 2 by decide, show ¬ (9 : Int) = 3 by decide, show ¬ (9 : Int) = 4 by decide, show ¬ (9 : Int) = 5 by decide, show ¬ (9 : Int) = 6 by decide, show ¬ (9 : Int) = 7 by decide, show ¬ (9 : Int) = 8 by decide, if_false, if_true]
  exact do_9 h f n hx.n nm hx.nm _
 by_cases h10 : k = 10
 ·subst h10
  simp only [show ¬ (10 : Int) = 1 by decide, show ¬ (10 : Int) = 2 by decide, show ¬ (10 : Int) = 3 by decide, show ¬ (10 : Int) = 4 by decide, show ¬ (10 : Int) = 5 by decide, show ¬ (10 : Int) = 6 by decide, show ¬ (10 : Int) = 7 by decide, show ¬ (10 : Int) = 8 by decide, show ¬ (10 : Int) = 9 by decide, if_false, if_true]
  exact do_10 h f n nm hx.nm hx.b hx.cells
 by_cases h11 : k = 11
 ·subst h11
  simp only [show ¬ (11 : Int) = 1 by decide, show ¬ (11 : Int) = 2 by decide, show ¬ (11 : Int) = 3 by decide, show ¬ (11 : Int) = 4 by decide, show ¬ (11 : Int) = 5 by decide, show ¬ (11 : Int) = 6 by decide, show ¬ (11 : Int) = 7 by decide, show ¬ (11 : Int) = 8 by decide, show ¬ (11 : Int) = 9 by decide, show ¬ (11 : Int) = 10 by decide, if_false, if_true]
  exact do_11 h f n hx.n nm hx.nm _
 simp only [h1, h2, h3, h4, h5, h6, h7, h8, h9, h10, h11, if_false]
 exact do_else h k f n nm _ h1 h2 h3 h4 h5 h6 h7 h8 h9 h10 h11
end
end Go.Proofs.YtggknljlibhkjaaGreat
