/- What is proved: the contract of By.Do, for each kind of step but Put. Conditions: the memory holds a store. -/
import Derived.Test.YtlglnebnldmceaaFiR
import Derived.Test.YtlglnebnldmceaaStoreX
import Derived.Test.YtlglnebnldmceaaStoreS
set_option linter.unusedSimpArgs false
set_option linter.unusedVariables false
namespace Go.Proofs.Ytlglnebnldmceaa
open Go.RowKit
/-- a step, as data -/
structure St where
  kind : Int
  f : Int
  w : Nat
  nm : ByteArray
  A : Option Addr
  c : Nat
  b : List UInt8
def St.v (x : St) : Value := .agg #[.int .i64 x.kind, .int .i64 x.f, .int .u32 x.w, .string x.nm, .slice x.A x.b.length x.c]
def V.doS (v : V) (x : St) : Nat × V :=
  if x.kind = 1 then v.old x.nm else if x.kind = 2 then v.fresh x.nm else if x.kind = 3 then ((v.read x.f).1.toNat, (v.read x.f).2) else if x.kind = 4 then v.readWord x.f
  else if x.kind = 5 then v.write x.f [UInt8.ofNat x.w] else if x.kind = 6 then v.write x.f (bytesOfWord x.w) else if x.kind = 7 then (0, v.seek x.f x.w) else if x.kind = 8 then v.register x.f
  else if x.kind = 9 then (0, v.del x.nm) else if x.kind = 10 then v.put x.nm x.b else if x.kind = 11 then v.drop x.nm else (0, v)
theorem V.old_le (v : V) (nm : ByteArray) : (v.old nm).1 ≤ 255 := by
  unfold V.old
  split
  · rename_i h
    split
    · simp
    · simp; omega
  · simp
theorem V.fresh_le (v : V) (nm : ByteArray) : (v.fresh nm).1 ≤ 255 := by
  unfold V.fresh
  split
  · rename_i h; simp; omega
  · simp
theorem V.write_le (v : V) (f : Int) (l : List UInt8) : (v.write f l).1 ≤ 5 := by
  unfold V.write
  split
  · simp
  · split <;> simp
theorem V.register_le (v : V) (f : Int) : (v.register f).1 ≤ 5 := by
  unfold V.register
  split
  · simp
  · split <;> simp
theorem V.drop_le (v : V) (nm : ByteArray) : (v.drop nm).1 ≤ 6 := by
  unfold V.drop
  split
  · split <;> simp
  · simp
theorem V.put_le (v : V) (nm : ByteArray) (l : List UInt8) : (v.put nm l).1 ≤ 5 := by
  unfold V.put
  split
  · split
    · split <;> simp
    · simp
  · simp
section
variable {base : Nat} {w : World} {s : Nat} {v : V} {F : Nat → Prop}
/-- what a call leaves, told from a world that has more blocks -/
theorem VPost.from {w1 : World} {r r' : Value} {v' : V} {e : Ending} {w' : World} (h : VPost base s F r v' w1 e w') (hc : Chg NoB w w1) (hF : ∀ k, F k → k < w.heap.size) : ∃ F', StoreV base w' s v' F' ∧ Chg F w w' ∧ (∀ k, F' k → k < w.heap.size → F k) := by
  obtain ⟨_, F', h1, h2, h3⟩ := h
  exact ⟨F', h1, (hc.mono fun _ _ h => h.elim).trans h2, fun k hk hlt => h3 k hk (Nat.lt_of_lt_of_le hlt hc.size)⟩
set_option maxHeartbeats 2000000

theorem do_1 (h : StoreV base w s v F) (f : Int) (n : Nat) (hn : n < 4294967296) (nm : ByteArray) (hsz : nm.size ≤ maxLen) (bv0 : Value) :
    Calls Try.prog 11 #[.agg #[], ptr s, .agg #[.int .i64 1, .int .i64 f, .int .u32 n, .string nm, bv0]] w (VPost base s F (.int .u32 (v.old nm).1) (v.old nm).2 w) := by
  have Hc := Go.Lib.hid (fun (W : World) (hW : Chg NoB w W) => old_v (h.quiet hW) nm hsz)
  have HF := Go.Lib.hid (fun k (hk : F k) => h.lt hk)
  have N := Go.Lib.hid num_c
  have hb := V.old_le v nm
  obtain ⟨r, Hr⟩ : ∃ r, Hid ((v.old nm) = r) := ⟨_, Go.Lib.hid rfl⟩
  rw [Hr.out] at Hc hb ⊢
  clear h
  unfold ptr at Hc ⊢
  go_enter Try.func11, Try.ntmps11
  go_wp2_with fail
  refine (Hc.out _ (((Chg.refl NoB w).alloc _).alloc _)).mono ?_
  rintro e w2 ⟨rfl, F', h1, h2, h3⟩
  have HP : Hid (∃ F', StoreV base w2 s r.2 F' ∧ Chg F w w2 ∧ ∀ k, F' k → k < w.heap.size → F k) := Go.Lib.hid (VPost.from (r := .tuple #[]) (r' := .tuple #[]) ⟨rfl, F', h1, h2, h3⟩ (((Chg.refl NoB w).alloc _).alloc _) HF.out)
  clear h1 h2 h3 Hc
  go_wp2_with fail
  go_ret
  exact ⟨rfl, HP.out⟩
theorem do_2 (h : StoreV base w s v F) (f : Int) (n : Nat) (hn : n < 4294967296) (nm : ByteArray) (hsz : nm.size ≤ maxLen) (bv0 : Value) :
    Calls Try.prog 11 #[.agg #[], ptr s, .agg #[.int .i64 2, .int .i64 f, .int .u32 n, .string nm, bv0]] w (VPost base s F (.int .u32 (v.fresh nm).1) (v.fresh nm).2 w) := by
  have Hc := Go.Lib.hid (fun (W : World) (hW : Chg NoB w W) => fresh_v (h.quiet hW) nm hsz)
  have HF := Go.Lib.hid (fun k (hk : F k) => h.lt hk)
  have N := Go.Lib.hid num_c
  have hb := V.fresh_le v nm
  obtain ⟨r, Hr⟩ : ∃ r, Hid ((v.fresh nm) = r) := ⟨_, Go.Lib.hid rfl⟩
  rw [Hr.out] at Hc hb ⊢
  clear h
  unfold ptr at Hc ⊢
  go_enter Try.func11, Try.ntmps11
  go_wp2_with fail
  refine (Hc.out _ (((Chg.refl NoB w).alloc _).alloc _)).mono ?_
  rintro e w2 ⟨rfl, F', h1, h2, h3⟩
  have HP : Hid (∃ F', StoreV base w2 s r.2 F' ∧ Chg F w w2 ∧ ∀ k, F' k → k < w.heap.size → F k) := Go.Lib.hid (VPost.from (r := .tuple #[]) (r' := .tuple #[]) ⟨rfl, F', h1, h2, h3⟩ (((Chg.refl NoB w).alloc _).alloc _) HF.out)
  clear h1 h2 h3 Hc
  go_wp2_with fail
  go_ret
  exact ⟨rfl, HP.out⟩
theorem do_3 (h : StoreV base w s v F) (f : Int) (n : Nat) (hn : n < 4294967296) (nm : ByteArray) (hsz : nm.size ≤ maxLen) (bv0 : Value) :
    Calls Try.prog 11 #[.agg #[], ptr s, .agg #[.int .i64 3, .int .i64 f, .int .u32 n, .string nm, bv0]] w (VPost base s F (.int .u32 (v.read f).1.toNat) (v.read f).2 w) := by
  have Hc := Go.Lib.hid (fun (W : World) (hW : Chg NoB w W) => read_v (h.quiet hW) f)
  have HF := Go.Lib.hid (fun k (hk : F k) => h.lt hk)
  have N := Go.Lib.hid num_c
  obtain ⟨r, Hr⟩ : ∃ r, Hid (v.read f = r) := ⟨_, Go.Lib.hid rfl⟩
  rw [Hr.out] at Hc ⊢
  have hb : (r.1.toNat : Int) < 256 := by have := r.1.toNat_lt; omega
  have hb0 : (0 : Int) ≤ (r.1.toNat : Int) := by omega
  clear h
  unfold ptr at Hc ⊢
  go_enter Try.func11, Try.ntmps11
  go_wp2_with fail
  refine (Hc.out _ (((Chg.refl NoB w).alloc _).alloc _)).mono ?_
  rintro e w2 ⟨rfl, F', h1, h2, h3⟩
  have HP : Hid (∃ F', StoreV base w2 s r.2 F' ∧ Chg F w w2 ∧ ∀ k, F' k → k < w.heap.size → F k) := Go.Lib.hid (VPost.from (r := .tuple #[]) (r' := .tuple #[]) ⟨rfl, F', h1, h2, h3⟩ (((Chg.refl NoB w).alloc _).alloc _) HF.out)
  clear h1 h2 h3 Hc
  go_wp2_with fail
  go_ret
  exact ⟨rfl, HP.out⟩
theorem do_4 (h : StoreV base w s v F) (f : Int) (n : Nat) (hn : n < 4294967296) (nm : ByteArray) (hsz : nm.size ≤ maxLen) (bv0 : Value) :
    Calls Try.prog 11 #[.agg #[], ptr s, .agg #[.int .i64 4, .int .i64 f, .int .u32 n, .string nm, bv0]] w (VPost base s F (.int .u32 (v.readWord f).1) (v.readWord f).2 w) := by
  have Hc := Go.Lib.hid (fun (W : World) (hW : Chg NoB w W) => readWord_v (h.quiet hW) f)
  have HF := Go.Lib.hid (fun k (hk : F k) => h.lt hk)
  have N := Go.Lib.hid num_c
  clear h
  unfold ptr at Hc ⊢
  go_enter Try.func11, Try.ntmps11
  go_wp2_with fail
  refine (Hc.out _ (((Chg.refl NoB w).alloc _).alloc _)).mono ?_
  rintro e w2 ⟨rfl, F', h1, h2, h3⟩
  have HP : Hid (∃ F', StoreV base w2 s (v.readWord f).2 F' ∧ Chg F w w2 ∧ ∀ k, F' k → k < w.heap.size → F k) := Go.Lib.hid (VPost.from (r := .tuple #[]) (r' := .tuple #[]) ⟨rfl, F', h1, h2, h3⟩ (((Chg.refl NoB w).alloc _).alloc _) HF.out)
  clear h1 h2 h3 Hc
  go_wp2_with fail
  go_ret
  exact ⟨rfl, HP.out⟩
theorem do_5 (h : StoreV base w s v F) (f : Int) (n : Nat) (hn : n < 4294967296) (nm : ByteArray) (hsz : nm.size ≤ maxLen) (bv0 : Value) :
    Calls Try.prog 11 #[.agg #[], ptr s, .agg #[.int .i64 5, .int .i64 f, .int .u32 n, .string nm, bv0]] w (VPost base s F (.int .u32 (v.write f [UInt8.ofNat n]).1) (v.write f [UInt8.ofNat n]).2 w) := by
  have Hc := Go.Lib.hid (fun (W : World) (hW : Chg NoB w W) => write_v (h.quiet hW) f (UInt8.ofNat n))
  have HF := Go.Lib.hid (fun k (hk : F k) => h.lt hk)
  have N := Go.Lib.hid num_c
  have hw8 : IntKind.u8.wrap (n : Int) = ((UInt8.ofNat n).toNat : Int) := by
    rw [UInt8.toNat_ofNat']
    simp [IntKind.wrap, IntKind.signed, IntKind.bits]
    try omega
  have hb := V.write_le v f [UInt8.ofNat n]
  obtain ⟨r, Hr⟩ : ∃ r, Hid ((v.write f [UInt8.ofNat n]) = r) := ⟨_, Go.Lib.hid rfl⟩
  rw [Hr.out] at Hc hb ⊢
  clear h
  unfold ptr at Hc ⊢
  go_enter Try.func11, Try.ntmps11
  go_wp2_with fail
  refine (Hc.out _ (((Chg.refl NoB w).alloc _).alloc _)).mono ?_
  rintro e w2 ⟨rfl, F', h1, h2, h3⟩
  have HP : Hid (∃ F', StoreV base w2 s r.2 F' ∧ Chg F w w2 ∧ ∀ k, F' k → k < w.heap.size → F k) := Go.Lib.hid (VPost.from (r := .tuple #[]) (r' := .tuple #[]) ⟨rfl, F', h1, h2, h3⟩ (((Chg.refl NoB w).alloc _).alloc _) HF.out)
  clear h1 h2 h3 Hc
  go_wp2_with fail
  refine (N.out _ _).mono ?_
  rintro e wn ⟨rfl, he⟩
  obtain rfl := he.symm
  clear he
  go_wp2_with fail
  go_ret
  exact ⟨rfl, HP.out⟩
theorem do_6 (h : StoreV base w s v F) (f : Int) (n : Nat) (hn : n < 4294967296) (nm : ByteArray) (hsz : nm.size ≤ maxLen) (bv0 : Value) :
    Calls Try.prog 11 #[.agg #[], ptr s, .agg #[.int .i64 6, .int .i64 f, .int .u32 n, .string nm, bv0]] w (VPost base s F (.int .u32 (v.write f (bytesOfWord n)).1) (v.write f (bytesOfWord n)).2 w) := by
  have Hc := Go.Lib.hid (fun (W : World) (hW : Chg NoB w W) => writeWord_v (h.quiet hW) f n hn)
  have HF := Go.Lib.hid (fun k (hk : F k) => h.lt hk)
  have N := Go.Lib.hid num_c
  have hb := V.write_le v f (bytesOfWord n)
  obtain ⟨r, Hr⟩ : ∃ r, Hid ((v.write f (bytesOfWord n)) = r) := ⟨_, Go.Lib.hid rfl⟩
  rw [Hr.out] at Hc hb ⊢
  clear h
  unfold ptr at Hc ⊢
  go_enter Try.func11, Try.ntmps11
  go_wp2_with fail
  refine (Hc.out _ (((Chg.refl NoB w).alloc _).alloc _)).mono ?_
  rintro e w2 ⟨rfl, F', h1, h2, h3⟩
  have HP : Hid (∃ F', StoreV base w2 s r.2 F' ∧ Chg F w w2 ∧ ∀ k, F' k → k < w.heap.size → F k) := Go.Lib.hid (VPost.from (r := .tuple #[]) (r' := .tuple #[]) ⟨rfl, F', h1, h2, h3⟩ (((Chg.refl NoB w).alloc _).alloc _) HF.out)
  clear h1 h2 h3 Hc
  go_wp2_with fail
  refine (N.out _ _).mono ?_
  rintro e wn ⟨rfl, he⟩
  obtain rfl := he.symm
  clear he
  go_wp2_with fail
  go_ret
  exact ⟨rfl, HP.out⟩
theorem do_7 (h : StoreV base w s v F) (f : Int) (n : Nat) (hn : n < 4294967296) (nm : ByteArray) (hsz : nm.size ≤ maxLen) (bv0 : Value) :
    Calls Try.prog 11 #[.agg #[], ptr s, .agg #[.int .i64 7, .int .i64 f, .int .u32 n, .string nm, bv0]] w (VPost base s F (.int .u32 (0, v.seek f n).1) (0, v.seek f n).2 w) := by
  have Hc := Go.Lib.hid (fun (W : World) (hW : Chg NoB w W) => seek_v (h.quiet hW) f n hn)
  have HF := Go.Lib.hid (fun k (hk : F k) => h.lt hk)
  have N := Go.Lib.hid num_c
  clear h
  unfold ptr at Hc ⊢
  go_enter Try.func11, Try.ntmps11
  go_wp2_with fail
  refine (Hc.out _ (((Chg.refl NoB w).alloc _).alloc _)).mono ?_
  rintro e w2 ⟨rfl, F', h1, h2, h3⟩
  have HP : Hid (∃ F', StoreV base w2 s (0, v.seek f n).2 F' ∧ Chg F w w2 ∧ ∀ k, F' k → k < w.heap.size → F k) := Go.Lib.hid (VPost.from (r := .tuple #[]) (r' := .tuple #[]) ⟨rfl, F', h1, h2, h3⟩ (((Chg.refl NoB w).alloc _).alloc _) HF.out)
  clear h1 h2 h3 Hc
  go_wp2_with fail
  go_ret
  exact ⟨rfl, HP.out⟩
theorem do_8 (h : StoreV base w s v F) (f : Int) (n : Nat) (hn : n < 4294967296) (nm : ByteArray) (hsz : nm.size ≤ maxLen) (bv0 : Value) :
    Calls Try.prog 11 #[.agg #[], ptr s, .agg #[.int .i64 8, .int .i64 f, .int .u32 n, .string nm, bv0]] w (VPost base s F (.int .u32 (v.register f).1) (v.register f).2 w) := by
  have Hc := Go.Lib.hid (fun (W : World) (hW : Chg NoB w W) => register_v (h.quiet hW) f)
  have HF := Go.Lib.hid (fun k (hk : F k) => h.lt hk)
  have N := Go.Lib.hid num_c
  have hb := V.register_le v f
  obtain ⟨r, Hr⟩ : ∃ r, Hid ((v.register f) = r) := ⟨_, Go.Lib.hid rfl⟩
  rw [Hr.out] at Hc hb ⊢
  clear h
  unfold ptr at Hc ⊢
  go_enter Try.func11, Try.ntmps11
  go_wp2_with fail
  refine (Hc.out _ (((Chg.refl NoB w).alloc _).alloc _)).mono ?_
  rintro e w2 ⟨rfl, F', h1, h2, h3⟩
  have HP : Hid (∃ F', StoreV base w2 s r.2 F' ∧ Chg F w w2 ∧ ∀ k, F' k → k < w.heap.size → F k) := Go.Lib.hid (VPost.from (r := .tuple #[]) (r' := .tuple #[]) ⟨rfl, F', h1, h2, h3⟩ (((Chg.refl NoB w).alloc _).alloc _) HF.out)
  clear h1 h2 h3 Hc
  go_wp2_with fail
  refine (N.out _ _).mono ?_
  rintro e wn ⟨rfl, he⟩
  obtain rfl := he.symm
  clear he
  go_wp2_with fail
  go_ret
  exact ⟨rfl, HP.out⟩
theorem do_9 (h : StoreV base w s v F) (f : Int) (n : Nat) (hn : n < 4294967296) (nm : ByteArray) (hsz : nm.size ≤ maxLen) (bv0 : Value) :
    Calls Try.prog 11 #[.agg #[], ptr s, .agg #[.int .i64 9, .int .i64 f, .int .u32 n, .string nm, bv0]] w (VPost base s F (.int .u32 (0, v.del nm).1) (0, v.del nm).2 w) := by
  have Hc := Go.Lib.hid (fun (W : World) (hW : Chg NoB w W) => delete_v (h.quiet hW) nm)
  have HF := Go.Lib.hid (fun k (hk : F k) => h.lt hk)
  have N := Go.Lib.hid num_c
  clear h
  unfold ptr at Hc ⊢
  go_enter Try.func11, Try.ntmps11
  go_wp2_with fail
  refine (Hc.out _ (((Chg.refl NoB w).alloc _).alloc _)).mono ?_
  rintro e w2 ⟨rfl, F', h1, h2, h3⟩
  have HP : Hid (∃ F', StoreV base w2 s (0, v.del nm).2 F' ∧ Chg F w w2 ∧ ∀ k, F' k → k < w.heap.size → F k) := Go.Lib.hid (VPost.from (r := .tuple #[]) (r' := .tuple #[]) ⟨rfl, F', h1, h2, h3⟩ (((Chg.refl NoB w).alloc _).alloc _) HF.out)
  clear h1 h2 h3 Hc
  go_wp2_with fail
  go_ret
  exact ⟨rfl, HP.out⟩
theorem do_11 (h : StoreV base w s v F) (f : Int) (n : Nat) (hn : n < 4294967296) (nm : ByteArray) (hsz : nm.size ≤ maxLen) (bv0 : Value) :
    Calls Try.prog 11 #[.agg #[], ptr s, .agg #[.int .i64 11, .int .i64 f, .int .u32 n, .string nm, bv0]] w (VPost base s F (.int .u32 (v.drop nm).1) (v.drop nm).2 w) := by
  have Hc := Go.Lib.hid (fun (W : World) (hW : Chg NoB w W) => drop_v (h.quiet hW) nm hsz)
  have HF := Go.Lib.hid (fun k (hk : F k) => h.lt hk)
  have N := Go.Lib.hid num_c
  have hb := V.drop_le v nm
  obtain ⟨r, Hr⟩ : ∃ r, Hid ((v.drop nm) = r) := ⟨_, Go.Lib.hid rfl⟩
  rw [Hr.out] at Hc hb ⊢
  clear h
  unfold ptr at Hc ⊢
  go_enter Try.func11, Try.ntmps11
  go_wp2_with fail
  refine (Hc.out _ (((Chg.refl NoB w).alloc _).alloc _)).mono ?_
  rintro e w2 ⟨rfl, F', h1, h2, h3⟩
  have HP : Hid (∃ F', StoreV base w2 s r.2 F' ∧ Chg F w w2 ∧ ∀ k, F' k → k < w.heap.size → F k) := Go.Lib.hid (VPost.from (r := .tuple #[]) (r' := .tuple #[]) ⟨rfl, F', h1, h2, h3⟩ (((Chg.refl NoB w).alloc _).alloc _) HF.out)
  clear h1 h2 h3 Hc
  go_wp2_with fail
  refine (N.out _ _).mono ?_
  rintro e wn ⟨rfl, he⟩
  obtain rfl := he.symm
  clear he
  go_wp2_with fail
  go_ret
  exact ⟨rfl, HP.out⟩
end
end Go.Proofs.Ytlglnebnldmceaa
