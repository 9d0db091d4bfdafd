/- What is proved: the contract of ReadWord. Conditions: the memory holds a store. -/
import Derived.Test.YtggknljlibhkjaaStoreC
namespace Go.Proofs.Ytggknljlibhkjaa
open Go.RowKit
theorem u32_or (x y : Nat) (hx : x < 4294967296) (hy : y < 4294967296) : bits .or .u32 (x : Int) (y : Int) = ((x ||| y : Nat) : Int) := by
  have hxy : x ||| y < 2 ^ 32 := Nat.or_lt_two_pow (by omega) (by omega)
  show IntKind.u32.wrap ((BitVec.ofInt 32 (x : Int) ||| BitVec.ofInt 32 (y : Int)).toNat : Int) = _
  rw [BitVec.toNat_or, BitVec.ofInt_natCast, BitVec.ofInt_natCast, BitVec.toNat_ofNat, BitVec.toNat_ofNat, Nat.mod_eq_of_lt (by omega), Nat.mod_eq_of_lt (by omega)]
  unfold IntKind.wrap
  simp [IntKind.bits, IntKind.signed]
  omega
def word4 (a b c d : UInt8) : Nat := a.toNat + 256 * b.toNat + 65536 * c.toNat + 16777216 * d.toNat
theorem word4_lt (a b c d : UInt8) : word4 a b c d < 4294967296 := by
  have := a.toNat_lt; have := b.toNat_lt; have := c.toNat_lt; have := d.toNat_lt
  unfold word4; omega
theorem or4 (a b c d : UInt8) : bits .or .u32 (bits .or .u32 (bits .or .u32 (bits .or .u32 0 ((a.toNat : Int) % 4294967296)) ((b.toNat : Int) % 4294967296 * 256 % 4294967296)) ((c.toNat : Int) % 4294967296 * 65536 % 4294967296))
    ((d.toNat : Int) % 4294967296 * 16777216 % 4294967296) = word4 a b c d := by
  have ha := a.toNat_lt; have hb := b.toNat_lt; have hc := c.toNat_lt; have hd := d.toNat_lt
  have e1 : (a.toNat : Int) % 4294967296 = (a.toNat : Nat) := by omega
  have e2 : (b.toNat : Int) % 4294967296 * 256 % 4294967296 = ((2 ^ 8 * b.toNat : Nat) : Int) := by omega
  have e3 : (c.toNat : Int) % 4294967296 * 65536 % 4294967296 = ((2 ^ 16 * c.toNat : Nat) : Int) := by omega
  have e4 : (d.toNat : Int) % 4294967296 * 16777216 % 4294967296 = ((2 ^ 24 * d.toNat : Nat) : Int) := by omega
  have o1 : (0 ||| a.toNat : Nat) = a.toNat := by simp
  have o2 : (a.toNat ||| 2 ^ 8 * b.toNat : Nat) = 2 ^ 8 * b.toNat + a.toNat := by
    rw [Nat.or_comm, ← Nat.two_pow_add_eq_or_of_lt (by omega)]
  have o3 : (2 ^ 8 * b.toNat + a.toNat ||| 2 ^ 16 * c.toNat : Nat) = 2 ^ 16 * c.toNat + (2 ^ 8 * b.toNat + a.toNat) := by
    rw [Nat.or_comm, ← Nat.two_pow_add_eq_or_of_lt (by omega)]
  have o4 : (2 ^ 16 * c.toNat + (2 ^ 8 * b.toNat + a.toNat) ||| 2 ^ 24 * d.toNat : Nat) = 2 ^ 24 * d.toNat + (2 ^ 16 * c.toNat + (2 ^ 8 * b.toNat + a.toNat)) := by
    rw [Nat.or_comm, ← Nat.two_pow_add_eq_or_of_lt (by omega)]
  rw [e1, e2, e3, e4, show (0 : Int) = ((0 : Nat) : Int) from rfl, u32_or _ _ (by omega) (by omega), o1, u32_or _ _ (by omega) (by omega), o2, u32_or _ _ (by omega) (by omega), o3, u32_or _ _ (by omega) (by omega), o4]
  unfold word4
  omega

def Sto.readWord (S : Sto) (f : Int) : Nat × Sto :=
  let q1 := S.read f
  let q2 := q1.2.read f
  let q3 := q2.2.read f
  let q4 := q3.2.read f
  (word4 q1.1 q2.1 q3.1 q4.1, q4.2)
section
variable {base : Nat} {w : World} {s : Nat} {S : Sto}

set_option maxHeartbeats 1000000 in
theorem readWord_c (h : StoreAt base w s S) (f : Int) :
    Calls Try.prog 59 #[ptr s, .int .i64 f] w (StorePost base s S (S.readWord f).2 (.int .u32 (S.readWord f).1) w) := by
  unfold ptr
  go_enter Try.func59, Try.ntmps59
  go_wp2_with fail
  refine wp_loop_rounds 5 ?_
  rw [rounds_succ]
  go_wp2_with fail
  refine (read_c h f).mono ?_
  rintro e w1 ⟨rfl, h1, hc1, hf1⟩
  generalize hq1 : S.read f = q1 at h1 hc1 hf1 ⊢
  go_wp2_with fail
  rw [rounds_succ]
  go_wp2_with fail
  refine (read_c h1 f).mono ?_
  rintro e w2 ⟨rfl, h2, hc2, hf2⟩
  generalize hq2 : q1.2.read f = q2 at h2 hc2 hf2 ⊢
  go_wp2_with fail
  rw [rounds_succ]
  go_wp2_with fail
  refine (read_c h2 f).mono ?_
  rintro e w3 ⟨rfl, h3, hc3, hf3⟩
  generalize hq3 : q2.2.read f = q3 at h3 hc3 hf3 ⊢
  go_wp2_with fail
  rw [rounds_succ]
  go_wp2_with fail
  refine (read_c h3 f).mono ?_
  rintro e w4 ⟨rfl, h4, hc4, hf4⟩
  generalize hq4 : q3.2.read f = q4 at h4 hc4 hf4 ⊢
  go_wp2_with fail
  rw [rounds_succ]
  go_wp2_with fail
  go_ret
  have e1 : S.readWord f = (word4 q1.1 q2.1 q3.1 q4.1, q4.2) := by unfold Sto.readWord; simp only [hq1, hq2, hq3, hq4]
  rw [e1]
  have s1 : w.heap.size ≤ w1.heap.size := hc1.size
  have s2 : w1.heap.size ≤ w2.heap.size := hc2.size
  have s3 : w2.heap.size ≤ w3.heap.size := hc3.size
  refine ⟨congrArg (fun n => Ending.returned (.int .u32 n)) (or4 _ _ _ _), h4, ?_, ?_⟩
  · exact ((hc1.step hc2 fun k hk hf => hf1 k hf hk).step hc3 fun k hk hf => hf1 k (hf2 k hf (by omega)) hk).step hc4 fun k hk hf => hf1 k (hf2 k (hf3 k hf (by omega)) (by omega)) hk
  · exact fun k hf hk => hf1 k (hf2 k (hf3 k (hf4 k hf (by omega)) (by omega)) (by omega)) hk
end
end Go.Proofs.Ytggknljlibhkjaa
