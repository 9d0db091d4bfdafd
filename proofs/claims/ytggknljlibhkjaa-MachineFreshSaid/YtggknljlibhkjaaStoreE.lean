/- What is proved: the contracts of word.Bytes of one word and slices.Clone of bytes. Conditions: the memory holds what is handed in. -/
import Derived.Test.YtggknljlibhkjaaStoreD
import Derived.Test.YtggknljlibhkjaaOps
import Derived.OwnWalk
import Derived.Deep.DeepMust
import Derived.Deep.DeepFit
namespace Go.Proofs.Ytggknljlibhkjaa
open Go.RowKit
theorem eql_bytes (W : World) (A : Option Addr) (n c : Nat) : (binOp .eql 62 (.slice A n c) (.slice none 0 0)).run Try.prog W = .ok (.bool A.isNone) W :=
  Lib.run_eql_slice_nil (P := Try.prog) W _ _ A n c 0 0 Try.underlying62
section
variable {base : Nat} {w : World} {s : Nat} {S : Sto}

theorem u8info : (Try.prog.info? 5).map (fun i => (i.zero, i.size, i.bytes)) = some (some (.int .u8 0), 1, 1) := by kernel_rfl
theorem bv_one (l : List UInt8) : ∀ u ∈ bv l, u.oneCell' = true := by
  intro u hu
  obtain ⟨c, _, rfl⟩ := List.mem_map.1 hu
  rfl
theorem bv_length (l : List UInt8) : (bv l).length = l.length := by simp [bv]
theorem bv_append (l m : List UInt8) : bv (l ++ m) = bv l ++ bv m := by simp [bv]

def bytesOfWord (n : Nat) : List UInt8 := [UInt8.ofNat (n % 256), UInt8.ofNat (n / 256 % 256), UInt8.ofNat (n / 65536 % 256), UInt8.ofNat (n / 16777216 % 256)]

theorem bytesOfWord_vals (n : Nat) : bv (bytesOfWord n) = [.int .u8 ((n : Int) % 256), .int .u8 ((n : Int) / 256 % 256), .int .u8 ((n : Int) / 65536 % 256), .int .u8 ((n : Int) / 16777216 % 256)] := by
  have e : ∀ k : Nat, k < 256 → ((UInt8.ofNat k).toNat : Int) = k := fun k hk => by simp; omega
  simp only [bv, bytesOfWord, List.map_cons, List.map_nil]
  rw [e _ (by omega), e _ (by omega), e _ (by omega), e _ (by omega)]
  simp

set_option maxHeartbeats 1000000 in
theorem wordBytes_c (w : World) (g : Nat) (n : Nat) (hn : n < 4294967296) (hc : w.cell? ⟨g, 0, none⟩ = some (.int .u32 n)) :
    Calls Try.prog 24 #[.slice (some ⟨g, 0, none⟩) 1 1] w fun e w' => ∃ v, e = .returned v ∧ w'.ownsRow w.heap.size 5 1 v 4 (bv (bytesOfWord n)) ∧ Chg NoB w w' := by
  obtain ⟨i0, hi0, hz0, hz1, hz2⟩ := info_parts u8info
  have Hi := Go.Lib.hid (And.intro hi0 (And.intro hz0 (And.intro hz1 hz2)))
  clear hi0 hz0 hz1 hz2
  have hn0 : (0 : Int) ≤ n := by omega
  have Hn := Go.Lib.hid hn
  clear hn
  have Hv : Hid (∀ W : World, W.heap[w.heap.size]? = some (.cells #[.int .u8 ((n : Int) % 256), .int .u8 ((n : Int) / 256 % 256), .int .u8 ((n : Int) / 65536 % 256), .int .u8 ((n : Int) / 16777216 % 256)] 5 (0, 0)) → CellsAt W (some ⟨w.heap.size, 0, none⟩) (bv (bytesOfWord n))) :=
    Go.Lib.hid (fun W hW _ => ⟨_, rfl, fun j u hu => by
      have e := bytesOfWord_vals n
      rw [e] at hu
      exact World.news_of_block hW j u hu⟩)
  go_enter Try.func24, Try.ntmps24
  go_wp2_with fail
  refine wp_loop_rounds 2 ?_
  rw [rounds_succ]
  go_wp2_with (at_builtin; go_must (refine wpList_app _ rfl (.tmp 12) (.tmp 24) _ rfl w.heap.size 5 i0 _ 1 Try.underlying62 Hi.out.1 Hi.out.2.1 Hi.out.2.2.1 Hi.out.2.2.2 rfl (.slice none 0 0) 0 [] rfl (World.ownsRow_nil _ _ _ _) _ 4 4 (bv (bytesOfWord n)) rfl (by simp [bv_length, bytesOfWord]) (Hv.out _ (Blk.new _ _ _)) (bv_one _) (by unfold maxLen; omega) (by omega) (by simp) ?_); intro v1 w1 hown1 hg1 hat1)
  rw [rounds_succ]
  go_wp2_with fail
  go_ret
  exact ⟨v1, rfl, by simpa using hown1, ((Chg.refl NoB w).alloc _).grown hg1 (by simp [Value.ownBlock])⟩

theorem own_slice {w : World} {base : Nat} {e : TypeId} {size n : Nat} {v : Value} {xs : List Value} (h : w.ownsRow base e size v n xs) : ∃ A c, v = .slice A n c := by
  rcases h.2 with ⟨rfl, rfl⟩ | ⟨g, cap, cur, rfl, _⟩
  · exact ⟨none, 0, rfl⟩
  · exact ⟨_, _, rfl⟩

theorem clone_c (w : World) (A : Option Addr) (c : Nat) (l : List UInt8) (hl : l.length ≤ 140737488355328) (hA : A = none → l = [] ∧ c = 0) (hc : CellsAt w A (bv l)) :
    Calls Try.prog 47 #[.slice A l.length c] w fun e w' => ∃ v, e = .returned v ∧ w'.ownsRow w.heap.size 5 1 v l.length (bv l) ∧ Chg NoB w w' := by
  obtain ⟨i0, hi0, hz0, hz1, hz2⟩ := info_parts u8info
  have Hi := Go.Lib.hid (And.intro hi0 (And.intro hz0 (And.intro hz1 hz2)))
  clear hi0 hz0 hz1 hz2
  rcases A with _ | ad
  · obtain ⟨rfl, rfl⟩ := hA rfl
    have hsl := eql_bytes
    clear hc hl hA
    simp only [List.length_nil]
    go_enter Try.func47, Try.ntmps47
    go_wp2_with fail
    go_ret
    exact ⟨_, rfl, World.ownsRow_nil _ _ _ _, Chg.refl _ _⟩
  · have Hc : Hid (∀ o, CellsAt (w.alloc o) (some ad) (bv l)) := Go.Lib.hid (fun o => hc.chg ((Chg.refl NoB w).alloc o) (fun _ _ => id))
    have Hl := Go.Lib.hid hl
    have hsl := eql_bytes
    clear hc hA hl
    go_enter Try.func47, Try.ntmps47
    go_wp2_with (at_builtin; go_must (refine wpList_app _ rfl (.tmp 5) (.tmp 6) _ rfl w.heap.size 5 i0 _ 1 Try.underlying62 Hi.out.1 Hi.out.2.1 Hi.out.2.2.1 Hi.out.2.2.2 rfl (.slice (some ⟨w.heap.size, 0, none⟩) 0 0) 0 [] rfl (World.ownsRow_made w #[] 0 (Nat.le_refl _) (by unfold maxLen; omega) rfl) (some ad) l.length c (bv l) rfl (bv_length l) (Hc.out _) (bv_one _) (by have := Hl.out; unfold maxLen; omega) (by have := Hl.out; omega) (by simp) ?_); intro v1 w1 hown1 hg1 hat1)
    go_ret
    refine ⟨v1, rfl, by simpa using hown1, ((Chg.refl NoB w).alloc _).grown hg1 fun k hk hlt => ?_⟩
    simp only [Value.ownBlock, Option.some.injEq] at hk
    omega
end
end Go.Proofs.Ytggknljlibhkjaa
