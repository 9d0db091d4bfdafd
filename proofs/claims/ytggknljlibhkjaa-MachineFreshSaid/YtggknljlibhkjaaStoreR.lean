/- What is proved: the contracts of Write and WriteWord. Conditions: the memory holds a store. -/
import Derived.Test.YtggknljlibhkjaaStoreQ
namespace Go.Proofs.Ytggknljlibhkjaa
open Go.RowKit
section
variable {base : Nat} {w w1 : World} {s : Nat} {S : Sto}

theorem lput_ok (h : StoreAt base w s S) {f : Int} {r : Rd} {x : Fl} (hr : S.rdAt f = some r) (hx : S.fl r.f = some x) {A : Option Addr} {c : Nat} {l : List UInt8} (hcl : CellsAt w A (bv l)) (hap : ∀ ad, A = some ad → ¬ foot s S ad.block)
    (hl : l.length ≤ 140737488355328) (hroom : r.pos + l.length ≤ x.b.length + S.room) :
    Calls Try.prog 78 #[ptr s, .int .i64 f, .slice A l.length c] w (WritePost base s S f r x l w) := by
  by_cases hin : r.pos + l.length ≤ x.b.length
  · exact lput_in h hr hx hcl hin
  · exact lput_grow h hr hx hcl hap hl (by omega) hroom

/-- what a write, in the world behind another step that changes nothing of the store, comes to -/
theorem WritePost.pre {f : Int} {r : Rd} {x : Fl} {l : List UInt8} {e : Ending} {w2 : World} (hc : Chg NoB w w1) (h : WritePost base s S f r x l w1 e w2) : WritePost base s S f r x l w e w2 := by
  obtain ⟨A, c, h1, h2, h3, h4⟩ := h
  exact ⟨A, c, h1, h2, (hc.mono (fun _ _ h => h.elim)).trans h3, fun k hk hlt => h4 k hk (by have := hc.size; omega)⟩

theorem write_ok (h : StoreAt base w s S) {f : Int} {r : Rd} {x : Fl} (hr : S.rdAt f = some r) (hx : S.fl r.f = some x) (b : UInt8) (hroom : r.pos + 1 ≤ x.b.length + S.room) :
    Calls Try.prog 61 #[ptr s, .int .i64 f, .int .u8 b.toNat] w (WritePost base s S f r x [b] w) := by
  have hca : Chg NoB w (w.alloc (Obj.cells #[Value.int .u8 b.toNat] 5)) := (Chg.refl _ _).alloc _
  have h1 := h.chg hca (fun _ _ => id)
  have Hp := Go.Lib.hid (lput_ok h1 hr hx (A := some ⟨w.heap.size, 0, none⟩) (c := 1) (l := [b]) (cells_of_blk (Blk.new w 5 #[Value.int .u8 b.toNat])) (fun ad hA hf => by
    cases hA
    have := h.lt _ hf
    simp only at this
    omega) (by simp) hroom)
  have Hca := Go.Lib.hid hca
  clear h h1 hr hx hroom hca
  unfold ptr at Hp ⊢
  go_enter Try.func61, Try.ntmps61
  go_wp2_with fail
  refine Hp.out.mono ?_
  rintro e w2 hw
  have hw' := hw.pre Hca.out
  obtain ⟨A, c, rfl, _⟩ := hw
  have Hw := Go.Lib.hid hw'
  clear hw'
  go_wp2_with fail
  go_ret
  exact Hw.out

theorem write_none (h : StoreAt base w s S) {f : Int} (hr : S.rdAt f = none) (b : UInt8) :
    Calls Try.prog 61 #[ptr s, .int .i64 f, .int .u8 b.toNat] w (Quiet (.int .i64 0) w) := by
  have hca : Chg NoB w (w.alloc (Obj.cells #[Value.int .u8 b.toNat] 5)) := (Chg.refl _ _).alloc _
  have Hp := fun v => Go.Lib.hid (lput_none (h.chg hca (fun _ _ => id)) hr v)
  have Hca := Go.Lib.hid hca
  clear h hr hca
  unfold ptr at Hp ⊢
  go_enter Try.func61, Try.ntmps61
  go_wp2_with fail
  refine (Hp _).out.mono ?_
  rintro e w2 ⟨rfl, rfl⟩
  go_wp2_with fail
  go_ret
  exact ⟨rfl, Hca.out⟩

theorem write_full (h : StoreAt base w s S) {f : Int} {r : Rd} {x : Fl} (hr : S.rdAt f = some r) (hx : S.fl r.f = some x) (b : UInt8) (hfull : x.b.length + S.room < r.pos + 1) :
    Calls Try.prog 61 #[ptr s, .int .i64 f, .int .u8 b.toNat] w (Quiet (.int .i64 5) w) := by
  have hca : Chg NoB w (w.alloc (Obj.cells #[Value.int .u8 b.toNat] 5)) := (Chg.refl _ _).alloc _
  have Hp := Go.Lib.hid (lput_full (h.chg hca (fun _ _ => id)) hr hx (A := some ⟨w.heap.size, 0, none⟩) (c := 1) (m := 1) (by omega) hfull)
  have Hca := Go.Lib.hid hca
  clear h hr hx hca hfull
  unfold ptr at Hp ⊢
  go_enter Try.func61, Try.ntmps61
  go_wp2_with fail
  refine Hp.out.mono ?_
  rintro e w2 ⟨rfl, hc⟩
  have Hc := Go.Lib.hid (Hca.out.trans hc)
  clear hc
  go_wp2_with fail
  go_ret
  exact ⟨rfl, Hc.out⟩

theorem bytesOfWord_length (n : Nat) : (bytesOfWord n).length = 4 := rfl

theorem writeWord_ok (h : StoreAt base w s S) {f : Int} {r : Rd} {x : Fl} (hr : S.rdAt f = some r) (hx : S.fl r.f = some x) (n : Nat) (hn : n < 4294967296) (hroom : r.pos + 4 ≤ x.b.length + S.room) :
    Calls Try.prog 62 #[ptr s, .int .i64 f, .int .u32 n] w (WritePost base s S f r x (bytesOfWord n) w) := by
  have hca : Chg NoB w (w.alloc (Obj.cells #[Value.int .u32 n] 23)) := (Chg.refl _ _).alloc _
  have Hwb := Go.Lib.hid (wordBytes_c (w.alloc (Obj.cells #[Value.int .u32 n] 23)) w.heap.size n hn ((Blk.new w 23 #[Value.int .u32 n]).cell 0))
  have Hca := Go.Lib.hid hca
  have H := Go.Lib.hid h
  have HR := Go.Lib.hid hr
  have HX := Go.Lib.hid hx
  have Hroom := Go.Lib.hid hroom
  clear h hr hx hroom hca hn
  unfold ptr
  go_enter Try.func62, Try.ntmps62
  go_wp2_with fail
  refine Hwb.out.mono ?_
  rintro e w2 ⟨v, rfl, ho, hc⟩
  obtain ⟨A, c, rfl⟩ := own_slice ho
  have hc2 := Hca.out.trans hc
  have Hp := Go.Lib.hid (lput_ok (H.out.chg hc2 (fun _ _ => id)) HR.out HX.out (A := A) (c := c) (l := bytesOfWord n) (CellsAt.of_own ho) (fun ad hA hf => by
    have h1 := H.out.lt _ hf
    have h2 := (ho.lt ad.block (by rw [hA]; rfl)).1
    simp at h2
    omega) (by rw [bytesOfWord_length]; omega) (by rw [bytesOfWord_length]; exact Hroom.out))
  have Hc2 := Go.Lib.hid hc2
  clear ho hc hc2
  rw [bytesOfWord_length] at Hp
  unfold ptr at Hp
  go_wp2_with fail
  refine Hp.out.mono ?_
  rintro e w3 hw
  have hw' := hw.pre Hc2.out
  obtain ⟨A, c, rfl, _⟩ := hw
  have Hw := Go.Lib.hid hw'
  clear hw'
  go_wp2_with fail
  go_ret
  exact Hw.out

theorem writeWord_none (h : StoreAt base w s S) {f : Int} (hr : S.rdAt f = none) (n : Nat) (hn : n < 4294967296) :
    Calls Try.prog 62 #[ptr s, .int .i64 f, .int .u32 n] w (Quiet (.int .i64 0) w) := by
  have hca : Chg NoB w (w.alloc (Obj.cells #[Value.int .u32 n] 23)) := (Chg.refl _ _).alloc _
  have Hwb := Go.Lib.hid (wordBytes_c (w.alloc (Obj.cells #[Value.int .u32 n] 23)) w.heap.size n hn ((Blk.new w 23 #[Value.int .u32 n]).cell 0))
  have Hca := Go.Lib.hid hca
  have H := Go.Lib.hid h
  have HR := Go.Lib.hid hr
  clear h hr hca hn
  unfold ptr
  go_enter Try.func62, Try.ntmps62
  go_wp2_with fail
  refine Hwb.out.mono ?_
  rintro e w2 ⟨v, rfl, ho, hc⟩
  have hc2 := Hca.out.trans hc
  have Hp := Go.Lib.hid (lput_none (H.out.chg hc2 (fun _ _ => id)) HR.out v)
  have Hc2 := Go.Lib.hid hc2
  clear ho hc hc2
  unfold ptr at Hp
  go_wp2_with fail
  refine Hp.out.mono ?_
  rintro e w3 ⟨rfl, rfl⟩
  go_wp2_with fail
  go_ret
  exact ⟨rfl, Hc2.out⟩

theorem writeWord_full (h : StoreAt base w s S) {f : Int} {r : Rd} {x : Fl} (hr : S.rdAt f = some r) (hx : S.fl r.f = some x) (n : Nat) (hn : n < 4294967296) (hfull : x.b.length + S.room < r.pos + 4) :
    Calls Try.prog 62 #[ptr s, .int .i64 f, .int .u32 n] w (Quiet (.int .i64 5) w) := by
  have hca : Chg NoB w (w.alloc (Obj.cells #[Value.int .u32 n] 23)) := (Chg.refl _ _).alloc _
  have Hwb := Go.Lib.hid (wordBytes_c (w.alloc (Obj.cells #[Value.int .u32 n] 23)) w.heap.size n hn ((Blk.new w 23 #[Value.int .u32 n]).cell 0))
  have Hca := Go.Lib.hid hca
  have H := Go.Lib.hid h
  have HR := Go.Lib.hid hr
  have HX := Go.Lib.hid hx
  have Hfull := Go.Lib.hid hfull
  clear h hr hx hca hn hfull
  unfold ptr
  go_enter Try.func62, Try.ntmps62
  go_wp2_with fail
  refine Hwb.out.mono ?_
  rintro e w2 ⟨v, rfl, ho, hc⟩
  obtain ⟨A, c, rfl⟩ := own_slice ho
  have hc2 := Hca.out.trans hc
  have Hp := Go.Lib.hid (lput_full (H.out.chg hc2 (fun _ _ => id)) HR.out HX.out (A := A) (c := c) (m := 4) (by omega) Hfull.out)
  have Hc2 := Go.Lib.hid hc2
  clear ho hc hc2
  unfold ptr at Hp
  go_wp2_with fail
  refine Hp.out.mono ?_
  rintro e w3 ⟨rfl, hc3⟩
  have Hc3 := Go.Lib.hid (Hc2.out.trans hc3)
  clear hc3
  go_wp2_with fail
  go_ret
  exact ⟨rfl, Hc3.out⟩
end
end Go.Proofs.Ytggknljlibhkjaa
