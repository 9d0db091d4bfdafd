/- What is proved: the contracts of ride, Old, Fresh. Conditions: the memory holds a store. -/
import Derived.Test.YtggknljlibhkjaaStoreG
namespace Go.Proofs.Ytggknljlibhkjaa
open Go.RowKit

theorem ptrinfo : (Try.prog.info? 120).map (fun i => (i.zero, i.size, i.bytes)) = some (some (.pointer none), 1, 8) := by kernel_rfl

theorem used_add (g : Nat → Nat) (l : List Nat) (f : Nat) (h : f ∈ l ∨ g f = 0) : sumOf g (dedup (l ++ [f])) = sumOf g (dedup l) := by
  by_cases hf : f ∈ l
  · exact sumOf_same g (nodup_dedup _) (nodup_dedup _) (fun x => by simp [mem_dedup]; exact fun e => by subst e; exact hf)
  · have h0 : g f = 0 := h.elim (fun h => absurd h hf) id
    have hn : (f :: dedup l).Nodup := List.nodup_cons.2 ⟨fun h => hf (mem_dedup.1 h), nodup_dedup l⟩
    have := sumOf_same g (nodup_dedup (l ++ [f])) hn (fun x => by simp [mem_dedup]; exact Or.comm)
    rw [this, sumOf_cons, h0]
    omega

theorem Blk.new1 (w : World) (o : Obj) (t : TypeId) (cs : Array Value) : Blk ((w.alloc o).alloc (.cells cs t)) (w.heap.size + 1) t cs := by
  simpa using Blk.new (w.alloc o) t cs
theorem cells_of_blk {w : World} {g : Nat} {t : TypeId} {cs : Array Value} (h : Blk w g t cs) : CellsAt w (some ⟨g, 0, none⟩) cs.toList := fun _ => ⟨_, rfl, World.news_of_block h⟩

section
variable {base : Nat} {w : World} {s : Nat} {S : Sto}

def Sto.ride (S : Sto) (blk f : Nat) (nm : ByteArray) (rA : Option Addr) (rc : Nat) : Sto := { S with rd := S.rd ++ [⟨blk, f, nm, 0⟩], rA := rA, rc := rc }
def RidePost (base s : Nat) (S : Sto) (f : Nat) (nm : ByteArray) (w : World) (e : Ending) (w' : World) : Prop :=
  ∃ blk rA rc, e = .returned (.int .i64 ((S.rd.length : Int) + 1)) ∧ StoreAt base w' s (S.ride blk f nm rA rc) ∧ Chg (foot s S) w w' ∧ ∀ k, foot s (S.ride blk f nm rA rc) k → k < w.heap.size → foot s S k

/-- the store behind a new rider -/
theorem StoreAt.ride (h : StoreAt base w s S) {f : Nat} {x : Fl} {nm : ByteArray} (hx : S.fl f = some x) (hn : mayName nm = true) (hlt : S.rd.length < 255) (hu : f ∈ S.held ∨ x.b.length = 0)
    {w1 : World} {blk : Nat} {rA : Option Addr} {rc : Nat} (hch : Chg (fun k => S.rv.ownBlock = some k) w w1) (hb : Blk w1 blk 122 #[ptr f, .string nm, .int .i64 0]) (hbn : w.heap.size ≤ blk)
    (hrow : w1.ownsRow base 120 1 (.slice rA (S.rd.length + 1) rc) (S.rd.length + 1) ((S.rd.map fun r => ptr r.blk) ++ [ptr blk]))
    (hrb : ∀ k, (Value.slice rA (S.rd.length + 1) rc).ownBlock = some k → S.rv.ownBlock = some k ∨ w.heap.size ≤ k) :
    StoreAt base (w1.setCell ⟨s, 1, none⟩ (.slice rA (S.rd.length + 1) rc)) s (S.ride blk f nm rA rc) ∧ Chg (foot s S) w (w1.setCell ⟨s, 1, none⟩ (.slice rA (S.rd.length + 1) rc)) ∧
      ∀ k, foot s (S.ride blk f nm rA rc) k → k < w.heap.size → foot s S k := by
  have hbase : base ≤ w.heap.size := by have := h.low s (.inl rfl); have := h.blk.lt; omega
  have hlts := h.blk.lt
  have hc2 : Chg (fun k => S.rv.ownBlock = some k ∨ k = s) w (w1.setCell ⟨s, 1, none⟩ (.slice rA (S.rd.length + 1) rc)) :=
    (hch.mono (fun _ _ h => .inl h)).setCell (p := ⟨s, 1, none⟩) (fun _ => .inr rfl) _
  have hc3 : Chg (fun k => k = s) w1 (w1.setCell ⟨s, 1, none⟩ (.slice rA (S.rd.length + 1) rc)) := (Chg.refl (fun k => k = s) _).setCell (p := ⟨s, 1, none⟩) (fun _ => rfl) _
  have nrow : ∀ {t : TypeId} {cs : Array Value} {g : Nat}, Blk w g t cs → 120 ≠ t → ¬ S.rv.ownBlock = some g := fun hg hne => own_blk_ne h.row hg hne
  have nS : ∀ {t : TypeId} {cs : Array Value} {g : Nat}, Blk w g t cs → t ≠ 59 → g ≠ s := fun hg hne => hg.ne_ h.blk hne
  have b0 : Blk w1 s 59 #[.map (some S.mb), S.rv, .int .i64 S.cap] := h.blk.chg hch (nrow h.blk (by decide))
  have hrv : (S.ride blk f nm rA rc).rv = .slice rA (S.rd.length + 1) rc := by unfold Sto.ride Sto.rv; simp
  have hheld : (S.ride blk f nm rA rc).held = S.held ++ [f] := by unfold Sto.ride Sto.held; simp
  have hlen : (S.ride blk f nm rA rc).len = S.len := rfl
  have hmem : ∀ r ∈ (S.ride blk f nm rA rc).rd, r ∈ S.rd ∨ r = ⟨blk, f, nm, 0⟩ := fun r hr => by
    unfold Sto.ride at hr
    simpa using hr
  have hft : ∀ k, foot s (S.ride blk f nm rA rc) k → k < w.heap.size → foot s S k := by
    intro k hk hlt
    rcases hk with rfl | rfl | hk | ⟨r, hr, rfl⟩ | hk
    · exact .inl rfl
    · exact .inr (.inl rfl)
    · rw [hrv] at hk
      rcases hrb k hk with h1 | h1
      · exact .inr (.inr (.inl h1))
      · omega
    · rcases hmem r hr with hr | rfl
      · exact .inr (.inr (.inr (.inl ⟨r, hr, rfl⟩)))
      · simp only at hlt
        omega
    · exact .inr (.inr (.inr (.inr hk)))
  refine ⟨?_, hc2.mono (fun k _ hk => hk.elim (fun h => .inr (.inr (.inl h))) (fun h => .inl h)), hft⟩
  exact {
    blk := by rw [hrv]; exact b0.set_ 1 _
    map := h.map.chg hc2 (fun hk => hk.elim (fun hk => h.map.own_ne h.row hk) (fun e => h.map.blk_ne h.blk e))
    row := by
      rw [hrv]
      have e : (S.ride blk f nm rA rc).rd.map (fun r => ptr r.blk) = (S.rd.map fun r => ptr r.blk) ++ [ptr blk] := by unfold Sto.ride; simp
      have e2 : (S.ride blk f nm rA rc).rd.length = S.rd.length + 1 := by unfold Sto.ride; simp
      rw [e, e2]
      exact own_chg hrow hc3 (fun k hk e => by subst e; exact own_blk_ne hrow b0 (by decide) hk)
    rdb := fun r hr => by
      rcases hmem r hr with hr | rfl
      · exact (h.rdb r hr).chg hc2 (fun hk => hk.elim (nrow (h.rdb r hr) (by decide)) (nS (h.rdb r hr) (by decide)))
      · exact hb.chg hc3 (fun (e : blk = s) => by omega)
    rdn := by
      have e : (S.ride blk f nm rA rc).rd.map (·.blk) = S.rd.map (·.blk) ++ [blk] := by unfold Sto.ride; simp
      rw [e, List.nodup_append]
      refine ⟨h.rdn, by simp, ?_⟩
      intro a ha b hb' hab
      simp at hb'
      obtain ⟨r, hr, rfl⟩ := List.mem_map.1 ha
      have := (h.rdb r hr).lt
      omega
    rdf := fun r hr => by
      rcases hmem r hr with hr | rfl
      · exact h.rdf r hr
      · exact ⟨x, hx, Nat.zero_le _⟩
    dirf := h.dirf
    flb := fun g y hg => (h.flb g y hg).chg hc2 (fun hk => hk.elim (nrow (h.flb g y hg) (by decide)) (nS (h.flb g y hg) (by decide)))
    flo := fun g y hg => own_chg (h.flo g y hg) hc2 (fun k hk hk' => hk'.elim (fun hr => own_own_ne (h.flo g y hg) h.row (by decide) hk hr) (fun e => by subst e; exact own_blk_ne (h.flo g y hg) h.blk (by decide) hk))
    sep := h.sep
    low := fun k hk => by
      rcases Nat.lt_or_ge k w.heap.size with hlt | hge
      · exact h.low k (hft k hk hlt)
      · omega
    keys := h.keys
    dnames := h.dnames
    rnames := fun r hr => by
      rcases hmem r hr with hr | rfl
      · exact h.rnames r hr
      · exact hn
    small := h.small
    fits := by
      have e : (S.ride blk f nm rA rc).used = S.used := by
        unfold Sto.used
        rw [hheld, hlen]
        exact used_add _ _ _ (hu.imp id (fun h0 => by simp [Sto.len, hx, h0]))
      rw [e]; exact h.fits
    nrd := by unfold Sto.ride; simp; omega
    ndir := h.ndir }

theorem ride_c (h : StoreAt base w s S) {f : Nat} {x : Fl} {nm : ByteArray} (hx : S.fl f = some x) (hn : mayName nm = true) (hlt : S.rd.length < 255) (hu : f ∈ S.held ∨ x.b.length = 0) :
    Calls Try.prog 76 #[ptr s, ptr f, .string nm] w (RidePost base s S f nm w) := by
  obtain ⟨i0, hi0, hz0, hz1, hz2⟩ := info_parts ptrinfo
  have Hi := Go.Lib.hid (And.intro hi0 (And.intro hz0 (And.intro hz1 hz2)))
  clear hi0 hz0 hz1 hz2
  have c1 := h.cell1
  have hbase : base ≤ w.heap.size := by have := h.low s (.inl rfl); have := h.blk.lt; omega
  have Hbase := Go.Lib.hid hbase
  have Hn := Go.Lib.hid h.nrd
  have Hlt := Go.Lib.hid hlt
  have H := Go.Lib.hid h
  have Hx := Go.Lib.hid hx
  have Hnm := Go.Lib.hid hn
  have Hu := Go.Lib.hid hu
  have hs := h.blk.lt
  have e2 : ∀ o1 o2 i, ((w.alloc o1).alloc o2).cell? ⟨s, i, none⟩ = w.cell? ⟨s, i, none⟩ := fun o1 o2 i =>
    World.cell?_of_block ((((Chg.refl NoB w).alloc o1).alloc o2).block s hs id)
  have e1 : ∀ o1 i, (w.alloc o1).cell? ⟨s, i, none⟩ = w.cell? ⟨s, i, none⟩ := fun o1 i =>
    World.cell?_of_block (((Chg.refl NoB w).alloc o1).block s hs id)
  clear h hx hn hu hlt hbase hs
  unfold ptr
  go_enter Try.func76, Try.ntmps76
  go_wp2_with (at_builtin; go_must (refine wpList_app _ rfl (.tmp 11) (.tmp 16) _ rfl base 120 i0 _ 8 Try.underlying57 Hi.out.1 Hi.out.2.1 Hi.out.2.2.1 Hi.out.2.2.2 rfl S.rv S.rd.length _ rfl ((H.out.row.alloc _).alloc _) (some ⟨w.heap.size + 1, 0, none⟩) 1 1 [ptr w.heap.size] rfl rfl ?_ ?_ (by have := Hn.out; unfold maxLen; omega) (by have := Hn.out; omega) (by have := Hbase.out; simp; omega) ?_))
  · exact cells_of_blk (Blk.new1 _ _ _ _)
  · simp [ptr, Value.oneCell']
  · intro v1 w1 hown hg hat
    obtain ⟨rA, rc, rfl⟩ := own_slice hown
    have hca : Chg NoB w ((w.alloc (Obj.cells #[Value.pointer (some { block := f, off := 0 }), Value.string nm, Value.int IntKind.i64 0] 122)).alloc (Obj.cells #[Value.pointer (some { block := w.heap.size, off := 0 })] 120)) := ((Chg.refl NoB w).alloc _).alloc _
    have hch : Chg (fun k => S.rv.ownBlock = some k) w w1 := (hca.mono (fun _ _ h => h.elim)).grown hg (fun k hk _ => hk)
    have hb : Blk w1 w.heap.size 122 #[ptr f, .string nm, .int .i64 0] :=
      ((Blk.new w 122 #[ptr f, .string nm, .int .i64 0]).alloc _).grown hg (fun e => by have := (H.out.row.lt _ e.symm).2; omega)
    have hrb : ∀ k, (Value.slice rA (S.rd.length + 1) rc).ownBlock = some k → S.rv.ownBlock = some k ∨ w.heap.size ≤ k := fun k hk => by
      rcases hat with e | e
      · exact .inl (e ▸ hk)
      · rw [hk] at e; injection e with e; exact .inr (by omega)
    have Hfin := Go.Lib.hid (H.out.ride Hx.out Hnm.out Hlt.out Hu.out hch hb (Nat.le_refl _) hown hrb)
    have b0 : Blk w1 s 59 #[.map (some S.mb), S.rv, .int .i64 S.cap] := H.out.blk.chg hch (own_blk_ne H.out.row H.out.blk (by decide))
    have k1 : w1.cell? ⟨s, 1, none⟩ = some (.slice S.rA S.rd.length S.rc) := b0.cell 1
    have z1 : w1.frozen? ⟨s, 1, none⟩ = false := b0.frozen 1
    clear hown hg hat hca hch hb hrb b0 e2 e1 c1
    go_wp2_with fail
    go_ret
    exact ⟨_, rA, rc, by simp, Hfin.out⟩
end
end Go.Proofs.Ytggknljlibhkjaa
