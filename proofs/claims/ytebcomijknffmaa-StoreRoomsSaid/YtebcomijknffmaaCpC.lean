/- What is proved: a store that is being copied gets a file into its directory, or a rider. Conditions: as each theorem says. -/
import Derived.Test.YtebcomijknffmaaCpB
namespace Go.Proofs.Ytebcomijknffmaa
open Go.RowKit
section
variable {base : Nat} {w : World} {s : Nat} {S : Sto}
def Sto.rideP (S : Sto) (blk f : Nat) (nm : ByteArray) (rA : Option Addr) (rc p : Nat) : Sto := { S with rd := S.rd ++ [⟨blk, f, nm, p⟩], rA := rA, rc := rc }
/-- the store behind a new rider -/
theorem StoreAt.rideP (h : StoreAt base w s S) {f : Nat} {x : Fl} {nm : ByteArray} (hx : S.fl f = some x) (hn : mayName nm = true) (hlt : S.rd.length < 255) {p : Nat} (hp : p ≤ x.b.length) (hu : sumOf S.len (dedup (S.held ++ [f])) ≤ S.cap)
    {w1 : World} {blk : Nat} {rA : Option Addr} {rc : Nat} (hch : Chg (fun k => S.rv.ownBlock = some k) w w1) (hb : Blk w1 blk 87 #[ptr f, .string nm, .int .i64 p]) (hbn : w.heap.size ≤ blk)
    (hrow : w1.ownsRow base 84 1 (.slice rA (S.rd.length + 1) rc) (S.rd.length + 1) ((S.rd.map fun r => ptr r.blk) ++ [ptr blk]))
    (hrb : ∀ k, (Value.slice rA (S.rd.length + 1) rc).ownBlock = some k → S.rv.ownBlock = some k ∨ w.heap.size ≤ k) :
    StoreAt base (w1.setCell ⟨s, 1, none⟩ (.slice rA (S.rd.length + 1) rc)) s (S.rideP blk f nm rA rc p) ∧ Chg (foot s S) w (w1.setCell ⟨s, 1, none⟩ (.slice rA (S.rd.length + 1) rc)) ∧
      ∀ k, foot s (S.rideP blk f nm rA rc p) k → k < w.heap.size → foot s S k := by
  have hbase : base ≤ w.heap.size := by have := h.low s (.inl rfl); have := h.blk.lt; omega
  have hlts := h.blk.lt
  have hc2 : Chg (fun k => S.rv.ownBlock = some k ∨ k = s) w (w1.setCell ⟨s, 1, none⟩ (.slice rA (S.rd.length + 1) rc)) :=
    (hch.mono (fun _ _ h => .inl h)).setCell (p := ⟨s, 1, none⟩) (fun _ => .inr rfl) _
  have hc3 : Chg (fun k => k = s) w1 (w1.setCell ⟨s, 1, none⟩ (.slice rA (S.rd.length + 1) rc)) := (Chg.refl (fun k => k = s) _).setCell (p := ⟨s, 1, none⟩) (fun _ => rfl) _
  have nrow : ∀ {t : TypeId} {cs : Array Value} {g : Nat}, Blk w g t cs → 84 ≠ t → ¬ S.rv.ownBlock = some g := fun hg hne => own_blk_ne h.row hg hne
  have nS : ∀ {t : TypeId} {cs : Array Value} {g : Nat}, Blk w g t cs → t ≠ 74 → g ≠ s := fun hg hne => hg.ne_ h.blk hne
  have b0 : Blk w1 s 74 #[.map (some S.mb), S.rv, .int .i64 S.cap] := h.blk.chg hch (nrow h.blk (by decide))
  have hrv : (S.rideP blk f nm rA rc p).rv = .slice rA (S.rd.length + 1) rc := by unfold Sto.rideP Sto.rv; simp
  have hheld : (S.rideP blk f nm rA rc p).held = S.held ++ [f] := by unfold Sto.rideP Sto.held; simp
  have hlen : (S.rideP blk f nm rA rc p).len = S.len := rfl
  have hmem : ∀ r ∈ (S.rideP blk f nm rA rc p).rd, r ∈ S.rd ∨ r = ⟨blk, f, nm, p⟩ := fun r hr => by
    unfold Sto.rideP at hr
    simpa using hr
  have hft : ∀ k, foot s (S.rideP blk f nm rA rc p) k → k < w.heap.size → foot s S k := by
    intro k hk hlt
    rcases hk with rfl | rfl | hk | ⟨r, hr, rfl⟩ | hk
    · exact .inl rfl
    · exact .inr (.inl rfl)
    · rw [hrv] at hk
      rcases hrb k hk with h1 | h1
      · exact .inr (.inr (.inl h1))
      · omega
    · rcases hmem r hr with hr | rfl
      · exact .inr (.inr (.inr (.inl ⟨r, hr, rfl⟩)))
      · simp only at hlt
        omega
    · exact .inr (.inr (.inr (.inr hk)))
  refine ⟨?_, hc2.mono (fun k _ hk => hk.elim (fun h => .inr (.inr (.inl h))) (fun h => .inl h)), hft⟩
  exact {
    blk := by rw [hrv]; exact b0.set_ 1 _
    map := h.map.chg hc2 (fun hk => hk.elim (fun hk => h.map.own_ne h.row hk) (fun e => h.map.blk_ne h.blk e))
    row := by
      rw [hrv]
      have e : (S.rideP blk f nm rA rc p).rd.map (fun r => ptr r.blk) = (S.rd.map fun r => ptr r.blk) ++ [ptr blk] := by unfold Sto.rideP; simp
      have e2 : (S.rideP blk f nm rA rc p).rd.length = S.rd.length + 1 := by unfold Sto.rideP; simp
      rw [e, e2]
      exact own_chg hrow hc3 (fun k hk e => by subst e; exact own_blk_ne hrow b0 (by decide) hk)
    rdb := fun r hr => by
      rcases hmem r hr with hr | rfl
      · exact (h.rdb r hr).chg hc2 (fun hk => hk.elim (nrow (h.rdb r hr) (by decide)) (nS (h.rdb r hr) (by decide)))
      · exact hb.chg hc3 (fun (e : blk = s) => by omega)
    rdn := by
      have e : (S.rideP blk f nm rA rc p).rd.map (·.blk) = S.rd.map (·.blk) ++ [blk] := by unfold Sto.rideP; simp
      rw [e, List.nodup_append]
      refine ⟨h.rdn, by simp, ?_⟩
      intro a ha b hb' hab
      simp at hb'
      obtain ⟨r, hr, rfl⟩ := List.mem_map.1 ha
      have := (h.rdb r hr).lt
      omega
    rdf := fun r hr => by
      rcases hmem r hr with hr | rfl
      · exact h.rdf r hr
      · exact ⟨x, hx, hp⟩
    dirf := h.dirf
    flb := fun g y hg => (h.flb g y hg).chg hc2 (fun hk => hk.elim (nrow (h.flb g y hg) (by decide)) (nS (h.flb g y hg) (by decide)))
    flo := fun g y hg => own_chg (h.flo g y hg) hc2 (fun k hk hk' => hk'.elim (fun hr => own_own_ne (h.flo g y hg) h.row (by decide) hk hr) (fun e => by subst e; exact own_blk_ne (h.flo g y hg) h.blk (by decide) hk))
    sep := h.sep
    low := fun k hk => by
      rcases Nat.lt_or_ge k w.heap.size with hlt | hge
      · exact h.low k (hft k hk hlt)
      · omega
    keys := h.keys
    dnames := h.dnames
    rnames := fun r hr => by
      rcases hmem r hr with hr | rfl
      · exact h.rnames r hr
      · exact hn
    small := h.small
    fits := by
      unfold Sto.used
      rw [hheld, hlen]
      exact hu
    nrd := by unfold Sto.rideP; simp; omega
    ndir := h.ndir }
end
theorem putD_new {nm : ByteArray} {f : Nat} : ∀ {d : List (ByteArray × Nat)}, nm ∉ d.map (·.1) → putD nm f d = d ++ [(nm, f)]
  | [], _ => rfl
  | e :: d, h => by
    simp only [List.map_cons, List.mem_cons, not_or] at h
    have e1 : (nm == e.1) = false := by
      cases hq : (nm == e.1) with
      | true => exact absurd ((MapKept.bytes_beq _ _).1 hq) h.1
      | false => rfl
    simp only [putD, e1, List.cons_append]
    exact congrArg (e :: ·) (putD_new h.2)
section
variable {S S' : Sto} {w W W1 : World} {base s c ov om k : Nat} {l : List (Nat × Nat)} {D : List (ByteArray × Nat)}
theorem CpInv.enter (h : CpInv S w W c ov om S' l D k) (hs : StoreAt base w s S) {e : ByteArray × Nat} {R : List (ByteArray × Nat)} (hp : (D ++ e :: R).Perm S.dir) (hk : e.2 ∈ l.map (·.1))
    (hm : MapIs W1 S'.mb (strs (putS e.1 (ptr (img l e.2)) (S'.dir.map fun e => (e.1, ptr e.2))))) (hc : Chg (fun b => b = S'.mb) W W1) : CpInv S w W1 c ov om (S'.enter e.1 (img l e.2)) l (D ++ [e]) k := by
  have hn : ((D ++ e :: R).map (·.1)).Nodup := (hp.map (·.1)).nodup_iff.2 hs.keys
  have he : e ∈ S.dir := hp.subset (by simp)
  have hlen : (D ++ e :: R).length = S.dir.length := hp.length_eq
  have hmbf : foot c S' S'.mb := .inr (.inl rfl)
  have hen : e.1 ∉ S'.dir.map (·.1) := by
    rw [h.dir, List.map_map]
    intro hm2
    have hm3 : e.1 ∈ D.map (·.1) := hm2
    rw [List.map_append, List.nodup_append] at hn
    exact hn.2.2 e.1 hm3 e.1 (by simp) rfl
  have hput := putD_new (f := img l e.2) hen
  rw [putS_dir] at hm
  have hdir : (S'.enter e.1 (img l e.2)).dir = (D ++ [e]).map fun e => (e.1, img l e.2) := by
    show putD _ _ S'.dir = _
    rw [hput, h.dir, List.map_append]
    rfl
  have hst : StoreAt w.heap.size W1 c (S'.enter e.1 (img l e.2)) := by
    refine h.st.setDir hm hc (fun q hq => ?_) (nodup_putD h.st.keys) ?_ ?_
    · rcases mem_putD hq with rfl | hq
      · obtain ⟨A, c', x, _, h2⟩ := h.vf _ (img_mem hk)
        exact ⟨⟨_, h2⟩, hs.dnames e he⟩
      · exact ⟨h.st.dirf q hq, h.st.dnames q hq⟩
    · rw [hput, h.dir]
      have := hs.ndir
      simp at hlen ⊢
      omega
    · refine h.fits hs fun x hx => ?_
      rcases List.mem_append.1 hx with hx | hx
      · obtain ⟨q, hq, rfl⟩ := List.mem_map.1 hx
        rcases mem_putD hq with rfl | hq
        · exact List.mem_map.2 ⟨_, img_mem hk, rfl⟩
        · exact h.held _ (List.mem_append.2 (.inl (List.mem_map.2 ⟨q, hq, rfl⟩)))
      · exact h.held _ (List.mem_append.2 (.inr hx))
  exact {
    st := hst
    bov := h.bov.chg hc (fun e => h.ovf (e ▸ hmbf))
    mom := h.mom.chg hc (fun e => h.omf (e ▸ hmbf))
    ovf := fun hf => h.ovf hf
    omf := fun hf => h.omf hf
    lo := h.lo
    kn := h.kn
    vn := h.vn
    kh := h.kh
    vf := h.vf
    dir := hdir
    dk := fun q hq => by
      rcases List.mem_append.1 hq with hq | hq
      · exact h.dk q hq
      · simp at hq; subst hq; exact ⟨he, hk⟩
    rd := h.rd
    rk := h.rk
    cap := h.cap
    chg := h.chg.step hc fun b hb e => by have := h.st.low S'.mb hmbf; omega }
theorem CpInv.ride (h : CpInv S w W c ov om S' l D k) (hs : StoreAt base w s S) {r : Rd} (hr : S.rd[k]? = some r) (hk : r.f ∈ l.map (·.1)) {blk : Nat} {rA : Option Addr} {rc : Nat}
    (hch : Chg (fun b => S'.rv.ownBlock = some b) W W1) (hb : Blk W1 blk 87 #[ptr (img l r.f), .string r.name, .int .i64 r.pos]) (hbn : W.heap.size ≤ blk)
    (hrow : W1.ownsRow w.heap.size 84 1 (.slice rA (S'.rd.length + 1) rc) (S'.rd.length + 1) ((S'.rd.map fun r => ptr r.blk) ++ [ptr blk]))
    (hrb : ∀ b, (Value.slice rA (S'.rd.length + 1) rc).ownBlock = some b → S'.rv.ownBlock = some b ∨ W.heap.size ≤ b) :
    CpInv S w (W1.setCell ⟨c, 1, none⟩ (.slice rA (S'.rd.length + 1) rc)) c ov om (S'.rideP blk (img l r.f) r.name rA rc r.pos) l D (k + 1) := by
  have hrm : r ∈ S.rd := List.mem_of_getElem? hr
  obtain ⟨A, c', x, hx, hx2⟩ := h.vf _ (img_mem hk)
  have hlt : S'.rd.length < 255 := by
    have h1 := congrArg List.length h.rd
    have h2 := hs.nrd
    have h3 := (List.getElem?_eq_some_iff.1 hr).1
    simp only [List.length_map, List.length_take] at h1
    omega
  obtain ⟨y, hy, hpos⟩ := hs.rdf r hrm
  rw [hx] at hy
  injection hy with hy
  subst hy
  have hfit := h.fits hs (m := S'.held ++ [img l r.f]) fun z hz => by
    rcases List.mem_append.1 hz with hz | hz
    · exact h.held z hz
    · simp at hz; subst hz; exact List.mem_map.2 ⟨_, img_mem hk, rfl⟩
  obtain ⟨h1, h2, h3⟩ := h.st.rideP (x := ⟨A, c', x.b⟩) hx2 (hs.rnames r hrm) hlt hpos hfit hch hb hbn hrow hrb
  have hov : ¬ foot c S' ov := h.ovf
  have htake : S.rd.take (k + 1) = S.rd.take k ++ [r] := by rw [List.take_add_one, hr]; rfl
  exact {
    st := h1
    bov := h.bov.chg h2 h.ovf
    mom := h.mom.chg h2 h.omf
    ovf := fun hf => h.ovf (h3 _ hf h.bov.lt)
    omf := fun hf => h.omf (h3 _ hf h.mom.lt)
    lo := h.lo
    kn := h.kn
    vn := h.vn
    kh := h.kh
    vf := h.vf
    dir := h.dir
    dk := h.dk
    rd := by
      rw [htake, List.map_append]
      unfold Sto.rideP
      simp only [List.map_append, h.rd]
      rfl
    rk := fun q hq => by
      rw [htake] at hq
      rcases List.mem_append.1 hq with hq | hq
      · exact h.rk q hq
      · simp at hq; subst hq; exact hk
    cap := h.cap
    chg := h.chg.step h2 fun b hb hf => by have := h.st.low b hf; omega }
end
end Go.Proofs.Ytebcomijknffmaa
