/- What is proved: the store behind a write; the contract of put. Conditions: the memory holds a store, and the bytes that are handed in. -/
import Derived.Test.YtggknljlibhkjaaStoreN
import Derived.Test.YtggknljlibhkjaaOps2
import Derived.StillTailTactics
import Derived.Deep.RegionLaw
namespace Go.Proofs.Ytggknljlibhkjaa
open Go.RowKit
section
variable {base : Nat} {w w1 : World} {s : Nat} {S : Sto}

def Sto.setFile (S : Sto) (f : Nat) (x : Fl) : Sto := { S with fl := fun g => if g = f then some x else S.fl g }

/-- a store whose file f has other bytes, in a row of the call's own -/
theorem StoreAt.setFile (h : StoreAt base w s S) {f : Nat} {x y : Fl} (hx : S.fl f = some x) (hc : Chg (fun k => k = f ∨ x.v.ownBlock = some k) w w1) (hb : Blk w1 f 118 #[y.v]) (ho : w1.ownsRow base 5 1 y.v y.b.length (bv y.b))
    (hn : ∀ k, y.v.ownBlock = some k → x.v.ownBlock = some k ∨ w.heap.size ≤ k) (hpos : ∀ r ∈ S.rd, r.f = f → r.pos ≤ y.b.length) (hu : S.used + y.b.length ≤ S.cap + x.b.length) (hle : x.b.length ≤ y.b.length) (hin : f ∈ S.held) :
    StoreAt base w1 s (S.setFile f y) ∧ ∀ k, foot s (S.setFile f y) k → k < w.heap.size → foot s S k := by
  have hfb := h.flb _ _ hx
  have hfo := h.flo _ _ hx
  have hnb : ∀ {t : TypeId} {cs : Array Value} {g : Nat}, Blk w g t cs → t ≠ 118 → t ≠ 5 → ¬ (g = f ∨ x.v.ownBlock = some g) := fun hg h1 h2 he => he.elim (fun e => hg.ne_ hfb h1 e) (own_blk_ne hfo hg (Ne.symm h2))
  have hold : ∀ g z, (S.setFile f y).fl g = some z → (g = f ∧ z = y) ∨ (g ≠ f ∧ S.fl g = some z) := fun g z hg => by
    unfold Sto.setFile at hg
    simp only at hg
    split at hg
    · rename_i e; injection hg with hg; exact .inl ⟨e, hg.symm⟩
    · rename_i e; exact .inr ⟨e, hg⟩
  have hsome : ∀ g z, S.fl g = some z → ∃ z', (S.setFile f y).fl g = some z' := fun g z hg => by
    unfold Sto.setFile
    simp only
    split
    · exact ⟨y, rfl⟩
    · exact ⟨z, hg⟩
  have hft : ∀ k, foot s (S.setFile f y) k → k < w.heap.size → foot s S k := by
    intro k hk hlt
    rcases hk with hk | hk | hk | hk | ⟨g, z, hg, hk⟩
    · exact .inl hk
    · exact .inr (.inl hk)
    · exact .inr (.inr (.inl hk))
    · exact .inr (.inr (.inr (.inl hk)))
    · rcases hold g z hg with ⟨rfl, rfl⟩ | ⟨_, hg'⟩
      · rcases hk with rfl | hk
        · exact .inr (.inr (.inr (.inr ⟨k, x, hx, .inl rfl⟩)))
        · rcases hn k hk with h1 | h1
          · exact .inr (.inr (.inr (.inr ⟨g, x, hx, .inr h1⟩)))
          · omega
      · exact .inr (.inr (.inr (.inr ⟨g, z, hg', hk⟩)))
  have hbase : base ≤ w.heap.size := by have := h.low s (.inl rfl); have := h.blk.lt; omega
  refine ⟨?_, hft⟩
  exact {
    blk := h.blk.chg hc (hnb h.blk (by decide) (by decide))
    map := h.map.chg hc (fun he => he.elim (fun e => h.map.blk_ne hfb e) (h.map.own_ne hfo))
    row := own_chg h.row hc (fun k hk he => he.elim (fun e => by subst e; exact own_blk_ne h.row hfb (by decide) hk) (fun he => own_own_ne hfo h.row (by decide) he hk))
    rdb := fun r hr => (h.rdb r hr).chg hc (hnb (h.rdb r hr) (by decide) (by decide))
    rdn := h.rdn
    rdf := fun r hr => by
      obtain ⟨z, hz, hp⟩ := h.rdf r hr
      by_cases e : r.f = f
      · exact ⟨y, by simp [Sto.setFile, e], hpos r hr e⟩
      · exact ⟨z, by simp [Sto.setFile, e, hz], hp⟩
    dirf := fun e he => by
      obtain ⟨z, hz⟩ := h.dirf e he
      exact hsome _ _ hz
    flb := fun g z hg => by
      rcases hold g z hg with ⟨rfl, rfl⟩ | ⟨hgf, hg'⟩
      · exact hb
      · refine (h.flb g z hg').chg hc (fun he => he.elim hgf (own_blk_ne hfo (h.flb g z hg') (by decide)))
    flo := fun g z hg => by
      rcases hold g z hg with ⟨rfl, rfl⟩ | ⟨hgf, hg'⟩
      · exact ho
      · exact own_chg (h.flo g z hg') hc (fun k hk he => he.elim (fun e => by subst e; exact own_blk_ne (h.flo g z hg') hfb (by decide) hk) (fun he => h.sep f g x z k hx hg' (Ne.symm hgf) he hk))
    sep := fun a b p q k ha hb' hab hk hk' => by
      rcases hold a p ha with ⟨rfl, rfl⟩ | ⟨ha1, ha'⟩ <;> rcases hold b q hb' with ⟨rfl, rfl⟩ | ⟨hb1, hb''⟩
      · exact hab rfl
      · rcases hn k hk with h1 | h1
        · exact h.sep a b x q k hx hb'' hab h1 hk'
        · have := ((h.flo _ _ hb'').lt k hk').2; omega
      · rcases hn k hk' with h1 | h1
        · exact h.sep a b p x k ha' hx hab hk h1
        · have := ((h.flo _ _ ha').lt k hk).2; omega
      · exact h.sep a b p q k ha' hb'' hab hk hk'
    low := fun k hk => by
      rcases Nat.lt_or_ge k w.heap.size with hlt | hge
      · exact h.low k (hft k hk hlt)
      · omega
    keys := h.keys
    dnames := h.dnames
    rnames := h.rnames
    small := h.small
    fits := by
      have e1 : (S.setFile f y).held = S.held := rfl
      have hd := nodup_dedup S.held
      obtain ⟨m1, m2, hm⟩ := List.append_of_mem (mem_dedup.2 hin)
      have hlf : S.len f = x.b.length := by simp [Sto.len, hx]
      have hlf' : (S.setFile f y).len f = y.b.length := by simp [Sto.len, Sto.setFile]
      have hrest : ∀ g, g ≠ f → (S.setFile f y).len g = S.len g := fun g hg => by simp [Sto.len, Sto.setFile, hg]
      have hd2 := hd
      rw [hm, List.nodup_append] at hd2
      obtain ⟨_, hn2, hn3⟩ := hd2
      have c1 : sumOf (S.setFile f y).len m1 = sumOf S.len m1 := sumOf_congr (fun g hg => hrest g (fun e => by subst e; exact hn3 g hg g (by simp) rfl))
      have c2 : sumOf (S.setFile f y).len m2 = sumOf S.len m2 := sumOf_congr (fun g hg => hrest g (fun e => by subst e; exact (List.nodup_cons.1 hn2).1 hg))
      have u1 : S.used = sumOf S.len m1 + (x.b.length + sumOf S.len m2) := by unfold Sto.used; rw [hm, sumOf_append, sumOf_cons, hlf]
      have u2 : (S.setFile f y).used = sumOf S.len m1 + (y.b.length + sumOf S.len m2) := by unfold Sto.used; rw [e1, hm, sumOf_append, sumOf_cons, hlf', c1, c2]
      have e2 : (S.setFile f y).cap = S.cap := rfl
      rw [u2, e2]
      omega
    nrd := h.nrd
    ndir := h.ndir }
end
end Go.Proofs.Ytggknljlibhkjaa
