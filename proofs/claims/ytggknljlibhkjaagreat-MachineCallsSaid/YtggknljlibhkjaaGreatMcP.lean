import Derived.Test.YtggknljlibhkjaaGreatMcO
set_option linter.unusedSimpArgs false
set_option linter.unusedVariables false
namespace Go.Proofs.YtggknljlibhkjaaGreat
open Go Go.RowKit
def Mc.next (d : Mc) : Mc :=
 if d.kind ≠ 0 then d
 else if d.n ≤ 4 * d.c.pc.toNat then { d with kind := 6, code := 0 }
 else Mc.act { d with c := d.ev.1 } d.ev.2 d.ev.2.place.toNat d.ev.2.value.toNat d.ev.2.reg.toNat
def Mc.alone (d : Mc) : Prop := d.kind = 0 → 4 * d.c.pc.toNat < d.n → d.ev.2.kind = 4 → d.ev.2.n < 18 ∨ 28 < d.ev.2.n
section
variable {W W' : World} {p mb s mm : Nat} {d : Mc}
set_option maxRecDepth 100000 in
theorem next_c (h : MAt W p mb s mm d) (hd : d.Ok) (hh : d.heap ≤ d.n) (ha : d.alone) : Calls Tryz.prog 15 #[.pointer (some ⟨p, 0, none⟩)] W (MPost p mb s mm (.bool (decide (d.next.kind = 0))) d.next W) := by
 by_cases hk : d.kind = 0
 ·by_cases hp : 4 * d.c.pc.toNat < d.n
  ·have hpn : d.c.pc = (d.c.pc.toNat : Int) := by have := hd.c.pc; omega
   refine (mstep_pre h hd hk hh (ha hk hp) d.c.pc.toNat hpn hp).mono fun e w' hq => ?_
   obtain ⟨rg, pl, vl, he, h1⟩ := hq
   have hn : d.next = Mc.act { d with c := d.ev.1 } d.ev.2 pl vl rg := by
    unfold Mc.next
    rw [if_neg (by simpa using hk), if_neg (by omega), he.place, he.value, he.reg]
    rfl
   rw [hn]
   exact h1
  ·have hn : d.next = { d with kind := 6, code := 0 } := by
    unfold Mc.next
    rw [if_neg (by simpa using hk), if_pos (by omega)]
   rw [hn]
   have HT := Go.Lib.hid (mthere_c h)
   have HE := Go.Lib.hid (fun k => mend_c (h.quiet ((Chg.refl NoB W).drewN k)) 6 0)
   obtain ⟨k21, k22, k23, k24, k25, k26, k27⟩ := h.cells
   have hpc := hd.c.pc
   have hnb := hd.n.2.1
   have hb : decide ((d.n : Int) ≤ d.c.pc * 4) = true := by simp; omega
   rw [hk] at k25
   clear h hn hp ha hd
   go_enter Tryz.func15, Tryz.ntmps15
   go_wp2_with fail
   refine HT.out.mono ?_
   rintro e w1 ⟨rfl, rfl⟩
   go_wp2_with fail
   go_quiet (fail)
   go_wp2_with fail
   refine (HE.out _).mono ?_
   rintro e w1 ⟨rfl, h1, h2⟩
   have H := Go.Lib.hid (And.intro h1 ((show Chg (memF p mb) W _ from (Chg.refl _ W).drewN _).trans h2))
   clear h1 h2
   go_wp2_with fail
   go_ret
   exact ⟨rfl, H.out.1, H.out.2⟩
 ·have hn : d.next = d := by unfold Mc.next; rw [if_pos hk]
  rw [hn]
  have HT := Go.Lib.hid (mthere_c h)
  obtain ⟨k21, k22, k23, k24, k25, k26, k27⟩ := h.cells
  have hb : (d.kind != 0) = true := by simpa using hk
  have hb2 : decide (d.kind = 0) = false := by simpa using hk
  rw [hb2]
  have H := Go.Lib.hid h
  clear h hn ha hd hk hb2
  generalize d.kind = k at *
  go_enter Tryz.func15, Tryz.ntmps15
  go_wp2_with fail
  refine HT.out.mono ?_
  rintro e w1 ⟨rfl, rfl⟩
  go_wp2_with fail
  go_ret
  exact ⟨rfl, H.out, Chg.refl _ _⟩
theorem set_ok {c : Cp} (hc : c.Ok) (i : Nat) {x : Int} (h0 : 0 ≤ x ∧ x < 4294967296) : (c.set i x).Ok :=
 ⟨fun k => by show 0 ≤ upd c.R i x k ∧ upd c.R i x k < 4294967296; unfold upd; split; exact h0; exact hc.r k, hc.h, hc.pc⟩
theorem upd_bd {M : Nat → Int} (h : ∀ i, 0 ≤ M i ∧ M i < 256) (i : Nat) {x : Int} (hx : 0 ≤ x ∧ x < 256) : ∀ k, 0 ≤ upd M i x k ∧ upd M i x k < 256 := fun k => by
 unfold upd
 split
 ·exact hx
 ·exact h k
theorem newF_ok (hd : d.Ok) (hh : d.heap ≤ d.n) (a : Nat) : (newF d a).Ok ∧ (newF d a).heap ≤ (newF d a).n := by
 unfold newF
 split
 ·exact ⟨⟨hd.c, hd.m, hd.n, hd.heap⟩, hh⟩
 ·rename_i hc
  have h1 : topOf d a ≤ d.n := by omega
  have h2 := hd.n
  refine ⟨⟨⟨fun k => ?_, hd.c.h, hd.c.pc⟩, fun i => ?_, hd.n, by show topOf d a < 4294967296; omega⟩, h1⟩
  ·show 0 ≤ upd d.c.R 0 d.heap k ∧ upd d.c.R 0 d.heap k < 4294967296
   have := hd.heap
   unfold upd
   split
   ·omega
   ·exact hd.c.r k
  ·show 0 ≤ clr d.M d.heap (topOf d a) i ∧ clr d.M d.heap (topOf d a) i < 256
   unfold clr
   split
   ·omega
   ·exact hd.m i
theorem next_ok (hd : d.Ok) (hh : d.heap ≤ d.n) : d.next.Ok ∧ d.next.heap ≤ d.next.n := by
 unfold Mc.next
 split
 ·exact ⟨hd, hh⟩
 ·split
  ·exact ⟨⟨hd.c, hd.m, hd.n, hd.heap⟩, hh⟩
  ·have hs := stepF_ok hd.c (wordAt_bd hd.m (4 * d.c.pc.toNat)).1 (wordAt_bd hd.m (4 * d.c.pc.toNat)).2
   change d.ev.1.Ok ∧ ∃ rg pl vl, EvOk d.ev.2 rg pl vl at hs
   obtain ⟨hc, rg, pl, vl, he⟩ := hs
   generalize d.ev = ce at *
   obtain ⟨c', e⟩ := ce
   simp only at *
   have h1 : ({ d with c := c' } : Mc).Ok := ⟨hc, hd.m, hd.n, hd.heap⟩
   have h2 : ({ d with c := c' } : Mc).heap ≤ ({ d with c := c' } : Mc).n := hh
   rw [he.place, he.value, he.reg]
   simp only [Int.toNat_natCast]
   generalize ({ d with c := c' } : Mc) = d1 at *
   have hv := he.vl
   unfold Mc.act
   split
   ·split
    ·refine ⟨⟨set_ok h1.c _ ?_, h1.m, h1.n, h1.heap⟩, h2⟩
     split
     ·have := h1.m pl; omega
     ·exact wordAt_bd h1.m pl
    ·exact ⟨⟨h1.c, h1.m, h1.n, h1.heap⟩, h2⟩
   ·split
    ·split
     ·exact ⟨⟨h1.c, h1.m, h1.n, h1.heap⟩, h2⟩
     ·split
      ·refine ⟨⟨h1.c, ?_, h1.n, h1.heap⟩, h2⟩
       show ∀ i, 0 ≤ (if e.byte = true then upd d1.M pl ((vl : Int) % 256) else putWord d1.M pl vl) i ∧ (if e.byte = true then upd d1.M pl ((vl : Int) % 256) else putWord d1.M pl vl) i < 256
       split
       ·exact upd_bd h1.m pl (by omega)
       ·unfold putWord
        exact upd_bd (upd_bd (upd_bd (upd_bd h1.m _ (by omega)) _ (by omega)) _ (by omega)) _ (by omega)
      ·exact ⟨⟨h1.c, h1.m, h1.n, h1.heap⟩, h2⟩
    ·split
     ·exact ⟨⟨h1.c, h1.m, h1.n, h1.heap⟩, h2⟩
     ·split
      ·split
       ·exact ⟨⟨h1.c, h1.m, h1.n, h1.heap⟩, h2⟩
       ·split
        ·exact newF_ok h1 h2 _
        ·exact ⟨⟨h1.c, h1.m, h1.n, h1.heap⟩, h2⟩
      ·split
       ·exact ⟨⟨h1.c, h1.m, h1.n, h1.heap⟩, h2⟩
       ·exact ⟨h1, h2⟩
end
end Go.Proofs.YtggknljlibhkjaaGreat
