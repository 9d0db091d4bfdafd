/- What is proved: laws of two operations of no program: an append of made bytes onto a row of the call's own; a copy into a row of the call's own. Conditions: as each theorem says. -/
import Derived.Test.YteleglkoagnmcaaOps
import Derived.Laws.CopyOwn
import Derived.Laws.CopyRow
set_option linter.unusedSimpArgs false
set_option linter.unusedVariables false
namespace Go.Proofs.Yteleglkoagnmcaa
open Go.RowKit

section
variable {P : Program} (w : World)

theorem zeroCells_one (z : Value) (hz : z.cells = #[z]) (n : Nat) : (Builtin.zeroCells z.cells n).toList = List.replicate n z := by
  rw [hz]
  apply List.ext_getElem
  · simp [Builtin.zeroCells]
  · intro i h1 h2
    simp [Builtin.zeroCells, Nat.mod_one]

theorem run_app_zeros (base : Nat) (t tn ty e : TypeId) (i : TypeInfo) (z : Value) (kn : IntKind) (ht : P.underlying t = some (.slice e)) (htn : P.underlying tn = some (.int kn)) (hi : P.info? e = some i) (hz : i.zero = some z)
    (hsize : i.size = 1) (hby : i.bytes = 1) (hzc : z.cells = #[z]) (hz1 : z.oneCell' = true)
    (v : Value) (n : Nat) (xs : List Value) (hown : w.ownsRow base e 1 v n xs) (kq : IntKind) (m : Nat) (hm : 0 < m) (hsmall : n + m ≤ 140737488355328) (hbase : base ≤ w.heap.size) :
    ∃ v' w', (Builtin.append_ #[t, tn] ty #[v, .int kq m]).run P w = .ok v' w' ∧ w'.ownsRow base e 1 v' (n + m) (xs ++ List.replicate m z) ∧ w.grownBy w' v.ownBlock ∧
      (v'.ownBlock = v.ownBlock ∨ v'.ownBlock = some w.heap.size) := by
  have hzs : z.cells.size = 1 := by rw [hzc]; rfl
  have hlenx : xs.length = n := by have := hown.1; omega
  have hlen : (xs ++ List.replicate m z).length = n + m := by simp [hlenx]
  have grown : ∀ (old : Nat), old < n + m → ∀ (olds : List Value), olds = xs → ∀ (row : Option Nat),
      (w.drew.alloc (.cells (olds.toArray ++ Builtin.zeroCells z.cells m ++ Builtin.zeroCells z.cells (grownCap w (n + m) old e - (n + m))) e)).ownsRow base e 1
        (.slice (some ⟨w.heap.size, 0, none⟩) (n + m) (grownCap w (n + m) old e)) (n + m) (xs ++ List.replicate m z) ∧
      w.grownBy (w.drew.alloc (.cells (olds.toArray ++ Builtin.zeroCells z.cells m ++ Builtin.zeroCells z.cells (grownCap w (n + m) old e - (n + m))) e)) row := by
    intro old ho olds hol row
    subst hol
    have hge := grownCap_ge w (n + m) old e
    have hcm : grownCap w (n + m) old e ≤ maxLen := grownCap_le_maxLen w (n + m) old e (by unfold maxLen; omega)
    refine ⟨⟨by rw [hlen]; omega, .inr ⟨w.heap.size, _, _, rfl, hbase, heap_alloc_new w.drew _, hge, hcm, ?_, ?_⟩⟩, ⟨rfl, rfl, rfl, by simp, fun k hk _ => Below.heap_alloc w.drew _ k hk⟩⟩
    · simp only [Array.size_append, List.size_toArray, size_zeroCells, hzs, hlenx]
      omega
    · simp only [Array.toList_append, zeroCells_one z hzc]
      rw [show (n + m) * 1 = (olds ++ List.replicate m z).length by rw [hlen]; omega]
      exact List.take_left
  rcases hown.2 with ⟨rfl, rfl⟩ | ⟨g, cap, cur, rfl, hbg, hg, hnc, hcm, hcs, htake⟩
  · have hx : xs = [] := List.eq_nil_of_length_eq_zero hlenx
    have hr := Lib.run_append_grow_zeros (P := P) w t tn ty e i z kq kn ht htn hi hz none 0 0 [] (by simp [Builtin.firstCells]) m hm (by omega) (by omega) (by omega) (by rw [hby]; omega) (by
      rw [hby]; exact growslice_fits (by omega) (by omega))
    have hgr := grown 0 (by omega) [] hx.symm (Value.ownBlock (.slice none 0 0))
    exact ⟨_, _, hr, hgr.1, hgr.2, .inr rfl⟩
  · by_cases hroom : n + m ≤ cap
    · have hw : IntKind.i64.wrap (m : Int) = m := by rw [IntKind.wrap_i64]; omega
      have hneg : ¬ ((m : Int) < 0) := by omega
      have h48i : ¬ (281474976710656 < (m : Int) * (i.bytes : Int)) := by rw [hby]; omega
      have hst := run_storeCells_at P g n e (List.replicate m z) 0 cur w hg (by simp; omega) (fun u hu => by rw [(List.mem_replicate.1 hu).2]; exact hz1)
      simp only [Nat.add_zero] at hst
      have hz0 := zeroCells_one z hzc m
      refine ⟨.slice (some ⟨g, 0, none⟩) (n + m) cap, w.setRow g (cur.toList.take n ++ List.replicate m z ++ cur.toList.drop (n + (List.replicate m z).length)).toArray, ?_, ⟨by rw [hlen]; omega, .inr ⟨g, cap, _, rfl, hbg, setRow_heap w g cur _ e _ hg, hroom, hcm, ?_, ?_⟩⟩, ⟨rfl, rfl, rfl, by simp, fun k _ hk => setRow_other w g k _ (fun e => hk (by simp [Value.ownBlock, e]))⟩, .inl rfl⟩
      · simp [Builtin.append_, run_underlying ht, run_underlying htn, sizeOf, typeInfo, zeroValue, hi, hz, asInt, asIntOf, hw, hneg, h48i, hroom, hsize, Addr.add_lit, hz0, hst]
        intro h0
        omega
      · simp only [List.size_toArray, List.length_append, List.length_take, List.length_drop, Array.length_toList, List.length_replicate]
        omega
      · have ht' : cur.toList.take n = xs := by rw [← htake]; congr 1; omega
        rw [ht', show (n + m) * 1 = (xs ++ List.replicate m z).length by rw [hlen]; omega]
        exact List.take_left
    · have holds : ∀ j u, xs[j]? = some u → w.drew.cell? ((⟨g, 0, none⟩ : Addr).add j) = some u := hown.cells (g := g) rfl
      have hf := run_firstCells_some (P := P) w.drew i.size n ⟨g, 0, none⟩ n cap xs (by rw [hsize, hlenx]; omega) holds
      have hr := Lib.run_append_grow_zeros (P := P) w t tn ty e i z kq kn ht htn hi hz (some ⟨g, 0, none⟩) n cap xs hf m hm (by omega) (by omega) (by omega) (by rw [hby]; omega) (by
        rw [hby]; exact growslice_fits (by omega) (by omega))
      have hgr := grown cap (by omega) xs rfl (Value.ownBlock (.slice (some ⟨g, 0, none⟩) n cap))
      exact ⟨_, _, hr, hgr.1, hgr.2, .inr rfl⟩

theorem step_app_zeros {ops : Array Oper} {o : Oper} {a : Act} {K : Act → World → Prop} {Q : Exit → Act → World → Prop} {E : Prop} (hgd : o.guard = none) (s x : Operand) (t tn : TypeId)
    (ho : o.op = .call { callee := .builtin .append, args := #[s, x], argTypes := #[t, tn] })
    (base : Nat) (e : TypeId) (i : TypeInfo) (z : Value) (kn : IntKind) (ht : P.underlying t = some (.slice e)) (htn : P.underlying tn = some (.int kn)) (hi : P.info? e = some i) (hz : i.zero = some z)
    (hsize : i.size = 1) (hby : i.bytes = 1) (hzc : z.cells = #[z]) (hz1 : z.oneCell' = true)
    (v : Value) (n : Nat) (xs : List Value) (hs : a.eval s = v) (hown : w.ownsRow base e 1 v n xs) (kq : IntKind) (m : Nat) (hx : a.eval x = .int kq m) (hm : 0 < m) (hsmall : n + m ≤ 140737488355328) (hbase : base ≤ w.heap.size)
    (h : ∀ v' w', w'.ownsRow base e 1 v' (n + m) (xs ++ List.replicate m z) → w.grownBy w' v.ownBlock → (v'.ownBlock = v.ownBlock ∨ v'.ownBlock = some w.heap.size) → K (a.put o.dst v') w') :
    if Region.wanted o (yielded ops a.tmps) = true then Oper.wp P o a w K Q else E := by
  have hw : Region.wanted o (yielded ops a.tmps) = true := by simp [Region.wanted, hgd]
  rw [if_pos hw]
  obtain ⟨v', w', hrun, h2, h3, h4⟩ := run_app_zeros (P := P) w base t tn o.type e i z kn ht htn hi hz hsize hby hzc hz1 v n xs hown kq m hm hsmall hbase
  unfold Oper.wp execOp
  simp only [ho, resolve, invoke, builtin, Sem.run_bind, Sem.run_pure, Result.andThen_ok, List.map_toArray, List.map_cons, List.map_nil, hs, hx, hrun]
  exact h v' w' h2 h3 h4

/-- cells laid over others -/
def over {α : Type} (xs : List α) (off : Nat) (cs : List α) : List α := xs.take off ++ cs ++ xs.drop (off + cs.length)
theorem over_length {α : Type} {xs : List α} {off : Nat} {cs : List α} (h : off + cs.length ≤ xs.length) : (over xs off cs).length = xs.length := by simp [over]; omega
theorem over_map {α β : Type} (f : α → β) (xs : List α) (off : Nat) (cs : List α) : (over xs off cs).map f = over (xs.map f) off (cs.map f) := by simp [over, List.map_take, List.map_drop]

theorem take_over {α : Type} {cur xs cs : List α} {n off m : Nat} (ht : cur.take n = xs) (hm : cs.length = m) (hfit : off + m ≤ n) (hn : n ≤ cur.length) : (cur.take off ++ (cs ++ cur.drop (off + m))).take n = over xs off cs := by
  obtain ⟨rest, hr⟩ : ∃ rest, cur = xs ++ rest := ⟨cur.drop n, by rw [← ht, List.take_append_drop]⟩
  have hl : xs.length = n := by rw [← ht, List.length_take]; omega
  have e1 : cur.take off = xs.take off := by rw [hr, List.take_append_of_le_length (by omega)]
  have e2 : cur.drop (off + m) = xs.drop (off + m) ++ rest := by rw [hr, List.drop_append_of_le_length (by omega)]
  have e3 : xs.take off ++ (cs ++ (xs.drop (off + m) ++ rest)) = over xs off cs ++ rest := by unfold over; rw [hm]; simp only [List.append_assoc]
  have e4 : (over xs off cs).length = n := by rw [over_length (by omega), hl]
  rw [e1, e2, e3, ← e4]
  exact List.take_left

/-- 'copy(x[off:], y)' into a row of the call's own that has room for it. -/
theorem wpList_copy_over {ops : Array Oper} {rest : List Oper} {o : Oper} {a : Act} {Q : Exit → Act → World → Prop} (hgd : o.guard = none) (d s : Operand) (dT sT : TypeId)
    (ho : o.op = .call { callee := .builtin .copy, args := #[d, s], argTypes := #[dT, sT] }) (e : TypeId) (hu : P.underlying dT = some (.slice e)) (hsz : (P.info? e).map (·.size) = some 1)
    (base : Nat) (A : Option Addr) (n c : Nat) (xs : List Value) (hown : w.ownsRow base e 1 (.slice A n c) n xs) (off : Nat) (dp sp : Option Addr) (dCap sCap m : Nat) (cs : List Value) (hm : cs.length = m)
    (hd : a.eval d = .slice dp (n - off) dCap) (hs : a.eval s = .slice sp m sCap) (hfit : off + m ≤ n) (hdp : 0 < m → dp = A.map (·.add off)) (hsp : CellsAt w sp cs) (h1 : ∀ v ∈ cs, v.oneCell' = true)
    (h : ∀ w', w'.ownsRow base e 1 (.slice A n c) n (over xs off cs) → Chg (fun k => (Value.slice A n c).ownBlock = some k) w w' → w'.heap.size = w.heap.size → wpList P ops Q rest (a.put o.dst (goInt m)) w') : wpList P ops Q (o :: rest) a w := by
  have hlenx : xs.length = n := by have := hown.1; omega
  rcases Nat.eq_zero_or_pos m with h0 | h0
  · subst h0
    have hn : cs = [] := List.eq_nil_of_length_eq_zero hm
    subst hn
    refine wpList_copy_nothing hgd d s dT sT ho e hu hsz dp sp (n - off) dCap 0 sCap hd hs (by simp) (h w ?_ (Chg.refl _ _) rfl)
    have ho' : over xs off [] = xs := by simp [over]
    rw [ho']; exact hown
  · obtain ⟨ad, rfl, hc⟩ := hsp (by omega)
    rcases hown.2 with ⟨_, h0'⟩ | ⟨g, cap, cur, hv, hbg, hg, hnc, hcm, hcs, htake⟩
    · omega
    · injection hv with hA hn' hc'
      subst hA hc'
      have hdp' : dp = some ⟨g, off, none⟩ := by rw [hdp h0]; simp [Addr.add_lit]
      subst hdp'
      refine wpList_copy_own hgd d s dT sT ho e hu hsz g off (n - off) dCap ad m sCap hd hs cur e hg cs (by rw [hm]; exact (Nat.min_eq_left (by omega)).symm) hc (by omega) h1 ?_
      rw [hm]
      refine h _ ⟨?_, .inr ⟨g, c, _, rfl, hbg, setRow_heap w g cur _ e _ hg, hnc, hcm, ?_, ?_⟩⟩ ⟨rfl, rfl, rfl, by simp, fun k hk hn => setRow_other w g k _ (fun e => hn (by simp [Value.ownBlock, e]))⟩ (by simp)
      · rw [over_length (by omega)]; omega
      · simp; omega
      · have ht' : cur.toList.take n = xs := by rw [← htake]; congr 1; omega
        rw [Nat.mul_one]
        exact take_over ht' hm hfit (by simp; omega)
end
end Go.Proofs.Yteleglkoagnmcaa
