/- What is proved: LinkMeans' plain law: where each module of an image stands, what it imports, its code, its call. Conditions: none (plain laws). · What is proved: objects that came in lie in memory as a list of objects. Conditions: none. · What is proved: the contract of the reference's Much: more than 8 objects are much. Conditions: the memory holds the objects. · What is proved: which words of an object are filled in, as the statements ask; an image in memory, as it is read. Conditions: the memory holds the object. -/
import Derived.Test.YteleglkoagnmcaaLlB
import Derived.Test.YteleglkoagnmcaaLkD
import Derived.Deep.Slices
import Derived.Deep.Fields
import Derived.ChangeSame
import Derived.ProofKit
import Derived.OpenShut
import Derived.Test.YteleglkoagnmcaaGLkA
import Derived.Lib.MinMax
import Derived.IntWalk
set_option linter.unusedSimpArgs false
set_option linter.unusedVariables false
namespace Go.Proofs.Yteleglkoagnmcaa
open Go Go.RowKit
theorem rep_mem {α : Type} {f : Rdr → α × Rdr} {p : α → Prop} (h : ∀ r, p (f r).1) : ∀ (n : Nat) (r : Rdr), ∀ x ∈ (rep f n r).1, p x
  | 0, r, x, hx => by simp [rep] at hx
  | n + 1, r, x, hx => by
    unfold rep at hx
    rcases List.mem_append.1 hx with hx | hx
    · exact rep_mem h n r x hx
    · rw [List.mem_singleton.1 hx]
      exact h _
theorem readO_num (r : Rdr) : (readO r).1.key < 4294967296 ∧ ∀ x ∈ (readO r).1.code, x < 4294967296 := by
  simp only [readO]
  exact ⟨wordR_lt _, rep_mem (p := fun x => x < 4294967296) wordR_lt _ _⟩
theorem ofO_num {b : List UInt8} {o : Ob} (h : ofO b = some o) : mayO o = true ∧ o.key < 4294967296 ∧ ∀ x ∈ o.code, x < 4294967296 := by
  have hr := readO_num (someR 2 (b, false)).2
  unfold ofO at h
  split at h
  · simp only at h
    generalize readO (someR 2 (b, false)).2 = q at h hr
    split at h
    · rename_i hq
      injection h with h
      subst h
      exact ⟨hq.2.2, hr⟩
    · cases h
  · cases h
theorem ldO_num {get : ByteArray → Option (List UInt8)} {nm : ByteArray} {o : Ob} (h : ldO get nm = .inr o) : mayO o = true ∧ o.key < 4294967296 ∧ ∀ x ∈ o.code, x < 4294967296 := by
  unfold ldO at h
  split at h
  · split at h
    · cases h
    · split at h
      · cases h
      · rename_i q hq
        split at h
        · injection h with h
          rw [← h]
          exact ofO_num hq
        · cases h
  · cases h
/-- what is loaded may be laid -/
theorem loaded_laid' {v : V} {nm : ByteArray} {d : List Ob} (h : loadedO (getV v) nm = .inr d) : Laid d :=
  loaded_laid h fun o ho => by
    have hl := ldAll_fit 201 [] [] nm d (fit_nil _) (by simp) h
    obtain ⟨i, hi⟩ := List.mem_iff_getElem?.1 ho
    exact (ldO_num (hl.fit.good i o hi).1).2
theorem ldImps_ne {v : V} {busy : List ByteArray} {ld : List Ob → ByteArray → Int ⊕ List Ob} (h : ∀ d nm, nm ∉ busy → ld d nm ≠ .inl 0) : ∀ (l : List (ByteArray × Nat)) (d : List Ob), ldImps ld busy l d ≠ .inl 0
  | [], d, e => by
    unfold ldImps at e
    cases e
  | i :: l, d, e => by
    unfold ldImps at e
    split at e
    · injection e with e
      omega
    · rename_i hb
      split at e
      · rename_i er he
        injection e with e
        subst e
        exact h d i.1 (fun hm => hb (List.any_eq_true.2 ⟨i.1, hm, decide_eq_true rfl⟩)) he
      · split at e
        · exact ldImps_ne (v := v) h l _ e
        · injection e with e
          omega
/-- no error is 0 -/
theorem ldAll_ne {v : V} : ∀ (n : Nat) (busy : List ByteArray) (done : List Ob) (nm : ByteArray), busy.Nodup → (∀ b ∈ busy, ∃ x, lookD (fileO b) v.dir = some x) → nm ∉ busy → v.dir.length < n + busy.length → ldAll (getV v) n busy done nm ≠ .inl 0
  | 0, busy, done, nm, hd, hf, hn, hlt, e => by
    have h1 : (busy.map fileO).length ≤ (v.dir.map (·.1)).length := nodup_le _ _ (map_nodup (fun a b e => file_inj e) hd) (fun x hx => by
      obtain ⟨y, hy, rfl⟩ := List.mem_map.1 hx
      obtain ⟨k, hk⟩ := hf y hy
      exact lookD_mem_keys hk)
    simp at h1
    omega
  | n + 1, busy, done, nm, hd, hf, hn, hlt, e => by
    unfold ldAll at e
    split at e
    · cases e
    · split at e
      · rename_i er he
        injection e with e
        exact ldO_ne he e
      · rename_i o ho
        split at e
        · rename_i er he
          injection e with e
          subst e
          exact ldImps_ne (v := v) (fun d i hi => ldAll_ne n (nm :: busy) d i (List.nodup_cons.2 ⟨hn, hd⟩) (fun b hb => by
            rcases List.mem_cons.1 hb with rfl | hb
            · exact (ldO_ok ho).2.2
            · exact hf b hb) hi (by simp; omega)) _ _ he
        · cases e
theorem loadedO_ne {v : V} (h : v.dir.length ≤ 200) {nm : ByteArray} {e : Int} (he : loadedO (getV v) nm = .inl e) : e ≠ 0 := fun h0 =>
  ldAll_ne (v := v) 201 [] [] nm List.nodup_nil (by simp) (by simp) (by simp; omega) (by rw [← h0]; exact he)
theorem imgP_err' {d : List Ob} {e : Int} (h : imgP haltW d = .inl e) : e ≠ 0 := by
  unfold imgP at h
  split at h
  · injection h with h
    omega
  · split at h
    · injection h with h
      omega
    · cases h
theorem linkO_ne {v : V} (h : v.dir.length ≤ 200) {nm : ByteArray} {e : Int} (he : linkO (getV v) nm = .inl e) : e ≠ 0 := by
  unfold linkO at he
  split at he
  · rename_i er hr
    injection he with he
    subst he
    exact loadedO_ne h hr
  · exact imgP_err' he
theorem linkO_inr {get : ByteArray → Option (List UInt8)} {nm : ByteArray} {i : Img} (h : linkO get nm = .inr i) : ∃ d, loadedO get nm = .inr d ∧ imgP haltW d = .inr i := by
  unfold linkO at h
  split at h
  · cases h
  · rename_i d hd
    exact ⟨d, hd, h⟩
/-- the last one that is loaded is the one that was asked for -/
theorem loaded_last {get : ByteArray → Option (List UInt8)} {nm : ByteArray} {d : List Ob} (h : loadedO get nm = .inr d) : ∃ m o, d = m ++ [o] ∧ o.name = nm :=
  (ldAll_fit 201 [] [] nm d (fit_nil _) (by simp) h).new rfl
/-- how a module of an image stands -/
structure StandsP (get : ByteArray → Option (List UInt8)) (i : Img) (k : Nat) (o : Ob) (p : Pl) : Prop where
  file : ldO get p.name = .inr o
  may : MayP o
  mod : i.mods[k]? = some p
  key : p.key = o.key
  name : o.name = p.name
  nm : p.name.size ≤ 15
  ents : p.ents.length = o.ents.length
  code : p.code + o.code.length ≤ i.words.length
  data : p.data / 4 + (o.vars.toNat + o.text.length) / 4 ≤ i.words.length
  imp : ∀ x ∈ o.imps, ∃ (j : Nat) (q : Pl), j < k ∧ i.mods[j]? = some q ∧ q.name = x.1 ∧ q.key = x.2 ∧ ∀ (m : Nat) r, i.mods[m]? = some r → r.name = x.1 → m = j
  word : ∀ j, j < o.code.length → (∀ f ∈ o.fixs, (j : Int) ≠ f.1 ∧ (f.2.2 = 0 → (j : Int) ≠ f.1 + 1)) → i.words[p.code + j]? = o.code[j]?
  jump : ∃ e : Nat, p.ents[0]? = some (e : Int) ∧ k + 1 ≤ e ∧ e < 16777216 ∧ i.words[k]? = some (4143972352 + (e - k - 1))
theorem stands_of {v : V} {nm : ByteArray} {d : List Ob} {i : Img} (h : loadedO (getV v) nm = .inr d) (hi : imgP haltW d = .inr i) {k : Nat} {p : Pl} (hk : i.mods[k]? = some p) : ∃ o, StandsP (getV v) i k o p := by
  obtain ⟨ws, hI⟩ := imgP_inr hi
  have hL := loaded_laid' h
  have hG := (ldAll_fit 201 [] [] nm d (fit_nil _) (by simp) h).fit.good
  have hm := hI.mods
  rw [hm] at hk
  have hlt : k < d.length := by
    have := (List.getElem?_eq_some_iff.1 hk).1
    rw [placed_len] at this
    exact this
  obtain ⟨o, ho⟩ : ∃ o, d[k]? = some o := ⟨_, List.getElem?_eq_getElem hlt⟩
  rw [placed_get ho] at hk
  injection hk with hk
  subst hk
  have hmay := hL.may o (List.mem_of_getElem? ho)
  have hw := hI.wlen (by rfl)
  have hlen := hI.len (by rfl) hL
  have hnod : (i.mods.map (·.name)).Nodup := by rw [hm, placed_name]; exact hL.nod
  refine ⟨o, (hG k o ho).1, hmay, by rw [hm]; exact placed_get ho, rfl, rfl, ?_, ?_, ?_, ?_, ?_, ?_, ?_⟩
  · have h1 := hmay.im
    simp only [impsOk, objName, Bool.and_eq_true, decide_eq_true_eq] at h1
    exact h1.1.2.2
  · show (o.ents.map _).length = _
    rw [List.length_map]
  · have h1 := cAt_next ho
    have h2 := cAt_le d (k + 1)
    have h3 := dataEnd_ge d (d.length + 2 + cLen d)
    show cAt d k + _ ≤ _
    omega
  · have h1 := dataEnd_next ho (d.length + 2 + cLen d)
    show dAt d k / 4 + _ ≤ _
    unfold dAt
    rw [Nat.mul_div_cancel_left _ (by decide)]
    omega
  · intro x hx
    obtain ⟨j, q, h1, h2, h3, h4, _⟩ := hL.imp ho hx
    refine ⟨j, plOf q (cAt d j) (dAt d j), h1, by rw [hm]; exact placed_get h2, h3, h4, fun m r hr hrn => ?_⟩
    refine nod_inj hnod (x := x.1) (by rw [List.getElem?_map, hr]; exact congrArg some hrn) ?_
    rw [List.getElem?_map, hm, placed_get h2]
    exact congrArg some h3
  · intro j hj hf
    refine hI.code (by rfl) hL ho hj fun f hfm => ?_
    obtain ⟨m, hmf⟩ := List.mem_iff_getElem?.1 hfm
    have hfp := (hmay.fx m f hmf).a0
    obtain ⟨h1, h2⟩ := hf f hfm
    exact ⟨by omega, fun h0 => by have := h2 h0; omega⟩
  · have hj := hI.jump (by rfl) hL ho
    have he : 0 < o.ents.length := by have := hmay.e1; omega
    obtain ⟨x, hx⟩ : ∃ x, o.ents[0]? = some x := ⟨_, List.getElem?_eq_getElem he⟩
    obtain ⟨hx0, hx1⟩ := hmay.en x (List.mem_of_getElem? hx)
    have hpe := plOf_ent o (cAt d k) (dAt d k) 0 hx
    have hge := cAt_ge d k
    have hce := cAt_lt ho (j := x.toNat) (by omega)
    have hend := hI.end_le
    refine ⟨cAt d k + x.toNat, ?_, by omega, by omega, ?_⟩
    · rw [hpe]
      congr 1
      omega
    · rw [hj, List.getD_eq_getElem?_getD, hpe]
      unfold jumpW
      rw [Option.getD_some]
      congr 2
      omega
end Go.Proofs.Yteleglkoagnmcaa
set_option linter.unusedSimpArgs false
set_option linter.unusedVariables false
namespace Go.Proofs.Yteleglkoagnmcaa
open Go Go.RowKit Go.ChangeShapes Go.WideShapes Go.Deep
theorem list_of' {α : Type} {P : Nat → α → Prop} : ∀ n : Nat, (∀ i, i < n → ∃ x, P i x) → ∃ L : List α, L.length = n ∧ ∀ i x, L[i]? = some x → P i x
  | 0, _ => ⟨[], rfl, fun i x h => by simp at h⟩
  | n + 1, h => by
    obtain ⟨L, h1, h2⟩ := list_of' n fun i hi => h i (by omega)
    obtain ⟨x, hx⟩ := h n (by omega)
    refine ⟨L ++ [x], by simp [h1], fun i y hy => ?_⟩
    rcases Nat.lt_or_ge i n with hlt | hge
    · rw [List.getElem?_append_left (by omega)] at hy
      exact h2 i y hy
    · have hi : i < (L ++ [x]).length := (List.getElem?_eq_some_iff.1 hy).1
      have : i = n := by simp at hi; omega
      subst this
      rw [List.getElem?_append_right (by omega), h1, Nat.sub_self] at hy
      simp at hy
      subst hy
      exact hx
theorem add_add (a : Addr) (i j : Nat) : (a.add i).add j = a.add (i + j) := by
  unfold Addr.add
  by_cases hi : i = 0
  · subst hi
    simp
  · by_cases hj : j = 0
    · subst hj
      simp
    · rw [if_neg hi, if_neg hj, if_neg (by omega)]
      simp [Nat.add_assoc]
theorem flatm_get {α β : Type} {f : α → List β} {k : Nat} (hf : ∀ x, (f x).length = k) (hk : 0 < k) : ∀ (l : List α) (j : Nat) (u : β), (l.flatMap f)[j]? = some u → ∃ x, l[j / k]? = some x ∧ (f x)[j % k]? = some u
  | [], j, u, h => by simp at h
  | x :: l, j, u, h => by
    rw [List.flatMap_cons] at h
    rcases Nat.lt_or_ge j k with hlt | hge
    · rw [List.getElem?_append_left (by rw [hf]; exact hlt)] at h
      exact ⟨x, by rw [Nat.div_eq_of_lt hlt]; rfl, by rw [Nat.mod_eq_of_lt hlt]; exact h⟩
    · rw [List.getElem?_append_right (by rw [hf]; exact hge), hf] at h
      obtain ⟨y, h1, h2⟩ := flatm_get hf hk l (j - k) u h
      have e1 : j / k = (j - k) / k + 1 := by rw [← Nat.div_eq_sub_div hk hge]
      have e2 : j % k = (j - k) % k := (Nat.mod_eq_sub_mod hge)
      exact ⟨y, by rw [e1]; exact h1, by rw [e2]; exact h2⟩
section
variable {H : Type} {enc : TypeId × Value → H} {w : World} {base : Nat} {held : Bool}
/-- rows of things of k cells each -/
theorem open_rows {α : Type} {T E : TypeId} {k : Nat} {cells : α → List Value} {ok : α → Prop} (hu : Try.prog.underlying T = some (.slice E)) (hk : Try.prog.cellsOf E = k) (h0 : 0 < k) (hlen : ∀ y, (cells y).length = k)
    (hel : ∀ {fuel : Nat} {cs : List Value} {x : DataW H × List MemPlace}, DataW.trod enc Try.prog w base (fun _ => true) held fuel E cs = some x → ∃ y, cs = cells y ∧ ok y)
    {fuel : Nat} {v : Value} {x : DataW H × List MemPlace} (h : DataW.trod enc Try.prog w base (fun _ => true) held fuel T [v] = some x) :
    ∃ (A : Option Addr) (l : List α) (c : Nat), v = .slice A l.length c ∧ CellsAt w A (l.flatMap cells) ∧ (∀ y ∈ l, ok y) ∧ l.length ≤ c ∧ c ≤ maxLen := by
  rcases DataW.trod_slice hu h with ⟨hcs, _⟩ | ⟨a, len, cap, elems, rest, n, hn, hcs, _, _, hl, hm, hlen2, hel2, _, _⟩
  · simp only [List.cons.injEq, and_true] at hcs
    exact ⟨none, [], 0, hcs, fun h => by simp at h, by simp, Nat.le_refl _, Nat.zero_le _⟩
  · simp only [List.cons.injEq, and_true] at hcs
    have hN : ∀ i, i < len → ∃ y : α, w.cells? base (a.add (i * k)) k = some (cells y) ∧ ok y := fun i hi => by
      have h1 := hel2 i hi
      rw [hk] at h1
      have h2 : elems[i]? = some (elems[i]'(by omega)) := List.getElem?_eq_getElem (by omega)
      rw [h2, Option.bind_eq_some_iff] at h1
      obtain ⟨cs, hc, ht⟩ := h1
      obtain ⟨y, rfl, hy⟩ := hel ht
      exact ⟨y, hc, hy⟩
    obtain ⟨L, hL, hx⟩ := list_of' len hN
    subst hL
    refine ⟨some a, L, cap, hcs, fun hne => ⟨a, rfl, fun j u hj => ?_⟩, fun y hy => ?_, hl, hm⟩
    · obtain ⟨y, h1, h2⟩ := flatm_get hlen h0 L j u hj
      obtain ⟨hc, _⟩ := hx _ y h1
      obtain ⟨_, _, hat⟩ := World.cells?_some hc
      have := hat (j % k) (Nat.mod_lt _ h0)
      rw [h2] at this
      have e : (a.add (j / k * k)).add (j % k) = a.add j := by
        have hd : j / k * k + j % k = j := by rw [Nat.mul_comm]; exact Nat.div_add_mod j k
        rw [add_add, hd]
      rw [e] at this
      exact this
    · obtain ⟨i, hi⟩ := List.mem_iff_getElem?.1 hy
      exact (hx i y hi).2
theorem ints_row {k : IntKind} {v : Value} {T E : TypeId} {fuel : Nat} {x : DataW H × List MemPlace} (hu : Try.prog.underlying T = some (.slice E)) (he : Try.prog.underlying E = some (.int k)) (hc : Try.prog.cellsOf E = 1)
    (h : DataW.trod enc Try.prog w base (fun _ => true) held fuel T [v] = some x) :
    ∃ (A : Option Addr) (l : List Int) (c : Nat), v = .slice A l.length c ∧ CellsAt w A (l.map (Value.int k ·)) ∧ (∀ n ∈ l, (Lit.int k n).wf = true) ∧ (l.length ≤ c ∧ c ≤ maxLen) ∧ (A = none → l = [] ∧ c = 0) := by
  rcases open_ints hu he hc h with ⟨hcs, _⟩ | ⟨a, l, c, zs, hcs, _, hl, hm, hz, _, hcell, hwz⟩
  · simp only [List.cons.injEq, and_true] at hcs
    exact ⟨none, [], 0, hcs, fun h => by simp at h, by simp, ⟨Nat.le_refl _, Nat.zero_le _⟩, fun _ => ⟨rfl, rfl⟩⟩
  · simp only [List.cons.injEq, and_true] at hcs
    simp only [if_true] at hz
    have hlt : (zs.take l).length = l := by simp; omega
    refine ⟨some a, zs.take l, c, by rw [hlt]; exact hcs, fun hne => ⟨a, rfl, fun j u hj => ?_⟩, fun n hn => hwz n (List.mem_of_mem_take hn), ⟨by omega, hm⟩, fun h => by cases h⟩
    have hjl : j < l ∧ j < zs.length := by
      have := (List.getElem?_eq_some_iff.1 hj).1
      simp at this
      omega
    rw [hcell j hjl.2]
    have hg : zs.getD j 0 = zs[j]'hjl.2 := by simp [List.getD, List.getElem?_eq_getElem hjl.2]
    simp [hjl.1, List.getElem?_eq_getElem hjl.2] at hj
    rw [← hj, hg]
theorem nat_of {n : Int} (h : 0 ≤ n) : ((n.toNat : Nat) : Int) = n := by omega
/-- natural numbers out of such -/
theorem nats_row {A : Option Addr} {l : List Int} {k : IntKind} (h : CellsAt w A (l.map (Value.int k ·))) (h0 : ∀ n ∈ l, 0 ≤ n) : CellsAt w A ((l.map Int.toNat).map fun (n : Nat) => Value.int k (n : Int)) := by
  have : (l.map Int.toNat).map (fun (n : Nat) => Value.int k (n : Int)) = l.map (Value.int k ·) := by
    rw [List.map_map]
    exact List.map_congr_left fun n hn => by simp [nat_of (h0 n hn)]
  rw [this]
  exact h
theorem bytes_row {A : Option Addr} {l : List Int} (h : CellsAt w A (l.map (Value.int .u8 ·))) (h0 : ∀ n ∈ l, 0 ≤ n ∧ n < 256) : CellsAt w A (bv (l.map fun n => UInt8.ofNat n.toNat)) := by
  have : bv (l.map fun n => UInt8.ofNat n.toNat) = l.map (Value.int .u8 ·) := by
    unfold bv
    rw [List.map_map]
    refine List.map_congr_left fun n hn => ?_
    have := h0 n hn
    simp
    omega
  rw [this]
  exact h
theorem i64_of {n : Int} (h : (Lit.int .i64 n).wf = true) : isI64 n := by
  have := bounds_i64 h
  unfold isI64
  omega
theorem u32_of {n : Int} (h : (Lit.int .u32 n).wf = true) : 0 ≤ n ∧ n ≤ 4294967295 := by
  have := bounds_u32 h
  omega
theorem u8_of {n : Int} (h : (Lit.int .u8 n).wf = true) : 0 ≤ n ∧ n < 256 := by
  have := bounds_u8 h
  omega
theorem two_of {α : Type} {l : List α} (h : l.length = 2) : ∃ a b, l = [a, b] := by
  match l, h with
  | [a, b], _ => exact ⟨a, b, rfl⟩
theorem three_of {α : Type} {l : List α} (h : l.length = 3) : ∃ a b c, l = [a, b, c] := by
  match l, h with
  | [a, b, c], _ => exact ⟨a, b, c, rfl⟩
theorem imp_cells : Try.prog.cellsOf 54 = 2 := by kernel_rfl
theorem fix_cells : Try.prog.cellsOf 60 = 3 := by kernel_rfl
theorem obj_cells : Try.prog.cellsOf 50 = 8 := by kernel_rfl
theorem c_int : Try.prog.cellsOf 3 = 1 := by kernel_rfl
theorem c_str : Try.prog.cellsOf 9 = 1 := by kernel_rfl
theorem c_u32 : Try.prog.cellsOf 29 = 1 := by kernel_rfl
theorem c_u8 : Try.prog.cellsOf 5 = 1 := by kernel_rfl
theorem open_imp {fuel : Nat} {cs : List Value} {x : DataW H × List MemPlace} (h : DataW.trod enc Try.prog w base (fun _ => true) held fuel 54 cs = some x) :
    ∃ y : ByteArray × Nat, cs = [.string y.1, .int .u32 y.2] ∧ (y.1.size ≤ maxLen ∧ y.2 < 4294967296) := by
  cases fuel with
  | zero => simp [DataW.trod] at h
  | succ fuel =>
    obtain ⟨xs, n, hn, _, hlen, hxs, hg⟩ := DataW.trod_struct Try.underlying54 h
    rw [imp_cells] at hlen
    obtain ⟨v0, v1, rfl⟩ := two_of hlen
    have hx : ∀ i, i < 2 → ∃ y, xs[i]? = some y := fun i hi => ⟨_, List.getElem?_eq_getElem (by rw [hxs]; exact hi)⟩
    obtain ⟨y0, e0⟩ := hx 0 (by omega)
    obtain ⟨y1, e1⟩ := hx 1 (by omega)
    have g0 : DataW.trod enc Try.prog w base (fun _ => true) held n 9 (([v0, v1].drop 0).take (Try.prog.cellsOf 9)) = xs[0]? := hg 0 _ rfl
    have g1 : DataW.trod enc Try.prog w base (fun _ => true) held n 29 (([v0, v1].drop 1).take (Try.prog.cellsOf 29)) = xs[1]? := hg 1 _ rfl
    rw [e0] at g0
    rw [e1] at g1
    simp only [c_str, c_u32, List.drop_zero, List.drop_succ_cons, List.take_succ_cons, List.take_zero] at g0 g1
    obtain ⟨s, hs, _, ws⟩ := DataW.trod_string Try.underlying9 g0
    obtain ⟨u, hu, _, wu⟩ := DataW.trod_int Try.underlying29 g1
    simp only [List.cons.injEq, and_true] at hs hu
    subst hs hu
    have hu2 := u32_of wu
    exact ⟨(s, u.toNat), by rw [nat_of hu2.1], ws, by show u.toNat < _; omega⟩
theorem open_fix {fuel : Nat} {cs : List Value} {x : DataW H × List MemPlace} (h : DataW.trod enc Try.prog w base (fun _ => true) held fuel 60 cs = some x) :
    ∃ y : Int × Int × Int, cs = [.int .i64 y.1, .int .i64 y.2.1, .int .i64 y.2.2] ∧ (isI64 y.1 ∧ isI64 y.2.1 ∧ isI64 y.2.2) := by
  cases fuel with
  | zero => simp [DataW.trod] at h
  | succ fuel =>
    obtain ⟨xs, n, hn, _, hlen, hxs, hg⟩ := DataW.trod_struct Try.underlying60 h
    rw [fix_cells] at hlen
    obtain ⟨v0, v1, v2, rfl⟩ := three_of hlen
    have hx : ∀ i, i < 3 → ∃ y, xs[i]? = some y := fun i hi => ⟨_, List.getElem?_eq_getElem (by rw [hxs]; exact hi)⟩
    obtain ⟨y0, e0⟩ := hx 0 (by omega)
    obtain ⟨y1, e1⟩ := hx 1 (by omega)
    obtain ⟨y2, e2⟩ := hx 2 (by omega)
    have g0 : DataW.trod enc Try.prog w base (fun _ => true) held n 3 (([v0, v1, v2].drop 0).take (Try.prog.cellsOf 3)) = xs[0]? := hg 0 _ rfl
    have g1 : DataW.trod enc Try.prog w base (fun _ => true) held n 3 (([v0, v1, v2].drop 1).take (Try.prog.cellsOf 3)) = xs[1]? := hg 1 _ rfl
    have g2 : DataW.trod enc Try.prog w base (fun _ => true) held n 3 (([v0, v1, v2].drop 2).take (Try.prog.cellsOf 3)) = xs[2]? := hg 2 _ rfl
    rw [e0] at g0
    rw [e1] at g1
    rw [e2] at g2
    simp only [c_int, List.drop_zero, List.drop_succ_cons, List.take_succ_cons, List.take_zero] at g0 g1 g2
    obtain ⟨a, ha, _, wa⟩ := DataW.trod_int Try.underlying3 g0
    obtain ⟨b, hb, _, wb⟩ := DataW.trod_int Try.underlying3 g1
    obtain ⟨c, hc, _, wc⟩ := DataW.trod_int Try.underlying3 g2
    simp only [List.cons.injEq, and_true] at ha hb hc
    subst ha hb hc
    exact ⟨(a, b, c), rfl, i64_of wa, i64_of wb, i64_of wc⟩
theorem eight {α : Type} {l : List α} (h : l.length = 8) : ∃ a b c d e f g i, l = [a, b, c, d, e, f, g, i] := by
  match l, h with
  | [a, b, c, d, e, f, g, i], _ => exact ⟨a, b, c, d, e, f, g, i, rfl⟩
theorem c_imps : Try.prog.cellsOf 47 = 1 := by kernel_rfl
theorem c_text : Try.prog.cellsOf 22 = 1 := by kernel_rfl
theorem c_code : Try.prog.cellsOf 33 = 1 := by kernel_rfl
theorem c_ents : Try.prog.cellsOf 41 = 1 := by kernel_rfl
theorem c_fixs : Try.prog.cellsOf 48 = 1 := by kernel_rfl
set_option maxRecDepth 100000 in
theorem open_obj {fuel : Nat} {cs : List Value} {x : DataW H × List MemPlace} (h : DataW.trod enc Try.prog w base (fun _ => true) held fuel 50 cs = some x) :
    ∃ y : Ob × OA, cs = (obArr y.1 y.2).toList ∧ ObIs w y.1 y.2 := by
  cases fuel with
  | zero => simp [DataW.trod] at h
  | succ fuel =>
    obtain ⟨xs, n, hn, _, hlen, hxs, hg⟩ := DataW.trod_struct Try.underlying50 h
    rw [obj_cells] at hlen
    obtain ⟨v0, v1, v2, v3, v4, v5, v6, v7, rfl⟩ := eight hlen
    have hx : ∀ i, i < 8 → ∃ y, xs[i]? = some y := fun i hi => ⟨_, List.getElem?_eq_getElem (by rw [hxs]; exact hi)⟩
    obtain ⟨y0, e0⟩ := hx 0 (by omega)
    obtain ⟨y1, e1⟩ := hx 1 (by omega)
    obtain ⟨y2, e2⟩ := hx 2 (by omega)
    obtain ⟨y3, e3⟩ := hx 3 (by omega)
    obtain ⟨y4, e4⟩ := hx 4 (by omega)
    obtain ⟨y5, e5⟩ := hx 5 (by omega)
    obtain ⟨y6, e6⟩ := hx 6 (by omega)
    obtain ⟨y7, e7⟩ := hx 7 (by omega)
    have g0 : DataW.trod enc Try.prog w base (fun _ => true) held n 9 (([v0, v1, v2, v3, v4, v5, v6, v7].drop 0).take (Try.prog.cellsOf 9)) = xs[0]? := hg 0 _ rfl
    have g1 : DataW.trod enc Try.prog w base (fun _ => true) held n 29 (([v0, v1, v2, v3, v4, v5, v6, v7].drop 1).take (Try.prog.cellsOf 29)) = xs[1]? := hg 1 _ rfl
    have g2 : DataW.trod enc Try.prog w base (fun _ => true) held n 47 (([v0, v1, v2, v3, v4, v5, v6, v7].drop 2).take (Try.prog.cellsOf 47)) = xs[2]? := hg 2 _ rfl
    have g3 : DataW.trod enc Try.prog w base (fun _ => true) held n 3 (([v0, v1, v2, v3, v4, v5, v6, v7].drop 3).take (Try.prog.cellsOf 3)) = xs[3]? := hg 3 _ rfl
    have g4 : DataW.trod enc Try.prog w base (fun _ => true) held n 22 (([v0, v1, v2, v3, v4, v5, v6, v7].drop 4).take (Try.prog.cellsOf 22)) = xs[4]? := hg 4 _ rfl
    have g5 : DataW.trod enc Try.prog w base (fun _ => true) held n 33 (([v0, v1, v2, v3, v4, v5, v6, v7].drop 5).take (Try.prog.cellsOf 33)) = xs[5]? := hg 5 _ rfl
    have g6 : DataW.trod enc Try.prog w base (fun _ => true) held n 41 (([v0, v1, v2, v3, v4, v5, v6, v7].drop 6).take (Try.prog.cellsOf 41)) = xs[6]? := hg 6 _ rfl
    have g7 : DataW.trod enc Try.prog w base (fun _ => true) held n 48 (([v0, v1, v2, v3, v4, v5, v6, v7].drop 7).take (Try.prog.cellsOf 48)) = xs[7]? := hg 7 _ rfl
    rw [e0] at g0
    rw [e1] at g1
    rw [e2] at g2
    rw [e3] at g3
    rw [e4] at g4
    rw [e5] at g5
    rw [e6] at g6
    rw [e7] at g7
    simp only [c_int, c_str, c_u32, c_imps, c_text, c_code, c_ents, c_fixs, List.drop_zero, List.drop_succ_cons, List.take_succ_cons, List.take_zero] at g0 g1 g2 g3 g4 g5 g6 g7
    obtain ⟨s, hs, _, ws⟩ := DataW.trod_string Try.underlying9 g0
    obtain ⟨u, hu, _, wu⟩ := DataW.trod_int Try.underlying29 g1
    obtain ⟨vr, hvr, _, wv⟩ := DataW.trod_int Try.underlying3 g3
    simp only [List.cons.injEq, and_true] at hs hu hvr
    subst hs hu hvr
    have hu2 := u32_of wu
    obtain ⟨iA, il, ic, rfl, i1, i2, i3⟩ := open_rows (k := 2) (cells := fun y : ByteArray × Nat => [.string y.1, .int .u32 y.2]) (ok := fun y => y.1.size ≤ maxLen ∧ y.2 < 4294967296) Try.underlying47 imp_cells (by omega) (fun _ => rfl) open_imp g2
    obtain ⟨tA, tl, tc, rfl, t1, t2, t3, _⟩ := ints_row Try.underlying22 Try.underlying5 c_u8 g4
    obtain ⟨cA, cl, cc, rfl, k1, k2, k3, _⟩ := ints_row Try.underlying33 Try.underlying29 c_u32 g5
    obtain ⟨eA, el, ec, rfl, n1, n2, n3, _⟩ := ints_row Try.underlying41 Try.underlying3 c_int g6
    obtain ⟨fA, fl, fc, rfl, f1, f2, f3⟩ := open_rows (k := 3) (cells := fun y : Int × Int × Int => [.int .i64 y.1, .int .i64 y.2.1, .int .i64 y.2.2]) (ok := fun y => isI64 y.1 ∧ isI64 y.2.1 ∧ isI64 y.2.2) Try.underlying48 fix_cells (by omega) (fun _ => rfl) open_fix g7
    refine ⟨(⟨s, u.toNat, il, vr, tl.map fun n => UInt8.ofNat n.toNat, cl.map Int.toNat, el, fl⟩, ⟨iA, ic, tA, tc, cA, cc, eA, ec, fA, fc⟩), ?_, ?_⟩
    · simp only [obArr, List.length_map, nat_of hu2.1]
    · exact {
        imps := i1
        text := bytes_row t1 fun n hn => u8_of (t2 n hn)
        code := nats_row k1 fun n hn => (u32_of (k2 n hn)).1
        ents := n1
        fixs := f1
        icap := i3
        tcap := by rw [List.length_map]; exact t3
        ccap := by rw [List.length_map]; exact k3
        ecap := n3
        fcap := f3
        nm := ws
        key := by show u.toNat < _; omega
        vars := i64_of wv
        inm := i2
        cn := fun x hx => by
          obtain ⟨n, hn, rfl⟩ := List.mem_map.1 hx
          have := u32_of (k2 n hn)
          omega
        en := fun x hx => i64_of (n2 x hx)
        fn := f2 }
/-- objects that came in -/
theorem open_objs {v : Value} {d : DataW H} {p : List MemPlace} (h : DataW.Trod enc Try.prog w base (fun _ => true) held 45 v d p) (hs : ∃ A n c, v = .slice A n c) :
    ∃ (A : Option Addr) (L : List (Ob × OA)) (c : Nat), v = .slice A L.length c ∧ CellsAt w A (L.flatMap fun x => (obArr x.1 x.2).toList) ∧ (∀ x ∈ L, ObIs w x.1 x.2) ∧ L.length ≤ c ∧ c ≤ maxLen := by
  obtain ⟨fuel, hf⟩ := h
  obtain ⟨A, n, c, rfl⟩ := hs
  exact open_rows (k := 8) (cells := fun x : Ob × OA => (obArr x.1 x.2).toList) (ok := fun x => ObIs w x.1 x.2) Try.underlying45 obj_cells (by omega) (fun _ => rfl) open_obj hf
/-- bytes that came in -/
theorem open_bytes {v : Value} {d : DataW H} {p : List MemPlace} (h : DataW.Trod enc Try.prog w base (fun _ => true) held 22 v d p) (hs : ∃ A n c, v = .slice A n c) :
    ∃ (A : Option Addr) (l : List UInt8) (c : Nat), v = .slice A l.length c ∧ CellsAt w A (bv l) ∧ (A = none → l = [] ∧ c = 0) ∧ l.length ≤ c ∧ c ≤ maxLen := by
  obtain ⟨fuel, hf⟩ := h
  obtain ⟨A, n, c, rfl⟩ := hs
  obtain ⟨tA, tl, tc, h1, h2, h3, h4, h5⟩ := ints_row Try.underlying22 Try.underlying5 c_u8 hf
  exact ⟨tA, tl.map fun n => UInt8.ofNat n.toNat, tc, by rw [List.length_map]; exact h1, bytes_row h2 fun n hn => u8_of (h3 n hn), fun ha => by rw [(h5 ha).1, (h5 ha).2]; exact ⟨rfl, rfl⟩, by rw [List.length_map]; exact h4.1, h4.2⟩
end
end Go.Proofs.Yteleglkoagnmcaa
set_option linter.unusedSimpArgs false
set_option linter.unusedVariables false
namespace Go.Proofs.Yteleglkoagnmcaa
open Go Go.RowKit
theorem mins {x : Int} {m : Int} (h : min x 5001 = m) (h0 : 0 ≤ x) : 0 ≤ m ∧ m ≤ 5001 := by omega
set_option maxRecDepth 100000 in
set_option maxHeartbeats 16000000 in
theorem muchO_c {W : World} {L : List (Ob × OA)} {A : Option Addr} {c : Nat} (hA : CellsAt W A (allCells L)) (hO : ∀ x ∈ L, ObIs W x.1 x.2) (hn : L.length ≤ maxLen) : Calls Try.prog 15 #[.slice A L.length c] W fun e w' => ∃ b, e = .returned (.bool b) ∧ Chg NoB W w' ∧ (b = false → L.length ≤ 8) := by
  obtain ⟨n, hln⟩ : ∃ n, L.length = n := ⟨_, rfl⟩
  have HLN := Go.Lib.hid hln
  have HA := Go.Lib.hid hA
  have HO := Go.Lib.hid hO
  rw [hln] at hn ⊢
  unfold maxLen at hn
  clear hln hA hO
  go_enter Try.func15, Try.ntmps15
  by_cases h8 : 8 < n
  · have d8 : decide (8 < (n : Int)) = true := by simp; omega
    go_wp2_with fail
    go_ret
    exact ⟨true, rfl, Chg.refl _ _, fun h => by cases h⟩
  have d8 : decide (8 < (n : Int)) = false := by simp; omega
  go_wp2_with fail
  go_loopw [3, 4] (fun v3 v4 wr => ∃ (i : Nat) (z : Int), i ≤ n ∧ v4 = .int .i64 i ∧ v3 = .int .i64 z ∧ 0 ≤ z ∧ z ≤ 31000 * (i : Int) ∧ Chg NoB W wr) (fun _ v4 _ => n - (intOf v4).toNat)
  case atStart => exact ⟨0, 0, Nat.zero_le _, rfl, rfl, by omega, by omega, Chg.refl _ _⟩
  case round =>
    obtain ⟨i, z, hi, rfl, rfl, hz0, hz1, hc⟩ := hrel
    have HC := Go.Lib.hid hc
    have HZ : Hid (0 ≤ z ∧ z ≤ 31000 * (i : Int)) := Go.Lib.hid ⟨hz0, hz1⟩
    by_cases hlt : i < n
    · obtain ⟨x, hx⟩ : ∃ x, L[i]? = some x := ⟨_, List.getElem?_eq_getElem (by rw [HLN.out]; exact hlt)⟩
      obtain ⟨ab, ao, rfl, hcell⟩ := HA.out.flat (by rw [allCells_len, HLN.out]; omega)
      obtain ⟨ob, oa⟩ := x
      have hob : ObIs W ob oa := HO.out _ (List.mem_of_getElem? hx)
      have hq : ∀ k u, k < 8 → (obArr ob oa)[k]? = some u → wr.cell? ⟨ab, ao + i * 8 + k, none⟩ = some u := fun k u hk hu => by
        have := hcell (i * 8 + k) u ((allCells_get L i (ob, oa) hx k hk).trans hu)
        rw [← Nat.add_assoc] at this
        exact keepQ hc this
      have x0 : wr.cell? ⟨ab, ao + i * 8, none⟩ = some (.string ob.name) := hq 0 _ (by omega) rfl
      have x1 := hq 1 (.int .u32 ob.key) (by omega) rfl
      have x2 := hq 2 (.slice oa.iA ob.imps.length oa.ic) (by omega) rfl
      have x3 := hq 3 (.int .i64 ob.vars) (by omega) rfl
      have x4 := hq 4 (.slice oa.tA ob.text.length oa.tc) (by omega) rfl
      have x5 := hq 5 (.slice oa.cA ob.code.length oa.cc) (by omega) rfl
      have x6 := hq 6 (.slice oa.eA ob.ents.length oa.ec) (by omega) rfl
      have x7 := hq 7 (.slice oa.fA ob.fixs.length oa.fc) (by omega) rfl
      have b1 : ob.code.length ≤ 9223372036854775807 := by have := hob.ccap.1; have := hob.ccap.2; unfold maxLen at this; omega
      have b2 : ob.text.length ≤ 9223372036854775807 := by have := hob.tcap.1; have := hob.tcap.2; unfold maxLen at this; omega
      have b3 : ob.ents.length ≤ 9223372036854775807 := by have := hob.ecap.1; have := hob.ecap.2; unfold maxLen at this; omega
      have b4 : ob.fixs.length ≤ 9223372036854775807 := by have := hob.fcap.1; have := hob.fcap.2; unfold maxLen at this; omega
      have b5 : ob.imps.length ≤ 9223372036854775807 := by have := hob.icap.1; have := hob.icap.2; unfold maxLen at this; omega
      generalize ob.code.length = l1 at *
      generalize ob.text.length = l2 at *
      generalize ob.ents.length = l3 at *
      generalize ob.fixs.length = l4 at *
      generalize ob.imps.length = l5 at *
      generalize ob.vars = l6 at *
      generalize ob.name = l7 at *
      generalize ob.key = l8 at *
      clear hx hcell hq hob hc
      obtain ⟨m1, e1⟩ : ∃ m, min (l1 : Int) 5001 = m := ⟨_, rfl⟩
      obtain ⟨m2, e2⟩ : ∃ m, min (l2 : Int) 5001 = m := ⟨_, rfl⟩
      obtain ⟨m3, e3⟩ : ∃ m, min (l3 : Int) 5001 = m := ⟨_, rfl⟩
      obtain ⟨m4, e4⟩ : ∃ m, min (l4 : Int) 5001 = m := ⟨_, rfl⟩
      obtain ⟨m5, e5⟩ : ∃ m, min (l5 : Int) 5001 = m := ⟨_, rfl⟩
      obtain ⟨m6, e6⟩ : ∃ m, max l6 0 = m := ⟨_, rfl⟩
      obtain ⟨m7, e7⟩ : ∃ m, min m6 50001 = m := ⟨_, rfl⟩
      obtain ⟨m8, e8⟩ : ∃ m, m7.tdiv 10 = m := ⟨_, rfl⟩
      have k1 := mins e1 (by omega)
      have k2 := mins e2 (by omega)
      have k3 := mins e3 (by omega)
      have k4 := mins e4 (by omega)
      have k5 := mins e5 (by omega)
      have k8 : 0 ≤ m8 ∧ m8 ≤ 5001 := by
        rw [Int.tdiv_eq_ediv_of_nonneg (by omega)] at e8
        omega
      have s1 : IntKind.i64.wrap (z + m1) = z + m1 := IntWalk.i64_in _ (by omega)
      have s2 : IntKind.i64.wrap (z + m1 + m2) = z + m1 + m2 := IntWalk.i64_in _ (by omega)
      have s3 : IntKind.i64.wrap (z + m1 + m2 + m3) = z + m1 + m2 + m3 := IntWalk.i64_in _ (by omega)
      have s4 : IntKind.i64.wrap (z + m1 + m2 + m3 + m4) = z + m1 + m2 + m3 + m4 := IntWalk.i64_in _ (by omega)
      have s5 : IntKind.i64.wrap (z + m1 + m2 + m3 + m4 + m5) = z + m1 + m2 + m3 + m4 + m5 := IntWalk.i64_in _ (by omega)
      have s6 : IntKind.i64.wrap (z + m1 + m2 + m3 + m4 + m5 + m8) = z + m1 + m2 + m3 + m4 + m5 + m8 := IntWalk.i64_in _ (by omega)
      have s7 : IntKind.i64.wrap m8 = m8 := IntWalk.i64_in _ (by omega)
      have K := Go.Lib.hid (And.intro k1 (And.intro k2 (And.intro k3 (And.intro k4 (And.intro k5 k8)))))
      clear k1 k2 k3 k4 k5 k8 hz0 hz1
      go_wp2_with fail
      go_roundw
      case rel =>
        have := HZ.out
        have := K.out
        exact ⟨i + 1, _, by omega, by go_num, rfl, by omega, by omega, HC.out.alloc _⟩
      case measure => simp [intOf]; omega
    · obtain rfl : i = n := by omega
      go_wp2_with fail
      go_ret
      exact ⟨_, rfl, HC.out, fun _ => by omega⟩
end Go.Proofs.Yteleglkoagnmcaa
set_option linter.unusedSimpArgs false
set_option linter.unusedVariables false
namespace Go.Proofs.Yteleglkoagnmcaa
open Go Go.RowKit
/-- is a word of an object one that is filled in? -/
def fixA (o : Ob) (at_ : Nat) : Bool := o.fixs.any fun f => decide (f.1 = (at_ : Int)) || (decide (f.2.2 = 0) && decide (f.1 + 1 = (at_ : Int)))
theorem fixA_yes {o : Ob} {at_ : Nat} {f : Int × Int × Int} (h : f ∈ o.fixs) (he : f.1 = (at_ : Int) ∨ f.2.2 = 0 ∧ f.1 + 1 = (at_ : Int)) : fixA o at_ = true :=
  List.any_eq_true.2 ⟨f, h, by simpa using he⟩
theorem fixA_no {o : Ob} {at_ : Nat} (h : fixA o at_ = false) : ∀ f ∈ o.fixs, (at_ : Int) ≠ f.1 ∧ (f.2.2 = 0 → (at_ : Int) ≠ f.1 + 1) := fun f hf => by
  have h1 := List.any_eq_false.1 h f hf
  simp only [Bool.or_eq_true, Bool.and_eq_true, decide_eq_true_eq, not_or, not_and] at h1
  exact ⟨fun e => h1.1 e.symm, fun h0 e => h1.2 h0 e.symm⟩
set_option maxRecDepth 100000 in
set_option maxHeartbeats 16000000 in
theorem fixed_c {W : World} {o : Ob} {a : OA} (h : ObIs W o a) (hm : MayP o) (at_ : Nat) (hat : at_ < o.code.length) : Calls Try.prog 17 #[obVal o a, .int .i64 at_] W (Quiet (.bool (fixA o at_)) W) := by
  have HI := Go.Lib.hid h
  have HM := Go.Lib.hid (And.intro hm hat)
  have ha2 : at_ ≤ 16384 := by have := hm.cl; omega
  obtain ⟨fl, hfl⟩ : ∃ n, o.fixs.length = n := ⟨_, rfl⟩
  have HF := Go.Lib.hid hfl
  have hfl2 : fl ≤ 8192 := by have := hm.fl; omega
  obtain ⟨w1, hw1⟩ : ∃ w1, W.alloc (Obj.cells (obArr o a) OT) = w1 := ⟨_, rfl⟩
  have hc1 : Chg NoB W w1 := by rw [← hw1]; exact (Chg.refl NoB W).alloc _
  have hb1 : Blk w1 W.heap.size OT (obArr o a) := by rw [← hw1]; exact Blk.new _ _ _
  have HC1 := Go.Lib.hid hc1
  have HB1 := Go.Lib.hid hb1
  unfold obArr at hw1
  rw [hfl] at hw1
  have HW1 := Go.Lib.hid hw1
  unfold obVal obArr
  rw [hfl]
  clear h hm hat hfl hw1 hc1 hb1
  go_enter Try.func17, Try.ntmps17
  go_wp2_with fail
  rw [HW1.out]
  clear HW1
  go_loopw [5] (fun v5 wr => ∃ i : Nat, i ≤ fl ∧ v5 = .int .i64 i ∧ (∀ (j : Nat) f, j < i → o.fixs[j]? = some f → (at_ : Int) ≠ f.1 ∧ (f.2.2 = 0 → (at_ : Int) ≠ f.1 + 1)) ∧ Chg NoB w1 wr) (fun v5 _ => fl - (intOf v5).toNat)
  case atStart => exact ⟨0, Nat.zero_le _, rfl, fun j f h => by omega, Chg.refl _ _⟩
  case round =>
    obtain ⟨i, hi, rfl, hall, hc⟩ := hrel
    have HALL := Go.Lib.hid hall
    have HC := Go.Lib.hid hc
    have c7 : wr.cell? ⟨W.heap.size, 7, none⟩ = some (.slice a.fA fl a.fc) := by
      have := (HB1.out.chg hc id).cell 7
      rw [← HF.out]
      exact this
    clear hall hc
    by_cases hlt : i < fl
    · obtain ⟨fb, fp, hfA, hcell⟩ := HI.out.fix (by rw [HF.out]; omega)
      obtain ⟨⟨x, m, z⟩, hx⟩ : ∃ x, o.fixs[i]? = some x := ⟨_, List.getElem?_eq_getElem (by rw [HF.out]; exact hlt)⟩
      obtain ⟨hx0, hx1, hx2⟩ := hcell i _ hx wr (HC1.out.trans HC.out)
      simp only at hx0 hx1 hx2
      rw [hfA] at c7
      have hfx := HM.out.1.fx i _ hx
      have h0 := hfx.a0
      have h1 := hfx.a1
      have h2 := HM.out.1.cl
      simp only at h0 h1
      have hxs : x ≤ 16384 := by omega
      have HX := Go.Lib.hid hx
      clear hfA hcell hx hfx h1 h2
      by_cases e1 : x = (at_ : Int)
      · have d1 : (x == (at_ : Int)) = true := by simpa using e1
        have HY : Hid (fixA o at_ = true) := Go.Lib.hid (fixA_yes (List.mem_of_getElem? HX.out) (.inl e1))
        clear e1
        go_wp2_with fail
        go_ret
        exact ⟨by rw [HY.out]; rfl, (HC1.out.trans HC.out).alloc _⟩
      · have d1 : (x == (at_ : Int)) = false := by simpa using e1
        have E1 := Go.Lib.hid e1
        clear e1
        by_cases e2 : z = 0
        · have d2 : (z == 0) = true := by simpa using e2
          have E2 := Go.Lib.hid e2
          clear e2
          by_cases e3 : x + 1 = (at_ : Int)
          · have d3 : (x + 1 == (at_ : Int)) = true := by simpa using e3
            have HY : Hid (fixA o at_ = true) := Go.Lib.hid (fixA_yes (List.mem_of_getElem? HX.out) (.inr ⟨E2.out, e3⟩))
            clear e3
            go_wp2_with fail
            go_ret
            exact ⟨by rw [HY.out]; rfl, (HC1.out.trans HC.out).alloc _⟩
          · have d3 : (x + 1 == (at_ : Int)) = false := by simpa using e3
            have E3 := Go.Lib.hid e3
            clear e3
            go_wp2_with fail
            go_roundw
            case rel => exact ⟨i + 1, by omega, by go_num, fun j f hj hf => by
              rcases Nat.lt_or_ge j i with h | h
              · exact HALL.out j f h hf
              · obtain rfl : j = i := by omega
                rw [HX.out] at hf
                injection hf with hf
                subst hf
                exact ⟨fun h => E1.out h.symm, fun _ h => E3.out h.symm⟩, HC.out.alloc _⟩
            case measure => simp [intOf]; omega
        · have d2 : (z == 0) = false := by simpa using e2
          have E2 := Go.Lib.hid e2
          clear e2
          go_wp2_with fail
          go_roundw
          case rel => exact ⟨i + 1, by omega, by go_num, fun j f hj hf => by
            rcases Nat.lt_or_ge j i with h | h
            · exact HALL.out j f h hf
            · obtain rfl : j = i := by omega
              rw [HX.out] at hf
              injection hf with hf
              subst hf
              exact ⟨fun h => E1.out h.symm, fun h => absurd h E2.out⟩, HC.out.alloc _⟩
          case measure => simp [intOf]; omega
    · obtain rfl : i = fl := by omega
      go_wp2_with fail
      go_ret
      refine ⟨?_, HC1.out.trans HC.out⟩
      rw [show fixA o at_ = false from List.any_eq_false.2 fun f hf => by
        obtain ⟨j, hj⟩ := List.mem_iff_getElem?.1 hf
        obtain ⟨h1, h2⟩ := HALL.out j f (by rw [← HF.out]; exact (List.getElem?_eq_some_iff.1 hj).1) hj
        simp only [Bool.or_eq_true, Bool.and_eq_true, decide_eq_true_eq, not_or, not_and]
        exact ⟨fun e => h1 e.symm, fun h0 e => h2 h0 e.symm⟩]
      rfl
/-- an image in memory, as it is read -/
structure ImR (W : World) (ib : Nat) (wA : Option Addr) (wc : Nat) (mA : Option Addr) (mc : Nat) (i : Img) (l : List (Pl × PA)) : Prop where
  box : Blk W ib IMT #[.slice wA i.words.length wc, .slice mA l.length mc]
  row : CellsAt W wA (codeCells i.words)
  mods : CellsAt W mA (plsCells l)
  ent : ∀ x ∈ l, EntAt W x.1 x.2
  eq : l.map (·.1) = i.mods
section
variable {W W' : World} {ib wc mc : Nat} {wA mA : Option Addr} {i : Img} {l : List (Pl × PA)}
theorem ImR.quiet (h : ImR W ib wA wc mA mc i l) (hc : Chg NoB W W') : ImR W' ib wA wc mA mc i l :=
  ⟨h.box.chg hc id, h.row.chg hc fun _ _ => id, h.mods.chg hc fun _ _ => id, fun x hx => (h.ent x hx).quiet hc, h.eq⟩
theorem ImR.mod (h : ImR W ib wA wc mA mc i l) (h0 : 0 < l.length) : ∃ g o, mA = some ⟨g, o, none⟩ ∧ ∀ (k : Nat) (x : Pl × PA), l[k]? = some x → ∀ W', Chg NoB W W' →
    W'.cell? ⟨g, o + k * 5, none⟩ = some (.string x.1.name) ∧ W'.cell? ⟨g, o + k * 5 + 1, none⟩ = some (.int .u32 x.1.key) ∧ W'.cell? ⟨g, o + k * 5 + 2, none⟩ = some (.int .i64 x.1.code) ∧ W'.cell? ⟨g, o + k * 5 + 3, none⟩ = some (.int .i64 x.1.data) ∧ W'.cell? ⟨g, o + k * 5 + 4, none⟩ = some (.slice x.2.1 x.1.ents.length x.2.2) := by
  obtain ⟨g, o, h1, h2⟩ := h.mods.flat (by rw [plsCells_len]; omega)
  refine ⟨g, o, h1, fun k x hx W' hW => ?_⟩
  have key : ∀ m u, m < 5 → (plArr x.1 x.2)[m]? = some u → W'.cell? ⟨g, o + k * 5 + m, none⟩ = some u := fun m u hm hu => by
    have := keepQ hW (h2 (k * 5 + m) u ((plsCells_get l k x hx m hm).trans hu))
    rw [← Nat.add_assoc] at this
    exact this
  exact ⟨key 0 _ (by omega) rfl, key 1 _ (by omega) rfl, key 2 _ (by omega) rfl, key 3 _ (by omega) rfl, key 4 _ (by omega) rfl⟩
theorem ImR.word (h : ImR W ib wA wc mA mc i l) (h0 : 0 < i.words.length) : ∃ g o, wA = some ⟨g, o, none⟩ ∧ ∀ (k x : Nat), i.words[k]? = some x → ∀ W', Chg NoB W W' → W'.cell? ⟨g, o + k, none⟩ = some (.int .u32 x) := by
  obtain ⟨g, o, h1, h2⟩ := h.row.flat (by simpa [codeCells] using h0)
  exact ⟨g, o, h1, fun k x hx W' hW => keepQ hW (h2 k _ (by rw [codeCells, List.getElem?_map, hx]; rfl))⟩
theorem ImR.len (h : ImR W ib wA wc mA mc i l) : l.length = i.mods.length := by rw [← h.eq, List.length_map]
theorem ImR.get (h : ImR W ib wA wc mA mc i l) {k : Nat} {x : Pl × PA} (hx : l[k]? = some x) : i.mods[k]? = some x.1 := by rw [← h.eq, List.getElem?_map, hx]; rfl
end
end Go.Proofs.Yteleglkoagnmcaa
