/- What is proved: link.loaded loads a module and what it needs, as the plain function says. Conditions: the memory holds a store. · What is proved: link.Order tells the names of what is loaded, in that order. Conditions: the memory holds a store. · What is proved: the modules of an image in memory; link.find. Conditions: the memory holds the row. · What is proved: the document's Word and Name tell the bytes. Conditions: none. · What is proved: the statements' plain module. Conditions: none. -/
import Derived.Test.YteleglkoagnmcaaGLkA
import Derived.Laws.EntriesVeiled
import Derived.Carry
import Derived.Lib.AppendStr
set_option linter.unusedSimpArgs false
set_option linter.unusedVariables false
namespace Go.Proofs.Yteleglkoagnmcaa
open Go Go.RowKit
section
variable {B0 sp bs ba m bo bl : Nat} {v : V} {F : Nat → Prop}
theorem load_all : ∀ n, LoadC B0 sp bs ba m bo bl v F n
  | 0 => fun W done A c busy nm h _ _ hn => by
    have := h.olen
    rw [List.length_reverse] at this
    omega
  | n + 1 => load_step (load_all n)
end
/-- a module and what it needs -/
def loadedO (get : ByteArray → Option (List UInt8)) (nm : ByteArray) : Int ⊕ List Ob := ldAll get 201 [] [] nm
def LoadedPost (r : Int ⊕ List Ob) (w : World) (e : Ending) (w' : World) : Prop :=
  Chg NoB w w' ∧ match r with
  | .inl er => er ≠ 0 ∧ e = .returned (.tuple #[.slice none 0 0, .int .i64 er])
  | .inr d => ∃ done A c, done.map (·.1) = d ∧ e = .returned (.tuple #[.slice A done.length c, .int .i64 0]) ∧ w'.ownsRow w.heap.size OT 8 (.slice A done.length c) done.length (allCells done) ∧ (∀ x ∈ done, ObT w' x.1 x.2) ∧ done.length ≤ 200 ∧ (done.map (fun x => x.1.name)).Nodup
def wL (w : World) (s : Nat) : World :=
  ((((w.alloc (Obj.cells #[.pointer (some ⟨s, 0, none⟩)] STT)).alloc (Obj.cells #[.slice none 0 0] AT)).alloc (Obj.map #[] 0)).alloc (Obj.cells #[.map (some (w.heap.size + 1 + 1))] MT)).alloc
    (Obj.cells #[.func (.func 59) #[] #[.pointer (some ⟨w.heap.size + 1, 0, none⟩), .pointer (some ⟨w.heap.size, 0, none⟩), .pointer (some ⟨w.heap.size + 1 + 1 + 1, 0, none⟩), .pointer (some ⟨w.heap.size + 1 + 1 + 1 + 1, 0, none⟩)]] LT)
theorem wL_chg (w : World) (s : Nat) : Chg NoB w (wL w s) := (((((Chg.refl NoB w).alloc _).alloc _).alloc _).alloc _).alloc _
theorem size_al (w : World) (o : Obj) : (w.alloc o).heap.size = w.heap.size + 1 := by simp
theorem wL_is {base : Nat} {w : World} {s : Nat} {v : V} {F : Nat → Prop} (h : StoreV base w s v F) : LdI w.heap.size s w.heap.size (w.heap.size + 1) (w.heap.size + 1 + 1) (w.heap.size + 1 + 1 + 1) (w.heap.size + 1 + 1 + 1 + 1) v F (wL w s) [] none 0 [] where
  store := .inr ⟨base, h.quiet (wL_chg w s)⟩
  low := fun k hk => h.lt hk
  bsq := ((((Blk.new w STT _).alloc _).alloc _).alloc _).alloc _
  baq := by
    have h1 := Blk.new (w.alloc (Obj.cells #[.pointer (some ⟨s, 0, none⟩)] STT)) AT #[.slice none 0 0]
    rw [size_al] at h1
    exact ((h1.alloc _).alloc _).alloc _
  boq := by
    have h1 := Blk.new (((w.alloc (Obj.cells #[.pointer (some ⟨s, 0, none⟩)] STT)).alloc (Obj.cells #[.slice none 0 0] AT)).alloc (Obj.map #[] 0)) MT #[.map (some (w.heap.size + 1 + 1))]
    rw [size_al, size_al, size_al] at h1
    exact h1.alloc _
  blq := by
    have h1 := Blk.new ((((w.alloc (Obj.cells #[.pointer (some ⟨s, 0, none⟩)] STT)).alloc (Obj.cells #[.slice none 0 0] AT)).alloc (Obj.map #[] 0)).alloc (Obj.cells #[.map (some (w.heap.size + 1 + 1))] MT)) LT #[.func (.func 59) #[] #[.pointer (some ⟨w.heap.size + 1, 0, none⟩), .pointer (some ⟨w.heap.size, 0, none⟩), .pointer (some ⟨w.heap.size + 1 + 1 + 1, 0, none⟩), .pointer (some ⟨w.heap.size + 1 + 1 + 1 + 1, 0, none⟩)]]
    rw [size_al, size_al, size_al, size_al] at h1
    exact h1
  mp := by
    have h1 := MapIs.new ((w.alloc (Obj.cells #[.pointer (some ⟨s, 0, none⟩)] STT)).alloc (Obj.cells #[.slice none 0 0] AT))
    rw [size_al, size_al] at h1
    exact (h1.alloc _).alloc _
  row := World.ownsRow_nil _ _ _ _
  obs := by simp
  lo := by omega
  opn := by simp
  opf := by simp
  dnn := by simp
  dnf := by simp
  dis := by simp
set_option maxRecDepth 100000 in
set_option maxHeartbeats 16000000 in
theorem loaded_c {base : Nat} {w : World} {s : Nat} {v : V} {F : Nat → Prop} (h : StoreV base w s v F) {nm : ByteArray} (hn : nm.size + 2 ≤ maxLen) : Calls Try.prog 31 #[.pointer (some ⟨s, 0, none⟩), .string nm] w (LoadedPost (loadedO (getV v) nm) w) := by
  have HS := Go.Lib.hid h
  have HNm := Go.Lib.hid hn
  clear h hn
  have hmm := @run_makeMap Try.prog
  go_enter Try.func31, Try.ntmps31
  have HL := Go.Lib.hid (wL_is HS.out)
  have HC := Go.Lib.hid (load_all 201 _ [] none 0 [] nm HL.out (by simp) HNm.out (by have := HS.out.dir_le; simp; omega))
  obtain ⟨r, hr⟩ : ∃ r, loadedO (getV v) nm = r := ⟨_, rfl⟩
  have hr2 : ldAll (getV v) 201 [] (([] : List (Ob × OA)).map (·.1)) nm = r := hr
  rw [hr]
  rw [hr2] at HC
  clear hr hr2
  go_wp2_with fail
  refine HC.out.mono ?_
  cases r with
  | inl er =>
    rintro e w2 ⟨hne, rfl, hch⟩
    have hC2 : Chg NoB w w2 := (wL_chg w s).step hch fun i hi hk => by
      rcases hk with h | h | ⟨ad, h, _⟩
      · omega
      · omega
      · cases h
    have HC2 := Go.Lib.hid hC2
    have hbe : (er == 0) = false := by simpa using hne
    have HNE := Go.Lib.hid hne
    clear hne hch hC2 HC HL
    go_wp2_with fail
    refine bodyPost_ret (results_tmp2 rfl _ _ _) rfl ?_
    exact ⟨HC2.out, HNE.out, rfl⟩
  | inr d =>
    rintro e w2 ⟨dn, A, c, key, rfl, rfl, hfk, hI, hq⟩
    have hC2 : Chg NoB w w2 := (wL_chg w s).step hq.chg fun i hi hk => by
      rcases hk with h | h | ⟨ad, h, _⟩
      · omega
      · omega
      · cases h
    have HC2 := Go.Lib.hid hC2
    have HI := Go.Lib.hid hI
    have fa := hI.baq.cell 0
    simp only [List.getElem?_toArray, List.getElem?_cons_zero] at fa
    clear hfk hI hq hC2 HC HL
    go_wp2_with fail
    refine bodyPost_ret (results_tmp2 rfl _ _ _) rfl ?_
    exact ⟨HC2.out, dn, A, c, rfl, rfl, HI.out.row, HI.out.obs, HI.out.dlen, HI.out.dnn⟩
end Go.Proofs.Yteleglkoagnmcaa
set_option linter.unusedSimpArgs false
set_option linter.unusedVariables false
namespace Go.Proofs.Yteleglkoagnmcaa
open Go Go.RowKit
theorem sinfo : (Try.prog.info? STR).map (fun i => (i.zero, i.size, i.bytes)) = some (some (.string ⟨#[]⟩), 1, 16) := by kernel_rfl
theorem own_at_ {W : World} {base : Nat} {e : TypeId} {size n : Nat} {v : Value} {xs : List Value} (h : W.ownsRow base e size v n xs) {k : Nat} (hk : v.ownBlock = some k) : base ≤ k := by
  rcases h.2 with ⟨rfl, _⟩ | ⟨g, cap, cur, rfl, h6, _⟩
  · simp [Value.ownBlock] at hk
  · have : g = k := by simpa [Value.ownBlock] using hk
    omega
theorem own_base_ {w : World} {b b' : Nat} {e : TypeId} {size n : Nat} {v : Value} {xs : List Value} (h : w.ownsRow b' e size v n xs) (hb : b ≤ b') : w.ownsRow b e size v n xs := by
  refine ⟨h.1, ?_⟩
  rcases h.2 with h1 | ⟨g, cap, cur, h1, h2, h3⟩
  · exact .inl h1
  · exact .inr ⟨g, cap, cur, h1, by omega, h3⟩
abbrev SLT : TypeId := 61
def nmC (l : List (Ob × OA)) : List Value := l.map fun x => .string x.1.name
/-- what loaded tells, in one form -/
theorem loaded_c2 {base : Nat} {w : World} {s : Nat} {v : V} {F : Nat → Prop} (h : StoreV base w s v F) {nm : ByteArray} (hn : nm.size + 2 ≤ maxLen) :
    Calls Try.prog 31 #[.pointer (some ⟨s, 0, none⟩), .string nm] w fun e w' => Chg NoB w w' ∧ ∃ (done : List (Ob × OA)) (A : Option Addr) (c : Nat) (er : Int),
      e = .returned (.tuple #[.slice A done.length c, .int .i64 er]) ∧ (loadedO (getV v) nm = .inl er ∧ er ≠ 0 ∧ done = [] ∨ loadedO (getV v) nm = .inr (done.map (·.1)) ∧ er = 0) ∧ w'.ownsRow w.heap.size OT 8 (.slice A done.length c) done.length (allCells done) ∧ (∀ x ∈ done, ObT w' x.1 x.2) ∧ done.length ≤ 200 ∧ (done.map (fun x => x.1.name)).Nodup := by
  refine (loaded_c h hn).mono ?_
  rintro e w2 ⟨hc, hp⟩
  refine ⟨hc, ?_⟩
  cases hr : loadedO (getV v) nm with
  | inl er =>
    rw [hr] at hp
    obtain ⟨h1, h2⟩ := hp
    exact ⟨[], none, 0, er, h2, .inl ⟨rfl, h1, rfl⟩, World.ownsRow_nil _ _ _ _, by simp, by simp, by simp⟩
  | inr d =>
    rw [hr] at hp
    obtain ⟨done, A, c, rfl, h2, h3, h4, h5, h6⟩ := hp
    exact ⟨done, A, c, 0, h2, .inr ⟨rfl, rfl⟩, h3, h4, h5, h6⟩
def OrderPost (r : Int ⊕ List Ob) (w : World) (e : Ending) (w' : World) : Prop :=
  Chg NoB w w' ∧ ∃ (u : Value) (l : List ByteArray) (er : Int), e = .returned (.tuple #[u, .int .i64 er]) ∧ (r = .inl er ∧ er ≠ 0 ∧ l = [] ∨ ∃ d, r = .inr d ∧ l = d.map (·.name) ∧ er = 0) ∧ w'.ownsRow w.heap.size STR 1 u l.length (l.map Value.string)
set_option maxRecDepth 100000 in
set_option maxHeartbeats 16000000 in
theorem order_c {base : Nat} {w : World} {s : Nat} {v : V} {F : Nat → Prop} (h : StoreV base w s v F) {nm : ByteArray} (hn : nm.size + 2 ≤ maxLen) : Calls Try.prog 19 #[.pointer (some ⟨s, 0, none⟩), .string nm] w (OrderPost (loadedO (getV v) nm) w) := by
  have HLD := Go.Lib.hid (loaded_c2 h hn)
  clear h hn
  go_enter Try.func19, Try.ntmps19
  go_wp2_with fail
  refine HLD.out.mono ?_
  rintro e w2 ⟨hc2, done, A, c, er, rfl, hres, hrow, hob, hlen, hnd⟩
  have HC2 := Go.Lib.hid hc2
  have HRS := Go.Lib.hid hres
  have HRow := Go.Lib.hid hrow
  obtain ⟨n, hdn⟩ : ∃ n, done.length = n := ⟨_, rfl⟩
  have HN := Go.Lib.hid hdn
  rw [hdn] at hlen ⊢
  obtain ⟨i0, hi0, hz0, hz1, hz2⟩ := info_parts sinfo
  have Hi := Go.Lib.hid (And.intro hi0 (And.intro hz0 (And.intro hz1 hz2)))
  have HLEN := Go.Lib.hid hlen
  clear hc2 hres hrow hob hnd hdn HLD hi0 hz0 hz1 hz2
  go_wp2_with fail
  go_loopw [19, 8] (fun v19 v8 wr => ∃ (i : Nat), i ≤ n ∧ v19 = .int .i64 i ∧ wr.ownsRow w2.heap.size STR 1 v8 i (nmC (done.take i)) ∧ Chg NoB w2 wr) (fun v19 _ _ => n - (intOf v19).toNat)
  case atStart => exact ⟨0, Nat.zero_le _, rfl, World.ownsRow_nil _ _ _ _, Chg.refl _ _⟩
  case round =>
    obtain ⟨i, hi, rfl, hown, hc⟩ := hrel
    have HO := Go.Lib.hid hown
    have HC := Go.Lib.hid hc
    clear hown
    by_cases hlt : i < n
    · obtain ⟨x, hx⟩ : ∃ x, done[i]? = some x := ⟨_, List.getElem?_eq_getElem (by rw [HN.out]; exact hlt)⟩
      obtain ⟨b, o, rfl, hcell⟩ := (own_cells_ (own_chg HRow.out hc fun _ _ => id)).flat (by rw [allCells_len, HN.out]; omega)
      have hg := allCells_get done i x hx
      have x0 := hcell (i * 8 + 0) _ ((hg 0 (by omega)).trans rfl)
      have x1 := hcell (i * 8 + 1) _ ((hg 1 (by omega)).trans rfl)
      have x2 := hcell (i * 8 + 2) _ ((hg 2 (by omega)).trans rfl)
      have x3 := hcell (i * 8 + 3) _ ((hg 3 (by omega)).trans rfl)
      have x4 := hcell (i * 8 + 4) _ ((hg 4 (by omega)).trans rfl)
      have x5 := hcell (i * 8 + 5) _ ((hg 5 (by omega)).trans rfl)
      have x6 := hcell (i * 8 + 6) _ ((hg 6 (by omega)).trans rfl)
      have x7 := hcell (i * 8 + 7) _ ((hg 7 (by omega)).trans rfl)
      unfold obArr at x0 x1 x2 x3 x4 x5 x6 x7
      rw [← Nat.add_assoc] at x0 x1 x2 x3 x4 x5 x6 x7
      rw [Nat.add_zero] at x0
      have HX : Hid (nmC (done.take (i + 1)) = nmC (done.take i) ++ [.string x.1.name]) := Go.Lib.hid (by
        unfold nmC
        rw [List.take_add_one, hx, List.map_append]
        rfl)
      clear hc hcell hg hx
      go_wp2_with (at_builtin; go_must (refine wpList_appK _ rfl (.tmp 23) (.tmp 26) _ rfl w2.heap.size STR i0 _ 1 16 Try.underlying61 Hi.out.1 Hi.out.2.1 Hi.out.2.2.1 Hi.out.2.2.2 rfl (by decide) u8 i (nmC (done.take i)) (by rfl) (own_chg HO.out (((Chg.refl NoB wr).alloc _).alloc _) (fun _ _ => id)) (some ⟨wr.heap.size + 1, 0, none⟩) 1 1 [.string x.1.name] (by rfl) rfl (cells_of_blk (by have := Blk.new (wr.alloc (Obj.cells (obArr x.1 x.2) OT)) STR #[.string x.1.name]; rw [size_al] at this; exact this)) (by simp [Value.oneCell']) (by have := HLEN.out; unfold maxLen; omega) (by have := HLEN.out; omega) (by have := HC.out.size; simp; omega) ?_); go_must (
          intro v1 w1 own1 gr1 at1
          have hcg : Chg NoB w2 w1 := ((HC.out.alloc _).alloc _).grown gr1 (fun k hk hlt => by have := (own_at_ HO.out hk); omega)
          have HO1 := Go.Lib.hid own1
          have HC1 := Go.Lib.hid hcg
          clear own1 gr1 at1 hcg))
      go_roundw
      case rel => exact ⟨i + 1, by omega, by go_num, by rw [HX.out]; exact HO1.out, HC1.out⟩
      case measure => simp [intOf]; omega
    · obtain rfl : i = n := by omega
      go_wp2_with fail
      refine bodyPost_ret (results_tmp2 rfl _ _ _) rfl ?_
      refine ⟨HC2.out.trans HC.out, _, done.map (fun x => x.1.name), er, rfl, ?_, ?_⟩
      · rcases HRS.out with ⟨h1, h2, rfl⟩ | ⟨h1, h2⟩
        · exact .inl ⟨h1, h2, rfl⟩
        · exact .inr ⟨_, h1, by rw [List.map_map]; rfl, h2⟩
      · have h1 := HO.out
        rw [List.take_of_length_le (by rw [HN.out]; exact Nat.le_refl _)] at h1
        rw [List.length_map, List.map_map, HN.out]
        exact own_base_ h1 HC2.out.size
end Go.Proofs.Yteleglkoagnmcaa
set_option linter.unusedSimpArgs false
set_option linter.unusedVariables false
namespace Go.Proofs.Yteleglkoagnmcaa
open Go Go.RowKit
abbrev PLT : TypeId := 43
abbrev PA := Option Addr × Nat
def plArr (p : Pl) (a : PA) : Array Value := #[.string p.name, .int .u32 p.key, .int .i64 p.code, .int .i64 p.data, .slice a.1 p.ents.length a.2]
def plsCells (l : List (Pl × PA)) : List Value := l.flatMap fun x => (plArr x.1 x.2).toList
theorem plsCells_len : ∀ l : List (Pl × PA), (plsCells l).length = l.length * 5
  | [] => rfl
  | x :: l => by
    have := plsCells_len l
    simp only [plsCells, List.flatMap_cons, List.length_append, List.length_cons] at this ⊢
    rw [this]
    simp [plArr]
    omega
theorem plsCells_get : ∀ (l : List (Pl × PA)) (i : Nat) (x : Pl × PA), l[i]? = some x → ∀ k, k < 5 → (plsCells l)[i * 5 + k]? = (plArr x.1 x.2)[k]?
  | [], i, x, h, _, _ => by simp at h
  | y :: l, 0, x, h, k, hk => by
    simp at h
    subst h
    simp only [plsCells, List.flatMap_cons, Nat.zero_mul, Nat.zero_add]
    rw [List.getElem?_append_left (by simpa [plArr] using hk)]
    simp
  | y :: l, i + 1, x, h, k, hk => by
    have := plsCells_get l i x (by simpa using h) k hk
    simp only [plsCells, List.flatMap_cons] at this ⊢
    rw [List.getElem?_append_right (by simp [plArr]; omega), ← this]
    congr 1
    simp [plArr]
    omega
set_option maxRecDepth 20000 in
set_option maxHeartbeats 4000000 in
theorem idxPl_c {W : World} {l : List (Pl × PA)} {A : Option Addr} {c : Nat} {p : Pl × PA → Bool} {cap : Value} (hcell : 0 < l.length → ∃ b o, A = some ⟨b, o, none⟩ ∧ ∀ (i : Nat) (x : Pl × PA), l[i]? = some x → ∀ W', Chg NoB W W' → W'.cell? ⟨b, o + i * 5, none⟩ = some (.string x.1.name) ∧ W'.cell? ⟨b, o + i * 5 + 1, none⟩ = some (.int .u32 x.1.key) ∧ W'.cell? ⟨b, o + i * 5 + 2, none⟩ = some (.int .i64 x.1.code) ∧ W'.cell? ⟨b, o + i * 5 + 3, none⟩ = some (.int .i64 x.1.data) ∧ W'.cell? ⟨b, o + i * 5 + 4, none⟩ = some (.slice x.2.1 x.1.ents.length x.2.2)) (hn : l.length ≤ 9223372036854775807)
    (hf : ∀ W', Chg NoB W W' → ∀ x : Pl × PA, Calls Try.prog 92 #[.agg #[.string x.1.name, .int .u32 x.1.key, .int .i64 x.1.code, .int .i64 x.1.data, .slice x.2.1 x.1.ents.length x.2.2], cap] W' (Quiet (.bool (p x)) W')) :
    Calls Try.prog 91 #[.slice A l.length c, .func (.func 92) #[] #[cap]] W (IdxPost p l W) := by
  have HL := Go.Lib.hid hcell
  have HF := Go.Lib.hid hf
  obtain ⟨n, hnl⟩ : ∃ n, l.length = n := ⟨_, rfl⟩
  have HE := Go.Lib.hid hnl
  rw [hnl] at hn HL ⊢
  clear hcell hf hnl
  go_enter Try.func91, Try.ntmps91
  go_wp2_with fail
  go_loopw [8] (fun v8 wr => ∃ i : Nat, i ≤ n ∧ v8 = .int .i64 i ∧ (∀ (j : Nat) y, j < i → l[j]? = some y → p y = false) ∧ Chg NoB W wr) (fun v8 _ => n - (intOf v8).toNat)
  case atStart => exact ⟨0, Nat.zero_le _, rfl, fun j y h => by omega, Chg.refl _ _⟩
  case round =>
    obtain ⟨i, hi, rfl, hun, hc⟩ := hrel
    have HC := Go.Lib.hid hc
    have HU := Go.Lib.hid hun
    clear hc hun
    by_cases hlt : i < n
    · obtain ⟨b, o, rfl, hcell⟩ := HL.out (by omega)
      obtain ⟨x, hx⟩ : ∃ x, l[i]? = some x := ⟨_, List.getElem?_eq_getElem (by rw [HE.out]; exact hlt)⟩
      have hxc := hcell i x hx wr HC.out
      obtain ⟨hx0, hx1, hx2, hx3, hx4⟩ := hxc
      have HX := Go.Lib.hid hx
      have HQ := Go.Lib.hid (HF.out wr HC.out x)
      clear hcell hx
      obtain ⟨bb, hbb⟩ : ∃ bb, p x = bb := ⟨_, rfl⟩
      have HBB := Go.Lib.hid hbb
      rw [hbb] at HQ
      clear hbb
      go_wp2_with fail
      refine HQ.out.mono ?_
      rintro e w1 ⟨rfl, hc⟩
      have HC2 := Go.Lib.hid (HC.out.trans hc)
      clear hc
      cases bb with
      | true =>
        go_wp2_with fail
        go_ret
        exact ⟨HC2.out, .inl ⟨i, x, HX.out, HBB.out, HU.out, rfl⟩⟩
      | false =>
        go_wp2_with fail
        go_roundw
        case rel => exact ⟨i + 1, by omega, by go_num, fun j y hj hy => by
          rcases Nat.lt_or_ge j i with h | h
          · exact HU.out j y h hy
          · obtain rfl : j = i := by omega
            rw [HX.out] at hy
            injection hy with hy
            rw [← hy]
            exact HBB.out, HC2.out⟩
        case measure => simp [intOf]; omega
    · obtain rfl : i = n := by omega
      go_wp2_with fail
      go_ret
      exact ⟨HC.out, .inr ⟨fun y hy => by
        obtain ⟨j, hj⟩ := List.mem_iff_getElem?.1 hy
        exact HU.out j y (by have := (List.getElem?_eq_some_iff.1 hj).1; rw [HE.out] at this; exact this) hj, rfl⟩⟩
section
variable {W : World}
theorem plEq_c {xb : Nat} {nm : ByteArray} (h : W.cell? ⟨xb, 0, none⟩ = some (.string nm)) (x : Pl × PA) : Calls Try.prog 92 #[.agg #[.string x.1.name, .int .u32 x.1.key, .int .i64 x.1.code, .int .i64 x.1.data, .slice x.2.1 x.1.ents.length x.2.2], .pointer (some ⟨xb, 0, none⟩)] W (Quiet (.bool (decide (x.1.name = nm))) W) := by
  have hq := fun ob => keepQ ((Chg.refl NoB W).alloc ob) h
  rw [← eq_bytes]
  go_enter Try.func92, Try.ntmps92
  go_wp2_with fail
  go_ret
  exact ⟨rfl, (Chg.refl NoB W).alloc _⟩
/-- where a module of a name stands -/
theorem findPl_c {l : List (Pl × PA)} {A : Option Addr} {c : Nat} {nm : ByteArray} (hl : CellsAt W A (plsCells l)) (hn : l.length ≤ 9223372036854775807) :
    Calls Try.prog 84 #[.slice A l.length c, .string nm] W (IdxPost (fun x => decide (x.1.name = nm)) l W) := by
  have hc : Chg NoB W (W.alloc (Obj.cells #[.string nm] STR)) := (Chg.refl NoB W).alloc _
  have hb := Blk.new W STR #[.string nm]
  have hi := idxPl_c (c := c) (W := W.alloc (Obj.cells #[.string nm] STR)) (p := fun x => decide (x.1.name = nm)) (cap := .pointer (some ⟨W.heap.size, 0, none⟩)) (fun h0 => by
    obtain ⟨b, o, h1, h2⟩ := (hl.chg hc fun _ _ => id).flat (by rw [plsCells_len]; omega)
    refine ⟨b, o, h1, fun i x hx W' hW => ?_⟩
    have hg := plsCells_get l i x hx
    have hq : ∀ k u, k < 5 → (plArr x.1 x.2)[k]? = some u → W'.cell? ⟨b, o + i * 5 + k, none⟩ = some u := fun k u hk hu => keepQ hW (by have := h2 _ _ ((hg k hk).trans hu); rwa [← Nat.add_assoc] at this)
    exact ⟨hq 0 _ (by omega) rfl, hq 1 _ (by omega) rfl, hq 2 _ (by omega) rfl, hq 3 _ (by omega) rfl, hq 4 _ (by omega) rfl⟩) hn (fun W' hW y => plEq_c (keepQ hW (hb.cell 0)) y)
  have HI := Go.Lib.hid hi
  have HC := Go.Lib.hid hc
  obtain ⟨n, hnl⟩ : ∃ n, l.length = n := ⟨_, rfl⟩
  have HE := Go.Lib.hid hnl
  rw [hnl] at HI ⊢
  clear hl hn hc hb hi hnl
  go_enter Try.func84, Try.ntmps84
  go_wp2_with fail
  refine HI.out.mono ?_
  rintro e w1 ⟨hc1, hp⟩
  have HC1 := Go.Lib.hid (HC.out.trans hc1)
  rcases hp with ⟨i, x, h1, h2, h3, rfl⟩ | ⟨h1, rfl⟩
  · have HX := Go.Lib.hid (And.intro h1 (And.intro h2 h3))
    clear h1 h2 h3 hc1
    go_wp2_with fail
    go_ret
    exact ⟨HC1.out, .inl ⟨i, x, HX.out.1, HX.out.2.1, HX.out.2.2, rfl⟩⟩
  · have HX := Go.Lib.hid h1
    clear h1 hc1
    go_wp2_with fail
    go_ret
    exact ⟨HC1.out, .inr ⟨HX.out, rfl⟩⟩
end
end Go.Proofs.Yteleglkoagnmcaa
set_option linter.unusedSimpArgs false
set_option linter.unusedVariables false
namespace Go.Proofs.Yteleglkoagnmcaa
open Go Go.RowKit
theorem u8i (m : Nat) (h : m < 256) : (((UInt8.ofNat m).toNat : Nat) : Int) = (m : Int) := by
  rw [UInt8.toNat_ofNat']
  omega
theorem wordB_arr (n : Nat) (hn : n < 4294967296) : (bv (wordB n)).toArray = #[.int .u8 ((n : Int) % 256), .int .u8 ((n : Int) / 256 % 256), .int .u8 ((n : Int) / 65536 % 256), .int .u8 ((n : Int) / 16777216)] := by
  unfold bv wordB
  simp only [List.map_cons, List.map_nil]
  rw [u8i _ (by omega), u8i _ (by omega), u8i _ (by omega), u8i _ (by omega)]
  have e : n / 16777216 % 256 = n / 16777216 := by omega
  rw [e]
  simp
theorem word_r (W : World) (n : Nat) (hn : n < 4294967296) : Calls Try.prog 53 #[.int .u32 n] W fun e w' => e = .returned (.slice (some ⟨W.heap.size, 0, none⟩) 4 4) ∧ Blk w' W.heap.size U8T (bv (wordB n)).toArray ∧ Chg NoB W w' := by
  go_enter Try.func53, Try.ntmps53
  go_wp2_with fail
  go_ret
  refine ⟨rfl, ?_, (Chg.refl _ _).alloc _⟩
  rw [wordB_arr n hn]
  exact Blk.new _ _ _
theorem u8info_ : (Try.prog.info? U8T).map (fun i => (i.zero, i.size, i.bytes)) = some (some (.int .u8 0), 1, 1) := by kernel_rfl
theorem own_fresh (W : World) (e : TypeId) (size n : Nat) (xs : List Value) (h1 : xs.length = n * size) (h2 : n ≤ maxLen) : (W.alloc (Obj.cells xs.toArray e)).ownsRow W.heap.size e size (.slice (some ⟨W.heap.size, 0, none⟩) n n) n xs :=
  ⟨h1, .inr ⟨W.heap.size, n, xs.toArray, rfl, Nat.le_refl _, heap_alloc_new W _, Nat.le_refl _, h2, by simpa using h1, by rw [← h1]; simp⟩⟩
theorem strCells_bv (s : ByteArray) : Lib.strCells s = bv s.data.toList := rfl
/-- a row of bytes of its own, behind what was -/
def RowPost (l : List UInt8) (W : World) (e : Ending) (w' : World) : Prop := ∃ v, e = .returned v ∧ w'.ownsRow W.heap.size U8T 1 v l.length (bv l) ∧ Chg NoB W w'
theorem name_r (W : World) (s : ByteArray) (hs : s.size ≤ 1000000) : Calls Try.prog 52 #[.string s] W (RowPost (nameB s) W) := by
  obtain ⟨i0, hi0, hz0, hz1, hz2⟩ := info_parts u8info_
  have Hi := Go.Lib.hid (And.intro hi0 (And.intro hz0 (And.intro hz1 hz2)))
  have HS := Go.Lib.hid hs
  clear hi0 hz0 hz1 hz2
  go_enter Try.func52, Try.ntmps52
  go_wp2_with (at_builtin; go_must (refine Go.Lib.wpList_append_own_string _ rfl (.tmp 6) (.tmp 7) _ _ rfl W.heap.size U8T i0 Try.underlying22 Try.underlying9 Hi.out.1 Hi.out.2.1 Hi.out.2.2.1 Hi.out.2.2.2 (.slice (some ⟨W.heap.size, 0, none⟩) 1 1) 1 [.int .u8 ((s.size : Int) % 256)] (by rfl) (own_fresh W U8T 1 1 _ rfl (by decide)) s (by rfl) (by unfold maxLen; have := HS.out; omega) (by have := HS.out; omega) (by simp) ?_); go_must (
    intro v1 w1 own1 gr1 hv1
    have hg : Chg NoB W w1 := ((Chg.refl NoB W).alloc _).grown gr1 (fun k hk hlt => by
      have : W.heap.size = k := by simpa [Value.ownBlock] using hk
      omega)
    have HO := Go.Lib.hid own1
    have HG := Go.Lib.hid hg
    clear own1 gr1 hv1 hg))
  go_ret
  refine ⟨_, rfl, ?_, HG.out⟩
  have h1 := HO.out
  have e1 : (nameB s).length = 1 + s.size := by unfold nameB; simp; omega
  have e2 : bv (nameB s) = [.int .u8 ((s.size : Int) % 256)] ++ Lib.strCells s := by
    rw [strCells_bv]
    unfold nameB bv
    rw [List.map_cons, u8i _ (by omega)]
    simp
  rw [e1, e2]
  exact h1
end Go.Proofs.Yteleglkoagnmcaa
set_option linter.unusedSimpArgs false
set_option linter.unusedVariables false
namespace Go.Proofs.Yteleglkoagnmcaa
open Go Go.RowKit
def modO (nm : ByteArray) (key : Nat) (l : List (ByteArray × Nat)) : Ob := ⟨nm, key, l, 0, [], [3338665999], [0], []⟩
def modA (W : World) (iA : Option Addr) (ic : Nat) : OA := ⟨iA, ic, none, 0, some ⟨W.heap.size + 1, 0, none⟩, 1, some ⟨W.heap.size + 2, 0, none⟩, 1, none, 0⟩
set_option maxRecDepth 100000 in
set_option maxHeartbeats 16000000 in
theorem module_c (W : World) (nm : ByteArray) (key : Nat) (l : List (ByteArray × Nat)) (iA : Option Addr) (ic : Nat) : Calls Try.prog 18 #[.string nm, .int .u32 key, .slice iA l.length ic] W fun e w' =>
    e = .returned (obVal (modO nm key l) (modA W iA ic)) ∧ Chg NoB W w' ∧ Blk w' (W.heap.size + 1) U32T #[.int .u32 3338665999] ∧ Blk w' (W.heap.size + 2) INT #[.int .i64 0] := by
  have hb0 := Blk.new W OT (obArr (modO nm key l) (modA W iA ic))
  have hb := (hb0.alloc (Obj.cells #[.int .u32 3338665999] U32T)).alloc (Obj.cells #[.int .i64 0] INT)
  have h1 : Blk (((W.alloc (Obj.cells (obArr (modO nm key l) (modA W iA ic)) OT)).alloc (Obj.cells #[.int .u32 3338665999] U32T)).alloc (Obj.cells #[.int .i64 0] INT)) (W.heap.size + 1) U32T #[.int .u32 3338665999] := by
    have := (Blk.new (W.alloc (Obj.cells (obArr (modO nm key l) (modA W iA ic)) OT)) U32T #[.int .u32 3338665999]).alloc (Obj.cells #[.int .i64 0] INT)
    rwa [size_al] at this
  have h2 : Blk (((W.alloc (Obj.cells (obArr (modO nm key l) (modA W iA ic)) OT)).alloc (Obj.cells #[.int .u32 3338665999] U32T)).alloc (Obj.cells #[.int .i64 0] INT)) (W.heap.size + 2) INT #[.int .i64 0] := by
    have := Blk.new ((W.alloc (Obj.cells (obArr (modO nm key l) (modA W iA ic)) OT)).alloc (Obj.cells #[.int .u32 3338665999] U32T)) INT #[.int .i64 0]
    rwa [size_al, size_al] at this
  have HB := Go.Lib.hid (And.intro hb (And.intro h1 h2))
  have HC := Go.Lib.hid ((((Chg.refl NoB W).alloc (Obj.cells (obArr (modO nm key l) (modA W iA ic)) OT)).alloc (Obj.cells #[.int .u32 3338665999] U32T)).alloc (Obj.cells #[.int .i64 0] INT))
  clear hb0 hb h1 h2
  go_enter Try.func18, Try.ntmps18
  go_wp2_with fail
  refine bodyPost_ret (results_cell_row rfl _ _ W.heap.size OT (obArr (modO nm key l) (modA W iA ic)) (0, 0) _ rfl HB.out.1 Try.underlying50 rfl (by kernel_rfl)) rfl ?_
  exact ⟨rfl, HC.out, HB.out.2.1, HB.out.2.2⟩
end Go.Proofs.Yteleglkoagnmcaa
