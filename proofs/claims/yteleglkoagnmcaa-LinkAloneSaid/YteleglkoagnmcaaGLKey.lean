/- What is proved: the bytes of an object that may be are read as it. Conditions: none (plain laws). · What is proved: what a name's file holds behind a put. Conditions: none (plain laws). · What is proved: LinkKeys' plain law: a module that names another's key is linked, or error 8. Conditions: none (plain laws). · What is proved: LinkKeys holds, walked. Conditions: none. · What is proved: LinkKeys' walk, as its frame asks for it. Conditions: none. -/
import Derived.Test.YteleglkoagnmcaaLkU
import Derived.Test.YteleglkoagnmcaaGLlC
set_option linter.unusedSimpArgs false
set_option linter.unusedVariables false
namespace Go.Proofs.Yteleglkoagnmcaa
open Go Go.RowKit
theorem someR_app (a b : List UInt8) {n : Nat} (h : a.length = n) : someR n (a ++ b, false) = (some a, (b, false)) := by
  subst h
  unfold someR
  rw [if_neg (by simp), if_neg (by simp)]
  simp
theorem byteR_cons (x : UInt8) (b : List UInt8) : byteR (x :: b, false) = (x.toNat, (b, false)) := by
  have h := someR_app [x] b (n := 1) rfl
  rw [List.singleton_append] at h
  unfold byteR
  rw [h]
  rfl
theorem sumB_word (n : Nat) (h : n < 4294967296) : sumB (wordB n) = n := by
  unfold wordB
  simp only [sumB, UInt8.toNat_ofNat']
  omega
theorem wordR_app (n : Nat) (h : n < 4294967296) (b : List UInt8) : wordR (wordB n ++ b, false) = (n, (b, false)) := by
  unfold wordR
  rw [someR_app (wordB n) b (n := 4) rfl]
  simp only [Option.elim]
  simp [sumB_word n h]
theorem countR_ok {read : Rdr → Nat × Rdr} {most : Nat} {r : Rdr} {n : Nat} {q : Rdr} (h : read r = (n, q)) (hn : n ≤ most) : countR read most r = (n, q) := by
  unfold countR
  rw [h]
  simp only
  rw [if_neg (by omega)]
theorem bytesR_app (a b : List UInt8) {n : Nat} (h : a.length = n) : bytesR (n, (a ++ b, false)) = (a, (b, false)) := by
  unfold bytesR
  simp only
  rw [someR_app a b h]
  rfl
theorem u8n (n : Nat) (h : n < 256) : (UInt8.ofNat (n % 256)).toNat = n := by
  rw [UInt8.toNat_ofNat']
  omega
theorem nameR_app (s : ByteArray) (h : s.size ≤ 15) (b : List UInt8) : nameR (nameB s ++ b, false) = (s, (b, false)) := by
  unfold nameR nameB
  rw [List.cons_append]
  have h1 := byteR_cons (UInt8.ofNat (s.size % 256)) (s.data.toList ++ b)
  rw [u8n _ (by omega)] at h1
  rw [countR_ok h1 h, bytesR_app s.data.toList b (show s.data.toList.length = s.size from Array.length_toList)]
theorem rep_app {α : Type} {f : Rdr → α × Rdr} {enc : α → List UInt8} (l : List α) (b : List UInt8) (h : ∀ x ∈ l, ∀ b, f (enc x ++ b, false) = (x, (b, false))) : rep f l.length (l.flatMap enc ++ b, false) = (l, (b, false)) := by
  have hk : ∀ k, k ≤ l.length → rep f k (l.flatMap enc ++ b, false) = (l.take k, ((l.drop k).flatMap enc ++ b, false)) := by
    intro k
    induction k with
    | zero => intro _; rfl
    | succ k ih =>
      intro hle
      have hlt : k < l.length := hle
      rw [rep, ih (by omega)]
      simp only
      rw [List.drop_eq_getElem_cons hlt, List.flatMap_cons, List.append_assoc, h _ (List.getElem_mem hlt)]
      simp only
      rw [List.take_succ_eq_append_getElem hlt]
  have e := hk l.length (Nat.le_refl _)
  rw [e, List.take_length, List.drop_length]
  rfl
theorem impR_app (x : ByteArray × Nat) (h : x.1.size ≤ 15) (h2 : x.2 < 4294967296) (b : List UInt8) : impR (impB x ++ b, false) = (x, (b, false)) := by
  unfold impR impB
  rw [List.append_assoc, nameR_app _ h, wordR_app _ h2]
theorem entR_app (x : Int) (h : 0 ≤ x) (h2 : x ≤ 16384) (b : List UInt8) : entR (wordB (x.toNat % 4294967296) ++ b, false) = (x, (b, false)) := by
  unfold entR
  have h1 := wordR_app (x.toNat % 4294967296) (by omega) b
  rw [countR_ok h1 (by omega)]
  simp only
  congr 1
  omega
theorem fixR_app (f : Int × Int × Int) (h : 0 ≤ f.1 ∧ f.1 ≤ 16384) (h2 : 0 ≤ f.2.1 ∧ f.2.1 < 256) (h3 : 0 ≤ f.2.2 ∧ f.2.2 < 256) (b : List UInt8) : fixR (fixB f ++ b, false) = (f, (b, false)) := by
  obtain ⟨x, y, z⟩ := f
  simp only at h h2 h3
  unfold fixR fixB
  simp only
  rw [List.append_assoc, countR_ok (wordR_app (x.toNat % 4294967296) (by omega) _) (by omega)]
  simp only [List.cons_append, List.nil_append]
  rw [byteR_cons]
  simp only
  rw [byteR_cons, u8n _ (by omega), u8n _ (by omega)]
  simp only
  congr 1
  · simp
    omega
theorem ofO_bytes {o : Ob} (hm : mayO o = true) (hk : o.key < 4294967296) (hi : ∀ x ∈ o.imps, x.2 < 4294967296) (hc : ∀ x ∈ o.code, x < 4294967296) : ofO (bytesO o) = some o := by
  have hM := mayO_iff.1 hm
  obtain ⟨hn1, hn2, hn3⟩ := imps_nm hm
  have hmm := hm
  obtain ⟨name, key, imps, vars, text, code, ents, fixs⟩ := o
  have v0 := hM.v0
  have vt := hM.vt
  have tl := hM.tl
  have cl := hM.cl
  have e2 := hM.e2
  have fl := hM.fl
  have en := hM.en
  have fx := hM.fx
  simp only at hk hi hc hn1 hn2 hn3 v0 vt tl cl e2 fl en fx
  have hb : bytesO ⟨name, key, imps, vars, text, code, ents, fixs⟩ = [79, 49] ++ (nameB name ++ (wordB key ++ (UInt8.ofNat (imps.length % 256) :: (imps.flatMap impB ++ (wordB (vars.toNat % 4294967296) ++ (wordB (text.length % 4294967296) ++ (text ++ (wordB (code.length % 4294967296) ++ (code.flatMap wordB ++ (UInt8.ofNat (ents.length % 256) :: (ents.flatMap (fun x => wordB (x.toNat % 4294967296)) ++ (wordB (fixs.length % 4294967296) ++ (fixs.flatMap fixB ++ []))))))))))))) := by
    unfold bytesO
    simp only [List.append_assoc, List.cons_append, List.nil_append, List.append_nil]
    rfl
  rw [hb]
  unfold ofO
  rw [someR_app [79, 49] _ (n := 2) rfl]
  simp only [if_true]
  have hr : readO (nameB name ++ (wordB key ++ (UInt8.ofNat (imps.length % 256) :: (imps.flatMap impB ++ (wordB (vars.toNat % 4294967296) ++ (wordB (text.length % 4294967296) ++ (text ++ (wordB (code.length % 4294967296) ++ (code.flatMap wordB ++ (UInt8.ofNat (ents.length % 256) :: (ents.flatMap (fun x => wordB (x.toNat % 4294967296)) ++ (wordB (fixs.length % 4294967296) ++ (fixs.flatMap fixB ++ [])))))))))))), false) = (⟨name, key, imps, vars, text, code, ents, fixs⟩, ([], false)) := by
    have s3 : ∀ b, countR byteR 12 (UInt8.ofNat (imps.length % 256) :: b, false) = (imps.length, (b, false)) := fun b => by
      have h1 := byteR_cons (UInt8.ofNat (imps.length % 256)) b
      rw [u8n _ (by omega)] at h1
      exact countR_ok h1 hn2
    have s5 : ∀ b, countR wordR 262144 (wordB (vars.toNat % 4294967296) ++ b, false) = (vars.toNat, (b, false)) := fun b => by
      have h1 := wordR_app (vars.toNat % 4294967296) (by omega) b
      rw [Nat.mod_eq_of_lt (show vars.toNat < 4294967296 by omega)] at h1 ⊢
      exact countR_ok h1 (by omega)
    have s6 : ∀ (m k : Nat) (hm : k ≤ m) (hk : k < 4294967296) b, countR wordR m (wordB (k % 4294967296) ++ b, false) = (k, (b, false)) := fun m k hm hk b => by
      have h1 := wordR_app (k % 4294967296) (by omega) b
      rw [Nat.mod_eq_of_lt hk] at h1 ⊢
      exact countR_ok h1 hm
    have s9 : ∀ b, byteR (UInt8.ofNat (ents.length % 256) :: b, false) = (ents.length, (b, false)) := fun b => by
      have h1 := byteR_cons (UInt8.ofNat (ents.length % 256)) b
      rw [u8n _ (by omega)] at h1
      exact h1
    unfold readO
    simp only
    rw [nameR_app _ hn1]
    simp only
    rw [wordR_app _ hk]
    simp only
    rw [s3]
    simp only
    rw [rep_app imps _ fun x hx b => impR_app x (hn3 x hx) (hi x hx) b]
    simp only
    rw [s5]
    simp only
    rw [s6 8192 text.length tl (by omega)]
    rw [bytesR_app text _ rfl]
    simp only
    rw [s6 16384 code.length cl (by omega)]
    simp only
    rw [rep_app code _ fun x hx b => wordR_app x (hc x hx) b]
    simp only
    rw [s9]
    simp only
    rw [rep_app (enc := fun x : Int => wordB (x.toNat % 4294967296)) ents _ fun x hx b => entR_app x (en x hx).1 (by have := (en x hx).2; omega) b]
    simp only
    rw [s6 8192 fixs.length fl (by omega)]
    simp only
    rw [rep_app fixs _ fun x hx b => by
      obtain ⟨k, hk⟩ := List.mem_iff_getElem?.1 hx
      have hp := fx k x hk
      have a1 := hp.a0
      have a2 := hp.a1
      have a3 := hp.m1
      have a4 := hp.m2
      have a5 := hp.e0
      have a6 := hp.e2
      exact fixR_app x ⟨a1, by omega⟩ ⟨by omega, by omega⟩ ⟨a5, by omega⟩ b]
    simp only
    congr 2
    omega
  rw [hr]
  simp only
  rw [if_pos ⟨trivial, trivial, hmm⟩]
end Go.Proofs.Yteleglkoagnmcaa
set_option linter.unusedSimpArgs false
set_option linter.unusedVariables false
namespace Go.Proofs.Yteleglkoagnmcaa
open Go Go.RowKit
theorem lookD_putD (n : ByteArray) (f : Nat) (m : ByteArray) : ∀ l : List (ByteArray × Nat), lookD m (putD n f l) = if m = n then some f else lookD m l
  | [] => by
    unfold putD lookD
    by_cases h : m = n
    · rw [if_pos ((MapKept.bytes_beq m n).2 h), if_pos h]
    · rw [if_neg (fun hb => h ((MapKept.bytes_beq m n).1 hb)), if_neg h]
      rfl
  | e :: r => by
    unfold putD
    by_cases h1 : (n == e.1) = true
    · have e1 := (MapKept.bytes_beq n e.1).1 h1
      rw [if_pos h1]
      unfold lookD
      by_cases h : m = n
      · rw [if_pos ((MapKept.bytes_beq m n).2 h), if_pos h]
      · rw [if_neg (fun hb => h ((MapKept.bytes_beq m n).1 hb)), if_neg h, if_neg (fun hb => h (((MapKept.bytes_beq m e.1).1 hb).trans e1.symm))]
    · have e1 : ¬ n = e.1 := fun hb => h1 ((MapKept.bytes_beq n e.1).2 hb)
      rw [if_neg h1]
      unfold lookD
      rw [lookD_putD n f m r]
      by_cases h : m = n
      · rw [if_pos h, if_pos h, if_neg (fun hb => e1 (h.symm.trans ((MapKept.bytes_beq m e.1).1 hb)))]
      · rw [if_neg h, if_neg h]
theorem lookD_delD {n m : ByteArray} (h : m ≠ n) : ∀ l : List (ByteArray × Nat), lookD m (delD n l) = lookD m l
  | [] => rfl
  | e :: r => by
    unfold delD
    by_cases h1 : (n == e.1) = true
    · have e1 := (MapKept.bytes_beq n e.1).1 h1
      rw [if_pos h1]
      conv => rhs; unfold lookD
      rw [if_neg (fun hb => h (((MapKept.bytes_beq m e.1).1 hb).trans e1.symm))]
    · rw [if_neg h1]
      unfold lookD
      rw [lookD_delD h r]
/-- every entry has its file -/
def DirOk (v : V) : Prop := ∀ e ∈ v.dir, e.2 < v.F.length
theorem dirOk_put {v : V} (h : DirOk v) (nm : ByteArray) (l : List UInt8) : DirOk (putP v nm l) := by
  unfold putP V.put
  split
  · split
    · split
      · intro e he
        show e.2 < (v.F ++ [l]).length
        rw [List.length_append]
        rcases mem_putD he with rfl | he
        · simp
        · have := h e ((delD_sub nm v.dir).subset he)
          omega
      · split
        · exact fun e he => h e ((delD_sub nm v.dir).subset he)
        · rename_i g hg
          intro e he
          rcases mem_putD he with rfl | he
          · exact h _ (lookD_mem hg)
          · exact h e ((delD_sub nm v.dir).subset he)
    · exact h
  · exact h
theorem getV_put_same {v : V} {nm : ByteArray} {l : List UInt8} (h : (v.put nm l).1 = 0) : getV (putP v nm l) nm = some l := by
  unfold putP
  unfold V.put at h ⊢
  by_cases h1 : mayName nm = true
  · rw [if_pos h1] at h ⊢
    by_cases h2 : lookD nm v.dir ≠ none ∨ v.dir.length < 200
    · rw [if_pos h2] at h ⊢
      by_cases h3 : l.length ≤ (v.del nm).room
      · rw [if_pos h3]
        unfold getV
        rw [if_pos h1]
        show (lookD nm (putD nm v.F.length (delD nm v.dir))).map _ = some l
        rw [lookD_putD, if_pos rfl]
        show some ((v.F ++ [l]).getD v.F.length []) = some l
        simp [List.getD_eq_getElem?_getD]
      · rw [if_neg h3] at h
        simp at h
    · rw [if_neg h2] at h
      simp at h
  · rw [if_neg h1] at h
    simp at h
theorem getV_put_other {v : V} (hd : DirOk v) {nm n : ByteArray} (hne : n ≠ nm) (l : List UInt8) : getV (putP v nm l) n = getV v n := by
  unfold putP V.put
  have hk : ∀ g, (lookD n v.dir).map (v.addFile g).bytes = (lookD n v.dir).map v.bytes := fun g => by
    cases hl : lookD n v.dir with
    | none => rfl
    | some k =>
      have := hd _ (lookD_mem hl)
      simp only [Option.map_some]
      show some ((v.F ++ [g]).getD k []) = some (v.F.getD k [])
      rw [getD_app _ _ _ _ this]
  split
  · split
    · split
      · unfold getV
        show (if _ then (lookD n (putD nm v.F.length (delD nm v.dir))).map (v.addFile l).bytes else none) = _
        rw [lookD_putD, if_neg hne, lookD_delD hne, hk]
      · split
        · unfold getV
          show (if _ then (lookD n (delD nm v.dir)).map v.bytes else none) = _
          rw [lookD_delD hne]
        · rename_i g hg
          unfold getV
          show (if _ then (lookD n (putD nm g (delD nm v.dir))).map v.bytes else none) = _
          rw [lookD_putD, if_neg hne, lookD_delD hne]
    · rfl
  · rfl
/-- what is loaded of a file that an object's bytes are -/
theorem ldO_of {get : ByteArray → Option (List UInt8)} {o : Ob} (hn : objName o.name = true) (hm : mayO o = true) (hk : o.key < 4294967296) (hi : ∀ x ∈ o.imps, x.2 < 4294967296) (hc : ∀ x ∈ o.code, x < 4294967296) (hg : get (fileO o.name) = some (bytesO o)) : ldO get o.name = .inr o := by
  unfold ldO
  rw [if_pos hn, hg]
  simp only
  rw [ofO_bytes hm hk hi hc]
  simp
end Go.Proofs.Yteleglkoagnmcaa
set_option linter.unusedSimpArgs false
set_option linter.unusedVariables false
namespace Go.Proofs.Yteleglkoagnmcaa
open Go Go.RowKit
def keyB (key : Nat) : Ob := modO ⟨#[66]⟩ key []
def keyA (other : Nat) : Ob := modO ⟨#[65]⟩ 1 [(⟨#[66]⟩, other)]
def keysL (key other : Nat) : List Ob := [keyA other, keyB key]
def keysV (key other : Nat) : V := putsF putP (putsO putP v0L (keysL key other)) []
theorem keyA_may (other : Nat) : mayO (keyA other) = true := rfl
theorem keyB_may (key : Nat) : mayO (keyB key) = true := rfl
theorem keyA_len (other : Nat) : (bytesO (keyA other)).length ≤ 100 := by
  simp [bytesO, keyA, modO, nameB, wordB]
theorem keyB_len (key : Nat) : (bytesO (keyB key)).length ≤ 100 := by
  simp [bytesO, keyB, modO, nameB, wordB]
theorem keysV_eq (key other : Nat) : keysV key other = putP (putP v0L (fileO ⟨#[65]⟩) (bytesO (keyA other))) (fileO ⟨#[66]⟩) (bytesO (keyB key)) := by
  unfold keysV keysL putsF putsO putsO putsO
  rw [if_pos (keyA_may other), if_pos (keyB_may key)]
  rfl
theorem v0L_put {nm : ByteArray} (hn : mayName nm = true) {l : List UInt8} (hl : l.length ≤ 1000) : v0L.put nm l = (0, ⟨1048576, [l], [(nm, 0)], []⟩) := by
  unfold V.put
  rw [if_pos hn, if_pos (.inr (by decide)), if_pos (by
    have : (v0L.del nm).room = 1048576 := rfl
    omega)]
  rfl
theorem keys_get (key other : Nat) : getV (keysV key other) (fileO ⟨#[65]⟩) = some (bytesO (keyA other)) ∧ getV (keysV key other) (fileO ⟨#[66]⟩) = some (bytesO (keyB key)) := by
  have hA : mayName (fileO ⟨#[65]⟩) = true := by decide +kernel
  have hB : mayName (fileO ⟨#[66]⟩) = true := by decide +kernel
  have hne : (fileO ⟨#[65]⟩) ≠ (fileO ⟨#[66]⟩) := by decide +kernel
  have lA := keyA_len other
  have lB := keyB_len key
  rw [keysV_eq]
  have h1 := v0L_put hA (l := bytesO (keyA other)) (by omega)
  have hd : DirOk v0L := fun e he => by simp [v0L] at he
  refine ⟨?_, ?_⟩
  · rw [getV_put_other (dirOk_put hd _ _) hne]
    exact getV_put_same (by rw [h1])
  · refine getV_put_same ?_
    unfold putP
    rw [h1]
    generalize bytesO (keyA other) = a at *
    generalize bytesO (keyB key) = b at *
    unfold V.put
    rw [if_pos hB, if_pos (.inr (by show 1 < 200; decide)), if_pos]
    have e1 : (V.del (⟨1048576, [a], [(fileO ⟨#[65]⟩, 0)], []⟩ : V) (fileO ⟨#[66]⟩)) = (⟨1048576, [a], [(fileO ⟨#[65]⟩, 0)], []⟩ : V) := by
      unfold V.del
      rw [show delD (fileO ⟨#[66]⟩) [(fileO ⟨#[65]⟩, 0)] = [(fileO ⟨#[65]⟩, 0)] by decide +kernel]
    rw [e1]
    have e2 : (V.used (⟨1048576, [a], [(fileO ⟨#[65]⟩, 0)], []⟩ : V)) = a.length := by
      simp [V.used, V.held, dedup, sumOf, V.bytes]
    unfold V.room
    rw [e2]
    show b.length ≤ 1048576 - a.length
    omega
theorem keys_loaded (key other : Nat) (hk : key < 4294967296) (ho : other < 4294967296) : loadedO (getV (keysV key other)) ⟨#[65]⟩ = if key = other then .inr [keyB key, keyA other] else .inl 8 := by
  obtain ⟨g1, g2⟩ := keys_get key other
  have a1 : ldO (getV (keysV key other)) ⟨#[65]⟩ = .inr (keyA other) := ldO_of (o := keyA other) (by show objName ⟨#[65]⟩ = true; decide +kernel) (keyA_may other) (by show 1 < _; decide) (fun x hx => by
    have := List.mem_singleton.1 (show x ∈ [(_, _)] from hx)
    subst this
    exact ho) (fun x hx => by
    have := List.mem_singleton.1 (show x ∈ [_] from hx)
    subst this
    decide) g1
  have b1 : ldO (getV (keysV key other)) ⟨#[66]⟩ = .inr (keyB key) := ldO_of (o := keyB key) (by show objName ⟨#[66]⟩ = true; decide +kernel) (keyB_may key) hk (fun x hx => absurd hx (by show x ∉ ([] : List (ByteArray × Nat)); simp)) (fun x hx => by
    have := List.mem_singleton.1 (show x ∈ [_] from hx)
    subst this
    decide) g2
  generalize getV (keysV key other) = get at *
  have b2 : ldAll get 200 [⟨#[65]⟩] [] ⟨#[66]⟩ = .inr [keyB key] := by
    unfold ldAll
    rw [show findO [] (⟨#[66]⟩ : ByteArray) = none from rfl]
    simp only
    rw [b1]
    rfl
  unfold loadedO ldAll
  rw [show findO [] (⟨#[65]⟩ : ByteArray) = none from rfl]
  simp only
  rw [a1]
  simp only
  rw [show (keyA other).imps = [(⟨#[66]⟩, other)] from rfl]
  unfold ldImps
  rw [if_neg (by show ¬ ([(⟨#[65]⟩ : ByteArray)].any fun b => decide (b = (⟨#[66]⟩ : ByteArray))) = true; decide +kernel)]
  simp only
  rw [b2]
  simp only
  have hf : ((findO [keyB key] ⟨#[66]⟩).map (·.key)) = some key := rfl
  rw [hf]
  by_cases h : key = other
  · rw [if_pos h, if_pos (by rw [h])]
    rfl
  · rw [if_neg h, if_neg (by simpa using h)]
theorem fillAll_nofix (ps : List Pl) : ∀ (l : List Ob) (r : List Pl) (ws : List Nat), (∀ o ∈ l, o.fixs = []) → fillAll ps l r ws = some ws
  | [], _, _, _ => by unfold fillAll; rfl
  | _ :: _, [], _, _ => by unfold fillAll; rfl
  | o :: l, p :: r, ws, h => by
    unfold fillAll
    rw [h o (List.mem_cons_self ..)]
    unfold fillO
    exact fillAll_nofix ps l r ws fun q hq => h q (List.mem_cons_of_mem _ hq)
theorem keys_img (key : Nat) : ∃ i, imgP haltW [keyB key, keyA key] = .inr i := by
  unfold imgP
  rw [fillAll_nofix _ _ _ _ (fun o ho => by
    rcases List.mem_cons.1 ho with rfl | ho
    · rfl
    · rw [List.mem_singleton.1 ho]
      rfl)]
  simp only
  rw [show dataEnd [keyB key, keyA key] (codeEnd [keyB key, keyA key] ([keyB key, keyA key].length + 2)) = 6 by simp [dataEnd, codeEnd, keyA, keyB, modO], if_neg (by decide)]
  exact ⟨_, rfl⟩
theorem keys_link (key other : Nat) (hk : key < 4294967296) (ho : other < 4294967296) : if key = other then ∃ i, linkO (getV (keysV key other)) ⟨#[65]⟩ = .inr i else linkO (getV (keysV key other)) ⟨#[65]⟩ = .inl 8 := by
  have h := keys_loaded key other hk ho
  unfold linkO
  rw [h]
  by_cases e : key = other
  · subst e
    rw [if_pos rfl, if_pos rfl]
    exact keys_img key
  · rw [if_neg e, if_neg e]
end Go.Proofs.Yteleglkoagnmcaa
set_option linter.unusedSimpArgs false
set_option linter.unusedVariables false
set_option linter.constructorNameAsVariable false
namespace Go.Proofs.Yteleglkoagnmcaa
open Go Go.RowKit
set_option maxRecDepth 100000 in
set_option maxHeartbeats 32000000 in
theorem keys_c (key other : Nat) (hk : key < 4294967296) (ho : other < 4294967296) (W : World) : Calls Try.prog 5 #[.int .u32 key, .int .u32 other] W fun e w' => e = .returned (.bool true) ∧ Chg NoB W w' := by
  go_enter Try.func5, Try.ntmps5
  have HC : Hid (Chg NoB W W) := Go.Lib.hid (Chg.refl _ _)
  have HK := Go.Lib.hid hk
  have HO := Go.Lib.hid ho
  clear hk ho
  go_wp2_with fail
  refine (module_k _ ⟨#[66]⟩ key [] 0 rfl none 0).mono ?_
  rintro e wm0 ⟨c0, e0, rfl, hc, hbc, hbe⟩
  have HI0 : Hid (ObIs wm0 (keyB key) (modAt none 0 c0 e0)) := Go.Lib.hid (mod_is (fun h => by simp [impCells] at h) (by simp [maxLen]) (by decide) HK.out (by decide) hbc hbe)
  have HC := Go.Lib.hid (HC.out.trans hc)
  clear hc hbc hbe
  go_wp2_with fail
  obtain ⟨wa1, hw⟩ : ∃ w, wm0.alloc (.cells #[.string ⟨#[66]⟩, .int .u32 key, .slice none 0 0, .int .i64 0, .slice none 0 0, .slice (some ⟨c0, 0, none⟩) 1 1, .slice (some ⟨e0, 0, none⟩) 1 1, .slice none 0 0] OT) = w := ⟨_, rfl⟩
  have hca : Chg NoB wm0 wa1 := by rw [← hw]; exact (Chg.refl NoB _).alloc _
  have HB0 : Hid (Blk wa1 (wm0.heap.size) OT #[.string ⟨#[66]⟩, .int .u32 key, .slice none 0 0, .int .i64 0, .slice none 0 0, .slice (some ⟨c0, 0, none⟩) 1 1, .slice (some ⟨e0, 0, none⟩) 1 1, .slice none 0 0]) := Go.Lib.hid (by rw [← hw]; exact Blk.new _ OT _)
  have HI0 := Go.Lib.hid (HI0.out.quiet hca)
  have HC := Go.Lib.hid (HC.out.trans hca)
  have hsz : wa1.heap.size = wm0.heap.size + 1 := by rw [← hw]; simp
  rw [hw]
  clear hw hca
  generalize wm0.heap.size = b0 at *
  obtain ⟨wi1, hw⟩ : ∃ w, wa1.alloc (.cells #[.string ⟨#[66]⟩, .int .u32 other] IT) = w := ⟨_, rfl⟩
  have hca : Chg NoB wa1 wi1 := by rw [← hw]; exact (Chg.refl NoB _).alloc _
  have HR : Hid (CellsAt wi1 (some ⟨wa1.heap.size, 0, none⟩) (impCells [(⟨#[66]⟩, other)])) := Go.Lib.hid (by rw [← hw]; exact cells_of_blk (Blk.new _ IT #[.string ⟨#[66]⟩, .int .u32 other]))
  have HC := Go.Lib.hid (HC.out.trans hca)
  have HB0 := Go.Lib.hid (HB0.out.chg hca id)
  have HI0 := Go.Lib.hid (HI0.out.quiet hca)
  rw [hw]
  clear hw hca
  rw [hsz] at HR
  clear hsz
  generalize b0 + 1 = g1 at *
  refine (module_k _ ⟨#[65]⟩ 1 [(⟨#[66]⟩, other)] 1 rfl (some ⟨g1, 0, none⟩) 1).mono ?_
  rintro e wm1 ⟨c1, e1, rfl, hc, hbc, hbe⟩
  have HI1 : Hid (ObIs wm1 (keyA other) (modAt (some ⟨g1, 0, none⟩) 1 c1 e1)) := Go.Lib.hid (mod_is (HR.out.chg hc fun _ _ => id) (by simp [maxLen]) (by decide) (by decide) (fun x hx => by have := List.mem_singleton.1 hx; subst this; exact ⟨(by show (⟨#[66]⟩ : ByteArray).size ≤ maxLen; decide), HO.out⟩) hbc hbe)
  have HC := Go.Lib.hid (HC.out.trans hc)
  have HB0 := Go.Lib.hid (HB0.out.chg hc id)
  have HI0 := Go.Lib.hid (HI0.out.quiet hc)
  clear hc hbc hbe
  clear HR
  go_upto_region 3 with fail
  obtain ⟨wa2, hw⟩ : ∃ w, wm1.alloc (.cells #[.string ⟨#[65]⟩, .int .u32 1, .slice (some ⟨g1, 0, none⟩) 1 1, .int .i64 0, .slice none 0 0, .slice (some ⟨c1, 0, none⟩) 1 1, .slice (some ⟨e1, 0, none⟩) 1 1, .slice none 0 0] OT) = w := ⟨_, rfl⟩
  have hca : Chg NoB wm1 wa2 := by rw [← hw]; exact (Chg.refl NoB _).alloc _
  have HB1 : Hid (Blk wa2 (wm1.heap.size) OT #[.string ⟨#[65]⟩, .int .u32 1, .slice (some ⟨g1, 0, none⟩) 1 1, .int .i64 0, .slice none 0 0, .slice (some ⟨c1, 0, none⟩) 1 1, .slice (some ⟨e1, 0, none⟩) 1 1, .slice none 0 0]) := Go.Lib.hid (by rw [← hw]; exact Blk.new _ OT _)
  have HI1 := Go.Lib.hid (HI1.out.quiet hca)
  have HC := Go.Lib.hid (HC.out.trans hca)
  have HB0 := Go.Lib.hid (HB0.out.chg hca id)
  have HI0 := Go.Lib.hid (HI0.out.quiet hca)
  rw [hw]
  clear hw hca
  generalize wm1.heap.size = b1 at *
  have y00 : wa2.cell? ⟨b0, 0, none⟩ = some (.string ⟨#[66]⟩) := HB0.out.cell 0
  have y01 : wa2.cell? ⟨b0, 1, none⟩ = some (.int .u32 key) := HB0.out.cell 1
  have y02 : wa2.cell? ⟨b0, 2, none⟩ = some (.slice none 0 0) := HB0.out.cell 2
  have y03 : wa2.cell? ⟨b0, 3, none⟩ = some (.int .i64 0) := HB0.out.cell 3
  have y04 : wa2.cell? ⟨b0, 4, none⟩ = some (.slice none 0 0) := HB0.out.cell 4
  have y05 : wa2.cell? ⟨b0, 5, none⟩ = some (.slice (some ⟨c0, 0, none⟩) 1 1) := HB0.out.cell 5
  have y06 : wa2.cell? ⟨b0, 6, none⟩ = some (.slice (some ⟨e0, 0, none⟩) 1 1) := HB0.out.cell 6
  have y07 : wa2.cell? ⟨b0, 7, none⟩ = some (.slice none 0 0) := HB0.out.cell 7
  have y10 : wa2.cell? ⟨b1, 0, none⟩ = some (.string ⟨#[65]⟩) := HB1.out.cell 0
  have y11 : wa2.cell? ⟨b1, 1, none⟩ = some (.int .u32 1) := HB1.out.cell 1
  have y12 : wa2.cell? ⟨b1, 2, none⟩ = some (.slice (some ⟨g1, 0, none⟩) 1 1) := HB1.out.cell 2
  have y13 : wa2.cell? ⟨b1, 3, none⟩ = some (.int .i64 0) := HB1.out.cell 3
  have y14 : wa2.cell? ⟨b1, 4, none⟩ = some (.slice none 0 0) := HB1.out.cell 4
  have y15 : wa2.cell? ⟨b1, 5, none⟩ = some (.slice (some ⟨c1, 0, none⟩) 1 1) := HB1.out.cell 5
  have y16 : wa2.cell? ⟨b1, 6, none⟩ = some (.slice (some ⟨e1, 0, none⟩) 1 1) := HB1.out.cell 6
  have y17 : wa2.cell? ⟨b1, 7, none⟩ = some (.slice none 0 0) := HB1.out.cell 7
  go_wp2_with fail
  clear y00 y01 y02 y03 y04 y05 y06 y07 y10 y11 y12 y13 y14 y15 y16 y17
  obtain ⟨w7, hw⟩ : ∃ w, wa2.alloc (.cells #[.string ⟨#[65]⟩, .int .u32 1, .slice (some ⟨g1, 0, none⟩) 1 1, .int .i64 0, .slice none 0 0, .slice (some ⟨c1, 0, none⟩) 1 1, .slice (some ⟨e1, 0, none⟩) 1 1, .slice none 0 0, .string ⟨#[66]⟩, .int .u32 key, .slice none 0 0, .int .i64 0, .slice none 0 0, .slice (some ⟨c0, 0, none⟩) 1 1, .slice (some ⟨e0, 0, none⟩) 1 1, .slice none 0 0] OT) = w := ⟨_, rfl⟩
  have hca : Chg NoB wa2 w7 := by rw [← hw]; exact (Chg.refl NoB _).alloc _
  have HRow : Hid (CellsAt w7 (some ⟨wa2.heap.size, 0, none⟩) (allCells [(keyA other, modAt (some ⟨g1, 0, none⟩) 1 c1 e1), (keyB key, modAt none 0 c0 e0)])) := Go.Lib.hid (by rw [← hw]; exact cells_of_blk (Blk.new _ OT #[.string ⟨#[65]⟩, .int .u32 1, .slice (some ⟨g1, 0, none⟩) 1 1, .int .i64 0, .slice none 0 0, .slice (some ⟨c1, 0, none⟩) 1 1, .slice (some ⟨e1, 0, none⟩) 1 1, .slice none 0 0, .string ⟨#[66]⟩, .int .u32 key, .slice none 0 0, .int .i64 0, .slice none 0 0, .slice (some ⟨c0, 0, none⟩) 1 1, .slice (some ⟨e0, 0, none⟩) 1 1, .slice none 0 0]))
  have HC := Go.Lib.hid (HC.out.trans hca)
  have HI0 := Go.Lib.hid (HI0.out.quiet hca)
  have HI1 := Go.Lib.hid (HI1.out.quiet hca)
  rw [hw]
  clear hw hca
  generalize wa2.heap.size = gr at *
  have hst := stores_c HRow.out (fun x hx => by
    simp only [List.mem_cons, List.not_mem_nil, or_false] at hx
    rcases hx with rfl | rfl
    · exact HI1.out
    · exact HI0.out) (by simp) (fs := []) (B := none) (fun h => by simp at h) (by simp) (c := 2) (cb := 0)
  have HST := Go.Lib.hid hst
  clear hst HRow HI0 HI1 HB0 HB1
  refine HST.out.mono ?_
  rintro e w8 ⟨s, r, rfl, hT⟩
  have hT2 : TwoL w7 w8 s r (keysV key other) (putsF putQ (putsO putQ v0L (keysL key other)) []) 2 := hT
  have HT := Go.Lib.hid hT2
  have HC := Go.Lib.hid (HC.out.trans hT2.chg)
  clear hT hT2 HST
  obtain ⟨base, F, aa, hsv, _⟩ := HT.out
  have HSV := Go.Lib.hid hsv
  clear hsv HT
  go_wp2_with fail
  refine (link_c HSV.out (by show 1 + 2 ≤ maxLen; unfold maxLen; decide)).mono ?_
  rintro e w9 ⟨hc9, hp9⟩
  have hX := keys_link key other HK.out HO.out
  have HC9 := Go.Lib.hid (HC.out.trans hc9)
  clear hc9 HSV HC HK HO
  by_cases hko : key = other
  · rw [if_pos hko] at hX
    obtain ⟨i, hX⟩ := hX
    rw [hX] at hp9
    clear hX
    obtain ⟨wv, mv, l, _, rfl, hr1, hr2, _⟩ := hp9
    subst hko
    obtain ⟨A1, d1, rfl⟩ := own_slice hr1
    obtain ⟨A2, d2, rfl⟩ := own_slice hr2
    clear hr1 hr2
    go_upto_region 7 with fail
    obtain ⟨w10, hw⟩ : ∃ w, w9.alloc (.cells #[.slice A1 i.words.length d1, .slice A2 l.length d2] IMT) = w := ⟨_, rfl⟩
    have HC10 := Go.Lib.hid (HC9.out.trans (show Chg NoB w9 w10 by rw [← hw]; exact (Chg.refl NoB _).alloc _))
    rw [hw]
    clear hw HC9
    go_wp2_with fail
    refine (num9_c _ _).mono ?_
    rintro e wz ⟨rfl, hz⟩
    obtain rfl := hz.symm
    go_wp2_with fail
    refine (known_c _).mono ?_
    rintro e wk ⟨rfl, hck⟩
    have HCK := Go.Lib.hid (HC10.out.trans hck)
    clear hck
    go_wp2_with fail
    go_ret
    exact ⟨rfl, HCK.out⟩
  · rw [if_neg hko] at hX
    rw [hX] at hp9
    clear hX
    obtain rfl := hp9
    have hk2 : ¬ ((key : Int) = (other : Int)) := by omega
    clear hko
    go_upto_region 7 with fail
    obtain ⟨w10, hw⟩ : ∃ w, w9.alloc (.cells #[.slice none 0 0, .slice none 0 0] IMT) = w := ⟨_, rfl⟩
    have HC10 := Go.Lib.hid (HC9.out.trans (show Chg NoB w9 w10 by rw [← hw]; exact (Chg.refl NoB _).alloc _))
    rw [hw]
    clear hw HC9
    go_wp2_with fail
    refine (num9_c _ _).mono ?_
    rintro e wz ⟨rfl, hz⟩
    obtain rfl := hz.symm
    go_wp2_with fail
    refine (known_c _).mono ?_
    rintro e wk ⟨rfl, hck⟩
    have HCK := Go.Lib.hid (HC10.out.trans hck)
    clear hck
    go_wp2_with fail
    go_ret
    exact ⟨rfl, HCK.out⟩
end Go.Proofs.Yteleglkoagnmcaa
set_option linter.unusedSimpArgs false
set_option linter.unusedVariables false
namespace Go.Proofs.Yteleglkoagnmcaa
open Go Go.RowKit
theorem u32_nat {a : Int} (h : (Lit.int .u32 a).wf = true) : ∃ n : Nat, a = n ∧ n < 4294967296 := by
  have hw : a.toNat < 4294967296 ∧ 0 ≤ a := by
    simp only [Lit.wf, Bool.and_eq_true, decide_eq_true_eq] at h
    have h1 := h.1
    have h2 := h.2
    change (0 : Int) ≤ a at h1
    change a ≤ 4294967295 at h2
    omega
  exact ⟨a.toNat, by omega, hw.1⟩
theorem linkKeys_walk (a0 : Int) (w0 : (Lit.int .u32 a0).wf = true) (a1 : Int) (w1 : (Lit.int .u32 a1).wf = true) (W : World) : Calls Try.prog 5 #[.int .u32 a0, .int .u32 a1] W fun e w' => e = .returned (.bool true) ∧ Chg NoB W w' := by
  obtain ⟨n, rfl, hn⟩ := u32_nat w0
  obtain ⟨m, rfl, hm⟩ := u32_nat w1
  exact keys_c n m hn hm W
end Go.Proofs.Yteleglkoagnmcaa
