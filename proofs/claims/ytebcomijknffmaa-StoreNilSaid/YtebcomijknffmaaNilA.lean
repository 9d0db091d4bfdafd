/- What is proved: the plain run of StoreNil's store. Conditions: none. -/
import Derived.Test.YtebcomijknffmaaNoD
import Derived.Test.YtebcomijknffmaaStoreS
namespace Go.Proofs.Ytebcomijknffmaa
open Go.RowKit
def zs (n : Nat) : List UInt8 := List.replicate n 0
def nmC : ByteArray := ⟨#[99]⟩
def nmZ : ByteArray := ⟨#[122]⟩
def fname (i : Nat) : ByteArray := ⟨#[102, UInt8.ofNat (97 + i / 26), UInt8.ofNat (97 + i % 26)]⟩
def nv0 : V := ⟨10, [], [], []⟩
def nv1 : V := ⟨10, [zs 10], [(nmA, 0)], []⟩
def nv2 : V := ⟨10, [zs 10, zs 10], [(nmA, 1)], []⟩
def nv3 : V := ⟨10, [zs 10, zs 10, []], [(nmA, 1)], [⟨2, nmB, 0⟩]⟩
def nv4 : V := ⟨10, [zs 10, zs 10, []], [(nmA, 1), (nmB, 2)], [⟨2, nmB, 0⟩]⟩
def nv5 : V := ⟨10, [zs 10, zs 10, []], [(nmB, 2)], [⟨2, nmB, 0⟩]⟩
def nv6 : V := ⟨10, [zs 10, zs 10, [1, 0, 0, 0]], [(nmB, 2)], [⟨2, nmB, 4⟩]⟩
def nvr (i : Nat) : V := ⟨10, [zs 10, zs 10, [1, 0, 0, 0]], [(nmB, 2)], ⟨2, nmB, 4⟩ :: List.replicate i ⟨2, nmB, 0⟩⟩
def nvp (j : Nat) : V := ⟨10, [zs 10, zs 10, [1, 0, 0, 0]] ++ List.replicate j [], (nmB, 2) :: (List.range j).map (fun i => (fname (i + 1), 3 + i)), ⟨2, nmB, 4⟩ :: List.replicate 254 ⟨2, nmB, 0⟩⟩
theorem nil_1 : nv0.put nmA (zs 11) = (5, nv0) := by decide +kernel
theorem nil_2 : nv0.put nmA (zs 10) = (0, nv1) := by decide +kernel
theorem nil_3 : nv1.put nmA (zs 10) = (0, nv2) := by decide +kernel
theorem nil_4 : nv2.room = 0 := by decide +kernel
theorem nil_5 : nv2.fresh nmB = (1, nv3) := by decide +kernel
theorem nil_6 : nv3.write 1 [1] = (5, nv3) := by decide +kernel
theorem nil_7 : nv3.write 1 (bytesOfWord 1) = (5, nv3) := by decide +kernel
theorem nil_8 : nv3.register 1 = (0, nv4) := by decide +kernel
theorem nil_9 : nv4.drop nmA = (0, nv5) := by decide +kernel
theorem nil_10 : nv5.write 1 (bytesOfWord 1) = (0, nv6) := by decide +kernel
theorem nil_11 : nv6.room = 6 := by decide +kernel
theorem nmB_ok : mayName nmB = true := by decide +kernel
theorem nil_12 (i : Nat) (h : i < 254) : (nvr i).old nmB = (i + 2, nvr (i + 1)) := by
  have hl : (nvr i).rd.length = i + 1 := by simp [nvr]
  unfold V.old
  rw [if_pos ⟨nmB_ok, by omega⟩, hl]
  have h2 : lookD nmB (nvr i).dir = some 2 := by
    show lookD nmB [(nmB, 2)] = some 2
    decide +kernel
  rw [h2]
  unfold nvr V.ride
  simp [List.replicate_succ']
theorem nil_13 : (nvr 254).old nmB = (0, nvr 254) := by
  have hl : (nvr 254).rd.length = 255 := by unfold nvr; rw [List.length_cons, List.length_replicate]
  unfold V.old
  rw [if_neg (by omega)]
theorem nil_14 : (nvr 254).fresh nmC = (0, nvr 254) := by
  have hl : (nvr 254).rd.length = 255 := by unfold nvr; rw [List.length_cons, List.length_replicate]
  unfold V.fresh
  rw [if_neg (by omega)]
theorem delD_no {n : ByteArray} : ∀ {l : List (ByteArray × Nat)}, n ∉ l.map (·.1) → delD n l = l
  | [], _ => rfl
  | e :: r, h => by
    simp only [List.map_cons, List.mem_cons, not_or] at h
    have e1 : (n == e.1) = false := by
      cases hq : (n == e.1) with
      | true => exact absurd ((MapKept.bytes_beq _ _).1 hq) h.1
      | false => rfl
    simp only [delD, e1]
    exact congrArg (e :: ·) (delD_no h.2)
theorem fname_ok : ∀ j : Fin 199, mayName (fname (j.val + 1)) = true := by decide +kernel
theorem not_mem_of_all {n : ByteArray} {l : List ByteArray} (h : l.all (fun x => !(n == x)) = true) : n ∉ l := fun hm => by
  have := List.all_eq_true.1 h n hm
  rw [(MapKept.bytes_beq n n).2 rfl] at this
  cases this
theorem fname_all : ∀ j : Fin 199, (nmB :: (List.range j.val).map (fun i => fname (i + 1))).all (fun x => !(fname (j.val + 1) == x)) = true := by decide +kernel
theorem fname_new (j : Fin 199) : fname (j.val + 1) ∉ nmB :: (List.range j.val).map (fun i => fname (i + 1)) := not_mem_of_all (fname_all j)
theorem nvp_keys (j : Nat) : (nvp j).dir.map (·.1) = nmB :: (List.range j).map (fun i => fname (i + 1)) := by
  unfold nvp; simp [List.map_map, Function.comp_def]
theorem nil_15 (j : Nat) (h : j < 199) : (nvp j).put (fname (j + 1)) [] = (0, nvp (j + 1)) := by
  have h1 := fname_ok ⟨j, h⟩
  have h2 := fname_new ⟨j, h⟩
  simp only at h1 h2
  rw [← nvp_keys] at h2
  have hd : (nvp j).dir.length = j + 1 := by unfold nvp; simp
  have h3 : (nvp j).del (fname (j + 1)) = nvp j := by unfold V.del; rw [delD_no h2]
  unfold V.put
  rw [if_pos h1, if_pos (.inr (by omega)), h3, if_pos (by simp)]
  have h4 : ((nvp j).addFile []).enter (fname (j + 1)) (nvp j).F.length = nvp (j + 1) := by
    unfold V.enter V.addFile
    simp only
    rw [putD_new h2]
    have eF : (nvp j).F ++ [[]] = (nvp (j + 1)).F := by
      show ([zs 10, zs 10, [1, 0, 0, 0]] ++ List.replicate j []) ++ [[]] = [zs 10, zs 10, [1, 0, 0, 0]] ++ List.replicate (j + 1) []
      rw [List.replicate_succ', List.append_assoc]
    have eL : (nvp j).F.length = 3 + j := by
      show ([zs 10, zs 10, [1, 0, 0, 0]] ++ List.replicate j ([] : List UInt8)).length = 3 + j
      rw [List.length_append, List.length_replicate]; rfl
    have eD : (nvp j).dir ++ [(fname (j + 1), (nvp j).F.length)] = (nvp (j + 1)).dir := by
      rw [eL]
      show ((nmB, 2) :: (List.range j).map (fun i => (fname (i + 1), 3 + i))) ++ [(fname (j + 1), 3 + j)] = (nmB, 2) :: (List.range (j + 1)).map (fun i => (fname (i + 1), 3 + i))
      rw [List.range_succ, List.map_append]; rfl
    rw [eF, eD]
    rfl
  rw [h4]
theorem nil_16 : (nvp 199).put nmZ [] = (5, nvp 199) := by
  have h1 : mayName nmZ = true := by decide +kernel
  have h2 : lookD nmZ (nvp 199).dir = none := by
    rw [lookD_none, nvp_keys]
    exact not_mem_of_all (by decide +kernel)
  have hd : (nvp 199).dir.length = 200 := by unfold nvp; rw [List.length_cons, List.length_map, List.length_range]
  unfold V.put
  rw [if_pos h1, if_neg (by simp [h2, hd])]
theorem nil_17 (v : V) (h : lookD nmB v.dir ≠ none) : (v.put nmB []).1 = 0 := by
  unfold V.put
  rw [if_pos nmB_ok, if_pos (.inl h), if_pos (by simp)]
theorem nil_18 (v : V) : v.put ⟨#[]⟩ [] = (2, v) := by
  have h1 : mayName ⟨#[]⟩ = false := by decide +kernel
  unfold V.put
  rw [if_neg (by rw [h1]; simp)]
end Go.Proofs.Ytebcomijknffmaa
