import Derived.Test.YtikpfffhcjlcjaaGzEx
/- Bytes of a text that are set. -/
set_option linter.unusedSimpArgs false
namespace Go.Proofs.Ytikpfffhcjlcjaa
open Go Go.Vc Go.Huf Go.Dfl Go.Gz
set_option maxRecDepth 20000
set_option linter.unusedVariables false

theorem own_conv {h : Heap} {r c : Nat} {E : TypeId} {s : ByteArray} (hc : s.size ≤ c) : Vc.Own (hset h r (.cells (bytesVals s ++ Array.replicate (c - s.size) (.int .u8 0)) E (c, c + 1))) E (some ⟨r, 0, none⟩) s.size c bv (L8 s) := by
  refine ⟨L8_len s, .inr ⟨r, 0, _, _, rfl, hc, hset_same _ _ _, ?_, fun i hi => ?_, fun i hi => ?_⟩⟩
  · have : s.data.size = s.size := rfl
    simp [bytesVals]
    omega
  · simp [fz]
    omega
  · have h1 : i < s.data.size := by rw [L8_len] at hi; exact hi
    rw [Nat.zero_add, Array.getElem?_append_left (by simpa [bytesVals] using h1)]
    simp [bytesVals, L8, bv]
    exact ⟨_, Array.getElem?_eq_getElem h1, rfl⟩
theorem readB_own {h : Heap} {E : TypeId} {b off n c : Nat} {l : List UInt8} (o : Vc.Own h E (some ⟨b, off, none⟩) n c bv l) : ReadB h ⟨b, off, none⟩ n l := by
  obtain ⟨hl, ⟨h1, _⟩ | ⟨b', off', cs, fr, ha, hn, hb, hsz, hfz, hc⟩⟩ := o
  · cases h1
  cases ha
  refine ⟨hl, fun i hi => ?_⟩
  rw [addr_add]
  refine ⟨cs, E, fr, hb, rfl, ?_⟩
  rw [hc i (by omega)]
  simp [bv, List.getD_eq_getElem?_getD, List.getElem?_eq_getElem (show i < l.length by omega)]
def setB (A : ByteArray) (i : Nat) (x : UInt8) : ByteArray := ⟨((L8 A).set i x).toArray⟩
theorem L8_set (A : ByteArray) (i : Nat) (x : UInt8) : L8 (setB A i x) = (L8 A).set i x := by
  unfold setB
  show ((L8 A).set i x).toArray.toList = _
  rw [List.toList_toArray]
theorem setB_size (A : ByteArray) (i : Nat) (x : UInt8) : (setB A i x).size = A.size := by rw [← L8_len, L8_set, List.length_set, L8_len]
theorem set_left {A R : ByteArray} {i : Nat} {x : UInt8} (h : i < A.size) : setB (A ++ R) i x = setB A i x ++ R := by
  apply L8_inj
  rw [L8_set, L8_app, L8_app, L8_set, List.set_append_left _ _ (by rw [L8_len]; exact h)]
theorem set_right {A R : ByteArray} {i : Nat} {x : UInt8} : setB (A ++ R) (A.size + i) x = A ++ setB R i x := by
  apply L8_inj
  rw [L8_set, L8_app, L8_app, L8_set, ← L8_len A, List.set_append_right _ _ (by omega), show (L8 A).length + i - (L8 A).length = i by omega]
theorem set_byte {A : ByteArray} {i : Nat} {x : UInt8} (h : i < A.size) : byteAt (setB A i x) i = (x.toNat : Nat) := by
  rw [L8_byte, L8_set, List.getD_eq_getElem?_getD, List.getElem?_set_self (by rw [L8_len]; exact h)]
  rfl
theorem set_other {A : ByteArray} {i j : Nat} {x : UInt8} (h : i ≠ j) : byteAt (setB A i x) j = byteAt A j := by
  rw [L8_byte, L8_byte, L8_set, List.getD_eq_getElem?_getD, List.getD_eq_getElem?_getD, List.getElem?_set_ne h]
theorem set_same {A : ByteArray} {i : Nat} {x : UInt8} (h : (L8 A)[i]? = some x) : setB A i x = A := by
  apply L8_inj
  rw [L8_set]
  apply List.ext_getElem?
  intro j
  by_cases hj : i = j
  · subst hj
    rw [List.getElem?_set_self (List.getElem?_eq_some_iff.1 h).1, h]
  · rw [List.getElem?_set_ne hj]
end Go.Proofs.Ytikpfffhcjlcjaa
