import Derived.Test.YtikpfffhcjlcjaaVcB
set_option linter.unusedVariables false
set_option linter.unusedSimpArgs false
namespace Go.Vc
theorem own_tag {α : Type} {h : Heap} {E : TypeId} {a : Option Addr} {n c b : Nat} {f : α → Value} {l : List α} (o : Vc.Own h E a n c f l) (hb : owner a = some b) : ∃ cs fr, h b = some (.cells cs E fr) := by
  rcases o.2 with ⟨rfl, _⟩ | ⟨b0, off, cs, fr, rfl, _, h1, _⟩
  · cases hb
  · cases hb; exact ⟨cs, fr, h1⟩
theorem own_ne {α : Type} {h : Heap} {E : TypeId} {a : Option Addr} {n c b : Nat} {f : α → Value} {l : List α} (o : Vc.Own h E a n c f l) {cs : Array Value} {T : TypeId} {fr : Nat × Nat} (hb : h b = some (.cells cs T fr)) (hT : T ≠ E) : owner a ≠ some b := by
  intro e
  obtain ⟨cs2, fr2, h2⟩ := own_tag o e
  rw [hb] at h2
  cases h2
  exact hT rfl
end Go.Vc
namespace Go.Dfl
open Go Go.Vc
def dbit (n : Int) (i : Nat) : Bool := decide (n / 2 ^ i % 2 = 1)
def bitsL (n : Int) (many : Nat) : List Bool := (List.range many).map (dbit n)
def bitsH (n : Int) (many : Nat) : List Bool := (List.range many).map fun i => dbit n (many - 1 - i)
def b2i (b : Bool) : Int := if b then 1 else 0
def byteV : List Bool → Int
  | [] => 0
  | b :: r => b2i b + 2 * byteV r
def packB (bs : List Bool) : List Int := (List.range ((bs.length + 7) / 8)).map fun k => byteV ((bs.drop (8 * k)).take 8)
theorem b2i_range (b : Bool) : 0 ≤ b2i b ∧ b2i b ≤ 1 := by cases b <;> simp [b2i]
theorem byteV_range (l : List Bool) : 0 ≤ byteV l ∧ byteV l < 2 ^ l.length := by
  induction l with
  | nil => simp [byteV]
  | cons b r ih =>
    have := b2i_range b
    rw [byteV, List.length_cons, Int.pow_succ]
    omega
theorem byteV_snoc (l : List Bool) (q : Bool) : byteV (l ++ [q]) = byteV l + b2i q * 2 ^ l.length := by
  induction l with
  | nil => simp [byteV]
  | cons b r ih =>
    rw [List.cons_append, byteV, ih, byteV, List.length_cons, Int.pow_succ, Int.mul_add, Int.add_assoc]
    congr 2
    rw [← Int.mul_assoc, Int.mul_comm 2, Int.mul_assoc, Int.mul_comm 2]
theorem packB_len (bs : List Bool) : (packB bs).length = (bs.length + 7) / 8 := by simp [packB]
theorem packB_get {bs : List Bool} {k : Nat} (h : k < (bs.length + 7) / 8) : (packB bs)[k]? = some (byteV ((bs.drop (8 * k)).take 8)) := by
  simp [packB, h]
def opened (bs : List Bool) : List Int := if bs.length % 8 = 0 then packB bs ++ [0] else packB bs
theorem opened_get (bs : List Bool) : (opened bs)[bs.length / 8]? = some (byteV (bs.drop (8 * (bs.length / 8)))) := by
  unfold opened
  split
  · rename_i h
    have h1 := packB_len bs
    rw [List.getElem?_append_right (by omega), List.drop_of_length_le (by omega), h1, show bs.length / 8 - (bs.length + 7) / 8 = 0 by omega]
    rfl
  · rename_i h
    rw [packB_get (by omega), List.take_of_length_le (by rw [List.length_drop]; omega)]
theorem opened_len (bs : List Bool) : (opened bs).length = bs.length / 8 + 1 := by
  have h1 := packB_len bs
  unfold opened
  split
  · rw [List.length_append, h1, List.length_singleton]; omega
  · omega
theorem packB_snoc (bs : List Bool) (q : Bool) : packB (bs ++ [q]) = (opened bs).set (bs.length / 8) (byteV (bs.drop (8 * (bs.length / 8))) + b2i q * 2 ^ (bs.length % 8)) := by
  have hdl : (bs.drop (8 * (bs.length / 8))).length = bs.length % 8 := by rw [List.length_drop]; omega
  apply List.ext_getElem?
  intro k
  have hl : (packB (bs ++ [q])).length = bs.length / 8 + 1 := by rw [packB_len, List.length_append, List.length_singleton]; omega
  by_cases hk : k < bs.length / 8 + 1
  · rw [packB_get (by rw [List.length_append, List.length_singleton]; omega)]
    by_cases he : bs.length / 8 = k
    · subst he
      rw [List.getElem?_set_self (by rw [opened_len]; omega)]
      rw [List.drop_append_of_le_length (by omega), List.take_of_length_le (by rw [List.length_append, hdl, List.length_singleton]; omega), byteV_snoc, hdl]
    · rw [List.getElem?_set_ne he]
      have h2 : (opened bs)[k]? = (packB bs)[k]? := by
        unfold opened
        split
        · rw [List.getElem?_append_left (by rw [packB_len]; omega)]
        · rfl
      rw [h2, packB_get (by omega)]
      congr 2
      rw [List.drop_append_of_le_length (by omega), List.take_append_of_le_length (by rw [List.length_drop]; omega)]
  · rw [List.getElem?_eq_none (by omega), List.getElem?_eq_none (by rw [List.length_set, opened_len]; omega)]
theorem packB_byte {bs : List Bool} {x : Int} (h : x ∈ packB bs) : 0 ≤ x ∧ x ≤ 255 := by
  obtain ⟨k, _, rfl⟩ := List.mem_map.1 h
  have h1 := byteV_range ((bs.drop (8 * k)).take 8)
  have h2 : ((bs.drop (8 * k)).take 8).length ≤ 8 := by rw [List.length_take]; omega
  have h3 : (2 : Int) ^ ((bs.drop (8 * k)).take 8).length ≤ 2 ^ 8 := by
    have := Nat.pow_le_pow_right (n := 2) (by omega) h2
    exact_mod_cast this
  omega
theorem shl_u8 {x y : Int} {Q : Int → Prop} (h : 0 ≤ x ∧ x ≤ 1) (hy : 0 ≤ y ∧ y ≤ 7) (hk : Q (x * 2 ^ y.toNat)) : ∃ z, z = shlV .u8 x y ∧ Q z := by
  refine ⟨_, rfl, ?_⟩
  obtain ⟨m, rfl⟩ := Int.eq_ofNat_of_zero_le hy.1
  have hm : m ≤ 7 := by omega
  have e : shlV .u8 x (m : Int) = x * 2 ^ (m : Int).toNat := by
    rw [Int.toNat_natCast]
    unfold shlV
    rw [Int.toNat_natCast, show min m (IntKind.bits .u8) = m from Nat.min_eq_left (by show m ≤ 8; omega)]
    have hp : (2 : Int) ^ m ≤ 2 ^ 7 := by
      have := Nat.pow_le_pow_right (n := 2) (by omega) hm
      exact_mod_cast this
    have hp0 : (0 : Int) < 2 ^ m := Int.pow_pos (by omega)
    rcases (by omega : x = 0 ∨ x = 1) with rfl | rfl
    · rw [Int.zero_mul]; rfl
    · rw [Int.one_mul]; simp only [IntKind.wrap, IntKind.signed, IntKind.bits]; simp; omega
  rw [e]
  exact hk
theorem or8_table : ∀ r < 8, ∀ b < 2, ∀ v < 128, v < 2 ^ r → ((BitVec.ofNat 8 v ||| BitVec.ofNat 8 (b * 2 ^ r)).toNat = v + b * 2 ^ r) := by decide +kernel
theorem or_u8 (r : Nat) {v x : Int} {Q : Int → Prop} (hr : r ≤ 7) (hv : 0 ≤ v ∧ v < 2 ^ r) (hx : 0 ≤ x ∧ x ≤ 1) (hk : Q (v + x * 2 ^ r)) :
    ∃ z, z = IntKind.u8.wrap ((BitVec.ofInt (IntKind.bits .u8) v ||| BitVec.ofInt (IntKind.bits .u8) (x * 2 ^ r)).toNat : Int) ∧ Q z := by
  refine ⟨_, rfl, ?_⟩
  obtain ⟨w, rfl⟩ := Int.eq_ofNat_of_zero_le hv.1
  obtain ⟨b, rfl⟩ := Int.eq_ofNat_of_zero_le hx.1
  have hw : w < 2 ^ r := by exact_mod_cast hv.2
  have hp : 2 ^ r ≤ 2 ^ 7 := Nat.pow_le_pow_right (by omega) hr
  have hp7 : (2 : Nat) ^ 7 = 128 := rfl
  have ht := or8_table r (by omega) b (by omega) w (by omega) hw
  have e : (BitVec.ofInt (IntKind.bits .u8) (w : Int) ||| BitVec.ofInt (IntKind.bits .u8) ((b : Int) * 2 ^ r)).toNat = w + b * 2 ^ r := by
    show (BitVec.ofInt 8 (w : Int) ||| BitVec.ofInt 8 ((b : Int) * 2 ^ r)).toNat = _
    rw [show ((b : Int) * 2 ^ r) = ((b * 2 ^ r : Nat) : Int) by push_cast; rfl, ofInt_nat, ofInt_nat]
    exact ht
  have hb : b * 2 ^ r ≤ 1 * 2 ^ r := Nat.mul_le_mul_right _ (by omega)
  rw [e]
  have hz : ∀ m : Nat, m < 256 → IntKind.u8.wrap (m : Int) = (m : Int) := fun m hm => by
    simp only [IntKind.wrap, IntKind.signed, IntKind.bits]
    simp
    omega
  rw [hz _ (by omega)]
  push_cast
  exact hk
theorem shrs_i64 {x y : Int} {Q : Int → Prop} (hy : 0 ≤ y ∧ y ≤ 62) (hk : Q (x / 2 ^ y.toNat)) : ∃ z, z = shrV .i64 x y ∧ Q z := by
  have e : shrV .i64 x y = x / 2 ^ y.toNat := by
    unfold shrV
    rw [Int.fdiv_eq_ediv_of_nonneg _ (Int.pow_nonneg (by omega)), show min y.toNat (IntKind.bits .i64) = y.toNat from Nat.min_eq_left (by show y.toNat ≤ 64; omega)]
  exact ⟨_, rfl, by rw [e]; exact hk⟩
theorem and1s_i64 {x : Int} {Q : Int → Prop} (hk : Q (x % 2)) : ∃ z, z = IntKind.i64.wrap ((BitVec.ofInt (IntKind.bits .i64) x &&& BitVec.ofInt (IntKind.bits .i64) 1).toNat : Int) ∧ Q z := by
  refine ⟨_, rfl, ?_⟩
  have e : (BitVec.ofInt (IntKind.bits .i64) x &&& BitVec.ofInt (IntKind.bits .i64) 1).toNat = (x % 2).toNat := by
    show (BitVec.ofInt 64 x &&& BitVec.ofInt 64 1).toNat = _
    rw [BitVec.toNat_and, show (BitVec.ofInt 64 1).toNat = 1 from rfl, Nat.and_one_is_mod, BitVec.toNat_ofInt]
    have : ((2 ^ 64 : Nat) : Int) = 18446744073709551616 := rfl
    omega
  rw [e]
  have h1 : ((x % 2).toNat : Int) = x % 2 := by omega
  rw [h1]
  have h2 : IntKind.i64.wrap (x % 2) = x % 2 := wi (by omega) (by omega)
  rw [h2]
  exact hk
end Go.Dfl
set_option linter.unusedVariables false
set_option linter.unusedSimpArgs false
namespace Go.Dfl
def cnt (k : Int) : List Int → Nat
  | [] => 0
  | x :: r => if x = k then cnt k r + 1 else 0
def zs (n : Nat) : List (Int × Int) :=
  if h : n = 0 then [] else if 11 ≤ n then (18, ((min n 138 : Nat) : Int) - 11) :: zs (n - min n 138) else if 3 ≤ n then [(17, (n : Int) - 3)] else (0, 0) :: zs (n - 1)
termination_by n
def ks (k : Int) (n : Nat) : List (Int × Int) :=
  if h : n = 0 then [] else if 3 ≤ n then (16, ((min n 6 : Nat) : Int) - 3) :: ks k (n - min n 6) else (k, 0) :: ks k (n - 1)
termination_by n
theorem cnt_le (k : Int) (l : List Int) : cnt k l ≤ l.length := by
  induction l with
  | nil => simp [cnt]
  | cons x r ih => rw [cnt]; split <;> simp <;> omega
theorem cnt_self (k : Int) (r : List Int) : cnt k (k :: r) = cnt k r + 1 := by simp [cnt]
def grp (k : Int) (n : Nat) : List (Int × Int) := if k = 0 then zs n else (k, 0) :: ks k (n - 1)
def runsF : List Int → List (Int × Int)
  | [] => []
  | k :: r => grp k (cnt k r + 1) ++ runsF (r.drop (cnt k r))
termination_by l => l.length
decreasing_by simp [List.length_drop]; omega
theorem cnt_get {k : Int} : ∀ {l : List Int} {j : Nat}, j < cnt k l → l[j]? = some k
  | [], j, h => by simp [cnt] at h
  | x :: r, j, h => by
    rw [cnt] at h
    by_cases hx : x = k
    · rw [if_pos hx] at h
      cases j with
      | zero => rw [hx]; rfl
      | succ j => rw [List.getElem?_cons_succ]; exact cnt_get (by omega)
    · rw [if_neg hx] at h; omega
theorem cnt_ge {k : Int} : ∀ {l : List Int} {n : Nat}, (∀ j, j < n → l[j]? = some k) → n ≤ cnt k l
  | l, 0, h => Nat.zero_le _
  | [], n + 1, h => by have := h 0 (by omega); simp at this
  | x :: r, n + 1, h => by
    have h0 := h 0 (by omega)
    simp at h0
    subst h0
    rw [cnt_self]
    have := cnt_ge (l := r) (n := n) (k := x) fun j hj => by have := h (j + 1) (by omega); simpa using this
    omega
theorem cnt_eq {k : Int} {l : List Int} {n : Nat} (h : ∀ j, j < n → l[j]? = some k) (hs : l[n]? ≠ some k) : cnt k l = n := by
  have h1 := cnt_ge h
  rcases Nat.lt_or_ge n (cnt k l) with h2 | h2
  · exact absurd (cnt_get h2) hs
  · omega
def rest (prev : Option Int) (l : List Int) : List (Int × Int) :=
  match l with
  | [] => []
  | k :: r => if k ≠ 0 ∧ prev = some k then ks k (cnt k r + 1) ++ runsF (r.drop (cnt k r)) else runsF l
theorem zs_big {n : Nat} (h : 11 ≤ n) : zs n = (18, ((min n 138 : Nat) : Int) - 11) :: zs (n - min n 138) := by rw [zs, dif_neg (by omega), if_pos h]
theorem zs_mid {n : Nat} (h : 3 ≤ n) (h2 : n < 11) : zs n = [(17, (n : Int) - 3)] := by rw [zs, dif_neg (by omega), if_neg (by omega), if_pos h]
theorem zs_one {n : Nat} (h : 1 ≤ n) (h2 : n < 3) : zs n = (0, 0) :: zs (n - 1) := by rw [zs, dif_neg (by omega), if_neg (by omega), if_neg (by omega)]
theorem zs_nil : zs 0 = [] := by rw [zs, dif_pos rfl]
theorem ks_big {k : Int} {n : Nat} (h : 3 ≤ n) : ks k n = (16, ((min n 6 : Nat) : Int) - 3) :: ks k (n - min n 6) := by rw [ks, dif_neg (by omega), if_pos h]
theorem ks_one {k : Int} {n : Nat} (h : 1 ≤ n) (h2 : n < 3) : ks k n = (k, 0) :: ks k (n - 1) := by rw [ks, dif_neg (by omega), if_neg (by omega)]
theorem ks_nil (k : Int) : ks k 0 = [] := by rw [ks, dif_pos rfl]
end Go.Dfl
