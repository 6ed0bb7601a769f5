import Derived.Test.YtlkpgjicpjjlcaaGreatDoorTileHash
import Derived.Test.YtlkpgjicpjjlcaaGreatDoorTileRParts
import Derived.Test.YtlkpgjicpjjlcaaGreatDoorTileChunk
/- What a tree's tiles say, in plain words. -/
set_option linter.unusedVariables false
set_option linter.unusedSimpArgs false
namespace Go.Proofs.YtlkpgjicpjjlcaaGreatDoor
open Go Go.Vc Go.Tile Go.Sha Go.Mk
set_option maxRecDepth 20000
set_option linter.unusedVariables false
theorem rt_sz {l : List ByteArray} (h0 : l ≠ []) (hx : ∀ x ∈ l, x.size = 32) : (rt ndB emB l).size = 32 := by
  by_cases h2 : 2 ≤ l.length
  · rw [rt_two ndB emB h2, ndB_size]
  · match l, h0 with
    | [x], _ => rw [rt_one]; exact hx x List.mem_cons_self
    | x :: y :: r, _ => exact absurd (by simp) h2
/-- A stretch of a list. -/
def seg (L : List ByteArray) (a b : Nat) : List ByteArray := (L.drop a).take (b - a)
theorem seg_len {L : List ByteArray} {a b : Nat} (hb : b ≤ L.length) : (seg L a b).length = b - a := by
  unfold seg
  rw [List.length_take, List.length_drop]
  omega
theorem seg_all (L : List ByteArray) : seg L 0 L.length = L := by
  unfold seg
  rw [List.drop_zero, Nat.sub_zero, List.take_length]
theorem seg_take {L : List ByteArray} {a b d : Nat} (h : a + d ≤ b) : (seg L a b).take d = seg L a (a + d) := by
  unfold seg
  rw [List.take_take]
  congr 1
  omega
theorem seg_drop {L : List ByteArray} {a b d : Nat} (h : a + d ≤ b) : (seg L a b).drop d = seg L (a + d) b := by
  unfold seg
  rw [List.drop_take, List.drop_drop]
  congr 1
  omega
theorem seg_app {L : List ByteArray} {a m b : Nat} (h1 : a ≤ m) (h2 : m ≤ b) : seg L a b = seg L a m ++ seg L m b := by
  have e1 := seg_take (L := L) (a := a) (b := b) (d := m - a) (by omega)
  have e2 := seg_drop (L := L) (a := a) (b := b) (d := m - a) (by omega)
  rw [show a + (m - a) = m by omega] at e1 e2
  rw [← e1, ← e2, List.take_append_drop]
/-- One entry of a tile whose entries are of z. -/
def entR (L : List ByteArray) (z i : Nat) : ByteArray := rt ndB emB ((L.drop (i * z)).take z)
theorem entR_sz {L : List ByteArray} (hx : ∀ x ∈ L, x.size = 32) {z i : Nat} (hz : 1 ≤ z) (hm : (i + 1) * z ≤ L.length) : (entR L z i).size = 32 := by
  refine rt_sz (fun e => ?_) (fun x hxx => hx x (List.mem_of_mem_drop (List.mem_of_mem_take hxx)))
  have : ((L.drop (i * z)).take z).length = z := by
    rw [List.length_take, List.length_drop]
    have : (i + 1) * z = i * z + z := Nat.succ_mul _ _
    omega
  rw [e] at this
  simp at this
  omega
theorem partR_ent (L : List ByteArray) (z i : Nat) : partR L z i = (entR L z i).data.toList := rfl
theorem partR_32 {L : List ByteArray} (hx : ∀ x ∈ L, x.size = 32) {z i : Nat} (hz : 1 ≤ z) (hm : (i + 1) * z ≤ L.length) : (partR L z i).length = 32 := entR_sz hx hz hm
theorem hashS_32 {L : List ByteArray} (hx : ∀ x ∈ L, x.size = 32) {z f : Nat} (hz : 1 ≤ z) : ∀ {w : Nat}, (f + w) * z ≤ L.length → (hashS L z f w).length = 32 * w
  | 0, _ => by simp [hashS]
  | w + 1, hm => by
    have e : (f + (w + 1)) * z = (f + w) * z + z := by rw [← Nat.add_assoc, Nat.succ_mul]
    rw [hashS_succ, List.length_append, hashS_32 hx hz (w := w) (by omega), partR_32 hx hz (by rw [Nat.succ_mul]; omega)]
    omega
theorem hashS_at {L : List ByteArray} (hx : ∀ x ∈ L, x.size = 32) {z f : Nat} (hz : 1 ≤ z) : ∀ {w k : Nat}, k < w → (f + w) * z ≤ L.length → ((hashS L z f w).drop (32 * k)).take 32 = partR L z (f + k)
  | 0, _, h, _ => by omega
  | w + 1, k, h, hm => by
    have e : (f + (w + 1)) * z = (f + w) * z + z := by rw [← Nat.add_assoc, Nat.succ_mul]
    have hl := hashS_32 hx hz (f := f) (w := w) (by omega)
    rw [hashS_succ]
    by_cases hk : k < w
    · rw [List.drop_append_of_le_length (by omega), List.take_append_of_le_length (by rw [List.length_drop]; omega)]
      exact hashS_at hx hz hk (by omega)
    · obtain rfl : k = w := by omega
      rw [← hl, List.drop_left]
      rw [List.take_of_length_le]
      rw [partR_32 hx hz (by rw [Nat.succ_mul]; omega)]
      exact Nat.le_refl _
theorem hashS_ext {L : List ByteArray} (hx : ∀ x ∈ L, x.size = 32) {z f w k : Nat} (hz : 1 ≤ z) (hk : k < w) (hm : (f + w) * z ≤ L.length) : (⟨(hashS L z f w).toArray⟩ : ByteArray).extract (k * 32) ((k + 1) * 32) = entR L z (f + k) := by
  have hl := hashS_32 hx hz (f := f) (w := w) hm
  have h2 := hashS_at hx hz hk hm
  have h3 : ((⟨(hashS L z f w).toArray⟩ : ByteArray).extract (k * 32) ((k + 1) * 32)).data.toList = ((hashS L z f w).drop (k * 32)).take ((k + 1) * 32 - k * 32) := by simp
  rw [show (k + 1) * 32 - k * 32 = 32 by omega, show k * 32 = 32 * k by omega] at h3
  rw [h2, partR_ent] at h3
  rw [show k * 32 = 32 * k by omega]
  exact ByteArray.ext (Array.toList_inj.1 h3)
/-- A tree of so many of one size is the tree of all. -/
theorem rt_pack {z e : Nat} (hz : z = 2 ^ e) : ∀ (r : Nat) (M : List ByteArray), M.length = 2 ^ r * z → rt ndB emB ((List.range (2 ^ r)).map (fun k => entR M z k)) = rt ndB emB M
  | 0, M, hM => by
    rw [Nat.pow_zero, Nat.one_mul] at hM
    show rt ndB emB [entR M z 0] = _
    rw [rt_one]
    unfold entR
    rw [Nat.zero_mul, List.drop_zero, ← hM, List.take_length]
  | r + 1, M, hM => by
    obtain ⟨X, hX⟩ : ∃ X, X = 2 ^ r * z := ⟨_, rfl⟩
    have hp : 2 ^ (r + 1) = 2 ^ r + 2 ^ r := by rw [Nat.pow_succ]; omega
    have hM2 : M.length = X + X := by rw [hM, hp, Nat.add_mul, hX]
    have hA : (M.take X).length = 2 ^ r * z := by rw [List.length_take]; omega
    have hB : (M.drop X).length = 2 ^ r * z := by rw [List.length_drop]; omega
    have ihA := rt_pack hz r (M.take X) hA
    have ihB := rt_pack hz r (M.drop X) hB
    have hXe : X = 2 ^ (r + e) := by rw [hX, hz, Nat.pow_add]
    have hX1 : 1 ≤ X := by rw [hXe]; exact Nat.one_le_pow _ _ (by decide)
    have hr1 : 1 ≤ 2 ^ r := Nat.one_le_pow _ _ (by decide)
    rw [hp, List.range_add, List.map_append, rt_app ndB emB (e := r) (by simp) (by simp; omega) (by simp)]
    conv => rhs; rw [← List.take_append_drop X M]
    rw [rt_app ndB emB (e := r + e) (by rw [hA, ← hX, hXe]) (by rw [hB, ← hX]; exact hX1) (by rw [hB, ← hX, hXe]; exact Nat.le_refl _), ← ihA, ← ihB]
    congr 2
    · apply List.map_congr_left
      intro k hk
      rw [List.mem_range] at hk
      unfold entR
      have hk2 : k * z + z ≤ X := by rw [← Nat.succ_mul, hX]; exact Nat.mul_le_mul_right _ hk
      rw [List.drop_take, List.take_take, Nat.min_eq_left (by omega)]
    · rw [List.map_map]
      apply List.map_congr_left
      intro k hk
      show entR M z (2 ^ r + k) = _
      unfold entR
      rw [List.drop_drop, Nat.add_mul, ← hX]
def nodeR (L : List ByteArray) (v i : Nat) : ByteArray := rt ndB emB (seg L (i * 2 ^ v) (i * 2 ^ v + 2 ^ v))
def nodeL (L : List ByteArray) (v i n : Nat) : List ByteArray := (List.range n).map fun k => entR L (256 ^ (v / 8)) (i * 2 ^ (v % 8) + k)
theorem nodeL_succ (L : List ByteArray) (v i n : Nat) : nodeL L v i (n + 1) = nodeL L v i n ++ [entR L (256 ^ (v / 8)) (i * 2 ^ (v % 8) + n)] := by
  unfold nodeL
  rw [List.range_succ, List.map_append]
  rfl
theorem pow_split (v : Nat) : 2 ^ (v % 8) * 256 ^ (v / 8) = 2 ^ v := by
  rw [show (256 : Nat) = 2 ^ 8 from rfl, ← Nat.pow_mul, ← Nat.pow_add]
  congr 1
  omega
theorem node_law {L : List ByteArray} {v i : Nat} (hm : i * 2 ^ v + 2 ^ v ≤ L.length) : rt ndB emB (nodeL L v i (2 ^ (v % 8))) = nodeR L v i := by
  have hs := pow_split v
  have hM : (seg L (i * 2 ^ v) (i * 2 ^ v + 2 ^ v)).length = 2 ^ (v % 8) * 256 ^ (v / 8) := by rw [seg_len hm, hs]; omega
  have := rt_pack (z := 256 ^ (v / 8)) (e := 8 * (v / 8)) (by rw [Nat.pow_mul]) (v % 8) _ hM
  unfold nodeR nodeL
  rw [← this]
  congr 1
  apply List.map_congr_left
  intro k hk
  rw [List.mem_range] at hk
  unfold entR seg
  have hk2 : k * 256 ^ (v / 8) + 256 ^ (v / 8) ≤ 2 ^ v := by rw [← Nat.succ_mul, ← hs]; exact Nat.mul_le_mul_right _ hk
  rw [List.drop_take, List.take_take, List.drop_drop, Nat.min_eq_left (by omega)]
  congr 3
  rw [Nat.add_mul, Nat.mul_assoc, hs]
/-- A stretch that can be read: it begins where one of its size may. -/
def Al (a b : Nat) : Prop := ∃ q, 2 ^ q ∣ a ∧ b - a ≤ 2 ^ q
theorem Al.zero (b : Nat) : Al 0 b := ⟨b, Nat.dvd_zero _, Nat.le_of_lt (by simpa using Nat.lt_two_pow_self)⟩
theorem log_le {n q : Nat} (h1 : 1 ≤ n) (h : n ≤ 2 ^ q) : Nat.log2 n ≤ q := by
  have h2 := Nat.log2_self_le (n := n) (by omega)
  exact (Nat.pow_le_pow_iff_right (by decide)).1 (Nat.le_trans h2 h)
theorem al_log {a b : Nat} (h : Al a b) (hab : a < b) : 2 ^ Nat.log2 (b - a) ∣ a ∧ 2 ^ Nat.log2 (b - a) ≤ b - a ∧ b - a < 2 * 2 ^ Nat.log2 (b - a) := by
  obtain ⟨q, hq, hl⟩ := h
  refine ⟨Nat.dvd_trans (Nat.pow_dvd_pow _ (log_le (by omega) hl)) hq, Nat.log2_self_le (by omega), ?_⟩
  have := Nat.lt_log2_self (n := b - a)
  rw [Nat.pow_succ] at this
  omega
theorem al_next {a b : Nat} (h : Al a b) (hab : a < b) : Al (a + 2 ^ Nat.log2 (b - a)) b := by
  obtain ⟨h1, h2, h3⟩ := al_log h hab
  exact ⟨_, Nat.dvd_add h1 (Nat.dvd_refl _), by omega⟩
theorem al_half {a b : Nat} (h : Al a b) (hab : a + 2 ≤ b) : Al a (a + sp (b - a)) ∧ Al (a + sp (b - a)) b := by
  obtain ⟨q, hq, hl⟩ := h
  have h1 := sp_lt (n := b - a) (by omega)
  have h2 := sp_ge (n := b - a) (by omega)
  have h3 : 2 ^ Nat.log2 (b - a - 1) ∣ a := Nat.dvd_trans (Nat.pow_dvd_pow _ (log_le (by omega) (by omega))) hq
  refine ⟨⟨_, h3, ?_⟩, ⟨_, Nat.dvd_add h3 (Nat.dvd_refl _), ?_⟩⟩
  · show a + 2 ^ Nat.log2 (b - a - 1) - a ≤ _
    omega
  · show b - (a + 2 ^ Nat.log2 (b - a - 1)) ≤ 2 ^ Nat.log2 (b - a - 1)
    have : sp (b - a) = 2 ^ Nat.log2 (b - a - 1) := rfl
    omega
/-- What a stretch's root is made of, in the midst of it. -/
def RI (L : List ByteArray) (a b : Nat) (ps : List ByteArray) (x : Nat) : Prop :=
  a ≤ x ∧ x ≤ b ∧ Al x b ∧ ps.length ≤ x - a ∧ (∀ p ∈ ps, p.size ≤ 32) ∧ (x < b → rt ndB emB (seg L a b) = ps.foldr ndB (rt ndB emB (seg L x b))) ∧ (x = b → ∃ qs y, ps = qs ++ [y] ∧ rt ndB emB (seg L a b) = qs.foldr ndB y)
theorem RI.start {L : List ByteArray} {a b : Nat} (hab : a < b) (h : Al a b) : RI L a b [] a :=
  ⟨Nat.le_refl _, by omega, h, by simp, by simp, fun _ => rfl, fun e => by omega⟩
theorem nodeR_sz {L : List ByteArray} (hx : ∀ x ∈ L, x.size = 32) (v i : Nat) : (nodeR L v i).size ≤ 32 :=
  rt_size ndB emB (nd_le 32 (by decide)) (by rw [emB_size]; decide) _ _ rfl (fun x hx' => Nat.le_of_eq (hx x (List.mem_of_mem_drop (List.mem_of_mem_take hx'))))
theorem RI.step {L : List ByteArray} {a b x : Nat} {ps : List ByteArray} (hb : b ≤ L.length) (hx : ∀ x ∈ L, x.size = 32) (h : RI L a b ps x) (hxb : x < b) :
    x / 2 ^ Nat.log2 (b - x) * 2 ^ Nat.log2 (b - x) = x ∧ RI L a b (ps ++ [nodeR L (Nat.log2 (b - x)) (x / 2 ^ Nat.log2 (b - x))]) (x + 2 ^ Nat.log2 (b - x)) := by
  obtain ⟨h1, h2, h3, h4, h5, h6, h7⟩ := h
  obtain ⟨d1, d2, d3⟩ := al_log h3 hxb
  have hn := al_next h3 hxb
  have hr := h6 hxb
  have hzz := nodeR_sz hx (Nat.log2 (b - x)) (x / 2 ^ Nat.log2 (b - x))
  have hd := Nat.div_mul_cancel d1
  have hp : 1 ≤ 2 ^ Nat.log2 (b - x) := Nat.one_le_pow _ _ (by decide)
  refine ⟨hd, by omega, by omega, hn, by rw [List.length_append, List.length_singleton]; omega, ?_, ?_, ?_⟩
  · intro p hp
    rcases List.mem_append.1 hp with hp | hp
    · exact h5 p hp
    · rw [List.mem_singleton.1 hp]; exact hzz
  · intro hlt
    have e : rt ndB emB (seg L x b) = ndB (nodeR L (Nat.log2 (b - x)) (x / 2 ^ Nat.log2 (b - x))) (rt ndB emB (seg L (x + 2 ^ Nat.log2 (b - x)) b)) := by
      unfold nodeR
      rw [hd, seg_app (m := x + 2 ^ Nat.log2 (b - x)) (by omega) (by omega)]
      exact rt_app ndB emB (e := Nat.log2 (b - x)) (by rw [seg_len (by omega)]; omega) (by rw [seg_len hb]; omega) (by rw [seg_len hb]; omega)
    rw [hr, e, List.foldr_append]
    rfl
  · intro he
    refine ⟨ps, _, rfl, ?_⟩
    rw [hr]
    unfold nodeR
    rw [hd, he]
abbrev St := Nat × Nat
def stR (L : List ByteArray) (l : List St) : List ByteArray := l.map fun x => rt ndB emB (seg L x.1 x.2)
def StOk (N : Nat) (l : List St) : Prop := ∀ x ∈ l, x.1 < x.2 ∧ x.2 ≤ N ∧ Al x.1 x.2
theorem StOk.app {N : Nat} {l : List St} (h : StOk N l) {a b : Nat} (hab : a < b) (hb : b ≤ N) (hA : Al a b) : StOk N (l ++ [(a, b)]) := by
  intro x hx
  rcases List.mem_append.1 hx with hx | hx
  · exact h x hx
  · rw [List.mem_singleton.1 hx]; exact ⟨hab, hb, hA⟩
theorem stR_app (L : List ByteArray) (l : List St) (a b : Nat) : (stR L (l ++ [(a, b)])).reverse = rt ndB emB (seg L a b) :: (stR L l).reverse := by
  unfold stR
  simp
/-- The way to an entry. -/
def II (L : List ByteArray) (i : Nat) (l : List St) (a b : Nat) : Prop :=
  a ≤ i ∧ i < b ∧ b ≤ L.length ∧ l.length + (b - a) ≤ L.length ∧ Al a b ∧ StOk L.length l ∧ inc ndB emB L i = inc ndB emB (seg L a b) (i - a) ++ (stR L l).reverse
theorem II.start {L : List ByteArray} {i : Nat} (hi : i < L.length) : II L i [] 0 L.length :=
  ⟨by omega, hi, Nat.le_refl _, by simp, Al.zero _, (fun x hx => by cases hx), by rw [seg_all]; simp [stR]⟩
theorem II.lo {L : List ByteArray} {i a b : Nat} {l : List St} (h : II L i l a b) (hab : a + 2 ≤ b) (hi : i < a + sp (b - a)) : II L i (l ++ [(a + sp (b - a), b)]) a (a + sp (b - a)) := by
  obtain ⟨h1, h2, h3, h4, h5, h6, h7⟩ := h
  have s1 := sp_lt (n := b - a) (by omega)
  obtain ⟨al1, al2⟩ := al_half h5 hab
  refine ⟨h1, hi, by omega, by rw [List.length_append, List.length_singleton]; omega, al1, h6.app (by omega) h3 al2, ?_⟩
  have hl := seg_len (L := L) (a := a) h3
  rw [h7, stR_app, inc_lt ndB emB (by omega) (by rw [hl]; omega), hl, seg_take (by omega), seg_drop (by omega), List.append_assoc]
  rfl
theorem II.hi {L : List ByteArray} {i a b : Nat} {l : List St} (h : II L i l a b) (hab : a + 2 ≤ b) (hi : ¬ i < a + sp (b - a)) : II L i (l ++ [(a, a + sp (b - a))]) (a + sp (b - a)) b := by
  obtain ⟨h1, h2, h3, h4, h5, h6, h7⟩ := h
  have s1 := sp_lt (n := b - a) (by omega)
  have s2 := sp_pos (b - a)
  obtain ⟨al1, al2⟩ := al_half h5 hab
  refine ⟨by omega, h2, by omega, by rw [List.length_append, List.length_singleton]; omega, al2, h6.app (by omega) (by omega) al1, ?_⟩
  have hl := seg_len (L := L) (a := a) h3
  rw [h7, stR_app, inc_ge ndB emB (by omega) (by rw [hl]; omega), hl, seg_take (by omega), seg_drop (by omega), List.append_assoc, Nat.sub_sub]
  rfl
theorem II.fin {L : List ByteArray} {i a b : Nat} {l : List St} (h : II L i l a b) (hab : ¬ a + 2 ≤ b) : (stR L l).reverse = inc ndB emB L i := by
  obtain ⟨h1, h2, h3, h4, h5, h6, h7⟩ := h
  rw [h7, inc_one ndB emB (by rw [seg_len h3]; omega)]
  rfl
/-- The proof that a tree has grown. -/
def CI (L : List ByteArray) (m : Nat) (l : List St) (a b : Nat) : Prop :=
  a < m ∧ a < b ∧ b ≤ L.length ∧ l.length + (b - a) ≤ L.length ∧ Al a b ∧ StOk L.length l ∧ con ndB emB L m true = con ndB emB (seg L a b) (m - a) (decide (a = 0)) ++ (stR L l).reverse
theorem CI.start {L : List ByteArray} {m : Nat} (hm : 1 ≤ m) (hl : 1 ≤ L.length) : CI L m [] 0 L.length :=
  ⟨by omega, by omega, Nat.le_refl _, by simp, Al.zero _, (fun x hx => by cases hx), by rw [seg_all]; simp [stR]⟩
theorem CI.lo {L : List ByteArray} {m a b : Nat} {l : List St} (h : CI L m l a b) (hab : m < b) (hi : m ≤ a + sp (b - a)) : CI L m (l ++ [(a + sp (b - a), b)]) a (a + sp (b - a)) := by
  obtain ⟨h1, h2, h3, h4, h5, h6, h7⟩ := h
  have s1 := sp_lt (n := b - a) (by omega)
  have s2 := sp_pos (b - a)
  obtain ⟨al1, al2⟩ := al_half h5 (by omega)
  refine ⟨h1, by omega, by omega, by rw [List.length_append, List.length_singleton]; omega, al1, h6.app (by omega) h3 al2, ?_⟩
  have hl := seg_len (L := L) (a := a) h3
  rw [h7, stR_app, con_lo ndB emB (by omega) (by omega) (by rw [hl]; omega), hl, seg_take (by omega), seg_drop (by omega), List.append_assoc]
  rfl
theorem CI.hi {L : List ByteArray} {m a b : Nat} {l : List St} (h : CI L m l a b) (hab : m < b) (hi : ¬ m ≤ a + sp (b - a)) : CI L m (l ++ [(a, a + sp (b - a))]) (a + sp (b - a)) b := by
  obtain ⟨h1, h2, h3, h4, h5, h6, h7⟩ := h
  have s1 := sp_lt (n := b - a) (by omega)
  have s2 := sp_pos (b - a)
  obtain ⟨al1, al2⟩ := al_half h5 (by omega)
  refine ⟨by omega, by omega, by omega, by rw [List.length_append, List.length_singleton]; omega, al2, h6.app (by omega) (by omega) al1, ?_⟩
  have hl := seg_len (L := L) (a := a) h3
  rw [h7, stR_app, con_hi ndB emB (by omega) (by omega) (by rw [hl]; omega), hl, seg_take (by omega), seg_drop (by omega), List.append_assoc, Nat.sub_sub, decide_eq_false (by omega)]
  rfl
theorem CI.fin {L : List ByteArray} {m a b : Nat} {l : List St} (h : CI L m l a b) (hab : ¬ m < b) : (stR L (if 0 < a then l ++ [(a, b)] else l)).reverse = con ndB emB L m true := by
  obtain ⟨h1, h2, h3, h4, h5, h6, h7⟩ := h
  rw [h7, con_ge ndB emB (by rw [seg_len h3]; omega)]
  by_cases ha : 0 < a
  · rw [if_pos ha, decide_eq_false (by omega), stR_app]
    rfl
  · rw [if_neg ha, decide_eq_true (by omega)]
    rfl
theorem CI.ok {L : List ByteArray} {m a b : Nat} {l : List St} (h : CI L m l a b) : StOk L.length (if 0 < a then l ++ [(a, b)] else l) := by
  obtain ⟨h1, h2, h3, h4, h5, h6, h7⟩ := h
  split
  · exact h6.app h2 h3 h5
  · exact h6
end Go.Proofs.YtlkpgjicpjjlcaaGreatDoor

/- One entry of a tile is read; the hash of two to the v entries. -/
set_option linter.unusedVariables false
set_option linter.unusedSimpArgs false
namespace Go.Proofs.YtlkpgjicpjjlcaaGreatDoor
open Go Go.Vc Go.Tile Go.Sha Go.Mk
set_option maxRecDepth 20000
set_option linter.unusedVariables false
def tileW (N q k : Nat) : Nat := min 256 (N / 256 ^ q - k * 256)
/-- The tiles of the first N are there. -/
def Has (D : List (ByteArray × ByteArray)) (L : List ByteArray) (N : Nat) : Prop :=
  ∀ q k : Nat, q < 4 → k * 256 < N / 256 ^ q → gGet D (pathS (q : Nat) (k : Nat) (tileW N q k : Nat)) = some ⟨(hashS L (256 ^ q) (k * 256) (tileW N q k)).toArray⟩
def rdV (bx : Nat) : Value := .func (.func 50) #[] #[.pointer (some ⟨bx, 0, none⟩)]
def TMap (h : Heap) (bx m : Nat) (D : List (ByteArray × ByteArray)) : Prop :=
  h bx = some (.cells #[.map (some m)] 49 (0, 0)) ∧ ∃ o, h m = some o ∧ MapG o Value.string Value.string D
def TObj (h : Heap) (tb bx N : Nat) : Prop := h tb = some (.cells #[rdV bx, .int .i64 (N : Nat), .int .i64 0] 98 (0, 0))
theorem TMap.sub {h h' : Heap} {bx m : Nat} {D : List (ByteArray × ByteArray)} (x : TMap h bx m D) (hs : Vc.Sub h h') : TMap h' bx m D := by
  obtain ⟨h1, o, h2, h3⟩ := x
  exact ⟨hs _ _ h1, o, hs _ _ h2, h3⟩
theorem TObj.sub {h h' : Heap} {tb bx N : Nat} (x : TObj h tb bx N) (hs : Vc.Sub h h') : TObj h' tb bx N := hs _ _ x
theorem may_spec {h : Heap} {t : Nat} (n : Int) : CallSpec Tryz.prog 48 #[.int .i64 n] h t (fun v h' t' => v = .bool (decide (0 ≤ n ∧ n ≤ 1073741824)) ∧ h' = h ∧ t' = t) := by
  refine Go.Vc.spec_of_vc (fn := Tryz.f48) Tryz.func48 rfl (by kernel_rfl) (by kernel_rfl) (Nat.le_of_ble_eq_true rfl) ?_
  intro hd
  by_cases h0 : 0 ≤ n
  · conv => whnf
    repeat (first | (refine Go.Vc.br_t ?_ ?_; (focus omega); conv => whnf))
    refine ⟨?_, rfl, rfl⟩
    rw [opq_eq]
    congr 1
    simp [h0]
  · conv => whnf
    repeat (first | (refine Go.Vc.br_f ?_ ?_; (focus omega); conv => whnf))
    refine ⟨?_, rfl, rfl⟩
    rw [decide_eq_false (by omega)]
theorem half_spec {h : Heap} {t : Nat} (a b : Nat) (hab : a + 2 ≤ b) (hb : b ≤ 65536) : CallSpec Tryz.prog 54 #[.int .i64 (a : Nat), .int .i64 (b : Nat)] h t (fun v h' t' => v = .int .i64 ((a + sp (b - a) : Nat) : Int) ∧ h' = h ∧ t' = t) := by
  refine Go.Vc.spec_of_vc (fn := Tryz.f54) Tryz.func54 rfl (by kernel_rfl) (by kernel_rfl) (Nat.le_of_ble_eq_true rfl) ?_
  intro hd
  conv => whnf
  repeat (first | ((with_reducible apply Go.Vc.wr_i64); (focus exact And.intro (by omega) (by omega)); conv => whnf) | ((with_reducible apply Go.Vc.wr_u64); (focus exact And.intro (by omega) (by omega)); conv => whnf))
  have e : ((b : Int) - (a : Int) - 1) = ((b - a - 1 : Nat) : Int) := by omega
  rw [e]
  refine (len_spec (b - a - 1) (by omega) _ _).mono ?_
  rintro _ _ _ _ _ ⟨rfl, rfl, rfl⟩
  have hl : lenN (b - a - 1) = Nat.log2 (b - a - 1) + 1 := by unfold lenN; rw [if_neg (by omega)]
  have hle := lenN_le (x := b - a - 1) (k := 16) (by omega)
  conv => whnf
  repeat (first | ((with_reducible apply Go.Vc.wr_i64); (focus exact And.intro (by omega) (by omega)); conv => whnf) | ((with_reducible apply Go.Vc.one_shl); (focus exact And.intro (by omega) (by omega)); intro zP hzP hzP0 hzP1; conv => whnf) | ((with_reducible apply Go.Vc.and_leI); (focus omega); conv => whnf))
  refine ⟨?_, rfl, rfl⟩
  show Value.int .i64 _ = Value.int .i64 _
  congr 1
  rw [hzP, hl]
  simp [sp]
theorem read_spec {h : Heap} {t m : Nat} : CallSpec Tryz.prog 19 #[.map (some m)] h t (fun v h' t' => ∃ bx, v = rdV bx ∧ h' bx = some (.cells #[.map (some m)] 49 (0, 0)) ∧ t ≤ bx ∧ bx < t' ∧ Vc.Sub h h') := by
  refine Go.Vc.spec_of_vc (fn := Tryz.f19) Tryz.func19 rfl (by kernel_rfl) (by kernel_rfl) (Nat.le_of_ble_eq_true rfl) ?_
  intro hd
  conv => whnf
  repeat (first | (intro _ _; conv => whnf))
  rename_i r hr
  exact ⟨r, rfl, hset_same _ _ _, hr, by omega, hd.sub_new hr _⟩
theorem rd_spec {h : Heap} {t bx m : Nat} {D : List (ByteArray × ByteArray)} (s : ByteArray) (hm : TMap h bx m D) :
    CallSpec Tryz.prog 50 #[.string s, .pointer (some ⟨bx, 0, none⟩)] h t (fun v h' t' => v = .tuple #[.string ((gGet D s).getD ByteArray.empty), .bool (gGet D s).isSome] ∧ h' = h ∧ t' = t) := by
  obtain ⟨hbx, o, ho, hmo⟩ := hm
  refine Go.Vc.spec_of_vc (fn := Tryz.f50) Tryz.func50 rfl (by kernel_rfl) (by kernel_rfl) (Nat.le_of_ble_eq_true rfl) ?_
  intro hd
  conv => whnf
  repeat (first | ((with_reducible apply Go.Vc.ld_i); (focus ((repeat (first | with_reducible assumption | with_reducible exact Go.Vc.hset_same _ _ _ | with_reducible refine (Go.Vc.hset_ne _ _ (by omega)).trans ?_)); done)); (focus exact rfl); conv => whnf))
  refine look_gV (kv := Value.string) (k := s) (f := Value.string) (d := ByteArray.empty) Tryz.underlying49 (keyOk_string Tryz.underlying9) (inf := Tryz.types[9]) (by kernel_rfl) (by kernel_rfl) ho hmo ?_
  conv => whnf
  exact ⟨rfl, rfl, rfl⟩
theorem entry_spec {h : Heap} {t bx m tb N q at_ : Nat} {D : List (ByteArray × ByteArray)} {L : List ByteArray} (hT : TObj h tb bx N) (hm : TMap h bx m D) (hH : Has D L N) (hx : ∀ x ∈ L, x.size = 32) (hN : N ≤ L.length) (hN2 : N ≤ 65536) (hq : q < 4) (hat : at_ < N / 256 ^ q) :
    CallSpec Tryz.prog 95 #[.pointer (some ⟨tb, 0, none⟩), .int .i64 (q : Nat), .int .i64 (at_ : Nat)] h t (fun v h' t' => v = .string (entR L (256 ^ q) at_) ∧ Vc.Sub h h' ∧ t ≤ t') := by
  unfold TObj at hT
  have hz1 : 1 ≤ 256 ^ q := Nat.one_le_pow _ _ (by decide)
  have hdn : N / 256 ^ q ≤ N := Nat.div_le_self _ _
  have hmul : N / 256 ^ q * 256 ^ q ≤ N := Nat.div_mul_le_self _ _
  have hHk := hH q (at_ / 256) hq (by omega)
  have h32 := hashS_32 hx hz1 (f := at_ / 256 * 256) (w := tileW N q (at_ / 256)) (by
    refine Nat.le_trans (Nat.mul_le_mul_right _ ?_) (Nat.le_trans hmul hN)
    unfold tileW; omega)
  have hext := hashS_ext hx hz1 (f := at_ / 256 * 256) (w := tileW N q (at_ / 256)) (k := at_ - at_ / 256 * 256) (by unfold tileW; omega) (by
    refine Nat.le_trans (Nat.mul_le_mul_right _ ?_) (Nat.le_trans hmul hN)
    unfold tileW; omega)
  rw [show at_ / 256 * 256 + (at_ - at_ / 256 * 256) = at_ by omega] at hext
  have hsz : (⟨(hashS L (256 ^ q) (at_ / 256 * 256) (tileW N q (at_ / 256))).toArray⟩ : ByteArray).size = 32 * tileW N q (at_ / 256) := h32
  have hw1 : 1 ≤ tileW N q (at_ / 256) := by unfold tileW; omega
  have hw2 : tileW N q (at_ / 256) ≤ 256 := by unfold tileW; omega
  have hw3 : at_ - at_ / 256 * 256 < tileW N q (at_ / 256) := by unfold tileW; omega
  have hwe : (if ((N / 256 ^ q : Nat) : Int) - (at_ : Int) / 256 * 256 < 256 then ((N / 256 ^ q : Nat) : Int) - (at_ : Int) / 256 * 256 else 256) = ((tileW N q (at_ / 256) : Nat) : Int) := by
    unfold tileW
    split <;> omega
  have hR : RightC (q : Nat) ((at_ / 256 : Nat) : Int) (tileW N q (at_ / 256) : Nat) := by
    unfold RightC
    omega
  have hsh : N / 256 ^ q = N / 2 ^ (8 * q) := by rw [show (256 : Nat) = 2 ^ 8 from rfl, ← Nat.pow_mul]
  generalize entR L (256 ^ q) at_ = E at *
  generalize tileW N q (at_ / 256) = w at *
  generalize (⟨(hashS L (256 ^ q) (at_ / 256 * 256) w).toArray⟩ : ByteArray) = S at *
  refine Go.Vc.spec_of_vc (fn := Tryz.f95) Tryz.func95 rfl (by kernel_rfl) (by kernel_rfl) (Nat.le_of_ble_eq_true rfl) ?_
  intro hd
  conv => whnf
  repeat (first | ((with_reducible apply Go.Vc.ld_i); (focus ((repeat (first | with_reducible assumption | with_reducible exact Go.Vc.hset_same _ _ _ | with_reducible refine (Go.Vc.hset_ne _ _ (by omega)).trans ?_)); done)); (focus exact rfl); conv => whnf) | ((with_reducible apply Go.Vc.wr_i64); (focus exact And.intro (by omega) (by omega)); conv => whnf) | ((with_reducible apply Go.Vc.shr_i64); (focus exact And.intro (by omega) (by omega)); intro zS hzS hzS0 hzS1; conv => whnf) | ((with_reducible apply Go.Vc.quo_i64); (focus exact And.intro (by omega) (And.intro (by omega) (by omega))); conv => whnf) | (refine Go.Vc.br_f ?_ ?_; (focus omega); conv => whnf) | ((with_reducible apply Go.Vc.and_leI); (focus omega); conv => whnf) | ((with_reducible refine And.intro ?_ (And.intro ?_ ?_)); (focus exact rfl); (focus omega); conv => whnf))
  have hz : zS = ((N / 256 ^ q : Nat) : Int) := by
    rw [hzS, hsh, show (8 * (q : Int)).toNat = 8 * q by omega]
    rfl
  have eI : (at_ : Int) / 256 * 256 / 256 = ((at_ / 256 : Nat) : Int) := by omega
  rw [hz, hwe, eI]
  refine (path_spec (q : Nat) ((at_ / 256 : Nat) : Int) (w : Nat) hR).mono ?_
  rintro _ g t1 hd1 ht1 ⟨rfl, hs1, _⟩
  have hT1 := hs1 _ _ hT
  conv => whnf
  repeat (first | ((with_reducible apply Go.Vc.ld_i); (focus ((repeat (first | with_reducible assumption | with_reducible exact Go.Vc.hset_same _ _ _ | with_reducible refine (Go.Vc.hset_ne _ _ (by omega)).trans ?_)); done)); (focus exact rfl); conv => whnf))
  refine (rd_spec (pathS (q : Nat) ((at_ / 256 : Nat) : Int) (w : Nat)) (hm.sub hs1)).mono ?_
  rintro _ _ _ _ _ ⟨rfl, rfl, rfl⟩
  rw [hHk, Option.getD_some, Option.isSome_some]
  have hszI : (S.size : Int) = 32 * (w : Int) := by omega
  conv => whnf
  repeat (first | ((with_reducible refine And.intro (And.intro ?_ ?_) ?_); (focus omega); (focus omega); conv => whnf) | ((with_reducible apply Go.Vc.wr_i64); (focus exact And.intro (by omega) (by omega)); conv => whnf) | (refine Go.Vc.br_f ?_ ?_; (focus omega); conv => whnf))
  refine ⟨?_, hs1, by omega⟩
  have i1 : (((at_ : Int) - (at_ : Int) / 256 * 256) * 32).toNat = (at_ - at_ / 256 * 256) * 32 := by omega
  have i2 : (((at_ : Int) - (at_ : Int) / 256 * 256 + 1) * 32).toNat = (at_ - at_ / 256 * 256 + 1) * 32 := by omega
  rw [i1, i2, hext]
end Go.Proofs.YtlkpgjicpjjlcaaGreatDoor

/- slices.Backward, of texts and of stretches. -/
set_option linter.unusedVariables false
set_option linter.unusedSimpArgs false
namespace Go.Proofs.YtlkpgjicpjjlcaaGreatDoor
open Go Go.Vc Go.Tile Go.Sha Go.Mk
set_option maxRecDepth 20000
set_option linter.unusedVariables false
def st2 (x : St) : List Value := [.int .i64 (x.1 : Nat), .int .i64 (x.2 : Nat)]
theorem st2_len (x : St) : (st2 x).length = 2 := rfl
theorem sbackfn_spec {h : Heap} {t : Nat} (a : Option Addr) (n c : Nat) :
    CallSpec Tryz.prog 77 #[.slice a n c] h t (fun v h' t' => ∃ r2, v = .func (.func 96) #[] #[.pointer (some ⟨r2, 0, none⟩)] ∧ h' r2 = some (.cells #[.slice a n c] 42 (0, 0)) ∧ t ≤ r2 ∧ r2 < t' ∧ Vc.Sub h h') := by
  refine Go.Vc.spec_of_vc (fn := Tryz.f77) Tryz.func77 rfl (by kernel_rfl) (by kernel_rfl) (Nat.le_of_ble_eq_true rfl) ?_
  intro hd
  conv => whnf
  repeat (first | (intro _ _; conv => whnf))
  rename_i r hr
  exact ⟨r, rfl, hset_same _ _ _, hr, by omega, hd.sub_new hr _⟩
theorem tbackfn_spec {h : Heap} {t : Nat} (a : Option Addr) (n c : Nat) :
    CallSpec Tryz.prog 81 #[.slice a n c] h t (fun v h' t' => ∃ r2, v = .func (.func 101) #[] #[.pointer (some ⟨r2, 0, none⟩)] ∧ h' r2 = some (.cells #[.slice a n c] 103 (0, 0)) ∧ t ≤ r2 ∧ r2 < t' ∧ Vc.Sub h h') := by
  refine Go.Vc.spec_of_vc (fn := Tryz.f81) Tryz.func81 rfl (by kernel_rfl) (by kernel_rfl) (Nat.le_of_ble_eq_true rfl) ?_
  intro hd
  conv => whnf
  repeat (first | (intro _ _; conv => whnf))
  rename_i r hr
  exact ⟨r, rfl, hset_same _ _ _, hr, by omega, hd.sub_new hr _⟩
theorem sback_spec {h : Heap} {t l : Nat} {a : Option Addr} {n c r2 : Nat} {L : List ByteArray} (hn : n ≤ 1000000000) (I : Nat → Heap → Nat → Prop) (I0 : I 0 h t)
    (keep : ∀ k h' t', I k h' t' → h' r2 = some (.cells #[.slice a n c] 42 (0, 0)) ∧ Sl h' a n Value.string L)
    (step : ∀ k h' t' x, k < n → L[n - 1 - k]? = some x → t ≤ t' → Dom h' t' → I k h' t' → YieldSpec Tryz.prog l #[.int .i64 ((n : Int) - 1 - (k : Int)), .string x] h' t' (fun b h'' t'' => b = .bool true ∧ I (k + 1) h'' t'')) :
    CallSpec Tryz.prog 96 #[.func (.yield l) #[] #[], .pointer (some ⟨r2, 0, none⟩)] h t (fun _ h' t' => I n h' t') := by
  refine Go.Vc.spec_of_vcI (fn := Tryz.f96) Tryz.func96 rfl (by kernel_rfl) (by kernel_rfl) (Nat.le_of_ble_eq_true rfl) ?_
  intro hd
  obtain ⟨k0, _⟩ := keep _ _ _ I0
  conv => whnf
  repeat (first | ((with_reducible apply Go.Vc.ld_i); (focus ((repeat (first | with_reducible assumption | with_reducible exact Go.Vc.hset_same _ _ _ | with_reducible refine (Go.Vc.hset_ne _ _ (by omega)).trans ?_)); done)); (focus exact rfl); conv => whnf) | ((with_reducible apply Go.Vc.wr_i64); (focus exact And.intro (by omega) (by omega)); conv => whnf))
  refine loop_introI (fun (k : Nat) => [(0, .func (.yield l) #[] #[]), (1, .pointer (some ⟨r2, 0, none⟩)), (3, .int .i64 ((n : Int) - 1 - (k : Int)))])
    (fun k h' t' => k ≤ n ∧ t ≤ t' ∧ I k h' t') (fun k => n - k) 0 ⟨rfl, rfl, ?_, trivial⟩ ⟨by omega, by omega, I0⟩ ?_
  · show Value.int .i64 _ = Value.int .i64 _
    congr 1
    omega
  rintro k e1 g t1 hd1 ⟨hk, ht1, hI⟩
  obtain ⟨g2, gs⟩ := keep _ _ _ hI
  conv => whnf
  refine br (fun hb => ?_) (fun hb => ?_)
  · have hkn : k < n := by omega
    conv => whnf
    repeat (first | ((with_reducible apply Go.Vc.sl_ix); (focus with_reducible assumption); (focus exact And.intro (by omega) (by omega)); intro xI bI offI hxI hcI; conv => whnf) | ((with_reducible apply Go.Vc.ld_i); (focus ((repeat (first | with_reducible assumption | with_reducible exact Go.Vc.hset_same _ _ _ | with_reducible refine (Go.Vc.hset_ne _ _ (by omega)).trans ?_)); done)); (focus exact rfl); conv => whnf) | ((with_reducible apply Go.Vc.cell_i); (focus assumption); conv => whnf))
    have hi : ((n : Int) - 1 - (k : Int)).toNat = n - 1 - k := by omega
    rw [hi] at hxI
    refine (step k g t1 xI hkn hxI ht1 hd1 hI).mono ?_
    rintro _ g7 t7 hd7 ht7 ⟨rfl, hI7⟩
    conv => whnf
    repeat (first | ((with_reducible apply Go.Vc.wr_i64); (focus exact And.intro (by omega) (by omega)); conv => whnf))
    refine ⟨rfl, round_end (k + 1) (by omega) ⟨rfl, rfl, ?_, trivial⟩ ⟨by omega, by omega, hI7⟩⟩
    show Value.int .i64 _ = Value.int .i64 _
    congr 1
    omega
  · obtain rfl : k = n := by omega
    conv => whnf
    exact hI
theorem tback_spec {h : Heap} {t l : Nat} {a : Option Addr} {n c r2 : Nat} {L : List St} (hn : n ≤ 1000000000) (I : Nat → Heap → Nat → Prop) (I0 : I 0 h t)
    (keep : ∀ k h' t', I k h' t' → h' r2 = some (.cells #[.slice a n c] 103 (0, 0)) ∧ Sl h' a (n * 2) id (L.flatMap st2))
    (step : ∀ k h' t' x, k < n → L[n - 1 - k]? = some x → t ≤ t' → Dom h' t' → I k h' t' → YieldSpec Tryz.prog l #[.int .i64 ((n : Int) - 1 - (k : Int)), .agg (st2 x).toArray] h' t' (fun b h'' t'' => b = .bool true ∧ I (k + 1) h'' t'')) :
    CallSpec Tryz.prog 101 #[.func (.yield l) #[] #[], .pointer (some ⟨r2, 0, none⟩)] h t (fun _ h' t' => I n h' t') := by
  refine Go.Vc.spec_of_vcI (fn := Tryz.f101) Tryz.func101 rfl (by kernel_rfl) (by kernel_rfl) (Nat.le_of_ble_eq_true rfl) ?_
  intro hd
  obtain ⟨k0, _⟩ := keep _ _ _ I0
  conv => whnf
  repeat (first | ((with_reducible apply Go.Vc.ld_i); (focus ((repeat (first | with_reducible assumption | with_reducible exact Go.Vc.hset_same _ _ _ | with_reducible refine (Go.Vc.hset_ne _ _ (by omega)).trans ?_)); done)); (focus exact rfl); conv => whnf) | ((with_reducible apply Go.Vc.wr_i64); (focus exact And.intro (by omega) (by omega)); conv => whnf))
  refine loop_introI (fun (k : Nat) => [(0, .func (.yield l) #[] #[]), (1, .pointer (some ⟨r2, 0, none⟩)), (3, .int .i64 ((n : Int) - 1 - (k : Int)))])
    (fun k h' t' => k ≤ n ∧ t ≤ t' ∧ I k h' t') (fun k => n - k) 0 ⟨rfl, rfl, ?_, trivial⟩ ⟨by omega, by omega, I0⟩ ?_
  · show Value.int .i64 _ = Value.int .i64 _
    congr 1
    omega
  rintro k e1 g t1 hd1 ⟨hk, ht1, hI⟩
  obtain ⟨g2, gs⟩ := keep _ _ _ hI
  conv => whnf
  refine br (fun hb => ?_) (fun hb => ?_)
  · have hkn : k < n := by omega
    conv => whnf
    repeat (first | ((with_reducible refine And.intro (And.intro ?_ ?_) ?_); (focus omega); (focus omega); conv => whnf) | ((with_reducible apply Go.Vc.ld_i); (focus ((repeat (first | with_reducible assumption | with_reducible exact Go.Vc.hset_same _ _ _ | with_reducible refine (Go.Vc.hset_ne _ _ (by omega)).trans ?_)); done)); (focus exact rfl); conv => whnf))
    refine (slW_ix (i := (n : Int) - 1 - (k : Int)) (n := n) gs st2_len (by decide) ⟨by omega, by omega⟩ ?_).2
    intro x bb off hx hal hrow
    have hi : ((n : Int) - 1 - (k : Int)).toNat = n - 1 - k := by omega
    rw [hi] at hx
    conv => whnf
    refine hrow.row (W := 2) rfl (by decide) ?_
    conv => whnf
    refine (step k g t1 x hkn hx ht1 hd1 hI).mono ?_
    rintro _ g7 t7 hd7 ht7 ⟨rfl, hI7⟩
    conv => whnf
    repeat (first | ((with_reducible apply Go.Vc.wr_i64); (focus exact And.intro (by omega) (by omega)); conv => whnf))
    refine ⟨rfl, round_end (k + 1) (by omega) ⟨rfl, rfl, ?_, trivial⟩ ⟨by omega, by omega, hI7⟩⟩
    show Value.int .i64 _ = Value.int .i64 _
    congr 1
    omega
  · obtain rfl : k = n := by omega
    conv => whnf
    exact hI
end Go.Proofs.YtlkpgjicpjjlcaaGreatDoor

/- The hash of two to the v entries, and the root of a stretch, of a tree's tiles. -/
set_option linter.unusedVariables false
set_option linter.unusedSimpArgs false
namespace Go.Proofs.YtlkpgjicpjjlcaaGreatDoor
open Go Go.Vc Go.Tile Go.Sha Go.Mk
set_option maxRecDepth 20000
set_option linter.unusedVariables false
theorem tnode_spec {h : Heap} {t bx m tb N v i : Nat} {D : List (ByteArray × ByteArray)} {L : List ByteArray} (hT : TObj h tb bx N) (hm : TMap h bx m D) (hH : Has D L N) (hx : ∀ x ∈ L, x.size = 32) (hN : N ≤ L.length) (hN2 : N ≤ 65000) (hi : i * 2 ^ v + 2 ^ v ≤ N) :
    CallSpec Tryz.prog 76 #[.pointer (some ⟨tb, 0, none⟩), .int .i64 (v : Nat), .int .i64 (i : Nat)] h t (fun x h' t' => x = .string (nodeR L v i) ∧ Vc.Sub h h' ∧ t ≤ t') := by
  have hv : v ≤ 16 := by
    have h1 : 2 ^ v ≤ 2 ^ 16 := by
      have : (2 : Nat) ^ 16 = 65536 := by decide
      omega
    exact (Nat.pow_le_pow_iff_right (by decide)).1 h1
  have hsp := pow_split v
  have hz1 : 1 ≤ 256 ^ (v / 8) := Nat.one_le_pow _ _ (by decide)
  have hb1 : ∀ k, k < 2 ^ (v % 8) → i * 2 ^ (v % 8) + k < N / 256 ^ (v / 8) := by
    intro k hk
    rw [Nat.lt_div_iff_mul_lt hz1]
    have e1 : (i * 2 ^ (v % 8) + k + 1) * 256 ^ (v / 8) ≤ (i * 2 ^ (v % 8) + 2 ^ (v % 8)) * 256 ^ (v / 8) := Nat.mul_le_mul_right _ (by omega)
    have e2 : (i * 2 ^ (v % 8) + 2 ^ (v % 8)) * 256 ^ (v / 8) = i * 2 ^ v + 2 ^ v := by
      rw [Nat.add_mul, Nat.mul_assoc, hsp]
    have e3 : (i * 2 ^ (v % 8) + k + 1) * 256 ^ (v / 8) = (i * 2 ^ (v % 8) + k) * 256 ^ (v / 8) + 256 ^ (v / 8) := Nat.succ_mul _ _
    have e4 : 256 ^ (v / 8) * (i * 2 ^ (v % 8) + k) = (i * 2 ^ (v % 8) + k) * 256 ^ (v / 8) := Nat.mul_comm _ _
    omega
  have hlaw := node_law (L := L) (v := v) (i := i) (by omega)
  have hi1 : i ≤ 65000 := by
    have : i * 1 ≤ i * 2 ^ v := Nat.mul_le_mul_left _ (Nat.one_le_pow _ _ (by decide))
    omega
  have hmany : 2 ^ (v % 8) ≤ 128 := by
    have : 2 ^ (v % 8) ≤ 2 ^ 7 := Nat.pow_le_pow_right (by decide) (by omega)
    exact this
  have hmany1 : 1 ≤ 2 ^ (v % 8) := Nat.one_le_pow _ _ (by decide)
  have him : i * 2 ^ (v % 8) ≤ 65000 := by
    have := hb1 0 (by omega)
    have := Nat.div_le_self N (256 ^ (v / 8))
    omega
  have hsz : ∀ n, n ≤ 2 ^ (v % 8) → ∀ x ∈ nodeL L v i n, x.size ≤ 274877906944 := by
    intro n hn x hxx
    unfold nodeL at hxx
    obtain ⟨k, hk, rfl⟩ := List.mem_map.1 hxx
    rw [List.mem_range] at hk
    have h1 := hb1 k (by omega)
    rw [Nat.lt_div_iff_mul_lt hz1] at h1
    have e3 : (i * 2 ^ (v % 8) + k + 1) * 256 ^ (v / 8) ≤ N := by
      have := hb1 k (by omega)
      exact Nat.le_trans (Nat.mul_le_mul_right _ this) (Nat.div_mul_le_self _ _)
    rw [entR_sz hx hz1 (by omega)]
    decide
  obtain ⟨P, hP⟩ : ∃ P, P = 2 ^ (v % 8) := ⟨_, rfl⟩
  rw [← hP] at hb1 hlaw hmany hmany1 him hsz
  have himI : (0 : Int) ≤ (i : Int) * (P : Int) ∧ (i : Int) * (P : Int) ≤ 65000 := by
    have e : (i : Int) * (P : Int) = ((i * P : Nat) : Int) := by push_cast; rfl
    rw [e]
    omega
  refine Go.Vc.spec_of_vc (fn := Tryz.f76) Tryz.func76 rfl (by kernel_rfl) (by kernel_rfl) (Nat.le_of_ble_eq_true rfl) ?_
  intro hd
  conv => whnf
  repeat (first | ((with_reducible apply Go.Vc.one_shl); (focus exact And.intro (by omega) (by omega)); intro zP hzP hzP0 hzP1; conv => whnf) | ((with_reducible apply Go.Vc.rem_i); (focus omega); conv => whnf) | ((with_reducible apply Go.Vc.and_leI); (focus omega); conv => whnf) | ((with_reducible refine And.intro ?_ (And.intro ?_ ?_)); (focus exact rfl); (focus omega); conv => whnf))
  obtain rfl : zP = P := by
    rw [hzP, hP, show ((v : Int) % 8).toNat = v % 8 by omega]
  refine loop_intro3 (fun (k : Nat) (a : Option Addr) (c : Nat) => [(0, .pointer (some ⟨tb, 0, none⟩)), (1, .int .i64 (v : Nat)), (2, .int .i64 (i : Nat)), (7, .int .i64 (zP : Nat)), (8, .slice a k c), (13, .int .i64 (zP : Nat)), (14, .int .i64 (k : Nat))])
    (fun k a c h' t' => t ≤ t' ∧ k ≤ zP ∧ Vc.Own h' 9 a k c Value.string (nodeL L v i k) ∧ (∀ b, owner a = some b → t ≤ b) ∧ Vc.Sub h h') (fun k _ _ => zP - k) 0 none 0 ⟨rfl, rfl, rfl, rfl, rfl, rfl, rfl, trivial⟩
    ⟨by omega, by omega, Vc.Own.nil _ _ _, (fun b hb => by cases hb), Vc.Sub.refl _⟩ ?_
  rintro k a c e1 g t1 hd1 ⟨ht1, hk, ho, hw, hs⟩
  conv => whnf
  refine br (fun hb => ?_) (fun hb => ?_)
  · have hkP : k < zP := by omega
    conv => whnf
    repeat (first | ((with_reducible apply Go.Vc.wr_i64); (focus exact And.intro (by omega) (by omega)); conv => whnf) | ((with_reducible apply Go.Vc.quo_i64); (focus exact And.intro (by omega) (And.intro (by omega) (by omega))); conv => whnf) | ((with_reducible refine And.intro ?_ (And.intro ?_ ?_)); (focus exact rfl); (focus omega); conv => whnf))
    have e1 : ((v : Int) / 8) = ((v / 8 : Nat) : Int) := by omega
    have e2 : ((i : Int) * (zP : Int) + (k : Int)) = ((i * 2 ^ (v % 8) + k : Nat) : Int) := by rw [← hP]; push_cast; rfl
    rw [e1, e2]
    refine (entry_spec (hT.sub hs) (hm.sub hs) hH hx hN (by omega) (q := v / 8) (by omega) (by rw [← hP]; exact hb1 k hkP)).mono ?_
    rintro _ g2 t2 hd2 ht2 ⟨rfl, hs2, _⟩
    conv => whnf
    repeat (first | (intro _ _; conv => whnf))
    rename_i r hr
    refine app_one hd (by omega) (hs.trans hs2) hw hd2 hr (ho.fr (fun b o _ hb => hs2 b o hb)) (by omega) ?_
    intro a7 c7 h7 t7 ho7 ht7 hd7 hs7 hw7
    rw [← nodeL_succ] at ho7
    conv => whnf
    repeat (first | ((with_reducible apply Go.Vc.wr_i64); (focus exact And.intro (by omega) (by omega)); conv => whnf))
    exact round_end3 (k + 1) a7 c7 (by omega) ⟨rfl, rfl, rfl, rfl, rfl, rfl, rfl, trivial⟩ ⟨by omega, by omega, ho7, hw7, hs7⟩
  · obtain rfl : k = zP := by omega
    have hT2 := hT.sub hs
    unfold TObj at hT2
    conv => whnf
    repeat (first | ((with_reducible apply Go.Vc.ld_i); (focus ((repeat (first | with_reducible assumption | with_reducible exact Go.Vc.hset_same _ _ _ | with_reducible refine (Go.Vc.hset_ne _ _ (by omega)).trans ?_)); done)); (focus exact rfl); conv => whnf) | (refine Go.Vc.br_f ?_ ?_; (focus omega); conv => whnf))
    refine (root_spec ho.sl (by omega) (hsz _ (Nat.le_refl _))).mono ?_
    rintro _ g2 t2 hd2 ht2 ⟨rfl, hs2⟩
    conv => whnf
    exact ⟨by rw [hlaw], hs.trans hs2, by omega⟩
theorem foldr_sz {ps : List ByteArray} {y : ByteArray} (hy : y.size ≤ 32) : (ps.foldr ndB y).size ≤ 32 := by
  cases ps with
  | nil => exact hy
  | cons p r =>
    show (ndB p _).size ≤ 32
    rw [ndB_size]
    decide
theorem troot_spec {h : Heap} {t bx m tb N a b : Nat} {D : List (ByteArray × ByteArray)} {L : List ByteArray} (hT : TObj h tb bx N) (hm : TMap h bx m D) (hH : Has D L N) (hx : ∀ x ∈ L, x.size = 32) (hN : N ≤ L.length) (hN2 : N ≤ 65000) (hab : a < b) (hb : b ≤ N) (hal : Al a b) :
    CallSpec Tryz.prog 49 #[.pointer (some ⟨tb, 0, none⟩), .int .i64 (a : Nat), .int .i64 (b : Nat)] h t (fun x h' t' => x = .string (rt ndB emB (seg L a b)) ∧ Vc.Sub h h' ∧ t ≤ t') := by
  refine Go.Vc.spec_of_vcI (fn := Tryz.f49) Tryz.func49 rfl (by kernel_rfl) (by kernel_rfl) (Nat.le_of_ble_eq_true rfl) ?_
  intro hd
  conv => whnf
  refine loop_introI4 (fun (x : Nat) (ps : List ByteArray) (al : Option Addr) (c : Nat) => [(0, .pointer (some ⟨tb, 0, none⟩)), (1, .int .i64 (x : Nat)), (2, .int .i64 (b : Nat)), (7, .slice al ps.length c)])
    (fun x ps al c h' t' => t ≤ t' ∧ RI L a b ps x ∧ Vc.Own h' 9 al ps.length c Value.string ps ∧ (∀ q, owner al = some q → t ≤ q) ∧ Vc.Sub h h') (fun x _ _ _ => b - x) a [] none 0 ⟨rfl, rfl, rfl, rfl, trivial⟩
    ⟨by omega, RI.start hab hal, Vc.Own.nil _ _ _, (fun b hb => by cases hb), Vc.Sub.refl _⟩ ?_
  rintro x ps al c e1 g t1 hd1 ⟨ht1, hI, ho, hw, hs⟩
  have hT1 := hT.sub hs
  unfold TObj at hT1
  obtain ⟨q1, q2, q3, q4, q5, q6, q7⟩ := id hI
  by_cases hxb : x < b
  · obtain ⟨d1, d2⟩ := RI.step (by omega) hx hI hxb
    have hl : lenN (b - x) = Nat.log2 (b - x) + 1 := by unfold lenN; rw [if_neg (by omega)]
    have hle := lenN_le (x := b - x) (k := 16) (by omega)
    obtain ⟨v, hv⟩ : ∃ v, v = Nat.log2 (b - x) := ⟨_, rfl⟩
    rw [← hv] at d1 d2 hl
    have hv16 : v < 16 := by omega
    conv => whnf
    repeat (first | ((with_reducible apply Go.Vc.ld_i); (focus ((repeat (first | with_reducible assumption | with_reducible exact Go.Vc.hset_same _ _ _ | with_reducible refine (Go.Vc.hset_ne _ _ (by omega)).trans ?_)); done)); (focus exact rfl); conv => whnf) | ((with_reducible apply Go.Vc.wr_i64); (focus exact And.intro (by omega) (by omega)); conv => whnf) | ((with_reducible apply Go.Vc.wr_u64); (focus exact And.intro (by omega) (by omega)); conv => whnf) | (refine Go.Vc.br_t ?_ ?_; (focus omega); conv => whnf))
    have e1 : ((b : Int) - (x : Int)) = ((b - x : Nat) : Int) := by omega
    rw [e1]
    refine (len_spec (b - x) (by omega) _ _).mono ?_
    rintro _ _ _ _ _ ⟨rfl, rfl, rfl⟩
    rw [hl]
    conv => whnf
    repeat (first | ((with_reducible apply Go.Vc.wr_i64); (focus exact And.intro (by omega) (by omega)); conv => whnf) | ((with_reducible apply Go.Vc.shr_i64); (focus exact And.intro (by omega) (by omega)); intro zS hzS hzS0 hzS1; conv => whnf) | ((with_reducible apply Go.Vc.and_leI); (focus omega); conv => whnf))
    have e2 : (((v + 1 : Nat) : Int) - 1) = (v : Int) := by omega
    have hz : zS = ((x / 2 ^ v : Nat) : Int) := by
      rw [hzS, e2, Int.toNat_natCast]
      rfl
    rw [e2, hz]
    refine (tnode_spec (hT.sub hs) (hm.sub hs) hH hx hN hN2 (v := v) (i := x / 2 ^ v) (by rw [d1]; exact Nat.le_trans d2.2.1 hb)).mono ?_
    rintro _ g2 t2 hd2 ht2 ⟨rfl, hs2, _⟩
    conv => whnf
    repeat (first | (intro _ _; conv => whnf))
    rename_i r hr
    refine app_one hd (by omega) (hs.trans hs2) hw hd2 hr (ho.fr (fun b o _ hb => hs2 b o hb)) (by omega) ?_
    intro a7 c7 h7 t7 ho7 ht7 hd7 hs7 hw7
    have hp2 : 2 ^ v ≤ 65536 := Nat.le_trans (Nat.pow_le_pow_right (by decide) (show v ≤ 16 by omega)) (by decide)
    have hp1 : 1 ≤ 2 ^ v := Nat.one_le_pow _ _ (by decide)
    conv => whnf
    repeat (first | ((with_reducible apply Go.Vc.wr_i64); (focus exact And.intro (by omega) (by omega)); conv => whnf) | ((with_reducible apply Go.Vc.one_shl); (focus exact And.intro (by omega) (by omega)); intro zP hzP hzP0 hzP1; conv => whnf) | ((with_reducible apply Go.Vc.and_leI); (focus omega); conv => whnf))
    have hz2 : zP = 2 ^ v := by
      rw [hzP, Int.toNat_natCast]
    refine ⟨rfl, round_end4 (x + 2 ^ v) (ps ++ [nodeR L v (x / 2 ^ v)]) a7 c7 (by omega) ⟨rfl, ?_, rfl, ?_, trivial⟩ ⟨by omega, d2, by rw [List.length_append]; exact ho7, hw7, hs7⟩⟩
    · rw [hz2]
      rfl
    · rw [List.length_append]
      rfl
  · obtain rfl : x = b := by omega
    obtain ⟨qs, y, hps, hrt⟩ := q7 rfl
    have hpl : ps.length = qs.length + 1 := by rw [hps]; simp
    have hys : y.size ≤ 32 := q5 y (by rw [hps]; simp)
    have hqs : ∀ p ∈ qs, p.size ≤ 32 := fun p hp => q5 p (by rw [hps]; simp [hp])
    have hsl := ho.sl
    have hcap := ho.cap
    conv => whnf
    repeat (first | ((with_reducible apply Go.Vc.sl_ix); (focus with_reducible assumption); (focus exact And.intro (by omega) (by omega)); intro xI bI offI hxI hcI; conv => whnf) | ((with_reducible refine And.intro (And.intro ?_ ?_) ?_); (focus omega); (focus omega); conv => whnf) | ((with_reducible apply Go.Vc.ld_i); (focus ((repeat (first | with_reducible assumption | with_reducible exact Go.Vc.hset_same _ _ _ | with_reducible refine (Go.Vc.hset_ne _ _ (by omega)).trans ?_)); done)); (focus exact rfl); conv => whnf) | ((with_reducible apply Go.Vc.st_i); (focus ((repeat (first | with_reducible assumption | with_reducible exact Go.Vc.hset_same _ _ _ | with_reducible refine (Go.Vc.hset_ne _ _ (by omega)).trans ?_)); done)); (focus exact rfl); (focus exact rfl); (focus exact rfl); (conv => whnf); intro cA hcA; (first | (simp only [List.setIfInBounds_toArray, List.set_cons_succ, List.set_cons_zero] at hcA; subst hcA) | subst hcA); conv => whnf) | ((with_reducible apply Go.Vc.cell_i); (focus assumption); conv => whnf) | (intro _ _; conv => whnf) | ((with_reducible apply Go.Vc.wr_i64); (focus exact And.intro (by omega) (by omega)); conv => whnf) | (refine Go.Vc.br_f ?_ ?_; (focus omega); conv => whnf))
    have hy : xI = y := by
      rw [show ((ps.length : Int) - 1).toNat = qs.length by omega, hps] at hxI
      simpa using hxI.symm
    subst hy
    rename_i r9 hr9
    have hqn : ((ps.length : Int) - 1).toNat = qs.length := by omega
    have hslq : Sl g al qs.length Value.string qs := by
      have h1 := hsl.take (m := qs.length) (by omega)
      have h2 : ps.take qs.length = qs := by rw [hps]; simp
      rw [h2] at h1
      exact h1
    rw [hqn]
    refine (sbackfn_spec _ _ _).mono ?_
    rintro _ g2 t2 hd2 ht2 ⟨r2, rfl, k2, kt2, kt3, hs2⟩
    have k9 : g2 r9 = some (.cells #[.string xI] 9 (0, 0)) := hs2 _ _ (hset_same _ _ _)
    have hg2 : Vc.Sub g g2 := fun b o hb => by
      have := hd1 _ _ hb
      refine hs2 _ _ ?_
      rw [hset_ne _ _ (by omega), hset_ne _ _ (by omega)]
      exact hb
    conv => whnf
    refine RangeVC.mk rfl ⟨_, _, _, rfl, ?_⟩
    intro Db Lp hDb hDL nn fn T2 LR
    have hsa := hd2.sub_new hDb (.deferred (some []))
    have hda := hd2.set Db (.deferred (some [])) (Db + 1) (by omega) (by omega)
    generalize hR0 : Loop.mk _ _ _ _ _ _ _ _ = R0
    have hRs : R0.state = .ready := by rw [← hR0]
    have hRn : R0.pending = none := by rw [← hR0]
    have hRp := congrArg Loop.params hR0
    have hRa := congrArg Loop.assign hR0
    have hRb := congrArg Loop.body hR0
    have hRt : T2 = R0.tmps := congrArg Loop.tmps hR0
    rw [hRt] at LR
    dsimp only at hRp hRa hRb
    clear hR0
    have hsb := hda.sub_new (r := Lp) (by omega) (.loop R0)
    have hdb := hda.set Lp (.loop R0) (Lp + 1) (by omega) (by omega)
    have hsub := hg2.trans (hsa.trans hsb)
    have hS2 := hsa.trans hsb
    show CallSpec Tryz.prog _ #[.func (.yield Lp) #[] #[], .pointer (some ⟨r2, 0, none⟩)] _ _ _
    refine (sback_spec (l := Lp) (a := al) (n := qs.length) (c := c) (r2 := r2) (L := qs) (by omega)
      (fun k h' t' => Lp < t' ∧ h' r2 = some (.cells #[.slice al qs.length c] 42 (0, 0)) ∧ h' r9 = some (.cells #[.string ((qs.drop (qs.length - k)).foldr ndB xI)] 9 (0, 0)) ∧ h' Lp = some (.loop R0) ∧ h' Db = some (.deferred (some [])) ∧ Vc.Sub g h') ?_ ?_ ?_).mono ?_
    · refine ⟨by omega, hS2 _ _ k2, ?_, hset_same _ _ _, hsb _ _ (hset_same _ _ _), hsub⟩
      rw [Nat.sub_zero, List.drop_length]
      exact hS2 _ _ k9
    · rintro k h' t' ⟨_, h2, _, _, _, hs'⟩
      exact ⟨h2, hslq.sub hs'⟩
    · rintro k h' t' p hk hp ht' hd' ⟨h1, h2, h3, h8, h9, h10⟩
      have hpsz := hqs p (List.mem_of_getElem? hp)
      have hacc := foldr_sz (ps := qs.drop (qs.length - k)) hys
      have hstep : qs.drop (qs.length - (k + 1)) = p :: qs.drop (qs.length - k) := by
        have e : qs.length - 1 - k < qs.length := by omega
        rw [List.getElem?_eq_getElem e] at hp
        rw [show qs.length - (k + 1) = qs.length - 1 - k by omega, List.drop_eq_getElem_cons e, Option.some.inj hp]
        congr 2
        omega
      refine yield_i h8 hRs hRp hRa hRb LR rfl ?_
      intro hd4
      conv => whnf
      refine ⟨rfl, rfl, _, h8, hRs, ?_⟩
      rintro rb hrb
      have hsc : Vc.Sub g (hset h' Lp (.loop rb)) := fun b o hb => by
        rw [hset_ne _ _ (by have := hd1 _ _ hb; omega)]
        exact h10 b o hb
      have hdc : Dom (hset h' Lp (.loop rb)) t' := hd'.set Lp _ t' (Nat.le_refl _) (by omega)
      have q2s : (hset h' Lp (.loop rb)) r2 = some (.cells #[.slice al qs.length c] 42 (0, 0)) := by rw [hset_ne _ _ (by omega)]; exact h2
      have q3s : (hset h' Lp (.loop rb)) r9 = some (.cells #[.string ((qs.drop (qs.length - k)).foldr ndB xI)] 9 (0, 0)) := by rw [hset_ne _ _ (by omega)]; exact h3
      have qDs : (hset h' Lp (.loop rb)) Db = some (.deferred (some [])) := by rw [hset_ne _ _ (by omega)]; exact h9
      have qLs : (hset h' Lp (.loop rb)) Lp = some (.loop rb) := hset_same _ _ _
      generalize hset h' Lp (.loop rb) = hc at hsc hdc q2s q3s qDs qLs ⊢
      conv => whnf
      repeat (first | ((with_reducible apply Go.Vc.ld_i); (focus ((repeat (first | with_reducible assumption | with_reducible exact Go.Vc.hset_same _ _ _ | with_reducible refine (Go.Vc.hset_ne _ _ (by omega)).trans ?_)); done)); (focus exact rfl); conv => whnf))
      refine (node_spec p ((qs.drop (qs.length - k)).foldr ndB xI) (by omega) (by omega) _ _).mono ?_
      rintro _ g5 t5 hd5 ht5 ⟨rfl, hs5⟩
      have f2 := hs5 _ _ q2s
      have f3 := hs5 _ _ q3s
      have fD := hs5 _ _ qDs
      have fL := hs5 _ _ qLs
      have fS := hsc.trans hs5
      conv => whnf
      repeat (first | ((with_reducible apply Go.Vc.st_i); (focus ((repeat (first | with_reducible assumption | with_reducible exact Go.Vc.hset_same _ _ _ | with_reducible refine (Go.Vc.hset_ne _ _ (by omega)).trans ?_)); done)); (focus exact rfl); (focus exact rfl); (focus exact rfl); (conv => whnf); intro cA hcA; (first | (simp only [List.setIfInBounds_toArray, List.set_cons_succ, List.set_cons_zero] at hcA; subst hcA) | subst hcA); conv => whnf))
      refine ⟨rb, by rw [hset_ne _ _ (by omega)]; exact fL, ?_⟩
      intro r' hr'
      have er : r' = R0 := by rw [hr', hrb, ← hRs, ← hRn]
      subst er
      refine ⟨rfl, by omega, ?_, ?_, hset_same _ _ _, ?_, ?_⟩
      · rw [hset_ne _ _ (by omega), hset_ne _ _ (by omega)]; exact f2
      · rw [hset_ne _ _ (by omega), hset_same, hstep]
        rfl
      · rw [hset_ne _ _ (by omega), hset_ne _ _ (by omega)]; exact fD
      · intro b o hb
        have := hd1 _ _ hb
        rw [hset_ne _ _ (by omega), hset_ne _ _ (by omega)]
        exact fS b o hb
    · rintro _ h' t' hd' ht' ⟨h1, h2, h3, h8, h9, h10⟩
      refine ⟨_, h8, by rw [hRs]; decide, ?_⟩
      rintro rb hrb
      rw [hRn]
      have qDs : (hset h' Lp (.loop rb)) Db = some (.deferred (some [])) := by rw [hset_ne _ _ (by omega)]; exact h9
      have q9s : (hset h' Lp (.loop rb)) r9 = some (.cells #[.string (qs.foldr ndB xI)] 9 (0, 0)) := by
        rw [hset_ne _ _ (by omega), h3, Nat.sub_self, List.drop_zero]
      have hsc : Vc.Sub g (hset h' Lp (.loop rb)) := fun b o hb => by
        rw [hset_ne _ _ (by have := hd1 _ _ hb; omega)]
        exact h10 b o hb
      generalize hset h' Lp (.loop rb) = hc at hsc q9s qDs ⊢
      conv => whnf
      repeat (first | ((with_reducible apply Go.Vc.ld_i); (focus ((repeat (first | with_reducible assumption | with_reducible exact Go.Vc.hset_same _ _ _ | with_reducible refine (Go.Vc.hset_ne _ _ (by omega)).trans ?_)); done)); (focus exact rfl); conv => whnf))
      refine ⟨qDs, ?_⟩
      conv => whnf
      refine ⟨by rw [hrt], ?_, by omega⟩
      intro b o hb
      have hbt := hd _ _ hb
      rw [hset_ne _ _ (by omega)]
      exact hsc _ _ (hs _ _ hb)
end Go.Proofs.YtlkpgjicpjjlcaaGreatDoor

/- The proofs that are made of a tree's tiles; its root. -/
set_option linter.unusedVariables false
set_option linter.unusedSimpArgs false
namespace Go.Proofs.YtlkpgjicpjjlcaaGreatDoor
open Go Go.Vc Go.Tile Go.Sha Go.Mk
set_option maxRecDepth 20000
set_option linter.unusedVariables false
theorem hideB (g : Heap) (a : Option Addr) : ∃ H0 : Heap, (∀ b o, g b = some o → owner a ≠ some b → H0 b = some o) ∧ Vc.Sub H0 g ∧ ∀ b o, H0 b = some o → owner a ≠ some b := by
  refine ⟨fun k => if owner a = some k then none else g k, ?_, ?_, ?_⟩
  · intro b o hb hn
    show (if owner a = some b then none else g b) = some o
    rw [if_neg hn]
    exact hb
  · intro b o hb
    replace hb : (if owner a = some b then none else g b) = some o := hb
    split at hb
    · cases hb
    · exact hb
  · intro b o hb e
    replace hb : (if owner a = some b then none else g b) = some o := hb
    rw [if_pos e] at hb
    cases hb
def outK (L : List ByteArray) (l : List St) (k : Nat) : List ByteArray := (stR L l).reverse.take k
theorem outK_succ {L : List ByteArray} {l : List St} {k : Nat} {x : St} (hk : k < l.length) (hx : l[l.length - 1 - k]? = some x) : outK L l (k + 1) = outK L l k ++ [rt ndB emB (seg L x.1 x.2)] := by
  unfold outK
  have hlen : (stR L l).length = l.length := by unfold stR; simp
  have h2 : (stR L l).reverse[k]? = some (rt ndB emB (seg L x.1 x.2)) := by
    rw [List.getElem?_reverse (by omega), hlen]
    unfold stR
    rw [List.getElem?_map, hx]
    rfl
  rw [List.take_add_one, h2]
  rfl
theorem outK_all (L : List ByteArray) (l : List St) : outK L l l.length = (stR L l).reverse := by
  unfold outK
  rw [List.take_of_length_le]
  unfold stR
  simp
theorem proof_spec {h : Heap} {t bx m tb N ns cs : Nat} {as_ : Option Addr} {D : List (ByteArray × ByteArray)} {L : List ByteArray} {l : List St} (hT : TObj h tb bx N) (hm : TMap h bx m D) (hH : Has D L N) (hx : ∀ x ∈ L, x.size = 32) (hN : N ≤ L.length) (hN2 : N ≤ 65000)
    (hsl : Sl h as_ (ns * 2) id (l.flatMap st2)) (hl : l.length = ns) (hns : ns ≤ 65000) (hok : StOk N l) :
    CallSpec Tryz.prog 55 #[.pointer (some ⟨tb, 0, none⟩), .slice as_ ns cs] h t (fun x h' t' => ∃ a c, x = .tuple #[.slice a ns c, .int .i64 0] ∧ Vc.Own h' 9 a ns c Value.string (stR L l).reverse ∧ (∀ b, owner a = some b → t ≤ b) ∧ Vc.Sub h h' ∧ t ≤ t') := by
  refine Go.Vc.spec_of_vcI (fn := Tryz.f55) Tryz.func55 rfl (by kernel_rfl) (by kernel_rfl) (Nat.le_of_ble_eq_true rfl) ?_
  intro hd
  conv => whnf
  repeat (first | (intro _ _; conv => whnf))
  rename_i r2 hr2 r4 hr4 r5 hr5 r6 hr6
  generalize hG : hset (hset (hset (hset h r2 _) r4 _) r5 _) r6 _ = G
  have hG2 : G r2 = some (.cells #[.pointer (some ⟨tb, 0, none⟩)] 96 (0, 0)) := by
    rw [← hG, hset_ne _ _ (by omega), hset_ne _ _ (by omega), hset_ne _ _ (by omega)]
    exact hset_same _ _ _
  have hG4 : G r4 = some (.cells #[.slice none 0 0] 42 (0, 0)) := by
    rw [← hG, hset_ne _ _ (by omega), hset_ne _ _ (by omega)]
    exact hset_same _ _ _
  have hG5 : G r5 = some (.cells #[.int .i64 0] 25 (0, 0)) := by
    rw [← hG, hset_ne _ _ (by omega)]
    exact hset_same _ _ _
  have hG6 : G r6 = some (.cells #[.slice none 0 0] 42 (0, 0)) := by
    rw [← hG]
    exact hset_same _ _ _
  have hGS : Vc.Sub h G := by
    intro b o hb
    have := hd _ _ hb
    rw [← hG]
    repeat rw [hset_ne _ _ (by omega)]
    exact hb
  clear hG
  refine (tbackfn_spec _ _ _).mono ?_
  rintro _ g2 t2 hd2 ht2 ⟨q2, rfl, k2, kt2, kt3, hs2⟩
  have hh2 := hGS.trans hs2
  have p2 := hs2 _ _ hG2
  have p4 := hs2 _ _ hG4
  have p5 := hs2 _ _ hG5
  have p6 := hs2 _ _ hG6
  conv => whnf
  refine RangeVC.mk rfl ⟨_, _, _, rfl, ?_⟩
  intro Db Lp hDb hDL nn fn T2 LR
  have hsa := hd2.sub_new hDb (.deferred (some []))
  have hda := hd2.set Db (.deferred (some [])) (Db + 1) (by omega) (by omega)
  generalize hR0 : Loop.mk _ _ _ _ _ _ _ _ = R0
  have hRs : R0.state = .ready := by rw [← hR0]
  have hRn : R0.pending = none := by rw [← hR0]
  have hRp := congrArg Loop.params hR0
  have hRa := congrArg Loop.assign hR0
  have hRb := congrArg Loop.body hR0
  have hRt : T2 = R0.tmps := congrArg Loop.tmps hR0
  rw [hRt] at LR
  dsimp only at hRp hRa hRb
  clear hR0
  have hsb := hda.sub_new (r := Lp) (by omega) (.loop R0)
  have hdb := hda.set Lp (.loop R0) (Lp + 1) (by omega) (by omega)
  have hsub := hh2.trans (hsa.trans hsb)
  have hS2 := hsa.trans hsb
  show CallSpec Tryz.prog _ #[.func (.yield Lp) #[] #[], .pointer (some ⟨q2, 0, none⟩)] _ _ _
  refine (tback_spec (l := Lp) (a := as_) (n := ns) (c := cs) (r2 := q2) (L := l) (by omega)
    (fun k h' t' => Lp < t' ∧ h' q2 = some (.cells #[.slice as_ ns cs] 103 (0, 0)) ∧ h' r2 = some (.cells #[.pointer (some ⟨tb, 0, none⟩)] 96 (0, 0)) ∧ h' r4 = some (.cells #[.slice none 0 0] 42 (0, 0)) ∧ h' r5 = some (.cells #[.int .i64 0] 25 (0, 0)) ∧ (∃ a c, h' r6 = some (.cells #[.slice a k c] 42 (0, 0)) ∧ Vc.Own h' 9 a k c Value.string (outK L l k) ∧ ∀ b, owner a = some b → Lp < b) ∧ h' Lp = some (.loop R0) ∧ h' Db = some (.deferred (some [])) ∧ Vc.Sub h h') ?_ ?_ ?_).mono ?_
  · exact ⟨by omega, hS2 _ _ k2, hS2 _ _ p2, hS2 _ _ p4, hS2 _ _ p5, ⟨none, 0, hS2 _ _ p6, Vc.Own.nil _ _ _, fun b hb => by cases hb⟩, hset_same _ _ _, hsb _ _ (hset_same _ _ _), hsub⟩
  · rintro k h' t' ⟨_, h2, _, _, _, _, _, _, hs⟩
    exact ⟨h2, hsl.sub hs⟩
  · rintro k h' t' x hk hx' ht' hd' ⟨h1, i2, i3, i4, i5, ⟨a, c, i6, ho, hw⟩, h8, h9, h10⟩
    obtain ⟨x1, x2⟩ := x
    have hmem := hok _ (List.mem_of_getElem? hx')
    dsimp only at hmem
    obtain ⟨m1, m2, m3⟩ := hmem
    have hnext := outK_succ (L := L) (l := l) (k := k) (x := (x1, x2)) (by omega) (by rw [hl]; exact hx')
    refine yield_i h8 hRs hRp hRa hRb LR rfl ?_
    intro hd4
    conv => whnf
    repeat (first | ((with_reducible apply Go.Vc.strow); (focus ((repeat (first | with_reducible assumption | with_reducible exact Go.Vc.hset_same _ _ _ | with_reducible refine (Go.Vc.hset_ne _ _ (by omega)).trans ?_)); done)); (focus exact rfl); (focus exact rfl); (focus exact rfl); rintro _ rfl; conv => whnf) | (intro _ _; conv => whnf))
    rename_i r8 hr8
    refine ⟨rfl, rfl, _, by rw [hset_ne _ _ (by omega), hset_ne _ _ (by omega)]; exact h8, hRs, ?_⟩
    rintro rb hrb
    generalize hC : hset (hset (hset h' r8 _) r8 _) Lp (.loop rb) = hc
    have hlow : ∀ b o, b < r8 → b ≠ Lp → h' b = some o → hc b = some o := by
      intro b o hb1 hb2 hb3
      rw [← hC, hset_ne _ _ hb2, hset_ne _ _ (by omega), hset_ne _ _ (by omega)]
      exact hb3
    have c2 := hlow r2 _ (by omega) (by omega) i3
    have c4 := hlow r4 _ (by omega) (by omega) i4
    have c5 := hlow r5 _ (by omega) (by omega) i5
    have c6 := hlow r6 _ (by omega) (by omega) i6
    have cq := hlow q2 _ (by omega) (by omega) i2
    have cD := hlow Db _ (by omega) (by omega) h9
    have cL : hc Lp = some (.loop rb) := by rw [← hC]; exact hset_same _ _ _
    have c8 : hc r8 = some (.cells #[.int .i64 (x1 : Nat), .int .i64 (x2 : Nat)] 106 (0, 0)) := by
      rw [← hC, hset_ne _ _ (by omega)]
      exact hset_same _ _ _
    have cS : Vc.Sub h hc := fun b o hb => by
      have h1 := hd _ _ hb
      exact hlow b o (by omega) (by omega) (h10 b o hb)
    have hoc : Vc.Own hc 9 a k c Value.string (outK L l k) := ho.fr (fun b x hb hx => hlow b x (by have := hd' _ _ hx; omega) (by have := hw b hb; omega) hx)
    have hdc : Dom hc (r8 + 1) := by
      rw [← hC]
      exact ((hd'.set r8 _ (r8 + 1) (by omega) (by omega)).set r8 _ (r8 + 1) (by omega) (by omega)).set Lp _ (r8 + 1) (by omega) (by omega)
    have hoa : ∀ b, owner a = some b → b < r8 := by
      intro b hb2
      rcases ho.2 with ⟨e, _⟩ | ⟨b', off, cs, fr, e, _, hb', _⟩
      · rw [e] at hb2; cases hb2
      · rw [e] at hb2
        obtain rfl : b' = b := Option.some.inj hb2
        have := hd' _ _ hb'
        omega
    clear hC
    obtain ⟨H0, z0, z1, z2⟩ := hideB hc a
    have y2 := z0 r2 _ c2 (fun e => by have := hw r2 e; omega)
    have y6 := z0 r6 _ c6 (fun e => by have := hw r6 e; omega)
    have y8 := z0 r8 _ c8 (fun e => by have := hoa r8 e; omega)
    conv => whnf
    refine Go.Vc.draw_intro [⟨0, false, true, false, 0⟩, ⟨1, false, false, false, 0⟩, ⟨2, false, false, false, 0⟩, ⟨3, false, false, false, 4⟩, ⟨4, false, false, false, 0⟩, ⟨5, false, false, false, 16⟩, ⟨6, true, false, true, 62⟩, ⟨7, true, false, true, 126⟩, ⟨8, true, false, false, 255⟩, ⟨9, true, false, false, 511⟩] (hs := H0) (hsub := z1) (hm := by kernel_rfl) (hpl := by kernel_rfl) ?_
    conv => whnf
    conv => whnf
    repeat (first | ((with_reducible apply Go.Vc.ld_i); (focus ((repeat (first | with_reducible assumption | with_reducible exact Go.Vc.hset_same _ _ _ | with_reducible refine (Go.Vc.hset_ne _ _ (by omega)).trans ?_)); done)); (focus exact rfl); conv => whnf))
    refine (troot_spec (hT.sub cS) (hm.sub cS) hH hx hN hN2 m1 m2 m3).mono ?_
    rintro _ g5 t5 hd5 ht5 ⟨rfl, hs5, _⟩
    conv => whnf
    refine ⟨z1.trans hs5, ?_⟩
    conv => whnf
    repeat (first | (intro _ _; conv => whnf))
    rename_i r9 hr9
    have hs9 := hd5.sub_new hr9 (.cells #[.string (rt ndB emB (seg L x1 x2))] 9)
    have hd9 := hd5.set r9 (.cells #[.string (rt ndB emB (seg L x1 x2))] 9) (r9 + 1) (by omega) (by omega)
    refine ⟨(z1.trans hs5).trans hs9, ?_⟩
    conv => whnf
    refine app_strs (m := 1) (l2 := [rt ndB emB (seg L x1 x2)]) (hoc.fr (fun b o _ hb => hs9 b o (hs5 b o hb))) (ar_sl (hset_same _ _ _) rfl) (by omega) hd9 ?_
    intro a7 c7 g7 t7 ho7 ht7 hd7 hk7 how7
    rw [← hnext] at ho7
    have hk8 : ∀ b o, b < r8 + 1 → owner a ≠ some b → hc b = some o → g7 b = some o := by
      intro b o hb hn hx
      rw [hk7 b (by omega) hn]
      exact hs9 b o (hs5 b o hx)
    have hw7 : ∀ b, owner a7 = some b → Lp < b := by
      intro b hb
      rcases how7 with e | ⟨b', e, hb'⟩
      · exact hw b (by rw [← e]; exact hb)
      · rw [e] at hb
        obtain rfl : b' = b := Option.some.inj hb
        omega
    have hlo : ∀ b, b ≤ Lp → owner a ≠ some b := fun b hb e => by have := hw b e; omega
    have d2 := hk8 r2 _ (by omega) (hlo _ (by omega)) c2
    have d4 := hk8 r4 _ (by omega) (hlo _ (by omega)) c4
    have d5 := hk8 r5 _ (by omega) (hlo _ (by omega)) c5
    have d6 := hk8 r6 _ (by omega) (hlo _ (by omega)) c6
    have dq := hk8 q2 _ (by omega) (hlo _ (by omega)) cq
    have dD := hk8 Db _ (by omega) (hlo _ (by omega)) cD
    have dL := hk8 Lp _ (by omega) (hlo _ (by omega)) cL
    have dS : Vc.Sub h g7 := fun b o hb => by
      have := hd _ _ hb
      exact hk8 b o (by omega) (hlo b (by omega)) (cS b o hb)
    have hT7 := hT.sub dS
    unfold TObj at hT7
    have htb : tb ≠ r6 := fun e => by
      have := hd _ _ hT
      omega
    conv => whnf
    repeat (first | ((with_reducible apply Go.Vc.ld_i); (focus ((repeat (first | with_reducible assumption | with_reducible exact Go.Vc.hset_same _ _ _ | with_reducible refine (Go.Vc.hset_ne _ _ (by omega)).trans ?_)); done)); (focus exact rfl); conv => whnf) | ((with_reducible apply Go.Vc.st_i); (focus ((repeat (first | with_reducible assumption | with_reducible exact Go.Vc.hset_same _ _ _ | with_reducible refine (Go.Vc.hset_ne _ _ (by omega)).trans ?_)); done)); (focus exact rfl); (focus exact rfl); (focus exact rfl); (conv => whnf); intro cA hcA; (first | (simp only [List.setIfInBounds_toArray, List.set_cons_succ, List.set_cons_zero] at hcA; subst hcA) | subst hcA); conv => whnf) | (refine Go.Vc.br_f ?_ ?_; (focus omega); conv => whnf))
    refine ⟨rb, by rw [hset_ne _ _ (by omega)]; exact dL, ?_⟩
    intro r' hr'
    have er : r' = R0 := by rw [hr', hrb, ← hRs, ← hRn]
    subst er
    refine ⟨rfl, by omega, ?_, ?_, ?_, ?_, ⟨a7, c7, ?_, ?_, hw7⟩, hset_same _ _ _, ?_, ?_⟩
    · rw [hset_ne _ _ (by omega), hset_ne _ _ (by omega)]; exact dq
    · rw [hset_ne _ _ (by omega), hset_ne _ _ (by omega)]; exact d2
    · rw [hset_ne _ _ (by omega), hset_ne _ _ (by omega)]; exact d4
    · rw [hset_ne _ _ (by omega), hset_ne _ _ (by omega)]; exact d5
    · rw [hset_ne _ _ (by omega)]; exact hset_same _ _ _
    · exact ho7.fr (fun b o hb ho => by have := hw7 b hb; rw [hset_ne _ _ (by omega), hset_ne _ _ (by omega)]; exact ho)
    · rw [hset_ne _ _ (by omega), hset_ne _ _ (by omega)]; exact dD
    · intro b o hb
      have := hd _ _ hb
      rw [hset_ne _ _ (by omega), hset_ne _ _ (by omega)]
      exact dS b o hb
  · rintro _ h' t' hd' ht' ⟨h1, i2, i3, i4, i5, ⟨a, c, i6, ho, hw⟩, h8, h9, h10⟩
    refine ⟨_, h8, by rw [hRs]; decide, ?_⟩
    rintro rb hrb
    rw [hRn]
    have j4 : (hset h' Lp (.loop rb)) r4 = _ := (hset_ne _ _ (by omega)).trans i4
    have j5 : (hset h' Lp (.loop rb)) r5 = _ := (hset_ne _ _ (by omega)).trans i5
    have j6 : (hset h' Lp (.loop rb)) r6 = _ := (hset_ne _ _ (by omega)).trans i6
    have jD : (hset h' Lp (.loop rb)) Db = _ := (hset_ne _ _ (by omega)).trans h9
    have jS : Vc.Sub h (hset h' Lp (.loop rb)) := fun b o hb => by
      rw [hset_ne _ _ (by have := hd _ _ hb; omega)]
      exact h10 b o hb
    have jo : Vc.Own (hset h' Lp (.loop rb)) 9 a ns c Value.string (outK L l ns) := ho.fr (fun b o hb ho => by have := hw b hb; rw [hset_ne _ _ (by omega)]; exact ho)
    rw [show outK L l ns = (stR L l).reverse by rw [← hl]; exact outK_all L l] at jo
    generalize hset h' Lp (.loop rb) = hc at *
    conv => whnf
    repeat (first | ((with_reducible apply Go.Vc.ld_i); (focus ((repeat (first | with_reducible assumption | with_reducible exact Go.Vc.hset_same _ _ _ | with_reducible refine (Go.Vc.hset_ne _ _ (by omega)).trans ?_)); done)); (focus exact rfl); conv => whnf) | ((with_reducible apply Go.Vc.st_i); (focus ((repeat (first | with_reducible assumption | with_reducible exact Go.Vc.hset_same _ _ _ | with_reducible refine (Go.Vc.hset_ne _ _ (by omega)).trans ?_)); done)); (focus exact rfl); (focus exact rfl); (focus exact rfl); (conv => whnf); intro cA hcA; (first | (simp only [List.setIfInBounds_toArray, List.set_cons_succ, List.set_cons_zero] at hcA; subst hcA) | subst hcA); conv => whnf))
    refine ⟨by rw [hset_ne _ _ (by omega), hset_ne _ _ (by omega)]; exact jD, ?_⟩
    conv => whnf
    repeat (first | ((with_reducible apply Go.Vc.ld_i); (focus ((repeat (first | with_reducible assumption | with_reducible exact Go.Vc.hset_same _ _ _ | with_reducible refine (Go.Vc.hset_ne _ _ (by omega)).trans ?_)); done)); (focus exact rfl); conv => whnf))
    refine ⟨a, c, rfl, jo.fr (fun b o hb ho => by have := hw b hb; rw [hset_ne _ _ (by omega), hset_ne _ _ (by omega), hset_ne _ _ (by omega)]; exact ho), (fun b hb => by have := hw b hb; omega), ?_, by omega⟩
    intro b o hb
    have := hd _ _ hb
    rw [hset_ne _ _ (by omega), hset_ne _ _ (by omega), hset_ne _ _ (by omega)]
    exact jS b o hb
end Go.Proofs.YtlkpgjicpjjlcaaGreatDoor

/- Root, Inclusion and Consistency of a tree's tiles. -/
set_option linter.unusedVariables false
set_option linter.unusedSimpArgs false
namespace Go.Proofs.YtlkpgjicpjjlcaaGreatDoor
open Go Go.Vc Go.Tile Go.Sha Go.Mk
set_option maxRecDepth 20000
set_option linter.unusedVariables false
theorem app_st1 {h0 h : Heap} {t0 t r : Nat} {a : Option Addr} {n c : Nat} {w : List St} {x1 x2 : Nat} {ty : TypeId} (hd0 : Dom h0 t0) (ht : t0 ≤ t) (hs : Vc.Sub h0 h) (hw : ∀ b, owner a = some b → t0 ≤ b) (hd : Dom h t) (hr : t ≤ r)
    (ho : Vc.Own h 106 a (n * 2) (c * 2) id (w.flatMap st2)) (hb : n ≤ 1000000) {K : Value → Heap → Nat → Prop}
    (hK : ∀ a' c' h' t', Vc.Own h' 106 a' ((n + 1) * 2) (c' * 2) id ((w ++ [(x1, x2)]).flatMap st2) → r + 1 ≤ t' → Dom h' t' → Vc.Sub h0 h' → (∀ b, owner a' = some b → t0 ≤ b) → K (.slice a' (n + 1) c') h' t') :
    AppVC Tryz.prog #[103, 103] ty (.slice a n c) (.slice (some ⟨r, 0, none⟩) 1 1) K (hset h r (.cells #[.int .i64 (x1 : Nat), .int .i64 (x2 : Nat)] 106 (0, 0))) (r + 1) := by
  have hs3 := hd.sub_new hr (.cells #[.int .i64 (x1 : Nat), .int .i64 (x2 : Nat)] 106)
  have hd3 := hd.set r (.cells #[.int .i64 (x1 : Nat), .int .i64 (x2 : Nat)] 106) (r + 1) (by omega) (by omega)
  refine app_vcW (W := 2) (m := 1) (l2 := st2 (x1, x2)) Tryz.underlying103 Tryz.underlying103 rfl (inf := Tryz.types[106]) (z := .agg #[.int .i64 0, .int .i64 0]) (by kernel_rfl) (by kernel_rfl) (by decide) (by kernel_rfl) rfl (ho.fr (fun b o _ hb => hs3 b o hb)) (ar_sl (l := st2 (x1, x2)) (f := id) (b := r) (T := 106) (fr := (0, 0)) (hset_same _ _ _) rfl) rfl (by show (n + 1) * 16 ≤ _; omega) (by omega) (by show 16 ≤ 1000; omega) hd3 ?_
  intro a7 c7 h7 t7 ho7 ht7 hd7 hk7 how7
  refine hK a7 c7 h7 t7 ?_ ht7 hd7 ?_ ?_
  · rw [List.flatMap_append]
    exact ho7
  · intro b o hb
    have hbt := hd0 b o hb
    rw [hk7 b (by omega) (fun e => by have := hw b e; omega)]
    exact hs3 b o (hs b o hb)
  · intro b hb
    rcases how7 with e | ⟨b', e, hb'⟩
    · exact hw b (by rw [← e]; exact hb)
    · rw [e] at hb; cases hb; omega
theorem tRoot_spec {h : Heap} {t bx m N : Nat} {D : List (ByteArray × ByteArray)} {L : List ByteArray} (hm : TMap h bx m D) (hH : Has D L N) (hx : ∀ x ∈ L, x.size = 32) (hN : N ≤ L.length) (hN2 : N ≤ 65000) :
    CallSpec Tryz.prog 18 #[rdV bx, .int .i64 (N : Nat)] h t (fun v h' t' => v = .tuple #[.string (rt ndB emB (L.take N)), .int .i64 0] ∧ Vc.Sub h h' ∧ t ≤ t') := by
  unfold rdV
  refine Go.Vc.spec_of_vc (fn := Tryz.f18) Tryz.func18 rfl (by kernel_rfl) (by kernel_rfl) (Nat.le_of_ble_eq_true rfl) ?_
  intro hd
  conv => whnf
  refine (may_spec (N : Nat)).mono ?_
  rintro _ g t1 hd1 _ ⟨rfl, rfl, rfl⟩
  rw [decide_eq_true (by omega)]
  conv => whnf
  by_cases h0 : N = 0
  · subst h0
    conv => whnf
    repeat (first | (refine Go.Vc.br_t ?_ ?_; (focus omega); conv => whnf))
    refine (root_spec (l := []) (Sl.nil _ _ _) (by decide) (fun x hx => by cases hx)).mono ?_
    rintro _ g2 t2 hd2 ht2 ⟨rfl, hs2⟩
    conv => whnf
    repeat (first | ((with_reducible refine And.intro ?_ (And.intro ?_ ?_)); (focus exact rfl); (focus omega); conv => whnf))
    first
    | exact ⟨rfl, hs2, by omega⟩
    | exact (show t1 ≤ t2 by omega)
  · conv => whnf
    repeat (first | (intro _ _; conv => whnf) | (refine Go.Vc.br_f ?_ ?_; (focus omega); conv => whnf))
    rename_i r hr
    have hT : TObj (hset g r (.cells #[rdV bx, .int .i64 (N : Nat), .int .i64 0] 98 (0, 0))) r bx N := hset_same _ _ _
    have hsr := hd1.sub_new hr (.cells #[rdV bx, .int .i64 (N : Nat), .int .i64 0] 98)
    refine (troot_spec (a := 0) (b := N) hT (hm.sub hsr) hH hx hN hN2 (by omega) (Nat.le_refl _) (Al.zero _)).mono ?_
    rintro _ g2 t2 hd2 ht2 ⟨rfl, hs2, _⟩
    have hT2 := hT.sub hs2
    unfold TObj at hT2
    have hS := hsr.trans hs2
    have e : seg L 0 N = L.take N := by unfold seg; rw [List.drop_zero, Nat.sub_zero]
    rw [e]
    refine Go.Vc.draw_intro [⟨0, false, false, false, 0⟩, ⟨1, false, false, false, 0⟩, ⟨2, false, false, false, 2⟩, ⟨3, false, false, false, 6⟩, ⟨4, false, false, false, 14⟩, ⟨5, false, false, false, 1⟩, ⟨6, false, false, false, 63⟩] (hs := g2) (hsub := (Sub.refl _)) (hm := by kernel_rfl) (hpl := by kernel_rfl) ?_
    conv => whnf
    conv => whnf
    repeat (first | ((with_reducible apply Go.Vc.ld_i); (focus ((repeat (first | with_reducible assumption | with_reducible exact Go.Vc.hset_same _ _ _ | with_reducible refine (Go.Vc.hset_ne _ _ (by omega)).trans ?_)); done)); (focus exact rfl); conv => whnf) | ((with_reducible refine And.intro ?_ (And.intro ?_ ?_)); (focus exact rfl); (focus omega); conv => whnf))
    first
    | exact ⟨rfl, hS, by omega⟩
    | exact (show t1 ≤ t2 by omega)
theorem tinc_spec {h : Heap} {t bx m i : Nat} {D : List (ByteArray × ByteArray)} {L : List ByteArray} (hm : TMap h bx m D) (hH : Has D L L.length) (hx : ∀ x ∈ L, x.size = 32) (hN2 : L.length ≤ 65000) (hi : i < L.length) :
    CallSpec Tryz.prog 22 #[rdV bx, .int .i64 (L.length : Nat), .int .i64 (i : Nat)] h t (fun v h' t' => ∃ a n c, v = .tuple #[.slice a n c, .int .i64 0] ∧ Vc.Own h' 9 a n c Value.string (inc ndB emB L i) ∧ (∀ b, owner a = some b → t ≤ b) ∧ Vc.Sub h h' ∧ t ≤ t') := by
  obtain ⟨N, hNN⟩ : ∃ N, N = L.length := ⟨_, rfl⟩
  unfold rdV
  rw [← hNN] at hH hN2 hi ⊢
  refine Go.Vc.spec_of_vc (fn := Tryz.f22) Tryz.func22 rfl (by kernel_rfl) (by kernel_rfl) (Nat.le_of_ble_eq_true rfl) ?_
  intro hd
  conv => whnf
  refine (may_spec (N : Nat)).mono ?_
  rintro _ g t1 hd1 _ ⟨rfl, rfl, rfl⟩
  rw [decide_eq_true (by omega)]
  conv => whnf
  repeat (first | (refine Go.Vc.br_f ?_ ?_; (focus omega); conv => whnf))
  refine loop_intro5 (fun (l : List St) (a : Option Addr) (c fr to : Nat) => [(0, rdV bx), (1, .int .i64 (N : Nat)), (2, .int .i64 (i : Nat)), (8, .slice a l.length c), (9, .int .i64 (fr : Nat)), (10, .int .i64 (to : Nat))])
    (fun l a c fr to h' t' => t1 ≤ t' ∧ II L i l fr to ∧ Vc.Own h' 106 a (l.length * 2) (c * 2) id (l.flatMap st2) ∧ (∀ b, owner a = some b → t1 ≤ b) ∧ Vc.Sub g h') (fun _ _ _ fr to => to - fr) [] none 0 0 N ⟨rfl, rfl, rfl, rfl, rfl, rfl, trivial⟩
    ⟨by omega, by rw [hNN]; exact II.start (by omega), Vc.Own.nil _ _ _, (fun b hb => by cases hb), Vc.Sub.refl _⟩ ?_
  rintro l a c fr to e1 g1 t2 hd2 ⟨ht2, hI, ho, hw, hs⟩
  obtain ⟨q1, q2, q3, q4, q5, q6, q7⟩ := id hI
  rw [← hNN] at q3 q4 q6
  conv => whnf
  repeat (first | ((with_reducible apply Go.Vc.wr_i64); (focus exact And.intro (by omega) (by omega)); conv => whnf))
  refine br (fun hb => ?_) (fun hb => ?_)
  · have hab : fr + 2 ≤ to := by omega
    conv => whnf
    refine (half_spec fr to hab (by omega)).mono ?_
    rintro _ _ _ _ _ ⟨rfl, rfl, rfl⟩
    have s1 := sp_lt (n := to - fr) (by omega)
    have s2 := sp_pos (to - fr)
    obtain ⟨K, hK⟩ : ∃ K, K = fr + sp (to - fr) := ⟨_, rfl⟩
    rw [← hK]
    conv => whnf
    refine br (fun hb2 => ?_) (fun hb2 => ?_)
    · have hn := hI.lo hab (by omega)
      rw [← hK] at hn
      conv => whnf
      repeat (first | (intro _ _; conv => whnf))
      rename_i r hr
      refine app_st1 hd1 ht2 hs hw hd2 hr ho (by omega) ?_
      intro a7 c7 h7 t7 ho7 ht7 hd7 hs7 hw7
      conv => whnf
      refine round_end5 (l ++ [(K, to)]) a7 c7 fr K (by omega) ⟨rfl, rfl, rfl, ?_, rfl, rfl, trivial⟩ ⟨by omega, hn, by rw [List.length_append]; exact ho7, hw7, hs7⟩
      rw [List.length_append]
      rfl
    · have hn := hI.hi hab (by omega)
      rw [← hK] at hn
      conv => whnf
      repeat (first | (intro _ _; conv => whnf))
      rename_i r hr
      refine app_st1 hd1 ht2 hs hw hd2 hr ho (by omega) ?_
      intro a7 c7 h7 t7 ho7 ht7 hd7 hs7 hw7
      conv => whnf
      refine round_end5 (l ++ [(fr, K)]) a7 c7 K to (by omega) ⟨rfl, rfl, rfl, ?_, rfl, rfl, trivial⟩ ⟨by omega, hn, by rw [List.length_append]; exact ho7, hw7, hs7⟩
      rw [List.length_append]
      rfl
  · have hfin := hI.fin (by omega)
    conv => whnf
    repeat (first | (intro _ _; conv => whnf))
    rename_i r hr
    have hT : TObj (hset g1 r (.cells #[rdV bx, .int .i64 (N : Nat), .int .i64 0] 98 (0, 0))) r bx N := hset_same _ _ _
    have hsr := hd2.sub_new hr (.cells #[rdV bx, .int .i64 (N : Nat), .int .i64 0] 98)
    refine (proof_spec (l := l) (ns := l.length) hT (hm.sub (hs.trans hsr)) hH hx (by omega) hN2 ((ho.fr (fun b o _ hb => hsr b o hb)).sl) rfl (by omega) q6).mono ?_
    rintro _ g2 t3 hd3 ht3 ⟨a3, c3, rfl, ho3, hw3, hs3, _⟩
    rw [hfin] at ho3
    conv => whnf
    exact ⟨a3, _, c3, rfl, ho3, (fun b hb => by have := hw3 b hb; omega), hs.trans (hsr.trans hs3), by omega⟩
theorem tcon_spec {h : Heap} {t bx m i : Nat} {D : List (ByteArray × ByteArray)} {L : List ByteArray} (hm : TMap h bx m D) (hH : Has D L L.length) (hx : ∀ x ∈ L, x.size = 32) (hN2 : L.length ≤ 65000) (hi1 : 1 ≤ i) (hi : i ≤ L.length) :
    CallSpec Tryz.prog 23 #[rdV bx, .int .i64 (i : Nat), .int .i64 (L.length : Nat)] h t (fun v h' t' => ∃ a n c, v = .tuple #[.slice a n c, .int .i64 0] ∧ Vc.Own h' 9 a n c Value.string (con ndB emB L i true) ∧ (∀ b, owner a = some b → t ≤ b) ∧ Vc.Sub h h' ∧ t ≤ t') := by
  obtain ⟨N, hNN⟩ : ∃ N, N = L.length := ⟨_, rfl⟩
  unfold rdV
  rw [← hNN] at hH hN2 hi ⊢
  refine Go.Vc.spec_of_vc (fn := Tryz.f23) Tryz.func23 rfl (by kernel_rfl) (by kernel_rfl) (Nat.le_of_ble_eq_true rfl) ?_
  intro hd
  conv => whnf
  refine (may_spec (N : Nat)).mono ?_
  rintro _ g t1 hd1 _ ⟨rfl, rfl, rfl⟩
  rw [decide_eq_true (by omega)]
  conv => whnf
  repeat (first | (refine Go.Vc.br_f ?_ ?_; (focus omega); conv => whnf))
  refine loop_intro5 (fun (l : List St) (a : Option Addr) (c fr to : Nat) => [(0, rdV bx), (1, .int .i64 (i : Nat)), (2, .int .i64 (N : Nat)), (8, .slice a l.length c), (9, .int .i64 (fr : Nat)), (10, .int .i64 (to : Nat))])
    (fun l a c fr to h' t' => t1 ≤ t' ∧ CI L i l fr to ∧ Vc.Own h' 106 a (l.length * 2) (c * 2) id (l.flatMap st2) ∧ (∀ b, owner a = some b → t1 ≤ b) ∧ Vc.Sub g h') (fun _ _ _ fr to => to - fr) [] none 0 0 N ⟨rfl, rfl, rfl, rfl, rfl, rfl, trivial⟩
    ⟨by omega, by rw [hNN]; exact CI.start (by omega) (by omega), Vc.Own.nil _ _ _, (fun b hb => by cases hb), Vc.Sub.refl _⟩ ?_
  rintro l a c fr to e1 g1 t2 hd2 ⟨ht2, hI, ho, hw, hs⟩
  obtain ⟨q1, q2, q3, q4, q5, q6, q7⟩ := id hI
  rw [← hNN] at q3 q4 q6
  conv => whnf
  refine br (fun hb => ?_) (fun hb => ?_)
  · have hab : fr + 2 ≤ to := by omega
    conv => whnf
    refine (half_spec fr to hab (by omega)).mono ?_
    rintro _ _ _ _ _ ⟨rfl, rfl, rfl⟩
    have s1 := sp_lt (n := to - fr) (by omega)
    have s2 := sp_pos (to - fr)
    obtain ⟨K, hK⟩ : ∃ K, K = fr + sp (to - fr) := ⟨_, rfl⟩
    rw [← hK]
    conv => whnf
    refine br (fun hb2 => ?_) (fun hb2 => ?_)
    · have hn := hI.lo (by omega) (by omega)
      rw [← hK] at hn
      conv => whnf
      repeat (first | (intro _ _; conv => whnf))
      rename_i r hr
      refine app_st1 hd1 ht2 hs hw hd2 hr ho (by omega) ?_
      intro a7 c7 h7 t7 ho7 ht7 hd7 hs7 hw7
      conv => whnf
      refine round_end5 (l ++ [(K, to)]) a7 c7 fr K (by omega) ⟨rfl, rfl, rfl, ?_, rfl, rfl, trivial⟩ ⟨by omega, hn, by rw [List.length_append]; exact ho7, hw7, hs7⟩
      rw [List.length_append]
      rfl
    · have hn := hI.hi (by omega) (by omega)
      rw [← hK] at hn
      conv => whnf
      repeat (first | (intro _ _; conv => whnf))
      rename_i r hr
      refine app_st1 hd1 ht2 hs hw hd2 hr ho (by omega) ?_
      intro a7 c7 h7 t7 ho7 ht7 hd7 hs7 hw7
      conv => whnf
      refine round_end5 (l ++ [(fr, K)]) a7 c7 K to (by omega) ⟨rfl, rfl, rfl, ?_, rfl, rfl, trivial⟩ ⟨by omega, hn, by rw [List.length_append]; exact ho7, hw7, hs7⟩
      rw [List.length_append]
      rfl
  · have hfin := hI.fin (by omega)
    have hokk := hI.ok
    rw [← hNN] at hokk
    conv => whnf
    refine br (fun hb3 => ?_) (fun hb3 => ?_)
    · rw [if_pos (by omega)] at hfin hokk
      conv => whnf
      repeat (first | (intro _ _; conv => whnf))
      rename_i r6 hr6
      refine app_st1 hd1 ht2 hs hw hd2 hr6 ho (by omega) ?_
      intro a7 c7 g5 t7 ho5 ht7 hd5 hs5 hw7
      obtain ⟨lf, hlf⟩ : ∃ lf, lf = l ++ [(fr, to)] := ⟨_, rfl⟩
      have hlfl : lf.length = l.length + 1 := by rw [hlf]; simp
      rw [← hlf] at hfin hokk ho5
      rw [← hlfl] at ho5 ⊢
      conv => whnf
      repeat (first | (intro _ _; conv => whnf))
      rename_i r hr
      have hT : TObj (hset g5 r (.cells #[rdV bx, .int .i64 (N : Nat), .int .i64 0] 98 (0, 0))) r bx N := hset_same _ _ _
      have hsr := hd5.sub_new hr (.cells #[rdV bx, .int .i64 (N : Nat), .int .i64 0] 98)
      refine (proof_spec (l := lf) (ns := lf.length) hT (hm.sub (hs5.trans hsr)) hH hx (by omega) hN2 ((ho5.fr (fun b o _ hb => hsr b o hb)).sl) rfl (by omega) hokk).mono ?_
      rintro _ g2 t3 hd3 ht3 ⟨a3, c3, rfl, ho3, hw3, hs3, _⟩
      rw [hfin] at ho3
      conv => whnf
      exact ⟨a3, _, c3, rfl, ho3, (fun b hb => by have := hw3 b hb; omega), hs5.trans (hsr.trans hs3), by omega⟩
    · rw [if_neg (by omega)] at hfin hokk
      obtain ⟨lf, hlf⟩ : ∃ lf, lf = l := ⟨_, rfl⟩
      obtain ⟨g5, hg5⟩ : ∃ g5, g5 = g1 := ⟨_, rfl⟩
      subst hlf hg5
      have ho5 := ho
      have hs5 := hs
      have hd5 := hd2
      conv => whnf
      repeat (first | (intro _ _; conv => whnf))
      rename_i r hr
      have hT : TObj (hset g5 r (.cells #[rdV bx, .int .i64 (N : Nat), .int .i64 0] 98 (0, 0))) r bx N := hset_same _ _ _
      have hsr := hd5.sub_new hr (.cells #[rdV bx, .int .i64 (N : Nat), .int .i64 0] 98)
      refine (proof_spec (l := lf) (ns := lf.length) hT (hm.sub (hs5.trans hsr)) hH hx (by omega) hN2 ((ho5.fr (fun b o _ hb => hsr b o hb)).sl) rfl (by omega) hokk).mono ?_
      rintro _ g2 t3 hd3 ht3 ⟨a3, c3, rfl, ho3, hw3, hs3, _⟩
      rw [hfin] at ho3
      conv => whnf
      exact ⟨a3, _, c3, rfl, ho3, (fun b hb => by have := hw3 b hb; omega), hs5.trans (hsr.trans hs3), by omega⟩
end Go.Proofs.YtlkpgjicpjjlcaaGreatDoor
