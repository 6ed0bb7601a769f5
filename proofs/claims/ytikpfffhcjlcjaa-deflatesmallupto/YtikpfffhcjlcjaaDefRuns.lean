/- Lengths, told shortly: what both ways tell. -/
import Derived.Test.YtikpfffhcjlcjaaDefPure
set_option linter.unusedVariables false
set_option linter.unusedSimpArgs false
namespace Go.Dfl

/-- How many of k stand in front. -/
def cnt (k : Int) : List Int → Nat
  | [] => 0
  | x :: r => if x = k then cnt k r + 1 else 0
def zs (n : Nat) : List (Int × Int) :=
  if h : n = 0 then [] else if 11 ≤ n then (18, ((min n 138 : Nat) : Int) - 11) :: zs (n - min n 138) else if 3 ≤ n then [(17, (n : Int) - 3)] else (0, 0) :: zs (n - 1)
termination_by n
def ks (k : Int) (n : Nat) : List (Int × Int) :=
  if h : n = 0 then [] else if 3 ≤ n then (16, ((min n 6 : Nat) : Int) - 3) :: ks k (n - min n 6) else (k, 0) :: ks k (n - 1)
termination_by n
theorem cnt_le (k : Int) (l : List Int) : cnt k l ≤ l.length := by
  induction l with
  | nil => simp [cnt]
  | cons x r ih => rw [cnt]; split <;> simp <;> omega
theorem cnt_self (k : Int) (r : List Int) : cnt k (k :: r) = cnt k r + 1 := by simp [cnt]
def grp (k : Int) (n : Nat) : List (Int × Int) := if k = 0 then zs n else (k, 0) :: ks k (n - 1)
def runsF : List Int → List (Int × Int)
  | [] => []
  | k :: r => grp k (cnt k r + 1) ++ runsF (r.drop (cnt k r))
termination_by l => l.length
decreasing_by simp [List.length_drop]; omega

theorem cnt_get {k : Int} : ∀ {l : List Int} {j : Nat}, j < cnt k l → l[j]? = some k
  | [], j, h => by simp [cnt] at h
  | x :: r, j, h => by
    rw [cnt] at h
    by_cases hx : x = k
    · rw [if_pos hx] at h
      cases j with
      | zero => rw [hx]; rfl
      | succ j => rw [List.getElem?_cons_succ]; exact cnt_get (by omega)
    · rw [if_neg hx] at h; omega
theorem cnt_stop {k x : Int} : ∀ {l : List Int}, l[cnt k l]? = some x → x ≠ k
  | [], h => by simp [cnt] at h
  | y :: r, h => by
    rw [cnt] at h
    by_cases hy : y = k
    · rw [if_pos hy, List.getElem?_cons_succ] at h
      exact cnt_stop h
    · rw [if_neg hy] at h
      simp at h
      rw [← h]; exact hy
theorem cnt_ge {k : Int} : ∀ {l : List Int} {n : Nat}, (∀ j, j < n → l[j]? = some k) → n ≤ cnt k l
  | l, 0, h => Nat.zero_le _
  | [], n + 1, h => by have := h 0 (by omega); simp at this
  | x :: r, n + 1, h => by
    have h0 := h 0 (by omega)
    simp at h0
    subst h0
    rw [cnt_self]
    have := cnt_ge (l := r) (n := n) (k := x) fun j hj => by have := h (j + 1) (by omega); simpa using this
    omega
theorem cnt_eq {k : Int} {l : List Int} {n : Nat} (h : ∀ j, j < n → l[j]? = some k) (hs : l[n]? ≠ some k) : cnt k l = n := by
  have h1 := cnt_ge h
  rcases Nat.lt_or_ge n (cnt k l) with h2 | h2
  · exact absurd (cnt_get h2) hs
  · omega
theorem cnt_drop {k : Int} {l : List Int} {m : Nat} (h : m ≤ cnt k l) : cnt k (l.drop m) = cnt k l - m := by
  apply cnt_eq
  · intro j hj
    rw [List.getElem?_drop]
    exact cnt_get (by omega)
  · rw [List.getElem?_drop, show m + (cnt k l - m) = cnt k l by omega]
    exact fun e => cnt_stop e rfl
/-- What is still to be told, where k was told ahead. -/
def rest (prev : Option Int) (l : List Int) : List (Int × Int) :=
  match l with
  | [] => []
  | k :: r => if k ≠ 0 ∧ prev = some k then ks k (cnt k r + 1) ++ runsF (r.drop (cnt k r)) else runsF l
theorem rest_none (l : List Int) : rest none l = runsF l := by
  cases l with
  | nil => rw [rest, runsF]
  | cons k r => rw [rest, if_neg (by simp)]
/-- A group of zeros: so many of them at once. -/
theorem runs_zero {l : List Int} (h : l[0]? = some 0) : runsF l = zs (cnt 0 l) ++ runsF (l.drop (cnt 0 l)) := by
  cases l with
  | nil => simp at h
  | cons k r =>
    simp at h
    subst h
    rw [runsF, cnt_self, grp, if_pos rfl, List.drop_succ_cons]
theorem zs_big {n : Nat} (h : 11 ≤ n) : zs n = (18, ((min n 138 : Nat) : Int) - 11) :: zs (n - min n 138) := by rw [zs, dif_neg (by omega), if_pos h]
theorem zs_mid {n : Nat} (h : 3 ≤ n) (h2 : n < 11) : zs n = [(17, (n : Int) - 3)] := by rw [zs, dif_neg (by omega), if_neg (by omega), if_pos h]
theorem zs_one {n : Nat} (h : 1 ≤ n) (h2 : n < 3) : zs n = (0, 0) :: zs (n - 1) := by rw [zs, dif_neg (by omega), if_neg (by omega), if_neg (by omega)]
theorem zs_nil : zs 0 = [] := by rw [zs, dif_pos rfl]
theorem ks_big {k : Int} {n : Nat} (h : 3 ≤ n) : ks k n = (16, ((min n 6 : Nat) : Int) - 3) :: ks k (n - min n 6) := by rw [ks, dif_neg (by omega), if_pos h]
theorem ks_one {k : Int} {n : Nat} (h : 1 ≤ n) (h2 : n < 3) : ks k n = (k, 0) :: ks k (n - 1) := by rw [ks, dif_neg (by omega), if_neg (by omega)]
theorem ks_nil (k : Int) : ks k 0 = [] := by rw [ks, dif_pos rfl]
theorem rest_eq {k : Int} {l : List Int} (hk : k ≠ 0) : rest (some k) l = ks k (cnt k l) ++ runsF (l.drop (cnt k l)) := by
  cases l with
  | nil => simp [rest, cnt, ks_nil, runsF]
  | cons x r =>
    by_cases hx : x = k
    · subst hx
      rw [rest, if_pos ⟨hk, rfl⟩, cnt_self, List.drop_succ_cons]
    · rw [rest, if_neg (fun h => hx (Option.some.inj h.2).symm), show cnt k (x :: r) = 0 by simp [cnt, hx], ks_nil]
      rfl
theorem rest_ne {p : Option Int} {k : Int} {l : List Int} (h : l[0]? = some k) (hp : p ≠ some k) : rest p l = runsF l := by
  cases l with
  | nil => simp at h
  | cons x r =>
    simp at h; subst h
    rw [rest, if_neg (fun h => hp h.2)]
theorem rest_zero {p : Option Int} {l : List Int} (h : l[0]? = some 0) : rest p l = runsF l := by
  cases l with
  | nil => simp at h
  | cons x r =>
    simp at h; subst h
    rw [rest, if_neg (fun h => h.1 rfl)]
/-- The reference's steps. -/
theorem step_zbig {p : Option Int} {l : List Int} {n : Nat} (h0 : l[0]? = some 0) (hn : n = min (cnt 0 l) 138) (h : 11 ≤ n) : rest p l = (18, (n : Int) - 11) :: rest (some 0) (l.drop n) := by
  rw [rest_zero h0, runs_zero h0, zs_big (by omega), ← hn, List.cons_append]
  congr 1
  have h1 : cnt 0 (l.drop n) = cnt 0 l - n := cnt_drop (by omega)
  by_cases hz : cnt 0 l - n = 0
  · rw [hz, zs_nil, List.nil_append, show cnt 0 l = n by omega]
    cases hc : l.drop n with
    | nil => rw [rest, runsF]
    | cons x r =>
      have hx : x ≠ 0 := by
        have h2 : l[cnt 0 l]? = some x := by
          have : (l.drop n)[0]? = some x := by rw [hc]; rfl
          rw [List.getElem?_drop] at this
          rw [show cnt 0 l = n + 0 by omega]; exact this
        exact cnt_stop h2
      rw [rest, if_neg (fun h => hx (Option.some.inj h.2).symm)]
  · have h2 : (l.drop n)[0]? = some 0 := by rw [List.getElem?_drop]; exact cnt_get (by omega)
    rw [rest_zero h2, runs_zero h2, h1, List.drop_drop, show n + (cnt 0 l - n) = cnt 0 l by omega]
theorem rest_stop {p : Option Int} {l : List Int} {k : Int} (h : cnt k l = 0) (hp : p = some k) : rest p l = runsF l := by
  cases l with
  | nil => rw [rest, runsF]
  | cons x r =>
    have hx : x ≠ k := by
      intro e
      subst e
      rw [cnt_self] at h
      omega
    rw [rest, if_neg (fun hh => hx (Option.some.inj (hp.symm.trans hh.2)).symm)]
theorem step_zmid {p : Option Int} {l : List Int} (h0 : l[0]? = some 0) (h : 3 ≤ cnt 0 l) (h2 : cnt 0 l < 11) : rest p l = (17, (cnt 0 l : Int) - 3) :: rest (some 0) (l.drop (cnt 0 l)) := by
  rw [rest_zero h0, runs_zero h0, zs_mid h h2, rest_stop (k := 0) (by rw [cnt_drop (Nat.le_refl _)]; omega) rfl]
  rfl
theorem step_zone {p : Option Int} {l : List Int} (h0 : l[0]? = some 0) (h : cnt 0 l < 3) : rest p l = (0, 0) :: rest (some 0) (l.drop 1) := by
  have h1 : 1 ≤ cnt 0 l := cnt_ge fun j hj => by rw [show j = 0 by omega]; exact h0
  rw [rest_zero h0, runs_zero h0, zs_one h1 h, List.cons_append]
  congr 1
  have h3 : cnt 0 (l.drop 1) = cnt 0 l - 1 := cnt_drop h1
  by_cases hz : cnt 0 l - 1 = 0
  · rw [hz, zs_nil, List.nil_append, show cnt 0 l = 1 by omega, rest_stop (k := 0) (by omega) rfl]
  · have h2 : (l.drop 1)[0]? = some 0 := by rw [List.getElem?_drop]; exact cnt_get (by omega)
    rw [rest_zero h2, runs_zero h2, h3, List.drop_drop, show 1 + (cnt 0 l - 1) = cnt 0 l by omega]
theorem step_kbig {k : Int} {l : List Int} {n : Nat} (hk : k ≠ 0) (hn : n = min (cnt k l) 6) (h : 3 ≤ n) : rest (some k) l = (16, (n : Int) - 3) :: rest (some k) (l.drop n) := by
  rw [rest_eq hk, ks_big (by omega), ← hn, rest_eq hk, cnt_drop (by omega), List.drop_drop, show n + (cnt k l - n) = cnt k l by omega]
  rfl
theorem step_kone {k : Int} {l : List Int} (hk : k ≠ 0) (h0 : l[0]? = some k) (h : cnt k l < 3) : rest (some k) l = (k, 0) :: rest (some k) (l.drop 1) := by
  have h1 : 1 ≤ cnt k l := cnt_ge fun j hj => by rw [show j = 0 by omega]; exact h0
  rw [rest_eq hk, ks_one h1 h, rest_eq hk, cnt_drop h1, List.drop_drop, show 1 + (cnt k l - 1) = cnt k l by omega]
  rfl
theorem step_new {p : Option Int} {k : Int} {l : List Int} (hk : k ≠ 0) (h0 : l[0]? = some k) (hp : p ≠ some k) : rest p l = (k, 0) :: rest (some k) (l.drop 1) := by
  rw [rest_ne h0 hp]
  cases l with
  | nil => simp at h0
  | cons x r =>
    simp at h0; subst h0
    rw [runsF, grp, if_neg hk, List.drop_succ_cons, List.drop_zero, rest_eq hk, Nat.add_sub_cancel]
    rfl
end Go.Dfl
