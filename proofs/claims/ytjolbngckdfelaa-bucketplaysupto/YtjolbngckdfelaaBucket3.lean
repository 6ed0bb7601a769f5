/- slices.Grow and slices.Concat of numbers, the bucket's Fates. -/
import Derived.Test.YtjolbngckdfelaaBucket2
namespace Go.Proofs.Ytjolbngckdfelaa
open Go Go.Vc
set_option maxRecDepth 10000
set_option linter.unusedVariables false

theorem ult22 : Try.prog.underlying 22 = some (.slice 3) := Try.underlying22

theorem grow_spec {h : Heap} {t : Nat} {k : Int} (h0 : 0 ≤ k) (h1 : k ≤ 2 ^ 30) :
    CallSpec Try.prog 35 #[.slice none 0 0, .int .i64 k] h t
      (fun v h' _ => ∃ a c, v = .slice a 0 c ∧ Own h' 3 a 0 c (Value.int .i64) [] ∧ Sub h h' ∧ ∀ b, owner a = some b → t ≤ b) := by
  refine Go.Vc.spec_of_vc (fn := Try.f35) Try.func35 rfl (by kernel_rfl) (by kernel_rfl) (Nat.le_of_ble_eq_true rfl) ?_
  intro hd
  conv => whnf
  refine bsel_f (by simp; omega) ?_
  conv => whnf
  repeat (first | ((with_reducible apply Go.Vc.wr_i64); (focus exact And.intro (by omega) (by omega)); conv => whnf))
  refine br (fun hb => ?_) (fun hb => ?_)
  · conv => whnf
    repeat (first | ((with_reducible refine And.intro (And.intro ?_ ?_) ?_); (focus omega); (focus omega); conv => whnf))
    rw [show (k - (((0 : Nat) : Int) - ((0 : Nat) : Int))) = k by omega]
    refine app_make (d := (0 : Int)) (f := Value.int .i64) ult22 Try.underlying3 (inf := Try.types[3]) (by kernel_rfl) (by kernel_rfl) (by kernel_rfl) rfl h0 (by
      show k * 8 ≤ 2 ^ 40
      omega) (by omega) hd ?_
    intro a' c' h' t' ho ht' hd' hs' hf'
    conv => whnf
    repeat (first | ((with_reducible refine And.intro (And.intro ?_ ?_) ?_); (focus omega); (focus omega); conv => whnf))
    exact ⟨a', c', rfl, ho.take (m := 0) (by omega), hs', hf'⟩
  · conv => whnf
    exact ⟨none, 0, rfl, Own.nil _ _ _, Sub.refl _, fun b hb => by cases hb⟩

/-- A slice handed on, and what it reads as. -/
structure SV where
  a : Option Addr
  n : Nat
  c : Nat
  l : List Int
def SV.val (q : SV) : Value := .slice q.a q.n q.c

def sizes (qs : List SV) : Nat := (qs.map (·.n)).foldr (· + ·) 0
theorem sizes_take {qs : List SV} {i : Nat} (hi : i < qs.length) : sizes (qs.take (i + 1)) = sizes (qs.take i) + (qs[i]).n := by
  have : ∀ (l : List SV) (q : SV), sizes (l ++ [q]) = sizes l + q.n := by
    intro l q
    induction l with
    | nil => simp [sizes]
    | cons x l ih => simp only [sizes, List.cons_append, List.map_cons, List.foldr_cons] at *; omega
  rw [List.take_succ_eq_append_getElem hi, this]
theorem sizes_le {qs : List SV} {i : Nat} : sizes (qs.take i) ≤ sizes qs := by
  have : ∀ (x y : List SV), sizes x ≤ sizes (x ++ y) := by
    intro x y
    induction x with
    | nil => simp [sizes]
    | cons x l ih => simp only [sizes, List.cons_append, List.map_cons, List.foldr_cons] at *; omega
  have h := this (qs.take i) (qs.drop i)
  rwa [List.take_append_drop] at h

theorem concat_spec {h : Heap} {t : Nat} {a0 : Option Addr} {n0 c0 : Nat} {qs : List SV} (hs : Sl h a0 n0 SV.val qs) (hq : ∀ q ∈ qs, Sl h q.a q.n (Value.int .i64) q.l) (htot : sizes qs ≤ 2 ^ 30) (hn0 : n0 ≤ 2 ^ 30) :
    CallSpec Try.prog 19 #[.slice a0 n0 c0] h t
      (fun v h' _ => ∃ a n c, v = .slice a n c ∧ Own h' 3 a n c (Value.int .i64) (qs.flatMap (·.l)) ∧ Sub h h' ∧ ∀ b, owner a = some b → t ≤ b) := by
  refine Go.Vc.spec_of_vc (fn := Try.f19) Try.func19 rfl (by kernel_rfl) (by kernel_rfl) (Nat.le_of_ble_eq_true rfl) ?_
  intro hd
  conv => whnf
  refine loop_intro (fun i : Nat => [(0, .slice a0 n0 c0), (3, .int .i64 (sizes (qs.take i) : Nat)), (9, .slice a0 n0 c0), (10, .int .i64 (n0 : Nat)), (11, .int .i64 (i : Nat))]) (fun i h' t' => h = h' ∧ t = t' ∧ i ≤ n0) (fun i => n0 - i) 0 ⟨rfl, rfl, rfl, rfl, rfl, trivial⟩ ⟨rfl, rfl, by omega⟩ ?_
  rintro i g _ _ _ ⟨rfl, rfl, hi⟩
  conv => whnf
  refine bsel_intro (fun hb => ?_) (fun hb => ?_)
  · conv => whnf
    have hlt : i < n0 := by simpa using hb
    have hil : i < qs.length := by rw [hs.1]; exact hlt
    refine ⟨⟨by omega, by omega⟩, ?_⟩
    obtain ⟨b, off, ha, hc⟩ := hs.at ⟨none, 0, 0, []⟩ (i := (i : Int)) (by omega) (by omega)
    refine ⟨b, off, ha, ?_⟩
    conv => whnf
    refine ⟨_, hc, ?_⟩
    conv => whnf
    have e1 : qs.getD (i : Int).toNat ⟨none, 0, 0, []⟩ = qs[i] := by simp [List.getD_eq_getElem?_getD, hil]
    have e2 := sizes_take hil
    have e3 := sizes_le (qs := qs) (i := i + 1)
    have e4 : IntKind.i64.wrap (((sizes (qs.take i) : Nat) : Int) + ((qs[i]).n : Nat)) = ((sizes (qs.take (i + 1)) : Nat) : Int) := by rw [wi (by omega) (by omega)]; omega
    rw [e1]
    refine ⟨_, e4.symm, ?_⟩
    conv => whnf
    repeat (first | ((with_reducible apply Go.Vc.wr_i64); (focus exact And.intro (by omega) (by omega)); conv => whnf) | (refine Go.Vc.br_f ?_ ?_; (focus omega); conv => whnf))
    refine round_end (i + 1) (by omega) ⟨rfl, rfl, rfl, rfl, rfl, trivial⟩ ⟨rfl, rfl, by omega⟩
  · conv => whnf
    have hin : i = n0 := by have : ¬ (i : Int) < n0 := by simpa using hb
                            omega
    subst hin
    have htk : qs.take i = qs := List.take_of_length_le (by rw [hs.1]; exact Nat.le_refl _)
    rw [htk]
    refine (grow_spec (by omega) (by omega)).mono ?_
    rintro _ h1 t1 hd1 ht1 ⟨a1, c1, rfl, ho1, hs1, hf1⟩
    conv => whnf
    refine loop_intro (fun s : Nat × Option Addr × Nat => [(6, .slice s.2.1 (sizes (qs.take s.1)) s.2.2), (25, .slice a0 i c0), (26, .int .i64 (i : Nat)), (27, .int .i64 (s.1 : Nat))])
      (fun s h' t' => s.1 ≤ i ∧ t ≤ t' ∧ Own h' 3 s.2.1 (sizes (qs.take s.1)) s.2.2 (Value.int .i64) ((qs.take s.1).flatMap (·.l)) ∧ Sub h h' ∧ ∀ b, owner s.2.1 = some b → t ≤ b) (fun s => i - s.1) (0, a1, c1) ⟨rfl, rfl, rfl, rfl, trivial⟩ ⟨by omega, ht1, ho1, hs1, hf1⟩ ?_
    rintro ⟨j, a2, c2⟩ g2 h2 t2 hd2 ⟨hj, ht2, ho2, hs2, hf2⟩
    simp only at hj ho2 hf2
    conv => whnf
    refine bsel_intro (fun hb2 => ?_) (fun hb2 => ?_)
    · conv => whnf
      have hlt : j < i := by simpa using hb2
      have hjl : j < qs.length := by rw [hs.1]; exact hlt
      refine ⟨⟨by omega, by omega⟩, ?_⟩
      obtain ⟨b, off, ha, hc⟩ := (hs.sub hs2).at ⟨none, 0, 0, []⟩ (i := (j : Int)) (by omega) (by omega)
      refine ⟨b, off, ha, ?_⟩
      conv => whnf
      refine ⟨_, hc, ?_⟩
      conv => whnf
      have e1 : qs.getD (j : Int).toNat ⟨none, 0, 0, []⟩ = qs[j] := by simp [List.getD_eq_getElem?_getD, hjl]
      have e2 := sizes_take hjl
      have e3 := sizes_le (qs := qs) (i := j + 1)
      rw [e1]
      refine app_vc (f := Value.int .i64) (l2 := (qs[j]).l) (m := (qs[j]).n) ult22 ult22 rfl (inf := Try.types[3]) (z := .int .i64 0) (by kernel_rfl) (by kernel_rfl) (by kernel_rfl) rfl ho2 ⟨_, _, rfl, (hq _ (List.getElem_mem hjl)).sub hs2⟩ (fun _ => rfl) (by
        show _ * 8 ≤ _
        omega) (by omega) (by show 8 ≤ 1000; omega) hd2 ?_
      intro a3 c3 h3 t3 ho3 ht3 hd3 hk3 how3
      conv => whnf
      repeat (first | ((with_reducible apply Go.Vc.wr_i64); (focus exact And.intro (by omega) (by omega)); conv => whnf))
      refine round_end (j + 1, a3, c3) (by show i - (j + 1) < i - j; omega) ⟨?_, rfl, rfl, rfl, trivial⟩ ⟨hlt, by omega, ?_, ?_, ?_⟩
      · show Value.slice a3 _ c3 = Value.slice a3 _ c3
        rw [e2]
      · show Own h3 _ a3 (sizes (qs.take (j + 1))) c3 _ _
        rw [e2, List.take_succ_eq_append_getElem hjl, List.flatMap_append]
        simpa using ho3
      · intro k o ho
        have hkt : k < t := hd k o ho
        rw [hk3 k (by omega) (fun e => by have := hf2 k e; omega)]
        exact hs2 k o ho
      · intro b' hb'
        rcases how3 with h5 | ⟨r, h5, h6⟩
        · exact hf2 b' (by rw [← h5]; exact hb')
        · rw [h5] at hb'; cases hb'; omega
    · conv => whnf
      have hjn : j = i := by have : ¬ (j : Int) < i := by simpa using hb2
                             omega
      subst hjn
      rw [htk] at ho2
      refine ⟨a2, _, c2, rfl, ?_, hs2, hf2⟩
      rw [htk]; exact ho2
end Go.Proofs.Ytjolbngckdfelaa
