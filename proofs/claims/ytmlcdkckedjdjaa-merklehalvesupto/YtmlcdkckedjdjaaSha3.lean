/- The primes, the numbers at first, and New. -/
import Derived.Test.YtmlcdkckedjdjaaSha2
namespace Go.Proofs.Ytmlcdkckedjdjaa
open Go Go.Vc Go.Sha
set_option maxRecDepth 10000
set_option linter.unusedVariables false

def un (n : Nat) : Value := .int .u64 (n : Int)
def pto (i : Nat) : List Nat := (List.range 64).map fun j => if j < i then PS.getD j 0 else 0
def pv : Nat → Nat
  | 0 => 1
  | i + 1 => PS.getD i 0
@[simp] theorem pto_length (i : Nat) : (pto i).length = 64 := by simp [pto]
theorem pto_set {i : Nat} (hi : i < 64) : (pto i).set i (PS.getD i 0) = pto (i + 1) := by
  unfold pto
  apply List.ext_getElem
  · simp
  · intro j h1 h2
    simp at h1
    rw [List.getElem_set]
    simp only [List.getElem_map, List.getElem_range]
    split
    · rename_i e; subst e; rw [if_pos (by omega)]
    · rename_i e
      by_cases hj : j < i
      · rw [if_pos hj, if_pos (by omega)]
      · rw [if_neg hj, if_neg (by omega)]
theorem pto_get {i j x : Nat} (hj : j < i) (h : (pto i)[j]? = some x) : x = PS.getD j 0 := by
  unfold pto at h
  rw [List.getElem?_map] at h
  by_cases h64 : j < 64
  · rw [List.getElem?_range h64] at h
    simp only [Option.map_some, Option.some.injEq] at h
    rw [if_pos hj] at h; exact h.symm
  · rw [List.getElem?_eq_none (by simp; omega)] at h; cases h
theorem pto_all : pto 64 = PS := by kernel_rfl
def chkA : Bool := (List.range 64).all fun i => (List.range i).all fun j => PS.getD i 0 % PS.getD j 0 != 0
def chkB : Bool := (List.range 64).all fun i => (List.range (PS.getD i 0)).all fun m => Nat.ble m (pv i) || (List.range i).any fun j => m % PS.getD j 0 == 0
def chkC : Bool := (List.range 64).all fun i => Nat.blt (pv i) (PS.getD i 0) && Nat.ble (PS.getD i 0) 311 && Nat.ble 2 (PS.getD i 0)
theorem chkA_t : chkA = true := by kernel_rfl
theorem chkB_t : chkB = true := by kernel_rfl
theorem chkC_t : chkC = true := by kernel_rfl
theorem prime_no {i j : Nat} (hi : i < 64) (hj : j < i) : PS.getD i 0 % PS.getD j 0 ≠ 0 := by
  have h := chkA_t
  unfold chkA at h
  have := List.all_eq_true.1 (List.all_eq_true.1 h i (List.mem_range.2 hi)) j (List.mem_range.2 hj)
  simpa using this
theorem prime_yes {i m : Nat} (hi : i < 64) (h1 : pv i < m) (h2 : m < PS.getD i 0) : ∃ j, j < i ∧ m % PS.getD j 0 = 0 := by
  have h := chkB_t
  unfold chkB at h
  have := List.all_eq_true.1 (List.all_eq_true.1 h i (List.mem_range.2 hi)) m (List.mem_range.2 h2)
  rw [Bool.or_eq_true] at this
  rcases this with h3 | h3
  · have := Nat.le_of_ble_eq_true h3; omega
  · obtain ⟨j, hj, he⟩ := List.any_eq_true.1 h3
    exact ⟨j, List.mem_range.1 hj, by simpa using he⟩
theorem prime_range {i : Nat} (hi : i < 64) : pv i < PS.getD i 0 ∧ PS.getD i 0 ≤ 311 ∧ 2 ≤ PS.getD i 0 := by
  have h := List.all_eq_true.1 chkC_t i (List.mem_range.2 hi)
  simp only [Bool.and_eq_true] at h
  exact ⟨Nat.blt_eq ▸ h.1.1, Nat.le_of_ble_eq_true h.1.2, Nat.le_of_ble_eq_true h.2⟩

theorem primes_spec (h : Heap) (t : Nat) : CallSpec Try.prog 51 #[] h t (fun v h' t' => v = .agg (PS.map un).toArray ∧ Sub h h') := by
  refine Go.Vc.spec_of_vc (fn := Try.f51) Try.func51 rfl (by kernel_rfl) (by kernel_rfl) (Nat.le_of_ble_eq_true rfl) ?_
  intro hd
  conv => whnf
  repeat (first | (intro _ _; conv => whnf))
  rename_i r hr
  refine loop_intro (fun (i : Nat) => [(0, .pointer (some ⟨r, 0, none⟩)), (1, .int .u64 (pv i : Nat)), (5, .int .i64 (i : Nat))])
    (fun i h' t' => r < t' ∧ i ≤ 64 ∧ Sub h h' ∧ h' r = some (.cells ((pto i).map un).toArray 75 (0, 0))) (fun i => 64 - i) 0 ⟨rfl, rfl, rfl, trivial⟩ ⟨by omega, by omega, hd.sub_new hr _, by rw [hset_same]; rfl⟩ ?_
  rintro i g h1 t1 hd1 ⟨ht1, hi, hs1, hh1⟩
  conv => whnf
  refine br (fun hb1 => ?_) (fun hb1 => ?_)
  · have hlt : i < 64 := by omega
    have hpr := prime_range hlt
    conv => whnf
    refine loop_intro (fun (m : Nat) => [(0, .pointer (some ⟨r, 0, none⟩)), (1, .int .u64 (m : Nat)), (2, .int .i64 (i : Nat)), (5, .int .i64 (i : Nat))])
      (fun m h' t' => h1 = h' ∧ t1 = t' ∧ pv i ≤ m ∧ m < PS.getD i 0) (fun m => 312 - m) (pv i) ⟨rfl, rfl, rfl, rfl, trivial⟩ ⟨rfl, rfl, by omega, hpr.1⟩ ?_
    rintro m g2 _ _ _ ⟨rfl, rfl, hm1, hm2⟩
    conv => whnf
    repeat (first | ((with_reducible refine And.intro (And.intro ?_ ?_) ?_); (focus omega); (focus omega); conv => whnf) | ((with_reducible apply Go.Vc.wr_u64); (focus exact And.intro (by omega) (by omega)); conv => whnf))
    refine loop_intro (fun (j : Nat) => [(0, .pointer (some ⟨r, 0, none⟩)), (1, .int .u64 (m + 1 : Nat)), (2, .int .i64 (i : Nat)), (5, .int .i64 (i : Nat)), (11, .slice (some ⟨r, 0, none⟩) i 64), (12, .int .i64 (i : Nat)), (13, .int .i64 (j : Nat))])
      (fun j h' t' => h1 = h' ∧ t1 = t' ∧ j ≤ i ∧ ∀ k, k < j → (m + 1) % PS.getD k 0 ≠ 0) (fun j => i - j) 0 ⟨rfl, rfl, rfl, rfl, rfl, rfl, rfl, trivial⟩ ⟨rfl, rfl, by omega, fun k hk => by omega⟩ ?_
    rintro j g3 _ _ _ ⟨rfl, rfl, hj, hno⟩
    conv => whnf
    refine br (fun hb2 => ?_) (fun hb2 => ?_)
    · have hjl : j < i := by omega
      have hprj := prime_range (show j < 64 by omega)
      have hz : ((m + 1 : Nat) : Int) % ((PS.getD j 0 : Nat) : Int) = (((m + 1) % PS.getD j 0 : Nat) : Int) := (Int.natCast_emod _ _).symm
      conv => whnf
      repeat (first | ((with_reducible apply Go.Vc.own_ix); (focus exact And.intro (by omega) (by omega)); conv => whnf) | ((with_reducible apply Go.Vc.ar_ld); (focus ((repeat (first | with_reducible assumption | with_reducible exact Go.Vc.hset_same _ _ _ | with_reducible refine (Go.Vc.hset_ne _ _ (by omega)).trans ?_)); done)); (focus exact rfl); (focus (first | omega | (simp; done) | (simp; omega))); intro xA hxA; conv => whnf))
      obtain rfl : xA = PS.getD j 0 := pto_get (j := j) hjl hxA
      conv => whnf
      repeat (first | ((with_reducible apply Go.Vc.rem_i); (focus omega); conv => whnf) | ((with_reducible refine And.intro ?_ (And.intro ?_ ?_)); (focus exact rfl); (focus omega); conv => whnf))
      rw [hz]
      refine br (fun hb3 => ?_) (fun hb3 => ?_)
      · have hne : m + 1 ≠ PS.getD i 0 := by
          intro e
          have := prime_no hlt hjl
          rw [← e] at this
          omega
        conv => whnf
        exact round_end (m + 1) (by omega) ⟨rfl, rfl, rfl, rfl, trivial⟩ ⟨rfl, rfl, by omega, by omega⟩
      · conv => whnf
        repeat (first | ((with_reducible apply Go.Vc.wr_i64); (focus exact And.intro (by omega) (by omega)); conv => whnf))
        refine round_end (j + 1) (by omega) ⟨rfl, rfl, rfl, rfl, rfl, rfl, rfl, trivial⟩ ⟨rfl, rfl, by omega, ?_⟩
        intro k hk
        by_cases e : k = j
        · subst e; intro h0; exact hb3 (by omega)
        · exact hno k (by omega)
    · have hji : j = i := by omega
      subst hji
      have hmp : m + 1 = PS.getD j 0 := by
        apply Classical.byContradiction
        intro hne
        obtain ⟨k, hk, h0⟩ := prime_yes hlt (m := m + 1) (by omega) (by omega)
        exact hno k hk h0
      conv => whnf
      repeat (first | ((with_reducible refine And.intro (And.intro ?_ ?_) ?_); (focus omega); (focus omega); conv => whnf) | ((with_reducible apply Go.Vc.ar_st); (focus ((repeat (first | with_reducible assumption | with_reducible exact Go.Vc.hset_same _ _ _ | with_reducible refine (Go.Vc.hset_ne _ _ (by omega)).trans ?_)); done)); (focus exact rfl); (focus exact rfl); (focus (first | omega | (simp; done) | (simp; omega))); (focus exact rfl); intro heqA; (conv => whnf); intro cA hcA; rw [heqA] at hcA; clear heqA; subst hcA; conv => whnf) | ((with_reducible apply Go.Vc.wr_i64); (focus exact And.intro (by omega) (by omega)); conv => whnf))
      rw [show (pto j).set ((j : Int)).toNat (m + 1) = pto (j + 1) from by rw [hmp]; exact pto_set hlt]
      refine round_end (j + 1) (by omega) ⟨rfl, ?_, rfl, trivial⟩ ⟨by omega, by omega, ?_, hset_same _ _ _⟩
      · show Value.int _ ((m + 1 : Nat) : Int) = Value.int _ ((pv (j + 1) : Nat) : Int)
        rw [hmp]; rfl
      · intro kS oS hoS
        have hkS := hd kS oS hoS
        repeat rw [Go.Vc.hset_ne _ _ (by omega)]
        exact hs1 kS oS hoS
  · have h64 : i = 64 := by omega
    subst h64
    rw [pto_all] at hh1
    conv => whnf
    refine Go.Vc.ldrow hh1 rfl ?_
    rintro l hl
    have hl : l = PS.map un := by rw [hl]; rfl
    subst hl
    rw [Go.Vc.forceL_eq]
    conv => whnf
    refine Go.Vc.strow hh1 rfl (by kernel_rfl) rfl ?_
    rintro c hc
    have hc : c = (PS.map un).toArray := by rw [hc]; kernel_rfl
    subst hc
    conv => whnf
    refine Go.Vc.ldrow (hset_same _ _ _) rfl ?_
    rintro l hl
    have hl : l = PS.map un := by rw [hl]; rfl
    subst hl
    rw [Go.Vc.forceL_eq]
    conv => whnf
    refine ⟨rfl, ?_⟩
    intro kS oS hoS
    have hkS := hd kS oS hoS
    repeat rw [Go.Vc.hset_ne _ _ (by omega)]
    exact hs1 kS oS hoS

def hto (i : Nat) : List U := (List.range 8).map fun j => if j < i then H0.list.getD j 0 else 0
@[simp] theorem hto_length (i : Nat) : (hto i).length = 8 := by simp [hto]
theorem hto_set {i : Nat} (hi : i < 8) : (hto i).set i (H0.list.getD i 0) = hto (i + 1) := by
  unfold hto
  apply List.ext_getElem
  · simp
  · intro j h1 h2
    simp at h1
    rw [List.getElem_set]
    simp only [List.getElem_map, List.getElem_range]
    split
    · rename_i e; subst e; rw [if_pos (by omega)]
    · rename_i e
      by_cases hj : j < i
      · rw [if_pos hj, if_pos (by omega)]
      · rw [if_neg hj, if_neg (by omega)]
theorem hto_all {i : Nat} (h : 8 ≤ i) : hto i = H0.list := by
  have : hto i = hto 8 := by
    unfold hto
    refine List.map_congr_left (fun j hj => ?_)
    have := List.mem_range.1 hj
    rw [if_pos (by omega), if_pos (by omega)]
  rw [this]; rfl
theorem sq_at {i : Nat} (hi : i < 8) : BitVec.ofNat 32 (sqGo (BitVec.ofNat 64 (PS.getD i 0)) 38 0).toNat = H0.list.getD i 0 := by
  rw [← sq_tab]
  have h8 : i < (PS.take 8).length := by show i < 8; exact hi
  have h64 : i < PS.length := by show i < 64; omega
  simp [List.getD_eq_getElem?_getD, h64, hi]
theorem cu_at {i : Nat} (hi : i < 64) : BitVec.ofNat 32 (cuGo (BitVec.ofNat 64 (PS.getD i 0)) 37 0).toNat = KT.getD i 0 := by
  rw [← cu_tab]
  have h64 : i < PS.length := by show i < 64; omega
  simp [List.getD_eq_getElem?_getD, h64]
theorem ps_int {i : Nat} (hi : i < 64) : ((PS.getD i 0 : Nat) : Int) = (((BitVec.ofNat 64 (PS.getD i 0)).toNat : Nat) : Int) := by
  have := prime_range hi
  rw [BitVec.toNat_ofNat, Nat.mod_eq_of_lt (by omega)]
theorem ps_at {j x : Nat} (hj : j < 64) (h : PS[j]? = some x) : x = PS.getD j 0 := by simp [List.getD_eq_getElem?_getD, h]

theorem first_spec (h : Heap) (t : Nat) : CallSpec Try.prog 50 #[] h t (fun v h' t' => v = .agg (H0.list.map u32v).toArray ∧ Sub h h') := by
  refine Go.Vc.spec_of_vc (fn := Try.f50) Try.func50 rfl (by kernel_rfl) (by kernel_rfl) (Nat.le_of_ble_eq_true rfl) ?_
  intro hd
  conv => whnf
  repeat (first | (intro _ _; conv => whnf))
  rename_i r hr
  refine (primes_spec _ _).mono ?_
  rintro _ h1 t1 hd1 ht1 ⟨rfl, hs1⟩
  have hh1 := hs1 _ _ (hset_same h r _)
  have hs0 := (hd.sub_new hr _).trans hs1
  conv => whnf
  refine loop_intro (fun (i : Nat) => [(0, .pointer (some ⟨r, 0, none⟩)), (3, .agg (PS.map un).toArray), (4, .int .i64 (i : Nat))])
    (fun i h' t' => r < t' ∧ i ≤ 64 ∧ Sub h h' ∧ h' r = some (.cells ((hto i).map u32v).toArray 69 (0, 0))) (fun i => 64 - i) 0 ⟨rfl, rfl, rfl, trivial⟩ ⟨by omega, by omega, hs0, by rw [hh1]; rfl⟩ ?_
  rintro i g h2 t2 hd2 ⟨ht2, hi, hs2, hh2⟩
  conv => whnf
  refine br (fun hb1 => ?_) (fun hb1 => ?_)
  · have hlt : i < 64 := by omega
    have hpl : PS.length = 64 := rfl
    conv => whnf
    repeat (first | ((with_reducible refine And.intro (And.intro ?_ ?_) ?_); (focus omega); (focus omega); conv => whnf) | ((with_reducible apply Go.Vc.agg_ld); (focus exact rfl); (focus (first | omega | (simp; done) | (simp; omega))); intro xA hxA; conv => whnf))
    obtain rfl : xA = PS.getD i 0 := ps_at hlt hxA
    refine br (fun hb2 => ?_) (fun hb2 => ?_)
    · have hi8 : i < 8 := by omega
      conv => whnf
      refine CallSpec.args_eq (by rw [← ps_int hlt]) (a := #[.int .u64 (((BitVec.ofNat 64 (PS.getD i 0)).toNat : Nat) : Int)]) ?_
      refine (square_spec _ _ _).mono ?_
      rintro _ _ _ _ _ ⟨rfl, rfl, rfl⟩
      have hsq := sq_at hi8
      generalize sqGo (BitVec.ofNat 64 (PS.getD i 0)) 38 0 = q at *
      conv => whnf
      repeat (first | ((with_reducible apply Go.Vc.c64_32); conv => whnf) | ((with_reducible refine And.intro (And.intro ?_ ?_) ?_); (focus omega); (focus omega); conv => whnf) | ((with_reducible apply Go.Vc.ar_st); (focus ((repeat (first | with_reducible assumption | with_reducible exact Go.Vc.hset_same _ _ _ | with_reducible refine (Go.Vc.hset_ne _ _ (by omega)).trans ?_)); done)); (focus exact rfl); (focus exact rfl); (focus (first | omega | (simp; done) | (simp; omega))); (focus exact rfl); intro heqA; (conv => whnf); intro cA hcA; rw [heqA] at hcA; clear heqA; subst hcA; conv => whnf) | ((with_reducible apply Go.Vc.wr_i64); (focus exact And.intro (by omega) (by omega)); conv => whnf))
      rw [hsq, show (hto i).set ((i : Int)).toNat (H0.list.getD i 0) = hto (i + 1) from hto_set hi8]
      refine round_end (i + 1) (by omega) ⟨rfl, rfl, rfl, trivial⟩ ⟨by omega, by omega, ?_, hset_same _ _ _⟩
      intro kS oS hoS
      have hkS := hd kS oS hoS
      repeat rw [Go.Vc.hset_ne _ _ (by omega)]
      exact hs2 kS oS hoS
    · conv => whnf
      repeat (first | ((with_reducible apply Go.Vc.wr_i64); (focus exact And.intro (by omega) (by omega)); conv => whnf))
      refine round_end (i + 1) (by omega) ⟨rfl, rfl, rfl, trivial⟩ ⟨by omega, by omega, hs2, by rw [hh2, hto_all (by omega), hto_all (by omega)]⟩
  · have h64 : i = 64 := by omega
    subst h64
    rw [hto_all (by omega)] at hh2
    conv => whnf
    refine Go.Vc.ldrow hh2 rfl ?_
    rintro l hl
    have hl : l = H0.list.map u32v := by rw [hl]; rfl
    subst hl
    rw [Go.Vc.forceL_eq]
    conv => whnf
    refine Go.Vc.strow hh2 rfl (by kernel_rfl) rfl ?_
    rintro c hc
    have hc : c = (H0.list.map u32v).toArray := by rw [hc]; rfl
    subst hc
    conv => whnf
    refine Go.Vc.ldrow (hset_same _ _ _) rfl ?_
    rintro l hl
    have hl : l = H0.list.map u32v := by rw [hl]; rfl
    subst hl
    rw [Go.Vc.forceL_eq]
    conv => whnf
    refine ⟨rfl, ?_⟩
    intro kS oS hoS
    have hkS := hd kS oS hoS
    repeat rw [Go.Vc.hset_ne _ _ (by omega)]
    exact hs2 kS oS hoS

/-- The cells of a sum under way. -/
def HC (H K : List U) (rest : Value) (n : Int) : Array Value := (H.map u32v ++ (K.map u32v ++ [rest, .int .i64 n])).toArray
section HC
variable {H K : List U} {rest : Value} {n : Int} {off j : Nat}
theorem HC_size (hH : H.length = 8) (hK : K.length = 64) : (HC H K rest n).size = 74 := by simp [HC, hH, hK]
theorem HC_h (hH : H.length = 8) (ho : off = j) (hj : j < 8) : (HC H K rest n)[off]? = some (u32v (H.getD j 0)) := by
  subst ho
  simp [HC, List.getElem?_append, hH, hj, List.getD_eq_getElem?_getD]
theorem HC_k (hH : H.length = 8) (hK : K.length = 64) (ho : off = 8 + j) (hj : j < 64) : (HC H K rest n)[off]? = some (u32v (K.getD j 0)) := by
  subst ho
  simp [HC, List.getElem?_append, hH, hK, hj, List.getD_eq_getElem?_getD, show ¬ 8 + j < 8 by omega]
theorem HC_r (hH : H.length = 8) (hK : K.length = 64) : (HC H K rest n)[72]? = some rest := by
  simp [HC, List.getElem?_append, hH, hK]
theorem HC_n (hH : H.length = 8) (hK : K.length = 64) : (HC H K rest n)[73]? = some (.int .i64 n) := by
  simp [HC, List.getElem?_append, hH, hK]
theorem HC_set_h (hH : H.length = 8) (ho : off = j) (hj : j < 8) (x : U) : (HC H K rest n).setIfInBounds off (u32v x) = HC (H.set j x) K rest n := by
  subst ho
  simp [HC, List.set_append, hH, hj, List.map_set]
theorem HC_set_k (hH : H.length = 8) (hK : K.length = 64) (ho : off = 8 + j) (hj : j < 64) (x : U) : (HC H K rest n).setIfInBounds off (u32v x) = HC H (K.set j x) rest n := by
  subst ho
  simp [HC, List.set_append, hH, hK, hj, List.map_set, show ¬ 8 + j < 8 by omega]
theorem HC_set_r (hH : H.length = 8) (hK : K.length = 64) (x : Value) : (HC H K rest n).setIfInBounds 72 x = HC H K x n := by
  simp [HC, List.set_append, hH, hK]
theorem HC_set_n (hH : H.length = 8) (hK : K.length = 64) (x : Int) : (HC H K rest n).setIfInBounds 73 (.int .i64 x) = HC H K rest x := by
  simp [HC, List.set_append, hH, hK]
end HC
def kto (i : Nat) : List U := (List.range 64).map fun j => if j < i then KT.getD j 0 else 0
@[simp] theorem kto_length (i : Nat) : (kto i).length = 64 := by simp [kto]
theorem kto_set {i : Nat} (hi : i < 64) : (kto i).set i (KT.getD i 0) = kto (i + 1) := by
  unfold kto
  apply List.ext_getElem
  · simp
  · intro j h1 h2
    simp at h1
    rw [List.getElem_set]
    simp only [List.getElem_map, List.getElem_range]
    split
    · rename_i e; subst e; rw [if_pos (by omega)]
    · rename_i e
      by_cases hj : j < i
      · rw [if_pos hj, if_pos (by omega)]
      · rw [if_neg hj, if_neg (by omega)]
theorem kto_all : kto 64 = KT := by kernel_rfl
theorem H0_length : H0.list.length = 8 := rfl

theorem hash_info : ∃ inf z fields, Try.prog.info? 73 = some inf ∧ inf.zero = some z ∧ Try.prog.underlying 73 = some (.struct fields) ∧ fieldsKnown Try.prog fields.toList = true ∧
    (∀ H : St, fillL (placeF Try.prog fields.toList) (cellsL z) [(0, .agg (H.list.map u32v).toArray)] = some (HC H.list (kto 0) (.slice none 0 0) 0).toList) ∧
    (∀ H : St, fillL (placeF Try.prog fields.toList) (cellsL z) [(0, .agg (H.list.map u32v).toArray), (1, .agg (KT.map u32v).toArray)] = some (HC H.list KT (.slice none 0 0) 0).toList) := by
  refine ⟨_, _, _, rfl, rfl, Try.underlying73, by kernel_rfl, ?_, ?_⟩
  · intro H; kernel_rfl
  · intro H; kernel_rfl
theorem build1 {H : St} {K : Value → Prop} (hk : K (.agg (HC H.list (kto 0) (.slice none 0 0) 0))) : BuildS Try.prog 73 [(0, .agg (H.list.map u32v).toArray)] K := by
  obtain ⟨inf, z, fields, h1, h2, h3, h4, h5, _⟩ := hash_info
  exact build_i h1 h2 h3 h4 (h5 H) (by rw [Array.toArray_toList]; exact hk)
theorem build2 {H : St} {K : Value → Prop} (hk : K (.agg (HC H.list KT (.slice none 0 0) 0))) : BuildS Try.prog 73 [(0, .agg (H.list.map u32v).toArray), (1, .agg (KT.map u32v).toArray)] K := by
  obtain ⟨inf, z, fields, h1, h2, h3, h4, _, h5⟩ := hash_info
  exact build_i h1 h2 h3 h4 (h5 H) (by rw [Array.toArray_toList]; exact hk)

theorem new_spec (h : Heap) (t : Nat) : CallSpec Try.prog 44 #[] h t (fun v h' t' => ∃ b, v = .pointer (some ⟨b, 0, none⟩) ∧ t ≤ b ∧ b < t' ∧ h' b = some (.cells (HC H0.list KT (.slice none 0 0) 0) 73 (0, 0)) ∧ Sub h h') := by
  refine Go.Vc.spec_of_vc (fn := Try.f44) Try.func44 rfl (by kernel_rfl) (by kernel_rfl) (Nat.le_of_ble_eq_true rfl) ?_
  intro hd
  conv => whnf
  refine (first_spec _ _).mono ?_
  rintro _ h1 t1 hd1 ht1 ⟨rfl, hs1⟩
  conv => whnf
  refine build1 ?_
  conv => whnf
  intro r hr
  conv => whnf
  have hsub := (hs1.trans (hd1.sub_new hr (.cells (HC H0.list (kto 0) (.slice none 0 0) 0) 73)))
  refine (primes_spec _ _).mono ?_
  rintro _ h2 t2 hd2 ht2 ⟨rfl, hs2⟩
  have hh2 := hs2 _ _ (hset_same h1 r _)
  have hsub2 : Sub h h2 := hsub.trans hs2
  conv => whnf
  refine loop_intro (fun (i : Nat) => [(1, .pointer (some ⟨r, 0, none⟩)), (7, .agg (PS.map un).toArray), (8, .int .i64 (i : Nat))])
    (fun i h' t' => r < t' ∧ i ≤ 64 ∧ Sub h h' ∧ h' r = some (.cells (HC H0.list (kto i) (.slice none 0 0) 0) 73 (0, 0))) (fun i => 64 - i) 0 ⟨rfl, rfl, rfl, trivial⟩ ⟨by omega, by omega, hsub2, by rw [hh2]; rfl⟩ ?_
  clear hsub hsub2 hh2
  rintro i g h3 t3 hd3 ⟨ht3, hi, hs3, hh3⟩
  conv => whnf
  refine br (fun hb1 => ?_) (fun hb1 => ?_)
  · have hlt : i < 64 := by omega
    have hpl : PS.length = 64 := rfl
    conv => whnf
    repeat (first | ((with_reducible refine And.intro (And.intro ?_ ?_) ?_); (focus omega); (focus omega); conv => whnf) | ((with_reducible apply Go.Vc.agg_ld); (focus exact rfl); (focus (first | omega | (simp; done) | (simp; omega))); intro xA hxA; conv => whnf))
    obtain rfl : xA = PS.getD i 0 := ps_at hlt hxA
    refine Go.Vc.draw_intro [⟨0, false, true, false, 0⟩, ⟨1, false, true, false, 0⟩, ⟨2, false, false, false, 0⟩, ⟨5, false, true, false, 1⟩, ⟨6, false, true, false, 33⟩, ⟨3, true, false, true, 4⟩, ⟨4, false, false, false, 12⟩, ⟨7, false, false, false, 127⟩, ⟨8, true, false, false, 255⟩] (hs := h3) (hsub := (Sub.refl h3)) (hm := by kernel_rfl) (hpl := by kernel_rfl) ?_
    conv => whnf
    refine CallSpec.args_eq (by rw [← ps_int hlt]) (a := #[.int .u64 (((BitVec.ofNat 64 (PS.getD i 0)).toNat : Nat) : Int)]) ?_
    refine (cube_spec _ _ _).mono ?_
    rintro _ _ _ _ _ ⟨rfl, rfl, rfl⟩
    have hcu := cu_at hlt
    generalize cuGo (BitVec.ofNat 64 (PS.getD i 0)) 37 0 = q at *
    conv => whnf
    repeat (first | ((with_reducible apply Go.Vc.c64_32); conv => whnf) | ((with_reducible refine And.intro (And.intro ?_ ?_) ?_); (focus omega); (focus omega); conv => whnf) | ((with_reducible refine And.intro (Go.Vc.Sub.refl _) ?_); conv => whnf))
    refine Go.Vc.st_s (hh3) rfl (by rw [HC_size H0_length (kto_length i)]; show 0 + (7 + 1) + i * 1 < 74; omega) (HC_set_k H0_length (kto_length i) (by show 0 + (7 + 1) + i * 1 = 8 + i; omega) hlt _) ?_
    intro heS
    conv => whnf
    intro cS hcS
    rw [heS] at hcS
    clear heS
    subst hcS
    conv => whnf
    conv => whnf
    repeat (first | ((with_reducible apply Go.Vc.wr_i64); (focus exact And.intro (by omega) (by omega)); conv => whnf))
    rw [hcu, kto_set hlt]
    refine round_end (i + 1) (by omega) ⟨rfl, rfl, rfl, trivial⟩ ⟨by omega, by omega, ?_, hset_same _ _ _⟩
    intro kS oS hoS
    have hkS := hd kS oS hoS
    repeat rw [Go.Vc.hset_ne _ _ (by omega)]
    exact hs3 kS oS hoS
  · have h64 : i = 64 := by omega
    subst h64
    rw [kto_all] at hh3
    conv => whnf
    exact ⟨r, rfl, by omega, ht3, hh3, hs3⟩
end Go.Proofs.Ytmlcdkckedjdjaa
