import Derived.Test.YtikpfffhcjlcjaaDef6
set_option linter.unusedSimpArgs false
namespace Go.Proofs.Ytikpfffhcjlcjaa
open Go Go.Vc Go.Dfl
set_option maxRecDepth 20000
set_option linter.unusedVariables false
def exG (flat group i : Nat) : Nat := if flat ≤ i then (i - flat) / group + 1 else 0
def baseG (least flat group : Nat) : Nat → Nat
  | 0 => least
  | n + 1 => baseG least flat group n + 2 ^ exG flat group n
theorem grown_spec {h : Heap} {t n least flat group : Nat} (hn : n ≤ 29) (hl : least ≤ 1000) (hf : flat ≤ 100) (hg : 1 ≤ group ∧ group ≤ 100) (hx : ∀ i, i ≤ n → exG flat group i ≤ 20) :
    CallSpec Try.prog 69 #[.int .i64 (n : Nat), .int .i64 (least : Nat), .int .i64 (flat : Nat), .int .i64 (group : Nat)] h t (fun v h' t' => v = .tuple #[.int .i64 (baseG least flat group n : Nat), .int .i64 (exG flat group n : Nat)] ∧ h = h' ∧ t = t') := by
  have hbase : ∀ i, i ≤ n → baseG least flat group i ≤ 1000 + 2 ^ 20 * i := fun i => by
    induction i with
    | zero => intro _; show least ≤ _; omega
    | succ i ih =>
      intro hi
      have h1 := ih (by omega)
      have h2 : 2 ^ exG flat group i ≤ 2 ^ 20 := Nat.pow_le_pow_right (by decide) (hx i (by omega))
      show baseG least flat group i + 2 ^ exG flat group i ≤ _
      omega
  refine Go.Vc.spec_of_vc (fn := Try.f69) Try.func69 rfl (by kernel_rfl) (by kernel_rfl) (Nat.le_of_ble_eq_true rfl) ?_
  intro hd
  conv => whnf
  repeat (first | ((with_reducible apply Go.Vc.wr_i64); (focus exact And.intro (by omega) (by omega)); conv => whnf))
  refine loop_intro2 (fun (i E : Nat) => [(0, .int .i64 (n : Nat)), (2, .int .i64 (flat : Nat)), (3, .int .i64 (group : Nat)), (8, .int .i64 (baseG least flat group (min i n) : Nat)), (9, .int .i64 (E : Nat)), (13, .int .i64 ((n : Nat) + 1)), (14, .int .i64 (i : Nat))])
    (fun i E h' t' => h = h' ∧ t = t' ∧ i ≤ n + 1 ∧ (i = n + 1 → E = exG flat group n)) (fun i _ => n + 1 - i) 0 0 ⟨rfl, rfl, rfl, rfl, rfl, rfl, rfl, trivial⟩ ⟨rfl, rfl, by omega, by omega⟩ ?_
  rintro i E e _ _ hd1 ⟨rfl, rfl, hi, hE⟩
  conv => whnf
  refine br (fun hb => ?_) (fun hb => ?_)
  · have hxi := hx i (by omega)
    rw [show min i n = i by omega]
    have hbi := hbase i (by omega)
    have hpw : (2 : Nat) ^ exG flat group i ≤ 2 ^ 20 := Nat.pow_le_pow_right (by decide) hxi
    conv => whnf
    refine br (fun hb2 => ?_) (fun hb2 => ?_)
    · conv => whnf
      repeat (first | ((with_reducible apply Go.Vc.wr_i64); (focus exact And.intro (by omega) (by omega)); conv => whnf) | ((with_reducible apply Go.Vc.quo_i64); (focus exact And.intro (by omega) (And.intro (by omega) (by omega))); conv => whnf) | ((with_reducible refine And.intro ?_ (And.intro ?_ ?_)); (focus exact rfl); (focus omega); conv => whnf))
      have hq : ((i : Int) - (flat : Int)) / (group : Int) + 1 = ((exG flat group i : Nat) : Int) := by
        unfold exG
        rw [if_pos (by omega), show ((i : Int) - (flat : Int)) = ((i - flat : Nat) : Int) by omega, ← Int.natCast_ediv]
        rfl
      rw [hq]
      conv => whnf
      repeat (first | ((with_reducible apply Go.Vc.wr_i64); (focus exact And.intro (by omega) (by omega)); conv => whnf))
      refine br (fun hb3 => ?_) (fun hb3 => ?_)
      · conv => whnf
        repeat (first | ((with_reducible apply Go.Vc.wr_i64); (focus exact And.intro (by omega) (by omega)); conv => whnf) | ((with_reducible apply Go.Vc.one_shl); (focus exact And.intro (by omega) (by omega)); intro zP hzP hzP0 hzP1; conv => whnf) | ((with_reducible apply Go.Vc.and_leI); (focus omega); conv => whnf))
        refine round_end2 (i + 1) (exG flat group i) (by omega) ⟨rfl, rfl, rfl, by
          rw [show min (i + 1) n = i + 1 by omega]
          show Value.int .i64 ((baseG least flat group i : Nat) + (zP : Nat)) = _
          rw [hzP, Int.toNat_natCast]; rfl, rfl, rfl, rfl, trivial⟩ ⟨rfl, rfl, by omega, fun h => by omega⟩
      · conv => whnf
        repeat (first | ((with_reducible apply Go.Vc.wr_i64); (focus exact And.intro (by omega) (by omega)); conv => whnf))
        obtain rfl : i = n := by omega
        refine round_end2 (i + 1) (exG flat group i) (by omega) ⟨rfl, rfl, rfl, by rw [show min (i + 1) i = i by omega]; rfl, rfl, rfl, rfl, trivial⟩ ⟨rfl, rfl, by omega, fun _ => rfl⟩
    · have hE0 : exG flat group i = 0 := by unfold exG; rw [if_neg (by omega)]
      conv => whnf
      rw [show (0 : Int) = (exG flat group i : Nat) by rw [hE0]; rfl]
      refine br (fun hb3 => ?_) (fun hb3 => ?_)
      · conv => whnf
        repeat (first | ((with_reducible apply Go.Vc.wr_i64); (focus exact And.intro (by omega) (by omega)); conv => whnf) | ((with_reducible apply Go.Vc.one_shl); (focus exact And.intro (by omega) (by omega)); intro zP hzP hzP0 hzP1; conv => whnf) | ((with_reducible apply Go.Vc.and_leI); (focus omega); conv => whnf))
        refine round_end2 (i + 1) (exG flat group i) (by omega) ⟨rfl, rfl, rfl, by
          rw [show min (i + 1) n = i + 1 by omega]
          show Value.int .i64 ((baseG least flat group i : Nat) + (zP : Nat)) = _
          rw [hzP, Int.toNat_natCast]; rfl, rfl, rfl, rfl, trivial⟩ ⟨rfl, rfl, by omega, fun h => by omega⟩
      · conv => whnf
        repeat (first | ((with_reducible apply Go.Vc.wr_i64); (focus exact And.intro (by omega) (by omega)); conv => whnf))
        obtain rfl : i = n := by omega
        refine round_end2 (i + 1) (exG flat group i) (by omega) ⟨rfl, rfl, rfl, by rw [show min (i + 1) i = i by omega]; rfl, rfl, rfl, rfl, trivial⟩ ⟨rfl, rfl, by omega, fun _ => rfl⟩
  · obtain rfl : i = n + 1 := by omega
    rw [hE rfl, show min (n + 1) n = n by omega]
    conv => whnf
    exact ⟨rfl, rfl, rfl⟩
def lengthF (x : Int) : Int × Int × Bool := if x = 285 then (258, 0, true) else if x < 257 ∨ 285 < x then (0, 0, false) else ((baseG 3 8 4 (x - 257).toNat : Nat), (exG 8 4 (x - 257).toNat : Nat), true)
def distF (x : Int) : Int × Int × Bool := if x < 0 ∨ 30 ≤ x then (0, 0, false) else ((baseG 1 4 2 x.toNat : Nat), (exG 4 2 x.toNat : Nat), true)
def tup3 (p : Int × Int × Bool) : Value := .tuple #[.int .i64 p.1, .int .i64 p.2.1, .bool p.2.2]
theorem length_spec {h : Heap} {t : Nat} {x : Int} (hx : -2^62 ≤ x ∧ x < 2^62) :
    CallSpec Try.prog 49 #[.int .i64 x] h t (fun v h' t' => v = tup3 (lengthF x) ∧ h = h' ∧ t = t') := by
  refine Go.Vc.spec_of_vc (fn := Try.f49) Try.func49 rfl (by kernel_rfl) (by kernel_rfl) (Nat.le_of_ble_eq_true rfl) ?_
  intro hd
  conv => whnf
  unfold lengthF
  refine br (fun h1 => ?_) (fun h1 => ?_)
  · rw [if_pos h1]
    conv => whnf
    exact ⟨rfl, rfl, rfl⟩
  · rw [if_neg h1]
    conv => whnf
    refine br (fun h2 => ?_) (fun h2 => ?_)
    · rw [if_pos (by omega)]
      conv => whnf
      exact ⟨rfl, rfl, rfl⟩
    · conv => whnf
      refine br (fun h3 => ?_) (fun h3 => ?_)
      · rw [if_pos (by omega)]
        conv => whnf
        exact ⟨rfl, rfl, rfl⟩
      · rw [if_neg (by omega)]
        obtain ⟨n, hn⟩ := Int.eq_ofNat_of_zero_le (show 0 ≤ x - 257 by omega)
        conv => whnf
        repeat (first | ((with_reducible apply Go.Vc.wr_i64); (focus exact And.intro (by omega) (by omega)); conv => whnf))
        rw [hn, Int.toNat_natCast]
        refine (grown_spec (n := n) (least := 3) (flat := 8) (group := 4) (by omega) (by omega) (by omega) (by omega) (fun i hi => by unfold exG; split <;> omega)).mono ?_
        rintro _ h3 t3 hd3 ht3 ⟨rfl, rfl, rfl⟩
        conv => whnf
        exact ⟨rfl, rfl, rfl⟩
theorem distance_spec {h : Heap} {t : Nat} {x : Int} (hx : -2^62 ≤ x ∧ x < 2^62) :
    CallSpec Try.prog 50 #[.int .i64 x] h t (fun v h' t' => v = tup3 (distF x) ∧ h = h' ∧ t = t') := by
  refine Go.Vc.spec_of_vc (fn := Try.f50) Try.func50 rfl (by kernel_rfl) (by kernel_rfl) (Nat.le_of_ble_eq_true rfl) ?_
  intro hd
  conv => whnf
  unfold distF
  refine br (fun h2 => ?_) (fun h2 => ?_)
  · rw [if_pos (by omega)]
    conv => whnf
    exact ⟨rfl, rfl, rfl⟩
  · conv => whnf
    refine br (fun h3 => ?_) (fun h3 => ?_)
    · rw [if_pos (by omega)]
      conv => whnf
      exact ⟨rfl, rfl, rfl⟩
    · rw [if_neg (by omega)]
      obtain ⟨n, hn⟩ := Int.eq_ofNat_of_zero_le (show 0 ≤ x by omega)
      subst hn
      conv => whnf
      rw [Int.toNat_natCast]
      refine (grown_spec (n := n) (least := 1) (flat := 4) (group := 2) (by omega) (by omega) (by omega) (by omega) (fun i hi => by unfold exG; split <;> omega)).mono ?_
      rintro _ h3 t3 hd3 ht3 ⟨rfl, rfl, rfl⟩
      conv => whnf
      exact ⟨rfl, rfl, rfl⟩
def findK (F : Int → Int × Int × Bool) (n first : Int) : Nat → Int
  | 0 => first
  | k + 1 => if (F (first + (k + 1 : Nat))).1 ≤ n then first + (k + 1 : Nat) else findK F n first k
def foundF (F : Int → Int × Int × Bool) (n first last : Int) : Value :=
  .agg #[.int .i64 (findK F n first (last - first).toNat), .int .i64 (n - (F (findK F n first (last - first).toNat)).1), .int .i64 (F (findK F n first (last - first).toNat)).2.1]
theorem find_spec {h : Heap} {t : Nat} {f : FuncId} {F : Int → Int × Int × Bool} {n first last : Int} (hext : isExt Try.prog f = false) (hn : 0 ≤ n ∧ n ≤ 100000) (hfl : 0 ≤ first ∧ first ≤ last ∧ last ≤ 1000)
    (hF : ∀ x h t, first ≤ x → x ≤ last → CallSpec Try.prog f #[.int .i64 x] h t (fun v h' t' => v = tup3 (F x) ∧ h = h' ∧ t = t')) (hok : ∀ x, first ≤ x → x ≤ last → (F x).2.2 = true ∧ 0 ≤ (F x).1 ∧ (F x).1 ≤ 100000000) :
    CallSpec Try.prog 48 #[.int .i64 n, .int .i64 first, .int .i64 last, .func (.func f) #[] #[]] h t (fun v h' t' => v = foundF F n first last ∧ Vc.Sub h h' ∧ t ≤ t') := by
  refine Go.Vc.spec_of_vc (fn := Try.f48) Try.func48 rfl (by kernel_rfl) (by kernel_rfl) (Nat.le_of_ble_eq_true rfl) ?_
  intro hd
  conv => whnf
  repeat (first | (intro _ _; conv => whnf))
  rename_i r hr
  refine loop_intro (fun k : Nat => [(0, .int .i64 n), (1, .int .i64 first), (3, .func (.func f) #[] #[]), (8, .pointer (some ⟨r, 0, none⟩)), (9, .int .i64 (first + (k : Nat)))])
    (fun k h' t' => hset h r (.cells #[.int .i64 0, .int .i64 0, .int .i64 0] 92) = h' ∧ r + 1 = t' ∧ (k : Int) ≤ last - first ∧ findK F n first k = findK F n first (last - first).toNat) (fun k => k) (last - first).toNat ⟨rfl, rfl, rfl, rfl, by rw [show first + ((last - first).toNat : Nat) = last by omega]; rfl, trivial⟩ ⟨rfl, rfl, by omega, rfl⟩ ?_
  rintro k e _ _ hd1 ⟨rfl, rfl, hk, hfk⟩
  conv => whnf
  rw [hext]
  refine (hF (first + (k : Nat)) _ _ (by omega) (by omega)).mono ?_
  rintro _ h2 t2 hd2 ht2 ⟨rfl, rfl, rfl⟩
  obtain ⟨o1, o2, o3⟩ := hok (first + (k : Nat)) (by omega) (by omega)
  conv => whnf
  refine bsel_t o1 ?_
  conv => whnf
  refine br (fun h1 => ?_) (fun h1 => ?_)
  · have e1 : findK F n first k = first + (k : Nat) := by
      cases k with
      | zero => show first = _; omega
      | succ k => rw [findK, if_pos h1]
    conv => whnf
    repeat (first | ((with_reducible apply Go.Vc.ldrow); (focus ((repeat (first | with_reducible assumption | with_reducible exact Go.Vc.hset_same _ _ _ | with_reducible refine (Go.Vc.hset_ne _ _ (by omega)).trans ?_)); done)); (focus exact rfl); rintro _ rfl; conv => whnf) | ((with_reducible apply Go.Vc.strow); (focus ((repeat (first | with_reducible assumption | with_reducible exact Go.Vc.hset_same _ _ _ | with_reducible refine (Go.Vc.hset_ne _ _ (by omega)).trans ?_)); done)); (focus exact rfl); (focus exact rfl); (focus exact rfl); rintro _ rfl; conv => whnf) | ((with_reducible apply Go.Vc.wr_i64); (focus exact And.intro (by omega) (by omega)); conv => whnf))
    rw [← e1]
    unfold foundF
    rw [← hfk]
    exact ⟨rfl, fun b o hb => by have := hd _ _ hb; rw [hset_ne _ _ (by omega), hset_ne _ _ (by omega)]; exact hb, by omega⟩
  · conv => whnf
    refine br (fun h2 => ?_) (fun h2 => ?_)
    · have e1 : findK F n first k = first + (k : Nat) := by
        obtain rfl : k = 0 := by omega
        show first = _; omega
      conv => whnf
      repeat (first | ((with_reducible apply Go.Vc.ldrow); (focus ((repeat (first | with_reducible assumption | with_reducible exact Go.Vc.hset_same _ _ _ | with_reducible refine (Go.Vc.hset_ne _ _ (by omega)).trans ?_)); done)); (focus exact rfl); rintro _ rfl; conv => whnf) | ((with_reducible apply Go.Vc.strow); (focus ((repeat (first | with_reducible assumption | with_reducible exact Go.Vc.hset_same _ _ _ | with_reducible refine (Go.Vc.hset_ne _ _ (by omega)).trans ?_)); done)); (focus exact rfl); (focus exact rfl); (focus exact rfl); rintro _ rfl; conv => whnf) | ((with_reducible apply Go.Vc.wr_i64); (focus exact And.intro (by omega) (by omega)); conv => whnf))
      rw [← e1]
      unfold foundF
      rw [← hfk]
      exact ⟨rfl, fun b o hb => by have := hd _ _ hb; rw [hset_ne _ _ (by omega), hset_ne _ _ (by omega)]; exact hb, by omega⟩
    · obtain ⟨j, rfl⟩ : ∃ j, k = j + 1 := ⟨k - 1, by omega⟩
      rw [findK, if_neg h1] at hfk
      conv => whnf
      repeat (first | ((with_reducible apply Go.Vc.wr_i64); (focus exact And.intro (by omega) (by omega)); conv => whnf))
      exact round_end j (by omega) ⟨rfl, rfl, rfl, rfl, by show Value.int .i64 (first + ((j + 1 : Nat) : Int) - 1) = _; rw [show first + ((j + 1 : Nat) : Int) - 1 = first + (j : Nat) by omega], trivial⟩ ⟨rfl, rfl, by omega, hfk⟩
end Go.Proofs.Ytikpfffhcjlcjaa
