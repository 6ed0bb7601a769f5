/- split, Leaf, Node. -/
import Derived.Test.YtmlcdkckedjdjaaSha8
import Derived.Test.YtmlcdkckedjdjaaVc10
import Derived.Test.YtmlcdkckedjdjaaMerklePure
namespace Go.Proofs.Ytmlcdkckedjdjaa
open Go Go.Vc Go.Sha Go.Mk
set_option maxRecDepth 10000
set_option linter.unusedVariables false

theorem lenN_le {x k : Nat} (h : x < 2 ^ k) : lenN x ≤ k := by
  unfold lenN
  split
  · omega
  · rename_i h0
    have := (Nat.log2_lt h0).2 h
    omega
theorem lenN_div {x : Nat} (h : 256 ≤ x) : lenN x = 8 + lenN (x / 256) := by
  unfold lenN
  rw [if_neg (by omega), if_neg (by omega)]
  have h1 : x ≠ 0 := by omega
  have h2 : x / 256 ≠ 0 := by omega
  have h3 : Nat.log2 x = Nat.log2 (x / 256) + 8 := by
    refine (Nat.log2_eq_iff h1).2 ⟨?_, ?_⟩
    · have := Nat.log2_self_le h2
      rw [Nat.pow_add]
      omega
    · have : x / 256 < 2 ^ (Nat.log2 (x / 256) + 1) := Nat.lt_log2_self
      rw [show Nat.log2 (x / 256) + 8 + 1 = Nat.log2 (x / 256) + 1 + 8 from by omega, Nat.pow_add]
      omega
  omega
theorem len64_spec (x : Nat) (hx : x < 65536) (h : Heap) (t : Nat) : CallSpec Try.prog 55 #[.int .u64 (x : Nat)] h t (fun v h' t' => v = .int .i64 ((lenN x : Nat) : Int) ∧ h = h' ∧ t = t') := by
  refine Go.Vc.spec_of_vc (fn := Try.f55) Try.func55 rfl (by kernel_rfl) (by kernel_rfl) (Nat.le_of_ble_eq_true rfl) ?_
  intro hd
  conv => whnf
  repeat (first | (refine Go.Vc.br_f ?_ ?_; (focus omega); conv => whnf))
  refine br (fun hb1 => ?_) (fun hb1 => ?_)
  · conv => whnf
    repeat (first | ((with_reducible apply Go.Vc.wr_i64); (focus exact And.intro (by omega) (by omega)); conv => whnf) | ((with_reducible apply Go.Vc.shr_u64); (focus exact And.intro (by omega) (by omega)); intro zS hzS hzS0 hzS1; conv => whnf) | ((with_reducible apply Go.Vc.and_leI); (focus omega); conv => whnf))
    have hz : zS = (x : Int) / 256 := hzS
    conv => whnf
    repeat (first | ((with_reducible apply Go.Vc.wr_u8); (focus exact And.intro (by omega) (by omega)); conv => whnf))
    generalize hT : ByteArray.mk _ = T
    have hk : tabOk T = true := by rw [← hT]; decide +kernel
    have hsz := tab_size hk
    refine ⟨⟨by omega, by omega⟩, ?_⟩
    intro hy1 hy2
    have hzn : zS.toNat = x / 256 := by omega
    rw [tab_ix (v := zS.toNat) hk (by omega), hzn]
    have hle := lenN_le (x := x / 256) (k := 8) (by omega)
    conv => whnf
    repeat (first | ((with_reducible apply Go.Vc.wr_i64); (focus exact And.intro (by omega) (by omega)); conv => whnf))
    exact ⟨by rw [lenN_div (x := x) (by omega)]; rfl, rfl, rfl⟩
  · conv => whnf
    repeat (first | ((with_reducible apply Go.Vc.wr_u8); (focus exact And.intro (by omega) (by omega)); conv => whnf))
    generalize hT : ByteArray.mk _ = T
    have hk : tabOk T = true := by rw [← hT]; decide +kernel
    have hsz := tab_size hk
    refine ⟨⟨by omega, by omega⟩, ?_⟩
    intro hy1 hy2
    rw [tab_ix (v := (x : Int).toNat) hk (by omega), Int.toNat_natCast]
    have hle := lenN_le (x := x) (k := 8) (by omega)
    conv => whnf
    repeat (first | ((with_reducible apply Go.Vc.wr_i64); (focus exact And.intro (by omega) (by omega)); conv => whnf))
    exact ⟨by rw [Int.zero_add], rfl, rfl⟩
theorem len_spec (x : Nat) (hx : x < 65536) (h : Heap) (t : Nat) : CallSpec Try.prog 47 #[.int .u64 (x : Nat)] h t (fun v h' t' => v = .int .i64 ((lenN x : Nat) : Int) ∧ h = h' ∧ t = t') := by
  refine Go.Vc.spec_of_vc (fn := Try.f47) Try.func47 rfl (by kernel_rfl) (by kernel_rfl) (Nat.le_of_ble_eq_true rfl) ?_
  intro hd
  conv => whnf
  refine (len64_spec x hx _ _).mono ?_
  rintro _ _ _ _ _ ⟨rfl, rfl, rfl⟩
  conv => whnf
  exact ⟨rfl, rfl, rfl⟩
theorem split_spec (n : Nat) (hn : 2 ≤ n) (hn2 : n ≤ 65536) (h : Heap) (t : Nat) : CallSpec Try.prog 31 #[.int .i64 (n : Nat)] h t (fun v h' t' => v = .int .i64 ((sp n : Nat) : Int) ∧ h = h' ∧ t = t') := by
  refine Go.Vc.spec_of_vc (fn := Try.f31) Try.func31 rfl (by kernel_rfl) (by kernel_rfl) (Nat.le_of_ble_eq_true rfl) ?_
  intro hd
  conv => whnf
  repeat (first | ((with_reducible apply Go.Vc.wr_i64); (focus exact And.intro (by omega) (by omega)); conv => whnf) | ((with_reducible apply Go.Vc.wr_u64); (focus exact And.intro (by omega) (by omega)); conv => whnf))
  have e : ((n : Int) - 1) = ((n - 1 : Nat) : Int) := by omega
  rw [e]
  refine (len_spec (n - 1) (by omega) _ _).mono ?_
  rintro _ _ _ _ _ ⟨rfl, rfl, rfl⟩
  have hl : lenN (n - 1) = Nat.log2 (n - 1) + 1 := by unfold lenN; rw [if_neg (by omega)]
  have hle := lenN_le (x := n - 1) (k := 16) (by omega)
  conv => whnf
  repeat (first | ((with_reducible apply Go.Vc.wr_i64); (focus exact And.intro (by omega) (by omega)); conv => whnf) | ((with_reducible apply Go.Vc.one_shl); (focus exact And.intro (by omega) (by omega)); intro zP hzP hzP0 hzP1; conv => whnf) | ((with_reducible apply Go.Vc.and_leI); (focus omega); conv => whnf))
  trace_state
  exact ⟨by rw [hzP, hl]; simp [sp], rfl, rfl⟩
theorem refsplit_spec (n : Nat) (hn : 2 ≤ n) (hn2 : n ≤ 65536) (h : Heap) (t : Nat) : CallSpec Try.prog 37 #[.int .i64 (n : Nat)] h t (fun v h' t' => v = .int .i64 ((sp n : Nat) : Int) ∧ h = h' ∧ t = t') := by
  refine Go.Vc.spec_of_vc (fn := Try.f37) Try.func37 rfl (by kernel_rfl) (by kernel_rfl) (Nat.le_of_ble_eq_true rfl) ?_
  intro hd
  conv => whnf
  refine loop_intro (fun (e : Nat) => [(0, .int .i64 (n : Nat)), (3, .int .i64 ((2 ^ e : Nat) : Int))]) (fun e h' t' => 2 ^ e < n ∧ h' = h ∧ t' = t) (fun e => n - 2 ^ e) 0 ⟨rfl, rfl, trivial⟩ ⟨by omega, rfl, rfl⟩ ?_
  rintro e g h1 t1 hd1 ⟨he, rfl, rfl⟩
  have hp : 1 ≤ 2 ^ e := Nat.pow_pos (by decide)
  conv => whnf
  repeat (first | ((with_reducible apply Go.Vc.wr_i64); (focus exact And.intro (by omega) (by omega)); conv => whnf))
  refine br (fun hb1 => ?_) (fun hb1 => ?_)
  · conv => whnf
    repeat (first | ((with_reducible apply Go.Vc.wr_i64); (focus exact And.intro (by omega) (by omega)); conv => whnf))
    refine round_end (e + 1) (by rw [Nat.pow_succ]; omega) ⟨rfl, ?_, trivial⟩ ⟨by rw [Nat.pow_succ]; omega, rfl, rfl⟩
    show Value.int .i64 _ = Value.int .i64 _
    congr 1
    rw [Nat.pow_succ]; omega
  · conv => whnf
    exact ⟨by rw [sp_of he (by omega)], rfl, rfl⟩
end Go.Proofs.Ytmlcdkckedjdjaa
