/- SHA-256's small functions: products, turns, roots, primes, the numbers at first. -/
import Derived.Test.YtmlcdkckedjdjaaProg
import Derived.Test.YtmlcdkckedjdjaaVc9
import Derived.Test.YtmlcdkckedjdjaaShaPure
namespace Go.Proofs.Ytmlcdkckedjdjaa
open Go Go.Vc Go.Sha
set_option maxRecDepth 10000
set_option linter.unusedVariables false

theorem rot_n : ∀ m : Nat, m < 32 → (m : Int) = IntKind.u64.wrap ((BitVec.ofInt (IntKind.bits .u64) (m : Int) &&& BitVec.ofInt (IntKind.bits .u64) 31).toNat : Int) := by decide
theorem rot_spec (x : BitVec 32) (n : Int) (hn : 0 ≤ n ∧ n ≤ 31) (h : Heap) (t : Nat) :
    CallSpec Try.prog 62 #[.int .u32 (x.toNat : Int), .int .i64 n] h t (fun v h' t' => v = u32v (x <<< n.toNat ||| x >>> (32 - n).toNat) ∧ h = h' ∧ t = t') := by
  obtain ⟨m, rfl⟩ := Int.eq_ofNat_of_zero_le hn.1
  refine Go.Vc.spec_of_vc (fn := Try.f62) Try.func62 rfl (by kernel_rfl) (by kernel_rfl) (Nat.le_of_ble_eq_true rfl) ?_
  intro hd
  conv => whnf
  repeat (first | ((with_reducible apply Go.Vc.wr_u64); (focus exact And.intro (by omega) (by omega)); conv => whnf))
  refine ⟨m, rot_n m (by omega), ?_⟩
  conv => whnf
  repeat (first | ((with_reducible apply Go.Vc.or32); conv => whnf) | ((with_reducible apply Go.Vc.shl32); conv => whnf) | ((with_reducible apply Go.Vc.shr32); conv => whnf) | ((with_reducible apply Go.Vc.wr_u64); (focus exact And.intro (by omega) (by omega)); conv => whnf) | ((with_reducible apply Go.Vc.and_leI); (focus omega); conv => whnf))
  exact ⟨rfl, rfl, rfl⟩

/-- The product of two words, as the library makes it. -/
def mulF (x y : BitVec 64) : BitVec 64 × BitVec 64 :=
  let x0 := x &&& 0xffffffff#64
  let x1 := x >>> 32
  let y0 := y &&& 0xffffffff#64
  let y1 := y >>> 32
  let w0 := x0 * y0
  let t := x1 * y0 + w0 >>> 32
  let w1 := t &&& 0xffffffff#64
  let w2 := t >>> 32
  let w1 := w1 + x0 * y1
  (x1 * y1 + w2 + w1 >>> 32, x * y)
theorem mul_spec (x y : BitVec 64) (h : Heap) (t : Nat) :
    CallSpec Try.prog 61 #[.int .u64 (x.toNat : Int), .int .u64 (y.toNat : Int)] h t (fun v h' t' => v = .tuple #[u64v (mulF x y).1, u64v (mulF x y).2] ∧ h = h' ∧ t = t') := by
  refine Go.Vc.spec_of_vc (fn := Try.f61) Try.func61 rfl (by kernel_rfl) (by kernel_rfl) (Nat.le_of_ble_eq_true rfl) ?_
  intro hd
  conv => whnf
  repeat (first | ((with_reducible apply Go.Vc.add64); conv => whnf) | ((with_reducible apply Go.Vc.mul64); conv => whnf) | ((with_reducible apply Go.Vc.and64); conv => whnf) | ((with_reducible apply Go.Vc.shr64); conv => whnf) | ((with_reducible apply Go.Vc.and_leI); (focus omega); conv => whnf))
  exact ⟨rfl, rfl, rfl⟩

def bitOf (k : Nat) : BitVec 64 := BitVec.ofNat 64 (2 ^ k / 2)
theorem bitOf_zero : bitOf 0 = 0 := rfl
theorem bitOf_succ {k : Nat} (h : k < 64) : (bitOf (k + 1)).toNat = 2 ^ k := by
  unfold bitOf
  rw [BitVec.toNat_ofNat, Nat.pow_succ, Nat.mul_div_cancel _ (by omega)]
  exact Nat.mod_eq_of_lt (Nat.pow_lt_pow_right (by omega) h)
theorem bitOf_shr {k : Nat} (h : k < 64) : bitOf (k + 1) >>> 1 = bitOf k := by
  apply BitVec.eq_of_toNat_eq
  rw [BitVec.toNat_ushiftRight, bitOf_succ h]
  cases k with
  | zero => rfl
  | succ k => rw [bitOf_succ (by omega), Nat.shiftRight_eq_div_pow, Nat.pow_succ]; simp
def sqStep (p : BitVec 64) (k : Nat) (r : BitVec 64) : BitVec 64 :=
  let x := r ||| bitOf (k + 1)
  if (mulF x x).1.toNat < p.toNat ∨ ((mulF x x).1.toNat = p.toNat ∧ (mulF x x).2.toNat = 0) then x else r
def sqGo (p : BitVec 64) : Nat → BitVec 64 → BitVec 64
  | 0, r => r
  | k + 1, r => sqGo p k (sqStep p k r)
theorem square_spec (p : BitVec 64) (h : Heap) (t : Nat) :
    CallSpec Try.prog 60 #[.int .u64 (p.toNat : Int)] h t (fun v h' t' => v = u64v (sqGo p 38 0) ∧ h = h' ∧ t = t') := by
  refine Go.Vc.spec_of_vc (fn := Try.f60) Try.func60 rfl (by kernel_rfl) (by kernel_rfl) (Nat.le_of_ble_eq_true rfl) ?_
  intro hd
  conv => whnf
  refine loop_intro2 (fun (k : Nat) (r : BitVec 64) => [(0, .int .u64 (p.toNat : Int)), (3, .int .u64 (r.toNat : Int)), (4, .int .u64 ((bitOf k).toNat : Int))])
    (fun k r h' t' => h = h' ∧ t = t' ∧ k ≤ 38 ∧ sqGo p 38 0 = sqGo p k r) (fun k _ => k) 38 0 ⟨rfl, rfl, rfl, trivial⟩ ⟨rfl, rfl, by omega, rfl⟩ ?_
  rintro k r g _ _ _ ⟨rfl, rfl, hk, hg⟩
  conv => whnf
  cases k with
  | zero =>
    refine br_f (by rw [bitOf_zero]; decide) ?_
    conv => whnf
    exact ⟨by rw [hg]; rfl, rfl, rfl⟩
  | succ k =>
    have hb := bitOf_succ (k := k) (by omega)
    have hp : 0 < 2 ^ k := Nat.pow_pos (by omega)
    refine br_t (by rw [hb]; omega) ?_
    have hsh := bitOf_shr (k := k) (by omega)
    conv => whnf
    repeat (first | ((with_reducible apply Go.Vc.or64); conv => whnf))
    refine (mul_spec _ _ _ _).mono ?_
    rintro _ _ _ _ _ ⟨rfl, rfl, rfl⟩
    conv => whnf
    have hstep : ∀ c : Prop, (c ↔ ((mulF (r ||| bitOf (k + 1)) (r ||| bitOf (k + 1))).1.toNat < p.toNat ∨ ((mulF (r ||| bitOf (k + 1)) (r ||| bitOf (k + 1))).1.toNat = p.toNat ∧ (mulF (r ||| bitOf (k + 1)) (r ||| bitOf (k + 1))).2.toNat = 0))) → (c → sqStep p k r = r ||| bitOf (k + 1)) ∧ (¬ c → sqStep p k r = r) :=
      fun c hc => ⟨fun h => if_pos (hc.1 h), fun h => if_neg (fun h2 => h (hc.2 h2))⟩
    refine br (fun hb1 => ?_) (fun hb1 => ?_)
    · have hs := (hstep True (by simp; omega)).1 trivial
      conv => whnf
      repeat (first | ((with_reducible apply Go.Vc.or64); conv => whnf) | ((with_reducible apply Go.Vc.shr64); conv => whnf) | ((with_reducible apply Go.Vc.and_leI); (focus omega); conv => whnf))
      rw [show bitOf (k + 1) >>> (Int.toNat 1) = bitOf k from hsh]
      exact round_end2 k (r ||| bitOf (k + 1)) (by omega) ⟨rfl, rfl, rfl, trivial⟩ ⟨rfl, rfl, by omega, by rw [hg, ← hs]; rfl⟩
    · conv => whnf
      refine br (fun hb2 => ?_) (fun hb2 => ?_)
      · conv => whnf
        refine br (fun hb3 => ?_) (fun hb3 => ?_)
        · have hs := (hstep True (by simp; omega)).1 trivial
          conv => whnf
          repeat (first | ((with_reducible apply Go.Vc.or64); conv => whnf) | ((with_reducible apply Go.Vc.shr64); conv => whnf) | ((with_reducible apply Go.Vc.and_leI); (focus omega); conv => whnf))
          rw [show bitOf (k + 1) >>> (Int.toNat 1) = bitOf k from hsh]
          exact round_end2 k (r ||| bitOf (k + 1)) (by omega) ⟨rfl, rfl, rfl, trivial⟩ ⟨rfl, rfl, by omega, by rw [hg, ← hs]; rfl⟩
        · have hs := (hstep False (by simp only [false_iff]; omega)).2 (fun h => h)
          conv => whnf
          repeat (first | ((with_reducible apply Go.Vc.shr64); conv => whnf) | ((with_reducible apply Go.Vc.and_leI); (focus omega); conv => whnf))
          rw [show bitOf (k + 1) >>> (Int.toNat 1) = bitOf k from hsh]
          exact round_end2 k r (by omega) ⟨rfl, rfl, rfl, trivial⟩ ⟨rfl, rfl, by omega, by rw [hg]; show sqGo p k (sqStep p k r) = _; rw [hs]⟩
      · have hs := (hstep False (by simp only [false_iff]; omega)).2 (fun h => h)
        conv => whnf
        repeat (first | ((with_reducible apply Go.Vc.shr64); conv => whnf) | ((with_reducible apply Go.Vc.and_leI); (focus omega); conv => whnf))
        rw [show bitOf (k + 1) >>> (Int.toNat 1) = bitOf k from hsh]
        exact round_end2 k r (by omega) ⟨rfl, rfl, rfl, trivial⟩ ⟨rfl, rfl, by omega, by rw [hg]; show sqGo p k (sqStep p k r) = _; rw [hs]⟩

def cuX (x : BitVec 64) : BitVec 64 × BitVec 64 :=
  let m := mulF x x
  let u := mulF m.2 x
  (u.1 + m.1 * x, u.2)
def cuTest (p x : BitVec 64) : Bool := decide ((cuX x).1.toNat < (p <<< 32).toNat) || (decide ((cuX x).1.toNat = (p <<< 32).toNat) && decide ((cuX x).2.toNat = 0))
def cuStep (p : BitVec 64) (k : Nat) (r : BitVec 64) : BitVec 64 := bif cuTest p (r ||| bitOf (k + 1)) then r ||| bitOf (k + 1) else r
theorem cuStep_t {p : BitVec 64} {k : Nat} {r : BitVec 64} (h : cuTest p (r ||| bitOf (k + 1)) = true) : cuStep p k r = r ||| bitOf (k + 1) := by unfold cuStep; rw [h]; rfl
theorem cuStep_f {p : BitVec 64} {k : Nat} {r : BitVec 64} (h : cuTest p (r ||| bitOf (k + 1)) = false) : cuStep p k r = r := by unfold cuStep; rw [h]; rfl
def cuGo (p : BitVec 64) : Nat → BitVec 64 → BitVec 64
  | 0, r => r
  | k + 1, r => cuGo p k (cuStep p k r)
theorem cube_spec (p : BitVec 64) (h : Heap) (t : Nat) :
    CallSpec Try.prog 52 #[.int .u64 (p.toNat : Int)] h t (fun v h' t' => v = u64v (cuGo p 37 0) ∧ h = h' ∧ t = t') := by
  refine Go.Vc.spec_of_vc (fn := Try.f52) Try.func52 rfl (by kernel_rfl) (by kernel_rfl) (Nat.le_of_ble_eq_true rfl) ?_
  intro hd
  conv => whnf
  refine loop_intro2 (fun (k : Nat) (r : BitVec 64) => [(0, .int .u64 (p.toNat : Int)), (3, .int .u64 (r.toNat : Int)), (4, .int .u64 ((bitOf k).toNat : Int))])
    (fun k r h' t' => h = h' ∧ t = t' ∧ k ≤ 37 ∧ cuGo p 37 0 = cuGo p k r) (fun k _ => k) 37 0 ⟨rfl, rfl, rfl, trivial⟩ ⟨rfl, rfl, by omega, rfl⟩ ?_
  rintro k r g _ _ _ ⟨rfl, rfl, hk, hg⟩
  conv => whnf
  cases k with
  | zero =>
    refine br_f (by rw [bitOf_zero]; decide) ?_
    conv => whnf
    exact ⟨by rw [hg]; rfl, rfl, rfl⟩
  | succ k =>
    have hb := bitOf_succ (k := k) (by omega)
    have hp : 0 < 2 ^ k := Nat.pow_pos (by omega)
    refine br_t (by rw [hb]; omega) ?_
    have hsh := bitOf_shr (k := k) (by omega)
    have hstep : ∀ c : Prop, (c ↔ ((cuX (r ||| bitOf (k + 1))).1.toNat < (p <<< 32).toNat ∨ ((cuX (r ||| bitOf (k + 1))).1.toNat = (p <<< 32).toNat ∧ (cuX (r ||| bitOf (k + 1))).2.toNat = 0))) → (c → cuStep p k r = r ||| bitOf (k + 1)) ∧ (¬ c → cuStep p k r = r) := by
      intro c hc
      refine ⟨fun h => cuStep_t ?_, fun h => cuStep_f ?_⟩
      · have := hc.1 h
        simp only [cuTest, Bool.or_eq_true, Bool.and_eq_true, decide_eq_true_eq]; exact this
      · have := fun h2 => h (hc.2 h2)
        simp only [cuTest, Bool.or_eq_false_iff, Bool.and_eq_false_imp, decide_eq_false_iff_not, decide_eq_true_eq]
        exact ⟨fun h2 => this (.inl h2), fun h2 h3 => this (.inr ⟨h2, h3⟩)⟩
    have e1 : (mulF (mulF (r ||| bitOf (k + 1)) (r ||| bitOf (k + 1))).2 (r ||| bitOf (k + 1))).1 + (mulF (r ||| bitOf (k + 1)) (r ||| bitOf (k + 1))).1 * (r ||| bitOf (k + 1)) = (cuX (r ||| bitOf (k + 1))).1 := rfl
    have e2 : (mulF (mulF (r ||| bitOf (k + 1)) (r ||| bitOf (k + 1))).2 (r ||| bitOf (k + 1))).2 = (cuX (r ||| bitOf (k + 1))).2 := rfl
    obtain ⟨P, hP⟩ : ∃ P : BitVec 64, p <<< (Int.toNat 32) = P := ⟨_, rfl⟩
    rw [show p <<< 32 = P from hP] at hstep
    conv => whnf
    repeat (first | ((with_reducible apply Go.Vc.or64); conv => whnf))
    refine (mul_spec _ _ _ _).mono ?_
    rintro _ _ _ _ _ ⟨rfl, rfl, rfl⟩
    conv => whnf
    refine (mul_spec _ _ _ _).mono ?_
    rintro _ _ _ _ _ ⟨rfl, rfl, rfl⟩
    conv => whnf
    repeat (first | ((with_reducible apply Go.Vc.add64); conv => whnf) | ((with_reducible apply Go.Vc.mul64); conv => whnf) | ((with_reducible apply Go.Vc.shl64); conv => whnf) | ((with_reducible apply Go.Vc.and_leI); (focus omega); conv => whnf))
    rw [e1, e2]
    generalize hX : cuX (r ||| bitOf (k + 1)) = X at *
    refine br (fun hb1 => ?_) (fun hb1 => ?_)
    · rw [hP] at hb1
      have hs := (hstep True (by simp; omega)).1 trivial
      conv => whnf
      repeat (first | ((with_reducible apply Go.Vc.shr64); conv => whnf) | ((with_reducible apply Go.Vc.and_leI); (focus omega); conv => whnf))
      rw [show bitOf (k + 1) >>> (Int.toNat 1) = bitOf k from hsh]
      exact round_end2 k (r ||| bitOf (k + 1)) (by omega) ⟨rfl, rfl, rfl, trivial⟩ ⟨rfl, rfl, by omega, by rw [hg, ← hs]; rfl⟩
    · rw [hP] at hb1
      conv => whnf
      repeat (first | ((with_reducible apply Go.Vc.shl64); conv => whnf) | ((with_reducible apply Go.Vc.and_leI); (focus omega); conv => whnf))
      refine br (fun hb2 => ?_) (fun hb2 => ?_)
      · rw [hP] at hb2
        conv => whnf
        refine br (fun hb3 => ?_) (fun hb3 => ?_)
        · have hs := (hstep True (by simp; omega)).1 trivial
          conv => whnf
          repeat (first | ((with_reducible apply Go.Vc.shr64); conv => whnf) | ((with_reducible apply Go.Vc.and_leI); (focus omega); conv => whnf))
          rw [show bitOf (k + 1) >>> (Int.toNat 1) = bitOf k from hsh]
          exact round_end2 k (r ||| bitOf (k + 1)) (by omega) ⟨rfl, rfl, rfl, trivial⟩ ⟨rfl, rfl, by omega, by rw [hg, ← hs]; rfl⟩
        · have hs := (hstep False (by simp only [false_iff]; omega)).2 (fun h => h)
          conv => whnf
          repeat (first | ((with_reducible apply Go.Vc.shr64); conv => whnf) | ((with_reducible apply Go.Vc.and_leI); (focus omega); conv => whnf))
          rw [show bitOf (k + 1) >>> (Int.toNat 1) = bitOf k from hsh]
          exact round_end2 k r (by omega) ⟨rfl, rfl, rfl, trivial⟩ ⟨rfl, rfl, by omega, by rw [hg]; show cuGo p k (cuStep p k r) = _; rw [hs]⟩
      · rw [hP] at hb2
        have hs := (hstep False (by simp only [false_iff]; omega)).2 (fun h => h)
        conv => whnf
        repeat (first | ((with_reducible apply Go.Vc.shr64); conv => whnf) | ((with_reducible apply Go.Vc.and_leI); (focus omega); conv => whnf))
        rw [show bitOf (k + 1) >>> (Int.toNat 1) = bitOf k from hsh]
        exact round_end2 k r (by omega) ⟨rfl, rfl, rfl, trivial⟩ ⟨rfl, rfl, by omega, by rw [hg]; show cuGo p k (cuStep p k r) = _; rw [hs]⟩
end Go.Proofs.Ytmlcdkckedjdjaa
