/- The primes, and what their roots are: reckoned by the kernel. -/
import Derived.Test.YtmlcdkckedjdjaaSha1
namespace Go.Proofs.Ytmlcdkckedjdjaa
open Go Go.Vc Go.Sha
set_option maxRecDepth 10000
set_option linter.unusedVariables false

def PS : List Nat := [2, 3, 5, 7, 11, 13, 17, 19, 23, 29, 31, 37, 41, 43, 47, 53, 59, 61, 67, 71, 73, 79, 83, 89, 97, 101, 103, 107, 109, 113, 127, 131, 137, 139, 149, 151, 157, 163, 167, 173, 179, 181, 191, 193, 197, 199, 211, 223, 227, 229, 233, 239, 241, 251, 257, 263, 269, 271, 277, 281, 283, 293, 307, 311]
def f64 {α : Type} (x : BitVec 64) (K : BitVec 64 → α) : α := fc x.toNat fun n => K (BitVec.ofNat 64 n)
theorem f64_eq {α : Type} (x : BitVec 64) (K : BitVec 64 → α) : f64 x K = K x := by simp [f64, fc_eq]
def mulE {α : Type} (x y : BitVec 64) (K : BitVec 64 → BitVec 64 → α) : α :=
  f64 (x &&& 0xffffffff#64) fun x0 => f64 (x >>> 32) fun x1 => f64 (y &&& 0xffffffff#64) fun y0 => f64 (y >>> 32) fun y1 =>
  f64 (x1 * y0 + (x0 * y0) >>> 32) fun t => f64 ((t &&& 0xffffffff#64) + x0 * y1) fun w1 => f64 (x1 * y1 + t >>> 32 + w1 >>> 32) fun hi => f64 (x * y) fun lo => K hi lo
theorem mulE_eq {α : Type} (x y : BitVec 64) (K : BitVec 64 → BitVec 64 → α) : mulE x y K = K (mulF x y).1 (mulF x y).2 := by simp only [mulE, f64_eq, mulF]
def lt64 (x y : BitVec 64) : Bool := Nat.blt x.toNat y.toNat
def eq64 (x y : BitVec 64) : Bool := Nat.beq x.toNat y.toNat
def sqStepE {α : Type} (p : BitVec 64) (k : Nat) (r : BitVec 64) (K : BitVec 64 → α) : α :=
  f64 (r ||| bitOf (k + 1)) fun x => mulE x x fun hi lo => bif lt64 hi p || (eq64 hi p && eq64 lo 0) then K x else K r
theorem lt64_eq (x y : BitVec 64) : lt64 x y = decide (x.toNat < y.toNat) := by
  unfold lt64; rw [Bool.eq_iff_iff]; simp
theorem eq64_eq (x y : BitVec 64) : eq64 x y = decide (x.toNat = y.toNat) := by
  unfold eq64; rw [Bool.eq_iff_iff]; simp
theorem sqStepE_eq {α : Type} (p : BitVec 64) (k : Nat) (r : BitVec 64) (K : BitVec 64 → α) : sqStepE p k r K = K (sqStep p k r) := by
  simp only [sqStepE, f64_eq, mulE_eq, sqStep, lt64_eq, eq64_eq]
  by_cases h : (mulF (r ||| bitOf (k + 1)) (r ||| bitOf (k + 1))).1.toNat < p.toNat ∨ ((mulF (r ||| bitOf (k + 1)) (r ||| bitOf (k + 1))).1.toNat = p.toNat ∧ (mulF (r ||| bitOf (k + 1)) (r ||| bitOf (k + 1))).2.toNat = 0)
  · rw [if_pos h]
    have : (decide ((mulF (r ||| bitOf (k + 1)) (r ||| bitOf (k + 1))).1.toNat < p.toNat) || (decide ((mulF (r ||| bitOf (k + 1)) (r ||| bitOf (k + 1))).1.toNat = p.toNat) && decide ((mulF (r ||| bitOf (k + 1)) (r ||| bitOf (k + 1))).2.toNat = (0 : BitVec 64).toNat))) = true := by
      simpa using h
    rw [this]; rfl
  · rw [if_neg h]
    have : (decide ((mulF (r ||| bitOf (k + 1)) (r ||| bitOf (k + 1))).1.toNat < p.toNat) || (decide ((mulF (r ||| bitOf (k + 1)) (r ||| bitOf (k + 1))).1.toNat = p.toNat) && decide ((mulF (r ||| bitOf (k + 1)) (r ||| bitOf (k + 1))).2.toNat = (0 : BitVec 64).toNat))) = false := by
      rw [← Bool.not_eq_true]; intro h2; apply h; simpa using h2
    rw [this]; rfl
def sqGoE (p : BitVec 64) : Nat → BitVec 64 → BitVec 64
  | 0, r => r
  | k + 1, r => sqStepE p k r fun r => sqGoE p k r
theorem sqGoE_eq (p : BitVec 64) : ∀ k r, sqGoE p k r = sqGo p k r := by
  intro k
  induction k with
  | zero => intro r; rfl
  | succ k ih => intro r; simp only [sqGoE, sqStepE_eq, ih, sqGo]
def cuStepE {α : Type} (p : BitVec 64) (k : Nat) (r : BitVec 64) (K : BitVec 64 → α) : α :=
  f64 (r ||| bitOf (k + 1)) fun x => mulE x x fun hi lo => mulE lo x fun up low => f64 (up + hi * x) fun up => f64 (p <<< 32) fun q => bif lt64 up q || (eq64 up q && eq64 low 0) then K x else K r
theorem cuStepE_eq {α : Type} (p : BitVec 64) (k : Nat) (r : BitVec 64) (K : BitVec 64 → α) : cuStepE p k r K = K (cuStep p k r) := by
  simp only [cuStepE, f64_eq, mulE_eq, cuStep, lt64_eq, eq64_eq]
  generalize r ||| bitOf (k + 1) = x
  have : (decide (((mulF (mulF x x).2 x).1 + (mulF x x).1 * x).toNat < (p <<< 32).toNat) || (decide (((mulF (mulF x x).2 x).1 + (mulF x x).1 * x).toNat = (p <<< 32).toNat) && decide ((mulF (mulF x x).2 x).2.toNat = (0 : BitVec 64).toNat))) = cuTest p x := rfl
  rw [this]
  cases cuTest p x <;> rfl
def cuGoE (p : BitVec 64) : Nat → BitVec 64 → BitVec 64
  | 0, r => r
  | k + 1, r => cuStepE p k r fun r => cuGoE p k r
theorem cuGoE_eq (p : BitVec 64) : ∀ k r, cuGoE p k r = cuGo p k r := by
  intro k
  induction k with
  | zero => intro r; rfl
  | succ k ih => intro r; simp only [cuGoE, cuStepE_eq, ih, cuGo]
theorem sq_tab : (PS.take 8).map (fun p => BitVec.ofNat 32 (sqGo (BitVec.ofNat 64 p) 38 0).toNat) = H0.list := by
  simp only [← sqGoE_eq]; kernel_rfl
theorem cu_tab : PS.map (fun p => BitVec.ofNat 32 (cuGo (BitVec.ofNat 64 p) 37 0).toNat) = KT := by
  simp only [← cuGoE_eq]; kernel_rfl
end Go.Proofs.Ytmlcdkckedjdjaa
