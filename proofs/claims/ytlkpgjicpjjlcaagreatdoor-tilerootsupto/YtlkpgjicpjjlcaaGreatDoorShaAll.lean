import Derived.KernelRfl
import Derived.Test.YtlkpgjicpjjlcaaGreatDoorProg
import Derived.Test.YtlkpgjicpjjlcaaGreatDoorVc9
/- SHA-256 in plain Lean: the sum, and how it is made in pieces; a second form that the kernel reckons fast. -/
set_option linter.unusedVariables false
set_option linter.unusedSimpArgs false
namespace Go.Sha
abbrev U := BitVec 32
def rotr (x : U) (n : Nat) : U := x >>> n ||| x <<< (32 - n)
def bs0 (x : U) : U := rotr x 2 ^^^ rotr x 13 ^^^ rotr x 22
def bs1 (x : U) : U := rotr x 6 ^^^ rotr x 11 ^^^ rotr x 25
def ss0 (x : U) : U := rotr x 7 ^^^ rotr x 18 ^^^ x >>> 3
def ss1 (x : U) : U := rotr x 17 ^^^ rotr x 19 ^^^ x >>> 10
def ch (e f g : U) : U := (e &&& f) ^^^ (~~~e &&& g)
def maj (a b c : U) : U := (a &&& b) ^^^ (a &&& c) ^^^ (b &&& c)
theorem ch_alt (e f g : U) : g ^^^ (e &&& (f ^^^ g)) = ch e f g := by
  apply BitVec.eq_of_getLsbD_eq
  intro i hi
  simp only [ch, BitVec.getLsbD_xor, BitVec.getLsbD_and, BitVec.getLsbD_not, hi, decide_true, Bool.true_and]
  cases e.getLsbD i <;> cases f.getLsbD i <;> cases g.getLsbD i <;> rfl
theorem maj_alt (a b c : U) : (a &&& b) ||| (c &&& (a ||| b)) = maj a b c := by
  apply BitVec.eq_of_getLsbD_eq
  intro i hi
  simp only [maj, BitVec.getLsbD_xor, BitVec.getLsbD_and, BitVec.getLsbD_or]
  cases a.getLsbD i <;> cases b.getLsbD i <;> cases c.getLsbD i <;> rfl

structure St where
  a : U
  b : U
  c : U
  d : U
  e : U
  f : U
  g : U
  h : U
def St.list (s : St) : List U := [s.a, s.b, s.c, s.d, s.e, s.f, s.g, s.h]
def St.add (s n : St) : St := ⟨s.a + n.a, s.b + n.b, s.c + n.c, s.d + n.d, s.e + n.e, s.f + n.f, s.g + n.g, s.h + n.h⟩

def KT : List U := [
  0x428a2f98, 0x71374491, 0xb5c0fbcf, 0xe9b5dba5, 0x3956c25b, 0x59f111f1, 0x923f82a4, 0xab1c5ed5, 0xd807aa98, 0x12835b01, 0x243185be, 0x550c7dc3, 0x72be5d74, 0x80deb1fe, 0x9bdc06a7, 0xc19bf174,
  0xe49b69c1, 0xefbe4786, 0x0fc19dc6, 0x240ca1cc, 0x2de92c6f, 0x4a7484aa, 0x5cb0a9dc, 0x76f988da, 0x983e5152, 0xa831c66d, 0xb00327c8, 0xbf597fc7, 0xc6e00bf3, 0xd5a79147, 0x06ca6351, 0x14292967,
  0x27b70a85, 0x2e1b2138, 0x4d2c6dfc, 0x53380d13, 0x650a7354, 0x766a0abb, 0x81c2c92e, 0x92722c85, 0xa2bfe8a1, 0xa81a664b, 0xc24b8b70, 0xc76c51a3, 0xd192e819, 0xd6990624, 0xf40e3585, 0x106aa070,
  0x19a4c116, 0x1e376c08, 0x2748774c, 0x34b0bcb5, 0x391c0cb3, 0x4ed8aa4a, 0x5b9cca4f, 0x682e6ff3, 0x748f82ee, 0x78a5636f, 0x84c87814, 0x8cc70208, 0x90befffa, 0xa4506ceb, 0xbef9a3f7, 0xc67178f2]
def H0 : St := ⟨0x6a09e667, 0xbb67ae85, 0x3c6ef372, 0xa54ff53a, 0x510e527f, 0x9b05688c, 0x1f83d9ab, 0x5be0cd19⟩

def step (s : St) (k w : U) : St :=
  let t := s.h + bs1 s.e + ch s.e s.f s.g + k + w
  let u := bs0 s.a + maj s.a s.b s.c
  ⟨t + u, s.a, s.b, s.c, s.d + t, s.e, s.f, s.g⟩

def byte (l : List UInt8) (i : Nat) : UInt8 := l.getD i 0
def be4 (a b c d : UInt8) : U := BitVec.ofNat 32 (a.toNat * 16777216 + b.toNat * 65536 + c.toNat * 256 + d.toNat)
def word (l : List UInt8) (i : Nat) : U := be4 (byte l (4 * i)) (byte l (4 * i + 1)) (byte l (4 * i + 2)) (byte l (4 * i + 3))
def words (l : List UInt8) : List U := (List.range 16).map (word l)
def wNext (w : List U) (i : Nat) : U := ss1 (w.getD (i - 2) 0) + w.getD (i - 7) 0 + ss0 (w.getD (i - 15) 0) + w.getD (i - 16) 0
def sched (w : List U) : Nat → List U
  | 0 => w
  | n + 1 => sched w n ++ [wNext (sched w n) (16 + n)]
def rounds (s : St) (ks ws : List U) : Nat → St
  | 0 => s
  | n + 1 => step (rounds s ks ws n) (ks.getD n 0) (ws.getD n 0)
def compress (s : St) (blk : List UInt8) : St := s.add (rounds s KT (sched (words blk) 48) 64)
def run : Nat → St → List UInt8 → St
  | 0, s, _ => s
  | n + 1, s, m => run n (compress s (m.take 64)) (m.drop 64)
def be8 (n : Nat) : List UInt8 := (List.range 8).map fun i => UInt8.ofNat (n >>> (56 - 8 * i))
def pad (m : List UInt8) : List UInt8 := m ++ 0x80 :: (List.replicate ((119 - m.length % 64) % 64) 0 ++ be8 (8 * m.length))
def four (x : U) : List UInt8 := [UInt8.ofNat (x.toNat >>> 24), UInt8.ofNat (x.toNat >>> 16), UInt8.ofNat (x.toNat >>> 8), UInt8.ofNat x.toNat]
def out (s : St) : List UInt8 := s.list.flatMap four
def sha (m : List UInt8) : List UInt8 := out (run ((pad m).length / 64) H0 (pad m))
def shaB (s : ByteArray) : ByteArray := ⟨(sha s.data.toList).toArray⟩

theorem sched_length (w : List U) (hw : w.length = 16) (n : Nat) : (sched w n).length = 16 + n := by
  induction n with
  | zero => simpa [sched] using hw
  | succ n ih => simp [sched, ih]; omega
theorem words_length (l : List UInt8) : (words l).length = 16 := by simp [words]
theorem out_length (s : St) : (out s).length = 32 := rfl
theorem sha_length (m : List UInt8) : (sha m).length = 32 := out_length _
theorem shaB_size (s : ByteArray) : (shaB s).size = 32 := by
  show (sha s.data.toList).toArray.size = 32
  rw [List.size_toArray, sha_length]
theorem pad_length (m : List UInt8) : (pad m).length % 64 = 0 := by
  simp [pad, be8]; omega
theorem run_add (a b : Nat) : ∀ (s : St) (m : List UInt8), run (a + b) s m = run b (run a s m) (m.drop (64 * a)) := by
  induction a with
  | zero => intro s m; simp [run]
  | succ a ih =>
    intro s m
    rw [show a + 1 + b = (a + b) + 1 from by omega]
    simp only [run]
    rw [ih, List.drop_drop, show 64 + 64 * a = 64 * (a + 1) from by omega]
theorem run_app (a : Nat) : ∀ (s : St) (m x : List UInt8), 64 * a ≤ m.length → run a s (m ++ x) = run a s m := by
  induction a with
  | zero => intros; rfl
  | succ a ih =>
    intro s m x h
    simp only [run]
    rw [List.take_append_of_le_length (by omega), List.drop_append_of_le_length (by omega), ih _ _ _ (by simp; omega)]

/-! ### a form for the kernel -/
def fc {α : Type} (n : Nat) (K : Nat → α) : α :=
  match n with
  | 0 => K 0
  | m + 1 => K (m + 1)
theorem fc_eq {α : Type} (n : Nat) (K : Nat → α) : fc n K = K n := by cases n <;> rfl
def fb {α : Type} (x : U) (K : U → α) : α := fc x.toNat fun n => K (BitVec.ofNat 32 n)
theorem fb_eq {α : Type} (x : U) (K : U → α) : fb x K = K x := by simp [fb, fc_eq]

def nth : List U → Nat → U
  | [], _ => 0
  | x :: _, 0 => x
  | _ :: l, n + 1 => nth l n
theorem nth_eq (l : List U) : ∀ n, nth l n = l.getD n 0 := by
  induction l with
  | nil => intro n; rfl
  | cons x l ih => intro n; cases n with
    | zero => rfl
    | succ n => simp [nth, ih]
def schedE : Nat → List U → List U
  | 0, r => r
  | n + 1, r => fb (ss1 (nth r 1) + nth r 6 + ss0 (nth r 14) + nth r 15) fun x => schedE n (x :: r)
theorem schedE_eq (w : List U) (hw : w.length = 16) (n : Nat) : ∀ k, schedE n (sched w k).reverse = (sched w (k + n)).reverse := by
  induction n with
  | zero => intro k; rfl
  | succ n ih =>
    intro k
    have hl := sched_length w hw k
    simp only [schedE, fb_eq, nth_eq]
    have e : ∀ j, j < 16 → (sched w k).reverse.getD j 0 = (sched w k).getD (16 + k - (j + 1)) 0 := by
      intro j hj
      simp only [List.getD_eq_getElem?_getD]
      rw [List.getElem?_reverse (by omega), hl]
      congr 2; omega
    rw [e 1 (by omega), e 6 (by omega), e 14 (by omega), e 15 (by omega)]
    have := ih (k + 1)
    rw [show k + (n + 1) = k + 1 + n from by omega, ← this]
    congr 1
    simp [sched, wNext]
def stepE {α : Type} (s : St) (k w : U) (K : St → α) : α :=
  fb (s.h + bs1 s.e + ch s.e s.f s.g + k + w) fun t => fb (t + (bs0 s.a + maj s.a s.b s.c)) fun x => fb (s.d + t) fun y => K ⟨x, s.a, s.b, s.c, y, s.e, s.f, s.g⟩
theorem stepE_eq {α : Type} (s : St) (k w : U) (K : St → α) : stepE s k w K = K (step s k w) := by simp [stepE, fb_eq, step]
def roundsE : List U → List U → St → St
  | k :: ks, w :: ws, s => stepE s k w fun s => roundsE ks ws s
  | _, _, s => s
theorem rounds_le (ks ws : List U) (n : Nat) : ∀ (s : St) (k : U) (w : U), rounds (step s k w) ks ws n = rounds s (k :: ks) (w :: ws) (n + 1) := by
  induction n with
  | zero => intro s k w; rfl
  | succ n ih => intro s k w; rw [rounds, ih]; rfl
theorem roundsE_eq : ∀ (ks ws : List U) (s : St), ks.length = ws.length → roundsE ks ws s = rounds s ks ws ks.length := by
  intro ks
  induction ks with
  | nil => intro ws s h; rfl
  | cons k ks ih =>
    intro ws s h
    cases ws with
    | nil => simp at h
    | cons w ws => simp only [roundsE, stepE_eq, List.length_cons]; rw [ih _ _ (by simpa using h), rounds_le]
def forceL {α : Type} : List U → (List U → α) → α
  | [], K => K []
  | x :: l, K => fb x fun x => forceL l fun l => K (x :: l)
theorem forceL_eq {α : Type} (l : List U) : ∀ (K : List U → α), forceL l K = K l := by
  induction l with
  | nil => intro K; rfl
  | cons x l ih => intro K; simp [forceL, fb_eq, ih]
def forceS {α : Type} (s : St) (K : St → α) : α := fb s.a fun a => fb s.b fun b => fb s.c fun c => fb s.d fun d => fb s.e fun e => fb s.f fun f => fb s.g fun g => fb s.h fun h => K ⟨a, b, c, d, e, f, g, h⟩
theorem forceS_eq {α : Type} (s : St) (K : St → α) : forceS s K = K s := by simp [forceS, fb_eq]
def wordsE : Nat → List UInt8 → List U
  | n + 1, a :: b :: c :: d :: l => be4 a b c d :: wordsE n l
  | _, _ => []
theorem wordsE_eq : ∀ (n : Nat) (l : List UInt8), 4 * n ≤ l.length → wordsE n l = (List.range n).map (word l) := by
  intro n
  induction n with
  | zero => intro l _; cases l <;> rfl
  | succ n ih =>
    intro l h
    match l, h with
    | a :: b :: c :: d :: l, h =>
      simp only [List.length_cons] at h
      rw [wordsE, ih l (by omega), List.range_succ_eq_map, List.map_cons, List.map_map]
      congr 1
    | [], h => simp at h
    | [_], h => simp at h; omega
    | [_, _], h => simp at h; omega
    | [_, _, _], h => simp at h; omega
def compressE (s : St) (blk : List UInt8) : St :=
  forceL (wordsE 16 blk) fun w => forceS (s.add (roundsE KT (schedE 48 w.reverse).reverse s)) id
theorem compressE_eq (s : St) (blk : List UInt8) (h : blk.length = 64) : compressE s blk = compress s blk := by
  have hl := words_length blk
  simp only [compressE, forceL_eq, forceS_eq, id]
  rw [wordsE_eq 16 blk (by omega)]
  change s.add (roundsE KT (schedE 48 (words blk).reverse).reverse s) = _
  have := schedE_eq (words blk) hl 48 0
  rw [show sched (words blk) 0 = words blk from rfl] at this
  rw [this, List.reverse_reverse, roundsE_eq _ _ _ (by rw [sched_length _ hl]; rfl)]
  rfl
def runE : Nat → St → List UInt8 → St
  | 0, s, _ => s
  | n + 1, s, m => runE n (compressE s (m.take 64)) (m.drop 64)
theorem runE_eq : ∀ (n : Nat) (s : St) (m : List UInt8), 64 * n ≤ m.length → runE n s m = run n s m := by
  intro n
  induction n with
  | zero => intros; rfl
  | succ n ih =>
    intro s m h
    simp only [runE, run]
    rw [compressE_eq _ _ (by simp; omega), ih _ _ (by simp; omega)]
def shaE (m : List UInt8) : List UInt8 := out (runE ((pad m).length / 64) H0 (pad m))
theorem shaE_eq (m : List UInt8) : shaE m = sha m := by
  unfold shaE sha
  rw [runE_eq _ _ _ (by have := pad_length m; omega)]
set_option maxRecDepth 100000 in
theorem sha_abc : sha [97, 98, 99] = [0xba, 0x78, 0x16, 0xbf, 0x8f, 0x01, 0xcf, 0xea, 0x41, 0x41, 0x40, 0xde, 0x5d, 0xae, 0x22, 0x23, 0xb0, 0x03, 0x61, 0xa3, 0x96, 0x17, 0x7a, 0x9c, 0xb4, 0x10, 0xff, 0x61, 0xf2, 0x00, 0x15, 0xad] := by
  rw [← shaE_eq]
  kernel_rfl
end Go.Sha

/- SHA-256's small functions: products, turns, roots, primes, the numbers at first. -/
set_option linter.unusedSimpArgs false
namespace Go.Proofs.YtlkpgjicpjjlcaaGreatDoor
open Go Go.Vc Go.Sha
set_option maxRecDepth 10000
set_option linter.unusedVariables false

theorem rot_n : ∀ m : Nat, m < 32 → (m : Int) = IntKind.u64.wrap ((BitVec.ofInt (IntKind.bits .u64) (m : Int) &&& BitVec.ofInt (IntKind.bits .u64) 31).toNat : Int) := by decide
theorem rot_spec (x : BitVec 32) (n : Int) (hn : 0 ≤ n ∧ n ≤ 31) (h : Heap) (t : Nat) :
    CallSpec Tryz.prog 120 #[.int .u32 (x.toNat : Int), .int .i64 n] h t (fun v h' t' => v = u32v (x <<< n.toNat ||| x >>> (32 - n).toNat) ∧ h = h' ∧ t = t') := by
  obtain ⟨m, rfl⟩ := Int.eq_ofNat_of_zero_le hn.1
  refine Go.Vc.spec_of_vc (fn := Tryz.f120) Tryz.func120 rfl (by kernel_rfl) (by kernel_rfl) (Nat.le_of_ble_eq_true rfl) ?_
  intro hd
  conv => whnf
  repeat (first | ((with_reducible apply Go.Vc.wr_u64); (focus exact And.intro (by omega) (by omega)); conv => whnf))
  refine ⟨m, rot_n m (by omega), ?_⟩
  conv => whnf
  repeat (first | ((with_reducible apply Go.Vc.or32); conv => whnf) | ((with_reducible apply Go.Vc.shl32); conv => whnf) | ((with_reducible apply Go.Vc.shr32); conv => whnf) | ((with_reducible apply Go.Vc.wr_u64); (focus exact And.intro (by omega) (by omega)); conv => whnf) | ((with_reducible apply Go.Vc.and_leI); (focus omega); conv => whnf))
  exact ⟨rfl, rfl, rfl⟩

/-- The product of two words, as the library makes it. -/
def mulF (x y : BitVec 64) : BitVec 64 × BitVec 64 :=
  let x0 := x &&& 0xffffffff#64
  let x1 := x >>> 32
  let y0 := y &&& 0xffffffff#64
  let y1 := y >>> 32
  let w0 := x0 * y0
  let t := x1 * y0 + w0 >>> 32
  let w1 := t &&& 0xffffffff#64
  let w2 := t >>> 32
  let w1 := w1 + x0 * y1
  (x1 * y1 + w2 + w1 >>> 32, x * y)
theorem mul_spec (x y : BitVec 64) (h : Heap) (t : Nat) :
    CallSpec Tryz.prog 119 #[.int .u64 (x.toNat : Int), .int .u64 (y.toNat : Int)] h t (fun v h' t' => v = .tuple #[u64v (mulF x y).1, u64v (mulF x y).2] ∧ h = h' ∧ t = t') := by
  refine Go.Vc.spec_of_vc (fn := Tryz.f119) Tryz.func119 rfl (by kernel_rfl) (by kernel_rfl) (Nat.le_of_ble_eq_true rfl) ?_
  intro hd
  conv => whnf
  repeat (first | ((with_reducible apply Go.Vc.add64); conv => whnf) | ((with_reducible apply Go.Vc.mul64); conv => whnf) | ((with_reducible apply Go.Vc.and64); conv => whnf) | ((with_reducible apply Go.Vc.shr64); conv => whnf) | ((with_reducible apply Go.Vc.and_leI); (focus omega); conv => whnf))
  exact ⟨rfl, rfl, rfl⟩

def bitOf (k : Nat) : BitVec 64 := BitVec.ofNat 64 (2 ^ k / 2)
theorem bitOf_zero : bitOf 0 = 0 := rfl
theorem bitOf_succ {k : Nat} (h : k < 64) : (bitOf (k + 1)).toNat = 2 ^ k := by
  unfold bitOf
  rw [BitVec.toNat_ofNat, Nat.pow_succ, Nat.mul_div_cancel _ (by omega)]
  exact Nat.mod_eq_of_lt (Nat.pow_lt_pow_right (by omega) h)
theorem bitOf_shr {k : Nat} (h : k < 64) : bitOf (k + 1) >>> 1 = bitOf k := by
  apply BitVec.eq_of_toNat_eq
  rw [BitVec.toNat_ushiftRight, bitOf_succ h]
  cases k with
  | zero => rfl
  | succ k => rw [bitOf_succ (by omega), Nat.shiftRight_eq_div_pow, Nat.pow_succ]; simp
def sqStep (p : BitVec 64) (k : Nat) (r : BitVec 64) : BitVec 64 :=
  let x := r ||| bitOf (k + 1)
  if (mulF x x).1.toNat < p.toNat ∨ ((mulF x x).1.toNat = p.toNat ∧ (mulF x x).2.toNat = 0) then x else r
def sqGo (p : BitVec 64) : Nat → BitVec 64 → BitVec 64
  | 0, r => r
  | k + 1, r => sqGo p k (sqStep p k r)
theorem square_spec (p : BitVec 64) (h : Heap) (t : Nat) :
    CallSpec Tryz.prog 118 #[.int .u64 (p.toNat : Int)] h t (fun v h' t' => v = u64v (sqGo p 38 0) ∧ h = h' ∧ t = t') := by
  refine Go.Vc.spec_of_vc (fn := Tryz.f118) Tryz.func118 rfl (by kernel_rfl) (by kernel_rfl) (Nat.le_of_ble_eq_true rfl) ?_
  intro hd
  conv => whnf
  refine loop_intro2 (fun (k : Nat) (r : BitVec 64) => [(0, .int .u64 (p.toNat : Int)), (3, .int .u64 (r.toNat : Int)), (4, .int .u64 ((bitOf k).toNat : Int))])
    (fun k r h' t' => h = h' ∧ t = t' ∧ k ≤ 38 ∧ sqGo p 38 0 = sqGo p k r) (fun k _ => k) 38 0 ⟨rfl, rfl, rfl, trivial⟩ ⟨rfl, rfl, by omega, rfl⟩ ?_
  rintro k r g _ _ _ ⟨rfl, rfl, hk, hg⟩
  conv => whnf
  cases k with
  | zero =>
    refine br_f (by rw [bitOf_zero]; decide) ?_
    conv => whnf
    exact ⟨by rw [hg]; rfl, rfl, rfl⟩
  | succ k =>
    have hb := bitOf_succ (k := k) (by omega)
    have hp : 0 < 2 ^ k := Nat.pow_pos (by omega)
    refine br_t (by rw [hb]; omega) ?_
    have hsh := bitOf_shr (k := k) (by omega)
    conv => whnf
    repeat (first | ((with_reducible apply Go.Vc.or64); conv => whnf))
    refine (mul_spec _ _ _ _).mono ?_
    rintro _ _ _ _ _ ⟨rfl, rfl, rfl⟩
    conv => whnf
    have hstep : ∀ c : Prop, (c ↔ ((mulF (r ||| bitOf (k + 1)) (r ||| bitOf (k + 1))).1.toNat < p.toNat ∨ ((mulF (r ||| bitOf (k + 1)) (r ||| bitOf (k + 1))).1.toNat = p.toNat ∧ (mulF (r ||| bitOf (k + 1)) (r ||| bitOf (k + 1))).2.toNat = 0))) → (c → sqStep p k r = r ||| bitOf (k + 1)) ∧ (¬ c → sqStep p k r = r) :=
      fun c hc => ⟨fun h => if_pos (hc.1 h), fun h => if_neg (fun h2 => h (hc.2 h2))⟩
    refine br (fun hb1 => ?_) (fun hb1 => ?_)
    · have hs := (hstep True (by simp; omega)).1 trivial
      conv => whnf
      repeat (first | ((with_reducible apply Go.Vc.or64); conv => whnf) | ((with_reducible apply Go.Vc.shr64); conv => whnf) | ((with_reducible apply Go.Vc.and_leI); (focus omega); conv => whnf))
      rw [show bitOf (k + 1) >>> (Int.toNat 1) = bitOf k from hsh]
      exact round_end2 k (r ||| bitOf (k + 1)) (by omega) ⟨rfl, rfl, rfl, trivial⟩ ⟨rfl, rfl, by omega, by rw [hg, ← hs]; rfl⟩
    · conv => whnf
      refine br (fun hb2 => ?_) (fun hb2 => ?_)
      · conv => whnf
        refine br (fun hb3 => ?_) (fun hb3 => ?_)
        · have hs := (hstep True (by simp; omega)).1 trivial
          conv => whnf
          repeat (first | ((with_reducible apply Go.Vc.or64); conv => whnf) | ((with_reducible apply Go.Vc.shr64); conv => whnf) | ((with_reducible apply Go.Vc.and_leI); (focus omega); conv => whnf))
          rw [show bitOf (k + 1) >>> (Int.toNat 1) = bitOf k from hsh]
          exact round_end2 k (r ||| bitOf (k + 1)) (by omega) ⟨rfl, rfl, rfl, trivial⟩ ⟨rfl, rfl, by omega, by rw [hg, ← hs]; rfl⟩
        · have hs := (hstep False (by simp only [false_iff]; omega)).2 (fun h => h)
          conv => whnf
          repeat (first | ((with_reducible apply Go.Vc.shr64); conv => whnf) | ((with_reducible apply Go.Vc.and_leI); (focus omega); conv => whnf))
          rw [show bitOf (k + 1) >>> (Int.toNat 1) = bitOf k from hsh]
          exact round_end2 k r (by omega) ⟨rfl, rfl, rfl, trivial⟩ ⟨rfl, rfl, by omega, by rw [hg]; show sqGo p k (sqStep p k r) = _; rw [hs]⟩
      · have hs := (hstep False (by simp only [false_iff]; omega)).2 (fun h => h)
        conv => whnf
        repeat (first | ((with_reducible apply Go.Vc.shr64); conv => whnf) | ((with_reducible apply Go.Vc.and_leI); (focus omega); conv => whnf))
        rw [show bitOf (k + 1) >>> (Int.toNat 1) = bitOf k from hsh]
        exact round_end2 k r (by omega) ⟨rfl, rfl, rfl, trivial⟩ ⟨rfl, rfl, by omega, by rw [hg]; show sqGo p k (sqStep p k r) = _; rw [hs]⟩

def cuX (x : BitVec 64) : BitVec 64 × BitVec 64 :=
  let m := mulF x x
  let u := mulF m.2 x
  (u.1 + m.1 * x, u.2)
def cuTest (p x : BitVec 64) : Bool := decide ((cuX x).1.toNat < (p <<< 32).toNat) || (decide ((cuX x).1.toNat = (p <<< 32).toNat) && decide ((cuX x).2.toNat = 0))
def cuStep (p : BitVec 64) (k : Nat) (r : BitVec 64) : BitVec 64 := bif cuTest p (r ||| bitOf (k + 1)) then r ||| bitOf (k + 1) else r
theorem cuStep_t {p : BitVec 64} {k : Nat} {r : BitVec 64} (h : cuTest p (r ||| bitOf (k + 1)) = true) : cuStep p k r = r ||| bitOf (k + 1) := by unfold cuStep; rw [h]; rfl
theorem cuStep_f {p : BitVec 64} {k : Nat} {r : BitVec 64} (h : cuTest p (r ||| bitOf (k + 1)) = false) : cuStep p k r = r := by unfold cuStep; rw [h]; rfl
def cuGo (p : BitVec 64) : Nat → BitVec 64 → BitVec 64
  | 0, r => r
  | k + 1, r => cuGo p k (cuStep p k r)
theorem cube_spec (p : BitVec 64) (h : Heap) (t : Nat) :
    CallSpec Tryz.prog 99 #[.int .u64 (p.toNat : Int)] h t (fun v h' t' => v = u64v (cuGo p 37 0) ∧ h = h' ∧ t = t') := by
  refine Go.Vc.spec_of_vc (fn := Tryz.f99) Tryz.func99 rfl (by kernel_rfl) (by kernel_rfl) (Nat.le_of_ble_eq_true rfl) ?_
  intro hd
  conv => whnf
  refine loop_intro2 (fun (k : Nat) (r : BitVec 64) => [(0, .int .u64 (p.toNat : Int)), (3, .int .u64 (r.toNat : Int)), (4, .int .u64 ((bitOf k).toNat : Int))])
    (fun k r h' t' => h = h' ∧ t = t' ∧ k ≤ 37 ∧ cuGo p 37 0 = cuGo p k r) (fun k _ => k) 37 0 ⟨rfl, rfl, rfl, trivial⟩ ⟨rfl, rfl, by omega, rfl⟩ ?_
  rintro k r g _ _ _ ⟨rfl, rfl, hk, hg⟩
  conv => whnf
  cases k with
  | zero =>
    refine br_f (by rw [bitOf_zero]; decide) ?_
    conv => whnf
    exact ⟨by rw [hg]; rfl, rfl, rfl⟩
  | succ k =>
    have hb := bitOf_succ (k := k) (by omega)
    have hp : 0 < 2 ^ k := Nat.pow_pos (by omega)
    refine br_t (by rw [hb]; omega) ?_
    have hsh := bitOf_shr (k := k) (by omega)
    have hstep : ∀ c : Prop, (c ↔ ((cuX (r ||| bitOf (k + 1))).1.toNat < (p <<< 32).toNat ∨ ((cuX (r ||| bitOf (k + 1))).1.toNat = (p <<< 32).toNat ∧ (cuX (r ||| bitOf (k + 1))).2.toNat = 0))) → (c → cuStep p k r = r ||| bitOf (k + 1)) ∧ (¬ c → cuStep p k r = r) := by
      intro c hc
      refine ⟨fun h => cuStep_t ?_, fun h => cuStep_f ?_⟩
      · have := hc.1 h
        simp only [cuTest, Bool.or_eq_true, Bool.and_eq_true, decide_eq_true_eq]; exact this
      · have := fun h2 => h (hc.2 h2)
        simp only [cuTest, Bool.or_eq_false_iff, Bool.and_eq_false_imp, decide_eq_false_iff_not, decide_eq_true_eq]
        exact ⟨fun h2 => this (.inl h2), fun h2 h3 => this (.inr ⟨h2, h3⟩)⟩
    have e1 : (mulF (mulF (r ||| bitOf (k + 1)) (r ||| bitOf (k + 1))).2 (r ||| bitOf (k + 1))).1 + (mulF (r ||| bitOf (k + 1)) (r ||| bitOf (k + 1))).1 * (r ||| bitOf (k + 1)) = (cuX (r ||| bitOf (k + 1))).1 := rfl
    have e2 : (mulF (mulF (r ||| bitOf (k + 1)) (r ||| bitOf (k + 1))).2 (r ||| bitOf (k + 1))).2 = (cuX (r ||| bitOf (k + 1))).2 := rfl
    obtain ⟨P, hP⟩ : ∃ P : BitVec 64, p <<< (Int.toNat 32) = P := ⟨_, rfl⟩
    rw [show p <<< 32 = P from hP] at hstep
    conv => whnf
    repeat (first | ((with_reducible apply Go.Vc.or64); conv => whnf))
    refine (mul_spec _ _ _ _).mono ?_
    rintro _ _ _ _ _ ⟨rfl, rfl, rfl⟩
    conv => whnf
    refine (mul_spec _ _ _ _).mono ?_
    rintro _ _ _ _ _ ⟨rfl, rfl, rfl⟩
    conv => whnf
    repeat (first | ((with_reducible apply Go.Vc.add64); conv => whnf) | ((with_reducible apply Go.Vc.mul64); conv => whnf) | ((with_reducible apply Go.Vc.shl64); conv => whnf) | ((with_reducible apply Go.Vc.and_leI); (focus omega); conv => whnf))
    rw [e1, e2]
    generalize hX : cuX (r ||| bitOf (k + 1)) = X at *
    refine br (fun hb1 => ?_) (fun hb1 => ?_)
    · rw [hP] at hb1
      have hs := (hstep True (by simp; omega)).1 trivial
      conv => whnf
      repeat (first | ((with_reducible apply Go.Vc.shr64); conv => whnf) | ((with_reducible apply Go.Vc.and_leI); (focus omega); conv => whnf))
      rw [show bitOf (k + 1) >>> (Int.toNat 1) = bitOf k from hsh]
      exact round_end2 k (r ||| bitOf (k + 1)) (by omega) ⟨rfl, rfl, rfl, trivial⟩ ⟨rfl, rfl, by omega, by rw [hg, ← hs]; rfl⟩
    · rw [hP] at hb1
      conv => whnf
      repeat (first | ((with_reducible apply Go.Vc.shl64); conv => whnf) | ((with_reducible apply Go.Vc.and_leI); (focus omega); conv => whnf))
      refine br (fun hb2 => ?_) (fun hb2 => ?_)
      · rw [hP] at hb2
        conv => whnf
        refine br (fun hb3 => ?_) (fun hb3 => ?_)
        · have hs := (hstep True (by simp; omega)).1 trivial
          conv => whnf
          repeat (first | ((with_reducible apply Go.Vc.shr64); conv => whnf) | ((with_reducible apply Go.Vc.and_leI); (focus omega); conv => whnf))
          rw [show bitOf (k + 1) >>> (Int.toNat 1) = bitOf k from hsh]
          exact round_end2 k (r ||| bitOf (k + 1)) (by omega) ⟨rfl, rfl, rfl, trivial⟩ ⟨rfl, rfl, by omega, by rw [hg, ← hs]; rfl⟩
        · have hs := (hstep False (by simp only [false_iff]; omega)).2 (fun h => h)
          conv => whnf
          repeat (first | ((with_reducible apply Go.Vc.shr64); conv => whnf) | ((with_reducible apply Go.Vc.and_leI); (focus omega); conv => whnf))
          rw [show bitOf (k + 1) >>> (Int.toNat 1) = bitOf k from hsh]
          exact round_end2 k r (by omega) ⟨rfl, rfl, rfl, trivial⟩ ⟨rfl, rfl, by omega, by rw [hg]; show cuGo p k (cuStep p k r) = _; rw [hs]⟩
      · rw [hP] at hb2
        have hs := (hstep False (by simp only [false_iff]; omega)).2 (fun h => h)
        conv => whnf
        repeat (first | ((with_reducible apply Go.Vc.shr64); conv => whnf) | ((with_reducible apply Go.Vc.and_leI); (focus omega); conv => whnf))
        rw [show bitOf (k + 1) >>> (Int.toNat 1) = bitOf k from hsh]
        exact round_end2 k r (by omega) ⟨rfl, rfl, rfl, trivial⟩ ⟨rfl, rfl, by omega, by rw [hg]; show cuGo p k (cuStep p k r) = _; rw [hs]⟩
end Go.Proofs.YtlkpgjicpjjlcaaGreatDoor

/- The primes, and what their roots are: reckoned by the kernel. -/
set_option linter.unusedSimpArgs false
namespace Go.Proofs.YtlkpgjicpjjlcaaGreatDoor
open Go Go.Vc Go.Sha
set_option maxRecDepth 10000
set_option linter.unusedVariables false

def PS : List Nat := [2, 3, 5, 7, 11, 13, 17, 19, 23, 29, 31, 37, 41, 43, 47, 53, 59, 61, 67, 71, 73, 79, 83, 89, 97, 101, 103, 107, 109, 113, 127, 131, 137, 139, 149, 151, 157, 163, 167, 173, 179, 181, 191, 193, 197, 199, 211, 223, 227, 229, 233, 239, 241, 251, 257, 263, 269, 271, 277, 281, 283, 293, 307, 311]
def f64 {α : Type} (x : BitVec 64) (K : BitVec 64 → α) : α := fc x.toNat fun n => K (BitVec.ofNat 64 n)
theorem f64_eq {α : Type} (x : BitVec 64) (K : BitVec 64 → α) : f64 x K = K x := by simp [f64, fc_eq]
def mulE {α : Type} (x y : BitVec 64) (K : BitVec 64 → BitVec 64 → α) : α :=
  f64 (x &&& 0xffffffff#64) fun x0 => f64 (x >>> 32) fun x1 => f64 (y &&& 0xffffffff#64) fun y0 => f64 (y >>> 32) fun y1 =>
  f64 (x1 * y0 + (x0 * y0) >>> 32) fun t => f64 ((t &&& 0xffffffff#64) + x0 * y1) fun w1 => f64 (x1 * y1 + t >>> 32 + w1 >>> 32) fun hi => f64 (x * y) fun lo => K hi lo
theorem mulE_eq {α : Type} (x y : BitVec 64) (K : BitVec 64 → BitVec 64 → α) : mulE x y K = K (mulF x y).1 (mulF x y).2 := by simp only [mulE, f64_eq, mulF]
def lt64 (x y : BitVec 64) : Bool := Nat.blt x.toNat y.toNat
def eq64 (x y : BitVec 64) : Bool := Nat.beq x.toNat y.toNat
def sqStepE {α : Type} (p : BitVec 64) (k : Nat) (r : BitVec 64) (K : BitVec 64 → α) : α :=
  f64 (r ||| bitOf (k + 1)) fun x => mulE x x fun hi lo => bif lt64 hi p || (eq64 hi p && eq64 lo 0) then K x else K r
theorem lt64_eq (x y : BitVec 64) : lt64 x y = decide (x.toNat < y.toNat) := by
  unfold lt64; rw [Bool.eq_iff_iff]; simp
theorem eq64_eq (x y : BitVec 64) : eq64 x y = decide (x.toNat = y.toNat) := by
  unfold eq64; rw [Bool.eq_iff_iff]; simp
theorem sqStepE_eq {α : Type} (p : BitVec 64) (k : Nat) (r : BitVec 64) (K : BitVec 64 → α) : sqStepE p k r K = K (sqStep p k r) := by
  simp only [sqStepE, f64_eq, mulE_eq, sqStep, lt64_eq, eq64_eq]
  by_cases h : (mulF (r ||| bitOf (k + 1)) (r ||| bitOf (k + 1))).1.toNat < p.toNat ∨ ((mulF (r ||| bitOf (k + 1)) (r ||| bitOf (k + 1))).1.toNat = p.toNat ∧ (mulF (r ||| bitOf (k + 1)) (r ||| bitOf (k + 1))).2.toNat = 0)
  · rw [if_pos h]
    have : (decide ((mulF (r ||| bitOf (k + 1)) (r ||| bitOf (k + 1))).1.toNat < p.toNat) || (decide ((mulF (r ||| bitOf (k + 1)) (r ||| bitOf (k + 1))).1.toNat = p.toNat) && decide ((mulF (r ||| bitOf (k + 1)) (r ||| bitOf (k + 1))).2.toNat = (0 : BitVec 64).toNat))) = true := by
      simpa using h
    rw [this]; rfl
  · rw [if_neg h]
    have : (decide ((mulF (r ||| bitOf (k + 1)) (r ||| bitOf (k + 1))).1.toNat < p.toNat) || (decide ((mulF (r ||| bitOf (k + 1)) (r ||| bitOf (k + 1))).1.toNat = p.toNat) && decide ((mulF (r ||| bitOf (k + 1)) (r ||| bitOf (k + 1))).2.toNat = (0 : BitVec 64).toNat))) = false := by
      rw [← Bool.not_eq_true]; intro h2; apply h; simpa using h2
    rw [this]; rfl
def sqGoE (p : BitVec 64) : Nat → BitVec 64 → BitVec 64
  | 0, r => r
  | k + 1, r => sqStepE p k r fun r => sqGoE p k r
theorem sqGoE_eq (p : BitVec 64) : ∀ k r, sqGoE p k r = sqGo p k r := by
  intro k
  induction k with
  | zero => intro r; rfl
  | succ k ih => intro r; simp only [sqGoE, sqStepE_eq, ih, sqGo]
def cuStepE {α : Type} (p : BitVec 64) (k : Nat) (r : BitVec 64) (K : BitVec 64 → α) : α :=
  f64 (r ||| bitOf (k + 1)) fun x => mulE x x fun hi lo => mulE lo x fun up low => f64 (up + hi * x) fun up => f64 (p <<< 32) fun q => bif lt64 up q || (eq64 up q && eq64 low 0) then K x else K r
theorem cuStepE_eq {α : Type} (p : BitVec 64) (k : Nat) (r : BitVec 64) (K : BitVec 64 → α) : cuStepE p k r K = K (cuStep p k r) := by
  simp only [cuStepE, f64_eq, mulE_eq, cuStep, lt64_eq, eq64_eq]
  generalize r ||| bitOf (k + 1) = x
  have : (decide (((mulF (mulF x x).2 x).1 + (mulF x x).1 * x).toNat < (p <<< 32).toNat) || (decide (((mulF (mulF x x).2 x).1 + (mulF x x).1 * x).toNat = (p <<< 32).toNat) && decide ((mulF (mulF x x).2 x).2.toNat = (0 : BitVec 64).toNat))) = cuTest p x := rfl
  rw [this]
  cases cuTest p x <;> rfl
def cuGoE (p : BitVec 64) : Nat → BitVec 64 → BitVec 64
  | 0, r => r
  | k + 1, r => cuStepE p k r fun r => cuGoE p k r
theorem cuGoE_eq (p : BitVec 64) : ∀ k r, cuGoE p k r = cuGo p k r := by
  intro k
  induction k with
  | zero => intro r; rfl
  | succ k ih => intro r; simp only [cuGoE, cuStepE_eq, ih, cuGo]
theorem sq_tab : (PS.take 8).map (fun p => BitVec.ofNat 32 (sqGo (BitVec.ofNat 64 p) 38 0).toNat) = H0.list := by
  simp only [← sqGoE_eq]; kernel_rfl
theorem cu_tab : PS.map (fun p => BitVec.ofNat 32 (cuGo (BitVec.ofNat 64 p) 37 0).toNat) = KT := by
  simp only [← cuGoE_eq]; kernel_rfl
end Go.Proofs.YtlkpgjicpjjlcaaGreatDoor

/- The primes, the numbers at first, and New. -/
set_option linter.unusedSimpArgs false
namespace Go.Proofs.YtlkpgjicpjjlcaaGreatDoor
open Go Go.Vc Go.Sha
set_option maxRecDepth 10000
set_option linter.unusedVariables false

def un (n : Nat) : Value := .int .u64 (n : Int)
def pto (i : Nat) : List Nat := (List.range 64).map fun j => if j < i then PS.getD j 0 else 0
def pv : Nat → Nat
  | 0 => 1
  | i + 1 => PS.getD i 0
@[simp] theorem pto_length (i : Nat) : (pto i).length = 64 := by simp [pto]
theorem pto_set {i : Nat} (hi : i < 64) : (pto i).set i (PS.getD i 0) = pto (i + 1) := by
  unfold pto
  apply List.ext_getElem
  · simp
  · intro j h1 h2
    simp at h1
    rw [List.getElem_set]
    simp only [List.getElem_map, List.getElem_range]
    split
    · rename_i e; subst e; rw [if_pos (by omega)]
    · rename_i e
      by_cases hj : j < i
      · rw [if_pos hj, if_pos (by omega)]
      · rw [if_neg hj, if_neg (by omega)]
theorem pto_get {i j x : Nat} (hj : j < i) (h : (pto i)[j]? = some x) : x = PS.getD j 0 := by
  unfold pto at h
  rw [List.getElem?_map] at h
  by_cases h64 : j < 64
  · rw [List.getElem?_range h64] at h
    simp only [Option.map_some, Option.some.injEq] at h
    rw [if_pos hj] at h; exact h.symm
  · rw [List.getElem?_eq_none (by simp; omega)] at h; cases h
theorem pto_all : pto 64 = PS := by kernel_rfl
def chkA : Bool := (List.range 64).all fun i => (List.range i).all fun j => PS.getD i 0 % PS.getD j 0 != 0
def chkB : Bool := (List.range 64).all fun i => (List.range (PS.getD i 0)).all fun m => Nat.ble m (pv i) || (List.range i).any fun j => m % PS.getD j 0 == 0
def chkC : Bool := (List.range 64).all fun i => Nat.blt (pv i) (PS.getD i 0) && Nat.ble (PS.getD i 0) 311 && Nat.ble 2 (PS.getD i 0)
theorem chkA_t : chkA = true := by kernel_rfl
theorem chkB_t : chkB = true := by kernel_rfl
theorem chkC_t : chkC = true := by kernel_rfl
theorem prime_no {i j : Nat} (hi : i < 64) (hj : j < i) : PS.getD i 0 % PS.getD j 0 ≠ 0 := by
  have h := chkA_t
  unfold chkA at h
  have := List.all_eq_true.1 (List.all_eq_true.1 h i (List.mem_range.2 hi)) j (List.mem_range.2 hj)
  simpa using this
theorem prime_yes {i m : Nat} (hi : i < 64) (h1 : pv i < m) (h2 : m < PS.getD i 0) : ∃ j, j < i ∧ m % PS.getD j 0 = 0 := by
  have h := chkB_t
  unfold chkB at h
  have := List.all_eq_true.1 (List.all_eq_true.1 h i (List.mem_range.2 hi)) m (List.mem_range.2 h2)
  rw [Bool.or_eq_true] at this
  rcases this with h3 | h3
  · have := Nat.le_of_ble_eq_true h3; omega
  · obtain ⟨j, hj, he⟩ := List.any_eq_true.1 h3
    exact ⟨j, List.mem_range.1 hj, by simpa using he⟩
theorem prime_range {i : Nat} (hi : i < 64) : pv i < PS.getD i 0 ∧ PS.getD i 0 ≤ 311 ∧ 2 ≤ PS.getD i 0 := by
  have h := List.all_eq_true.1 chkC_t i (List.mem_range.2 hi)
  simp only [Bool.and_eq_true] at h
  exact ⟨Nat.blt_eq ▸ h.1.1, Nat.le_of_ble_eq_true h.1.2, Nat.le_of_ble_eq_true h.2⟩

theorem primes_spec (h : Heap) (t : Nat) : CallSpec Tryz.prog 98 #[] h t (fun v h' t' => v = .agg (PS.map un).toArray ∧ Sub h h') := by
  refine Go.Vc.spec_of_vc (fn := Tryz.f98) Tryz.func98 rfl (by kernel_rfl) (by kernel_rfl) (Nat.le_of_ble_eq_true rfl) ?_
  intro hd
  conv => whnf
  repeat (first | (intro _ _; conv => whnf))
  rename_i r hr
  refine loop_intro (fun (i : Nat) => [(0, .pointer (some ⟨r, 0, none⟩)), (1, .int .u64 (pv i : Nat)), (5, .int .i64 (i : Nat))])
    (fun i h' t' => r < t' ∧ i ≤ 64 ∧ Sub h h' ∧ h' r = some (.cells ((pto i).map un).toArray 174 (0, 0))) (fun i => 64 - i) 0 ⟨rfl, rfl, rfl, trivial⟩ ⟨by omega, by omega, hd.sub_new hr _, by rw [hset_same]; rfl⟩ ?_
  rintro i g h1 t1 hd1 ⟨ht1, hi, hs1, hh1⟩
  conv => whnf
  refine br (fun hb1 => ?_) (fun hb1 => ?_)
  · have hlt : i < 64 := by omega
    have hpr := prime_range hlt
    conv => whnf
    refine loop_intro (fun (m : Nat) => [(0, .pointer (some ⟨r, 0, none⟩)), (1, .int .u64 (m : Nat)), (2, .int .i64 (i : Nat)), (5, .int .i64 (i : Nat))])
      (fun m h' t' => h1 = h' ∧ t1 = t' ∧ pv i ≤ m ∧ m < PS.getD i 0) (fun m => 312 - m) (pv i) ⟨rfl, rfl, rfl, rfl, trivial⟩ ⟨rfl, rfl, by omega, hpr.1⟩ ?_
    rintro m g2 _ _ _ ⟨rfl, rfl, hm1, hm2⟩
    conv => whnf
    repeat (first | ((with_reducible refine And.intro (And.intro ?_ ?_) ?_); (focus omega); (focus omega); conv => whnf) | ((with_reducible apply Go.Vc.wr_u64); (focus exact And.intro (by omega) (by omega)); conv => whnf))
    refine loop_intro (fun (j : Nat) => [(0, .pointer (some ⟨r, 0, none⟩)), (1, .int .u64 (m + 1 : Nat)), (2, .int .i64 (i : Nat)), (5, .int .i64 (i : Nat)), (11, .slice (some ⟨r, 0, none⟩) i 64), (12, .int .i64 (i : Nat)), (13, .int .i64 (j : Nat))])
      (fun j h' t' => h1 = h' ∧ t1 = t' ∧ j ≤ i ∧ ∀ k, k < j → (m + 1) % PS.getD k 0 ≠ 0) (fun j => i - j) 0 ⟨rfl, rfl, rfl, rfl, rfl, rfl, rfl, trivial⟩ ⟨rfl, rfl, by omega, fun k hk => by omega⟩ ?_
    rintro j g3 _ _ _ ⟨rfl, rfl, hj, hno⟩
    conv => whnf
    refine br (fun hb2 => ?_) (fun hb2 => ?_)
    · have hjl : j < i := by omega
      have hprj := prime_range (show j < 64 by omega)
      have hz : ((m + 1 : Nat) : Int) % ((PS.getD j 0 : Nat) : Int) = (((m + 1) % PS.getD j 0 : Nat) : Int) := (Int.natCast_emod _ _).symm
      conv => whnf
      repeat (first | ((with_reducible apply Go.Vc.own_ix); (focus exact And.intro (by omega) (by omega)); conv => whnf) | ((with_reducible apply Go.Vc.ar_ld); (focus ((repeat (first | with_reducible assumption | with_reducible exact Go.Vc.hset_same _ _ _ | with_reducible refine (Go.Vc.hset_ne _ _ (by omega)).trans ?_)); done)); (focus exact rfl); (focus (first | omega | (simp; done) | (simp; omega))); intro xA hxA; conv => whnf))
      obtain rfl : xA = PS.getD j 0 := pto_get (j := j) hjl hxA
      conv => whnf
      repeat (first | ((with_reducible apply Go.Vc.rem_i); (focus omega); conv => whnf) | ((with_reducible refine And.intro ?_ (And.intro ?_ ?_)); (focus exact rfl); (focus omega); conv => whnf))
      rw [hz]
      refine br (fun hb3 => ?_) (fun hb3 => ?_)
      · have hne : m + 1 ≠ PS.getD i 0 := by
          intro e
          have := prime_no hlt hjl
          rw [← e] at this
          omega
        conv => whnf
        exact round_end (m + 1) (by omega) ⟨rfl, rfl, rfl, rfl, trivial⟩ ⟨rfl, rfl, by omega, by omega⟩
      · conv => whnf
        repeat (first | ((with_reducible apply Go.Vc.wr_i64); (focus exact And.intro (by omega) (by omega)); conv => whnf))
        refine round_end (j + 1) (by omega) ⟨rfl, rfl, rfl, rfl, rfl, rfl, rfl, trivial⟩ ⟨rfl, rfl, by omega, ?_⟩
        intro k hk
        by_cases e : k = j
        · subst e; intro h0; exact hb3 (by omega)
        · exact hno k (by omega)
    · have hji : j = i := by omega
      subst hji
      have hmp : m + 1 = PS.getD j 0 := by
        apply Classical.byContradiction
        intro hne
        obtain ⟨k, hk, h0⟩ := prime_yes hlt (m := m + 1) (by omega) (by omega)
        exact hno k hk h0
      conv => whnf
      repeat (first | ((with_reducible refine And.intro (And.intro ?_ ?_) ?_); (focus omega); (focus omega); conv => whnf) | ((with_reducible apply Go.Vc.ar_st); (focus ((repeat (first | with_reducible assumption | with_reducible exact Go.Vc.hset_same _ _ _ | with_reducible refine (Go.Vc.hset_ne _ _ (by omega)).trans ?_)); done)); (focus exact rfl); (focus exact rfl); (focus (first | omega | (simp; done) | (simp; omega))); (focus exact rfl); intro heqA; (conv => whnf); intro cA hcA; rw [heqA] at hcA; clear heqA; subst hcA; conv => whnf) | ((with_reducible apply Go.Vc.wr_i64); (focus exact And.intro (by omega) (by omega)); conv => whnf))
      rw [show (pto j).set ((j : Int)).toNat (m + 1) = pto (j + 1) from by rw [hmp]; exact pto_set hlt]
      refine round_end (j + 1) (by omega) ⟨rfl, ?_, rfl, trivial⟩ ⟨by omega, by omega, ?_, hset_same _ _ _⟩
      · show Value.int _ ((m + 1 : Nat) : Int) = Value.int _ ((pv (j + 1) : Nat) : Int)
        rw [hmp]; rfl
      · intro kS oS hoS
        have hkS := hd kS oS hoS
        repeat rw [Go.Vc.hset_ne _ _ (by omega)]
        exact hs1 kS oS hoS
  · have h64 : i = 64 := by omega
    subst h64
    rw [pto_all] at hh1
    conv => whnf
    refine Go.Vc.ldrow hh1 rfl ?_
    rintro l hl
    have hl : l = PS.map un := by rw [hl]; rfl
    subst hl
    rw [Go.Vc.forceL_eq]
    conv => whnf
    refine Go.Vc.strow hh1 rfl (by kernel_rfl) rfl ?_
    rintro c hc
    have hc : c = (PS.map un).toArray := by rw [hc]; kernel_rfl
    subst hc
    conv => whnf
    refine Go.Vc.ldrow (hset_same _ _ _) rfl ?_
    rintro l hl
    have hl : l = PS.map un := by rw [hl]; rfl
    subst hl
    rw [Go.Vc.forceL_eq]
    conv => whnf
    refine ⟨rfl, ?_⟩
    intro kS oS hoS
    have hkS := hd kS oS hoS
    repeat rw [Go.Vc.hset_ne _ _ (by omega)]
    exact hs1 kS oS hoS

def hto (i : Nat) : List U := (List.range 8).map fun j => if j < i then H0.list.getD j 0 else 0
@[simp] theorem hto_length (i : Nat) : (hto i).length = 8 := by simp [hto]
theorem hto_set {i : Nat} (hi : i < 8) : (hto i).set i (H0.list.getD i 0) = hto (i + 1) := by
  unfold hto
  apply List.ext_getElem
  · simp
  · intro j h1 h2
    simp at h1
    rw [List.getElem_set]
    simp only [List.getElem_map, List.getElem_range]
    split
    · rename_i e; subst e; rw [if_pos (by omega)]
    · rename_i e
      by_cases hj : j < i
      · rw [if_pos hj, if_pos (by omega)]
      · rw [if_neg hj, if_neg (by omega)]
theorem hto_all {i : Nat} (h : 8 ≤ i) : hto i = H0.list := by
  have : hto i = hto 8 := by
    unfold hto
    refine List.map_congr_left (fun j hj => ?_)
    have := List.mem_range.1 hj
    rw [if_pos (by omega), if_pos (by omega)]
  rw [this]; rfl
theorem sq_at {i : Nat} (hi : i < 8) : BitVec.ofNat 32 (sqGo (BitVec.ofNat 64 (PS.getD i 0)) 38 0).toNat = H0.list.getD i 0 := by
  rw [← sq_tab]
  have h8 : i < (PS.take 8).length := by show i < 8; exact hi
  have h64 : i < PS.length := by show i < 64; omega
  simp [List.getD_eq_getElem?_getD, h64, hi]
theorem cu_at {i : Nat} (hi : i < 64) : BitVec.ofNat 32 (cuGo (BitVec.ofNat 64 (PS.getD i 0)) 37 0).toNat = KT.getD i 0 := by
  rw [← cu_tab]
  have h64 : i < PS.length := by show i < 64; omega
  simp [List.getD_eq_getElem?_getD, h64]
theorem ps_int {i : Nat} (hi : i < 64) : ((PS.getD i 0 : Nat) : Int) = (((BitVec.ofNat 64 (PS.getD i 0)).toNat : Nat) : Int) := by
  have := prime_range hi
  rw [BitVec.toNat_ofNat, Nat.mod_eq_of_lt (by omega)]
theorem ps_at {j x : Nat} (hj : j < 64) (h : PS[j]? = some x) : x = PS.getD j 0 := by simp [List.getD_eq_getElem?_getD, h]

theorem first_spec (h : Heap) (t : Nat) : CallSpec Tryz.prog 97 #[] h t (fun v h' t' => v = .agg (H0.list.map u32v).toArray ∧ Sub h h') := by
  refine Go.Vc.spec_of_vc (fn := Tryz.f97) Tryz.func97 rfl (by kernel_rfl) (by kernel_rfl) (Nat.le_of_ble_eq_true rfl) ?_
  intro hd
  conv => whnf
  repeat (first | (intro _ _; conv => whnf))
  rename_i r hr
  refine (primes_spec _ _).mono ?_
  rintro _ h1 t1 hd1 ht1 ⟨rfl, hs1⟩
  have hh1 := hs1 _ _ (hset_same h r _)
  have hs0 := (hd.sub_new hr _).trans hs1
  conv => whnf
  refine loop_intro (fun (i : Nat) => [(0, .pointer (some ⟨r, 0, none⟩)), (3, .agg (PS.map un).toArray), (4, .int .i64 (i : Nat))])
    (fun i h' t' => r < t' ∧ i ≤ 64 ∧ Sub h h' ∧ h' r = some (.cells ((hto i).map u32v).toArray 169 (0, 0))) (fun i => 64 - i) 0 ⟨rfl, rfl, rfl, trivial⟩ ⟨by omega, by omega, hs0, by rw [hh1]; rfl⟩ ?_
  rintro i g h2 t2 hd2 ⟨ht2, hi, hs2, hh2⟩
  conv => whnf
  refine br (fun hb1 => ?_) (fun hb1 => ?_)
  · have hlt : i < 64 := by omega
    have hpl : PS.length = 64 := rfl
    conv => whnf
    repeat (first | ((with_reducible refine And.intro (And.intro ?_ ?_) ?_); (focus omega); (focus omega); conv => whnf) | ((with_reducible apply Go.Vc.agg_ld); (focus exact rfl); (focus (first | omega | (simp; done) | (simp; omega))); intro xA hxA; conv => whnf))
    obtain rfl : xA = PS.getD i 0 := ps_at hlt hxA
    refine br (fun hb2 => ?_) (fun hb2 => ?_)
    · have hi8 : i < 8 := by omega
      conv => whnf
      refine CallSpec.args_eq (by rw [← ps_int hlt]) (a := #[.int .u64 (((BitVec.ofNat 64 (PS.getD i 0)).toNat : Nat) : Int)]) ?_
      refine (square_spec _ _ _).mono ?_
      rintro _ _ _ _ _ ⟨rfl, rfl, rfl⟩
      have hsq := sq_at hi8
      generalize sqGo (BitVec.ofNat 64 (PS.getD i 0)) 38 0 = q at *
      conv => whnf
      repeat (first | ((with_reducible apply Go.Vc.c64_32); conv => whnf) | ((with_reducible refine And.intro (And.intro ?_ ?_) ?_); (focus omega); (focus omega); conv => whnf) | ((with_reducible apply Go.Vc.ar_st); (focus ((repeat (first | with_reducible assumption | with_reducible exact Go.Vc.hset_same _ _ _ | with_reducible refine (Go.Vc.hset_ne _ _ (by omega)).trans ?_)); done)); (focus exact rfl); (focus exact rfl); (focus (first | omega | (simp; done) | (simp; omega))); (focus exact rfl); intro heqA; (conv => whnf); intro cA hcA; rw [heqA] at hcA; clear heqA; subst hcA; conv => whnf) | ((with_reducible apply Go.Vc.wr_i64); (focus exact And.intro (by omega) (by omega)); conv => whnf))
      rw [hsq, show (hto i).set ((i : Int)).toNat (H0.list.getD i 0) = hto (i + 1) from hto_set hi8]
      refine round_end (i + 1) (by omega) ⟨rfl, rfl, rfl, trivial⟩ ⟨by omega, by omega, ?_, hset_same _ _ _⟩
      intro kS oS hoS
      have hkS := hd kS oS hoS
      repeat rw [Go.Vc.hset_ne _ _ (by omega)]
      exact hs2 kS oS hoS
    · conv => whnf
      repeat (first | ((with_reducible apply Go.Vc.wr_i64); (focus exact And.intro (by omega) (by omega)); conv => whnf))
      refine round_end (i + 1) (by omega) ⟨rfl, rfl, rfl, trivial⟩ ⟨by omega, by omega, hs2, by rw [hh2, hto_all (by omega), hto_all (by omega)]⟩
  · have h64 : i = 64 := by omega
    subst h64
    rw [hto_all (by omega)] at hh2
    conv => whnf
    refine Go.Vc.ldrow hh2 rfl ?_
    rintro l hl
    have hl : l = H0.list.map u32v := by rw [hl]; rfl
    subst hl
    rw [Go.Vc.forceL_eq]
    conv => whnf
    refine Go.Vc.strow hh2 rfl (by kernel_rfl) rfl ?_
    rintro c hc
    have hc : c = (H0.list.map u32v).toArray := by rw [hc]; rfl
    subst hc
    conv => whnf
    refine Go.Vc.ldrow (hset_same _ _ _) rfl ?_
    rintro l hl
    have hl : l = H0.list.map u32v := by rw [hl]; rfl
    subst hl
    rw [Go.Vc.forceL_eq]
    conv => whnf
    refine ⟨rfl, ?_⟩
    intro kS oS hoS
    have hkS := hd kS oS hoS
    repeat rw [Go.Vc.hset_ne _ _ (by omega)]
    exact hs2 kS oS hoS

/-- The cells of a sum under way. -/
def HC (H K : List U) (rest : Value) (n : Int) : Array Value := (H.map u32v ++ (K.map u32v ++ [rest, .int .i64 n])).toArray
section HC
variable {H K : List U} {rest : Value} {n : Int} {off j : Nat}
theorem HC_size (hH : H.length = 8) (hK : K.length = 64) : (HC H K rest n).size = 74 := by simp [HC, hH, hK]
theorem HC_h (hH : H.length = 8) (ho : off = j) (hj : j < 8) : (HC H K rest n)[off]? = some (u32v (H.getD j 0)) := by
  subst ho
  simp [HC, List.getElem?_append, hH, hj, List.getD_eq_getElem?_getD]
theorem HC_k (hH : H.length = 8) (hK : K.length = 64) (ho : off = 8 + j) (hj : j < 64) : (HC H K rest n)[off]? = some (u32v (K.getD j 0)) := by
  subst ho
  simp [HC, List.getElem?_append, hH, hK, hj, List.getD_eq_getElem?_getD, show ¬ 8 + j < 8 by omega]
theorem HC_r (hH : H.length = 8) (hK : K.length = 64) : (HC H K rest n)[72]? = some rest := by
  simp [HC, List.getElem?_append, hH, hK]
theorem HC_n (hH : H.length = 8) (hK : K.length = 64) : (HC H K rest n)[73]? = some (.int .i64 n) := by
  simp [HC, List.getElem?_append, hH, hK]
theorem HC_set_h (hH : H.length = 8) (ho : off = j) (hj : j < 8) (x : U) : (HC H K rest n).setIfInBounds off (u32v x) = HC (H.set j x) K rest n := by
  subst ho
  simp [HC, List.set_append, hH, hj, List.map_set]
theorem HC_set_k (hH : H.length = 8) (hK : K.length = 64) (ho : off = 8 + j) (hj : j < 64) (x : U) : (HC H K rest n).setIfInBounds off (u32v x) = HC H (K.set j x) rest n := by
  subst ho
  simp [HC, List.set_append, hH, hK, hj, List.map_set, show ¬ 8 + j < 8 by omega]
theorem HC_set_r (hH : H.length = 8) (hK : K.length = 64) (x : Value) : (HC H K rest n).setIfInBounds 72 x = HC H K x n := by
  simp [HC, List.set_append, hH, hK]
theorem HC_set_n (hH : H.length = 8) (hK : K.length = 64) (x : Int) : (HC H K rest n).setIfInBounds 73 (.int .i64 x) = HC H K rest x := by
  simp [HC, List.set_append, hH, hK]
end HC
def kto (i : Nat) : List U := (List.range 64).map fun j => if j < i then KT.getD j 0 else 0
@[simp] theorem kto_length (i : Nat) : (kto i).length = 64 := by simp [kto]
theorem kto_set {i : Nat} (hi : i < 64) : (kto i).set i (KT.getD i 0) = kto (i + 1) := by
  unfold kto
  apply List.ext_getElem
  · simp
  · intro j h1 h2
    simp at h1
    rw [List.getElem_set]
    simp only [List.getElem_map, List.getElem_range]
    split
    · rename_i e; subst e; rw [if_pos (by omega)]
    · rename_i e
      by_cases hj : j < i
      · rw [if_pos hj, if_pos (by omega)]
      · rw [if_neg hj, if_neg (by omega)]
theorem kto_all : kto 64 = KT := by kernel_rfl
theorem H0_length : H0.list.length = 8 := rfl

theorem hash_info : ∃ inf z fields, Tryz.prog.info? 173 = some inf ∧ inf.zero = some z ∧ Tryz.prog.underlying 173 = some (.struct fields) ∧ fieldsKnown Tryz.prog fields.toList = true ∧
    (∀ H : St, fillL (placeF Tryz.prog fields.toList) (cellsL z) [(0, .agg (H.list.map u32v).toArray)] = some (HC H.list (kto 0) (.slice none 0 0) 0).toList) ∧
    (∀ H : St, fillL (placeF Tryz.prog fields.toList) (cellsL z) [(0, .agg (H.list.map u32v).toArray), (1, .agg (KT.map u32v).toArray)] = some (HC H.list KT (.slice none 0 0) 0).toList) := by
  refine ⟨_, _, _, rfl, rfl, Tryz.underlying173, by kernel_rfl, ?_, ?_⟩
  · intro H; kernel_rfl
  · intro H; kernel_rfl
theorem build1 {H : St} {K : Value → Prop} (hk : K (.agg (HC H.list (kto 0) (.slice none 0 0) 0))) : BuildS Tryz.prog 173 [(0, .agg (H.list.map u32v).toArray)] K := by
  obtain ⟨inf, z, fields, h1, h2, h3, h4, h5, _⟩ := hash_info
  exact build_i h1 h2 h3 h4 (h5 H) (by rw [Array.toArray_toList]; exact hk)
theorem build2 {H : St} {K : Value → Prop} (hk : K (.agg (HC H.list KT (.slice none 0 0) 0))) : BuildS Tryz.prog 173 [(0, .agg (H.list.map u32v).toArray), (1, .agg (KT.map u32v).toArray)] K := by
  obtain ⟨inf, z, fields, h1, h2, h3, h4, _, h5⟩ := hash_info
  exact build_i h1 h2 h3 h4 (h5 H) (by rw [Array.toArray_toList]; exact hk)

theorem new_spec (h : Heap) (t : Nat) : CallSpec Tryz.prog 78 #[] h t (fun v h' t' => ∃ b, v = .pointer (some ⟨b, 0, none⟩) ∧ t ≤ b ∧ b < t' ∧ h' b = some (.cells (HC H0.list KT (.slice none 0 0) 0) 173 (0, 0)) ∧ Sub h h') := by
  refine Go.Vc.spec_of_vc (fn := Tryz.f78) Tryz.func78 rfl (by kernel_rfl) (by kernel_rfl) (Nat.le_of_ble_eq_true rfl) ?_
  intro hd
  conv => whnf
  refine (first_spec _ _).mono ?_
  rintro _ h1 t1 hd1 ht1 ⟨rfl, hs1⟩
  conv => whnf
  refine build1 ?_
  conv => whnf
  intro r hr
  conv => whnf
  have hsub := (hs1.trans (hd1.sub_new hr (.cells (HC H0.list (kto 0) (.slice none 0 0) 0) 173)))
  refine (primes_spec _ _).mono ?_
  rintro _ h2 t2 hd2 ht2 ⟨rfl, hs2⟩
  have hh2 := hs2 _ _ (hset_same h1 r _)
  have hsub2 : Sub h h2 := hsub.trans hs2
  conv => whnf
  refine loop_intro (fun (i : Nat) => [(1, .pointer (some ⟨r, 0, none⟩)), (7, .agg (PS.map un).toArray), (8, .int .i64 (i : Nat))])
    (fun i h' t' => r < t' ∧ i ≤ 64 ∧ Sub h h' ∧ h' r = some (.cells (HC H0.list (kto i) (.slice none 0 0) 0) 173 (0, 0))) (fun i => 64 - i) 0 ⟨rfl, rfl, rfl, trivial⟩ ⟨by omega, by omega, hsub2, by rw [hh2]; rfl⟩ ?_
  clear hsub hsub2 hh2
  rintro i g h3 t3 hd3 ⟨ht3, hi, hs3, hh3⟩
  conv => whnf
  refine br (fun hb1 => ?_) (fun hb1 => ?_)
  · have hlt : i < 64 := by omega
    have hpl : PS.length = 64 := rfl
    conv => whnf
    repeat (first | ((with_reducible refine And.intro (And.intro ?_ ?_) ?_); (focus omega); (focus omega); conv => whnf) | ((with_reducible apply Go.Vc.agg_ld); (focus exact rfl); (focus (first | omega | (simp; done) | (simp; omega))); intro xA hxA; conv => whnf))
    obtain rfl : xA = PS.getD i 0 := ps_at hlt hxA
    refine Go.Vc.draw_intro [⟨0, false, true, false, 0⟩, ⟨1, false, true, false, 0⟩, ⟨2, false, false, false, 0⟩, ⟨5, false, true, false, 1⟩, ⟨6, false, true, false, 33⟩, ⟨3, true, false, true, 4⟩, ⟨4, false, false, false, 12⟩, ⟨7, false, false, false, 127⟩, ⟨8, true, false, false, 255⟩] (hs := h3) (hsub := (Sub.refl h3)) (hm := by kernel_rfl) (hpl := by kernel_rfl) ?_
    conv => whnf
    refine CallSpec.args_eq (by rw [← ps_int hlt]) (a := #[.int .u64 (((BitVec.ofNat 64 (PS.getD i 0)).toNat : Nat) : Int)]) ?_
    refine (cube_spec _ _ _).mono ?_
    rintro _ _ _ _ _ ⟨rfl, rfl, rfl⟩
    have hcu := cu_at hlt
    generalize cuGo (BitVec.ofNat 64 (PS.getD i 0)) 37 0 = q at *
    conv => whnf
    repeat (first | ((with_reducible apply Go.Vc.c64_32); conv => whnf) | ((with_reducible refine And.intro (And.intro ?_ ?_) ?_); (focus omega); (focus omega); conv => whnf) | ((with_reducible refine And.intro (Go.Vc.Sub.refl _) ?_); conv => whnf))
    refine Go.Vc.st_s (hh3) rfl (by rw [HC_size H0_length (kto_length i)]; show 0 + (7 + 1) + i * 1 < 74; omega) (HC_set_k H0_length (kto_length i) (by show 0 + (7 + 1) + i * 1 = 8 + i; omega) hlt _) ?_
    intro heS
    conv => whnf
    intro cS hcS
    rw [heS] at hcS
    clear heS
    subst hcS
    conv => whnf
    conv => whnf
    repeat (first | ((with_reducible apply Go.Vc.wr_i64); (focus exact And.intro (by omega) (by omega)); conv => whnf))
    rw [hcu, kto_set hlt]
    refine round_end (i + 1) (by omega) ⟨rfl, rfl, rfl, trivial⟩ ⟨by omega, by omega, ?_, hset_same _ _ _⟩
    intro kS oS hoS
    have hkS := hd kS oS hoS
    repeat rw [Go.Vc.hset_ne _ _ (by omega)]
    exact hs3 kS oS hoS
  · have h64 : i = 64 := by omega
    subst h64
    rw [kto_all] at hh3
    conv => whnf
    exact ⟨r, rfl, by omega, ht3, hh3, hs3⟩
end Go.Proofs.YtlkpgjicpjjlcaaGreatDoor

/- A block of the sum. -/
set_option linter.unusedSimpArgs false
namespace Go.Proofs.YtlkpgjicpjjlcaaGreatDoor
open Go Go.Vc Go.Sha
set_option maxRecDepth 10000
set_option linter.unusedVariables false

def pw (l : List UInt8) (j : Nat) : Nat → U
  | 0 => 0
  | m + 1 => pw l j m <<< 8 ||| BitVec.ofNat 32 (byte l (4 * j + m)).toNat
theorem pw_step {y : U} {b : UInt8} {k : Nat} (hy : y.toNat < 2 ^ k) (hk : k ≤ 24) : (y <<< 8 ||| BitVec.ofNat 32 b.toNat).toNat = y.toNat * 256 + b.toNat := by
  have hb := b.toNat_lt
  have hk2 : 2 ^ k ≤ 2 ^ 24 := Nat.pow_le_pow_right (by omega) hk
  rw [BitVec.toNat_or, BitVec.toNat_shiftLeft, BitVec.toNat_ofNat, Nat.shiftLeft_eq, Nat.mod_eq_of_lt (by omega), Nat.mod_eq_of_lt (by omega), Nat.mul_comm]
  exact (Nat.two_pow_add_eq_or_of_lt (i := 8) (by omega) y.toNat).symm
theorem pw_word (l : List UInt8) (j : Nat) : pw l j 4 = word l j := by
  apply BitVec.eq_of_toNat_eq
  have h0 := (byte l (4 * j)).toNat_lt
  have h1 := (byte l (4 * j + 1)).toNat_lt
  have h2 := (byte l (4 * j + 2)).toNat_lt
  have h3 := (byte l (4 * j + 3)).toNat_lt
  have e1 : (pw l j 1).toNat = (byte l (4 * j)).toNat := by
    have := pw_step (y := 0) (b := byte l (4 * j + 0)) (k := 0) (by decide) (by omega)
    rw [show (pw l j 1) = (0 : U) <<< 8 ||| BitVec.ofNat 32 (byte l (4 * j + 0)).toNat from rfl, this]; simp
  have e2 : (pw l j 2).toNat = (byte l (4 * j)).toNat * 256 + (byte l (4 * j + 1)).toNat := by
    show (pw l j 1 <<< 8 ||| BitVec.ofNat 32 (byte l (4 * j + 1)).toNat : U).toNat = _
    rw [pw_step (k := 8) (by omega) (by omega), e1]
  have e3 : (pw l j 3).toNat = ((byte l (4 * j)).toNat * 256 + (byte l (4 * j + 1)).toNat) * 256 + (byte l (4 * j + 2)).toNat := by
    show (pw l j 2 <<< 8 ||| BitVec.ofNat 32 (byte l (4 * j + 2)).toNat : U).toNat = _
    rw [pw_step (k := 16) (by omega) (by omega), e2]
  have e4 : (pw l j 4).toNat = (((byte l (4 * j)).toNat * 256 + (byte l (4 * j + 1)).toNat) * 256 + (byte l (4 * j + 2)).toNat) * 256 + (byte l (4 * j + 3)).toNat := by
    show (pw l j 3 <<< 8 ||| BitVec.ofNat 32 (byte l (4 * j + 3)).toNat : U).toNat = _
    rw [pw_step (k := 24) (by omega) (by omega), e3]
  rw [e4]
  unfold word be4
  rw [BitVec.toNat_ofNat]
  omega
def wto (l : List UInt8) (i : Nat) : List U := (List.range 64).map fun j => pw l j (min 4 (i - 4 * j))
@[simp] theorem wto_length (l : List UInt8) (i : Nat) : (wto l i).length = 64 := by simp [wto]
theorem wto_get {l : List UInt8} {i j : Nat} {x : U} (h : (wto l i)[j]? = some x) : x = pw l j (min 4 (i - 4 * j)) := by
  unfold wto at h
  rw [List.getElem?_map] at h
  by_cases h64 : j < 64
  · rw [List.getElem?_range h64] at h; exact (by simpa using h.symm)
  · rw [List.getElem?_eq_none (by simp; omega)] at h; cases h
theorem wto_set (l : List UInt8) {i : Nat} (hi : i < 64) (x : U) (hx : x = pw l (i / 4) (i % 4) <<< 8 ||| BitVec.ofNat 32 (byte l i).toNat) : (wto l i).set (i / 4) x = wto l (i + 1) := by
  unfold wto
  apply List.ext_getElem
  · simp
  · intro j h1 h2
    simp at h1
    rw [List.getElem_set]
    simp only [List.getElem_map, List.getElem_range]
    split
    · rename_i e
      subst e
      rw [show min 4 (i + 1 - 4 * (i / 4)) = i % 4 + 1 by omega, hx]
      show _ = pw l (i / 4) (i % 4) <<< 8 ||| BitVec.ofNat 32 (byte l (4 * (i / 4) + i % 4)).toNat
      rw [show 4 * (i / 4) + i % 4 = i by omega]
    · rename_i e
      rw [show min 4 (i + 1 - 4 * j) = min 4 (i - 4 * j) by omega]
def sto (l : List UInt8) (i : Nat) : List U := sched (words l) (i - 16) ++ List.replicate (64 - i) 0
theorem sto_length (l : List UInt8) {i : Nat} (h : 16 ≤ i ∧ i ≤ 64) : (sto l i).length = 64 := by
  unfold sto
  rw [List.length_append, sched_length _ (words_length l), List.length_replicate]; omega
theorem wto_all (l : List UInt8) : wto l 64 = sto l 16 := by
  unfold wto sto
  rw [show sched (words l) (16 - 16) = words l from rfl]
  apply List.ext_getElem
  · simp [words]
  · intro j h1 h2
    simp at h1
    rw [List.getElem_append]
    simp only [List.getElem_map, List.getElem_range, words_length]
    split
    · rename_i h
      rw [show min 4 (64 - 4 * j) = 4 by omega, pw_word]
      simp [words]
    · rename_i h
      rw [show min 4 (64 - 4 * j) = 0 by omega, List.getElem_replicate]; rfl
theorem sto_get (l : List UInt8) {i j : Nat} {x : U} (h16 : 16 ≤ i) (hj : j < i) (h : (sto l i)[j]? = some x) : x = (sched (words l) (i - 16)).getD j 0 := by
  unfold sto at h
  have hl := sched_length (words l) (words_length l) (i - 16)
  rw [List.getElem?_append_left (by omega)] at h
  simp [List.getD_eq_getElem?_getD, h]
theorem sto_set (l : List UInt8) {i : Nat} (h16 : 16 ≤ i) (hi : i < 64) (x : U) (hx : x = wNext (sched (words l) (i - 16)) i) : (sto l i).set i x = sto l (i + 1) := by
  unfold sto
  have hl := sched_length (words l) (words_length l) (i - 16)
  rw [List.set_append_right _ _ (by omega), hl, show i - (16 + (i - 16)) = 0 by omega, show 64 - i = (64 - (i + 1)) + 1 by omega, List.replicate_succ, List.set_cons_zero]
  rw [show i + 1 - 16 = (i - 16) + 1 by omega, sched, show 16 + (i - 16) = i by omega, ← hx]
  simp

theorem rl15 (x : U) : x <<< (Int.toNat 15) ||| x >>> ((32 : Int) - 15).toNat = rotr x 17 := BitVec.or_comm _ _
theorem rl13 (x : U) : x <<< (Int.toNat 13) ||| x >>> ((32 : Int) - 13).toNat = rotr x 19 := BitVec.or_comm _ _
theorem rl25 (x : U) : x <<< (Int.toNat 25) ||| x >>> ((32 : Int) - 25).toNat = rotr x 7 := BitVec.or_comm _ _
theorem rl14 (x : U) : x <<< (Int.toNat 14) ||| x >>> ((32 : Int) - 14).toNat = rotr x 18 := BitVec.or_comm _ _
theorem rl26 (x : U) : x <<< (Int.toNat 26) ||| x >>> ((32 : Int) - 26).toNat = rotr x 6 := BitVec.or_comm _ _
theorem rl21 (x : U) : x <<< (Int.toNat 21) ||| x >>> ((32 : Int) - 21).toNat = rotr x 11 := BitVec.or_comm _ _
theorem rl7 (x : U) : x <<< (Int.toNat 7) ||| x >>> ((32 : Int) - 7).toNat = rotr x 25 := BitVec.or_comm _ _
theorem rl30 (x : U) : x <<< (Int.toNat 30) ||| x >>> ((32 : Int) - 30).toNat = rotr x 2 := BitVec.or_comm _ _
theorem rl19 (x : U) : x <<< (Int.toNat 19) ||| x >>> ((32 : Int) - 19).toNat = rotr x 13 := BitVec.or_comm _ _
theorem rl10 (x : U) : x <<< (Int.toNat 10) ||| x >>> ((32 : Int) - 10).toNat = rotr x 22 := BitVec.or_comm _ _
theorem set_at {l : List U} {i : Nat} {x y : U} (h : (l.set i x)[i]? = some y) (hi : i < l.length) : y = x := by
  rw [List.getElem?_set_self hi] at h; exact (Option.some.inj h).symm

def vs (s : St) : Array Value := #[u32v s.a, u32v s.b, u32v s.c, u32v s.d, u32v s.e, u32v s.f, u32v s.g, u32v s.h]
theorem KT_length : KT.length = 64 := rfl

def mix (H S : St) (i : Nat) : List U := (H.add S).list.take i ++ H.list.drop i
theorem mix_cases {i : Nat} (hi : i < 8) : i = 0 ∨ i = 1 ∨ i = 2 ∨ i = 3 ∨ i = 4 ∨ i = 5 ∨ i = 6 ∨ i = 7 := by omega
theorem mix_length (H S : St) {i : Nat} (hi : i ≤ 8) : (mix H S i).length = 8 := by
  have h1 : (H.add S).list.length = 8 := rfl
  have h2 : H.list.length = 8 := rfl
  unfold mix; rw [List.length_append, List.length_take, List.length_drop]; omega
theorem mix_get (H S : St) {i : Nat} (hi : i < 8) : (mix H S i).getD i 0 = H.list.getD i 0 := by
  rcases mix_cases hi with rfl | rfl | rfl | rfl | rfl | rfl | rfl | rfl <;> rfl
theorem mix_set (H S : St) {i : Nat} {x : U} (hi : i < 8) (hx : S.list[i]? = some x) : (mix H S i).set i (H.list.getD i 0 + x) = mix H S (i + 1) := by
  rcases mix_cases hi with rfl | rfl | rfl | rfl | rfl | rfl | rfl | rfl <;> (cases hx; rfl)

theorem block_spec {h : Heap} {t b : Nat} {H : St} {rest : Value} {n : Int} {a : Option Addr} {c : Nat} {l : List UInt8} {T : TypeId} (hb : h b = some (.cells (HC H.list KT rest n) T (0, 0))) (s : Sl h a 64 bv l) :
    CallSpec Tryz.prog 100 #[.pointer (some ⟨b, 0, none⟩), .slice a 64 c] h t (fun v h' t' => v = .tuple #[] ∧ h' b = some (.cells (HC (compress H l).list KT rest n) T (0, 0)) ∧ ∀ k o, k ≠ b → h k = some o → h' k = some o) := by
  have hl := s.1
  refine Go.Vc.spec_of_vc (fn := Tryz.f100) Tryz.func100 rfl (by kernel_rfl) (by kernel_rfl) (Nat.le_of_ble_eq_true rfl) ?_
  intro hd
  have hbt := hd _ _ hb
  conv => whnf
  repeat (first | (intro _ _; conv => whnf))
  rename_i r hr
  refine loop_intro (fun (i : Nat) => [(0, .pointer (some ⟨b, 0, none⟩)), (1, .slice a 64 c), (4, .pointer (some ⟨r, 0, none⟩)), (16, .int .i64 (i : Nat))])
    (fun i h' t' => r < t' ∧ i ≤ 64 ∧ Sub h h' ∧ h' r = some (.cells ((wto l i).map u32v).toArray 171 (0, 0))) (fun i => 64 - i) 0 ⟨rfl, rfl, rfl, rfl, trivial⟩ ⟨by omega, by omega, hd.sub_new hr _, by rw [hset_same]; rfl⟩ ?_
  rintro i g h1 t1 hd1 ⟨ht1, hi, hs1, hh1⟩
  have s1 := s.sub hs1
  conv => whnf
  refine br (fun hb1 => ?_) (fun hb1 => ?_)
  · have hlt : i < 64 := by omega
    conv => whnf
    refine Go.Vc.draw_intro [⟨0, false, false, false, 0⟩, ⟨1, false, false, false, 1⟩, ⟨2, false, false, false, 0⟩, ⟨3, false, false, false, 4⟩, ⟨4, false, false, false, 12⟩, ⟨5, false, false, false, 28⟩, ⟨6, false, false, false, 60⟩, ⟨7, false, false, false, 0⟩, ⟨8, false, false, false, 0⟩, ⟨9, false, false, false, 384⟩, ⟨10, false, false, false, 896⟩, ⟨11, false, false, false, 1920⟩, ⟨12, false, false, false, 4092⟩, ⟨13, false, false, false, 8191⟩, ⟨14, true, false, false, 16383⟩] (hs := h1) (hsub := (Sub.refl h1)) (hm := by kernel_rfl) (hpl := by kernel_rfl) ?_
    conv => whnf
    conv => whnf
    repeat (first | ((with_reducible apply Go.Vc.or32); conv => whnf) | ((with_reducible apply Go.Vc.shl32); conv => whnf) | ((with_reducible apply Go.Vc.c8_32); conv => whnf) | ((with_reducible apply Go.Vc.sl_ix); (focus with_reducible assumption); (focus exact And.intro (by omega) (by omega)); intro xI bI offI hxI hcI; conv => whnf) | ((with_reducible refine And.intro (And.intro ?_ ?_) ?_); (focus omega); (focus omega); conv => whnf) | ((with_reducible apply Go.Vc.ar_ld); (focus ((repeat (first | with_reducible assumption | with_reducible exact Go.Vc.hset_same _ _ _ | with_reducible refine (Go.Vc.hset_ne _ _ (by omega)).trans ?_)); done)); (focus exact rfl); (focus (first | omega | (simp; done) | (simp; omega))); intro xA hxA; conv => whnf) | ((with_reducible apply Go.Vc.ar_st); (focus ((repeat (first | with_reducible assumption | with_reducible exact Go.Vc.hset_same _ _ _ | with_reducible refine (Go.Vc.hset_ne _ _ (by omega)).trans ?_)); done)); (focus exact rfl); (focus exact rfl); (focus (first | omega | (simp; done) | (simp; omega))); (focus exact rfl); intro heqA; (conv => whnf); intro cA hcA; rw [heqA] at hcA; clear heqA; subst hcA; conv => whnf) | ((with_reducible apply Go.Vc.cell_i); (focus assumption); conv => whnf) | ((with_reducible apply Go.Vc.wr_i64); (focus exact And.intro (by omega) (by omega)); conv => whnf) | ((with_reducible apply Go.Vc.quo_i64); (focus exact And.intro (by omega) (And.intro (by omega) (by omega))); conv => whnf) | ((with_reducible apply Go.Vc.and_leI); (focus omega); conv => whnf) | ((with_reducible refine And.intro ?_ (And.intro ?_ ?_)); (focus exact rfl); (focus omega); conv => whnf))
    have hxa := wto_get hxA
    have hxl : byte l i = xI := by
      have : l[i]? = some xI := hxI
      simp [byte, List.getD_eq_getElem?_getD, this]
    have hset := wto_set l hlt (xA <<< (Int.toNat 8) ||| BitVec.ofNat 32 xI.toNat) (by
      rw [hxl, hxa, show min 4 (i - 4 * ((i : Int) / 4).toNat) = i % 4 from by show min 4 (i - 4 * (i / 4)) = i % 4; omega]; rfl)
    rw [show (wto l i).set ((i : Int) / 4).toNat _ = _ from hset]
    refine round_end (i + 1) (by omega) ⟨rfl, rfl, rfl, rfl, trivial⟩ ⟨by omega, by omega, ?_, hset_same _ _ _⟩
    intro kS oS hoS
    have hkS := hd kS oS hoS
    repeat rw [Go.Vc.hset_ne _ _ (by omega)]
    exact hs1 kS oS hoS
  · have h64 : i = 64 := by omega
    subst h64
    rw [wto_all] at hh1
    conv => whnf
    refine loop_intro (fun (i : Nat) => [(0, .pointer (some ⟨b, 0, none⟩)), (4, .pointer (some ⟨r, 0, none⟩)), (6, .int .i64 (i : Nat))])
      (fun i h' t' => r < t' ∧ 16 ≤ i ∧ i ≤ 64 ∧ Sub h h' ∧ h' r = some (.cells ((sto l i).map u32v).toArray 171 (0, 0))) (fun i => 64 - i) 16 ⟨rfl, rfl, rfl, trivial⟩ ⟨by omega, by omega, by omega, hs1, hh1⟩ ?_
    clear hh1 hs1 s1 hd1 ht1 hi hb1
    rintro i g h1 t1 hd1 ⟨ht1, hi16, hi, hs1, hh1⟩
    have hsl := sto_length l ⟨hi16, hi⟩
    conv => whnf
    refine br (fun hb1 => ?_) (fun hb1 => ?_)
    · have hlt : i < 64 := by omega
      conv => whnf
      refine Go.Vc.draw_intro [⟨0, false, false, false, 0⟩, ⟨1, false, false, false, 1⟩, ⟨2, false, false, false, 3⟩, ⟨3, false, false, false, 7⟩, ⟨4, false, false, false, 0⟩, ⟨5, false, false, false, 16⟩, ⟨6, false, false, false, 48⟩, ⟨7, false, false, false, 112⟩, ⟨8, false, false, false, 15⟩, ⟨9, false, false, false, 511⟩] (hs := h1) (hsub := (Sub.refl h1)) (hm := by kernel_rfl) (hpl := by kernel_rfl) ?_
      conv => whnf
      conv => whnf
      repeat (first | ((with_reducible refine And.intro (And.intro ?_ ?_) ?_); (focus omega); (focus omega); conv => whnf) | ((with_reducible apply Go.Vc.ar_ld); (focus ((repeat (first | with_reducible assumption | with_reducible exact Go.Vc.hset_same _ _ _ | with_reducible refine (Go.Vc.hset_ne _ _ (by omega)).trans ?_)); done)); (focus exact rfl); (focus (first | omega | (simp; done) | (simp; omega))); intro xA hxA; conv => whnf) | ((with_reducible apply Go.Vc.wr_i64); (focus exact And.intro (by omega) (by omega)); conv => whnf))
      obtain ⟨z, rfl⟩ : ∃ z, z = xA := ⟨xA, rfl⟩
      have hz := sto_get l hi16 (by omega) hxA
      clear hxA
      obtain ⟨y, rfl⟩ : ∃ y, y = xA := ⟨xA, rfl⟩
      have hy := sto_get l hi16 (by omega) hxA
      clear hxA
      refine Go.Vc.draw_intro [⟨0, false, false, false, 0⟩, ⟨1, false, false, false, 0⟩, ⟨2, false, false, false, 2⟩, ⟨3, false, false, false, 6⟩, ⟨4, false, false, false, 14⟩, ⟨5, false, false, false, 0⟩, ⟨6, false, false, false, 32⟩, ⟨7, false, false, false, 96⟩, ⟨8, false, false, false, 224⟩, ⟨9, false, false, false, 510⟩, ⟨10, false, false, false, 1023⟩, ⟨11, true, false, false, 2047⟩] (hs := h1) (hsub := (Sub.refl h1)) (hm := by kernel_rfl) (hpl := by kernel_rfl) ?_
      conv => whnf
      conv => whnf
      repeat (first | ((with_reducible apply Go.Vc.add32); conv => whnf) | ((with_reducible refine And.intro (And.intro ?_ ?_) ?_); (focus omega); (focus omega); conv => whnf) | ((with_reducible apply Go.Vc.ar_ld); (focus ((repeat (first | with_reducible assumption | with_reducible exact Go.Vc.hset_same _ _ _ | with_reducible refine (Go.Vc.hset_ne _ _ (by omega)).trans ?_)); done)); (focus exact rfl); (focus (first | omega | (simp; done) | (simp; omega))); intro xA hxA; conv => whnf) | ((with_reducible apply Go.Vc.ar_st); (focus ((repeat (first | with_reducible assumption | with_reducible exact Go.Vc.hset_same _ _ _ | with_reducible refine (Go.Vc.hset_ne _ _ (by omega)).trans ?_)); done)); (focus exact rfl); (focus exact rfl); (focus (first | omega | (simp; done) | (simp; omega))); (focus exact rfl); intro heqA; (conv => whnf); intro cA hcA; rw [heqA] at hcA; clear heqA; subst hcA; conv => whnf) | ((with_reducible apply Go.Vc.wr_i64); (focus exact And.intro (by omega) (by omega)); conv => whnf))
      obtain ⟨v, rfl⟩ : ∃ v, v = xA := ⟨xA, rfl⟩
      have hv := sto_get l hi16 (by omega) hxA
      clear hxA
      obtain ⟨u, rfl⟩ : ∃ u, u = xA := ⟨xA, rfl⟩
      have hu := sto_get l hi16 (by omega) hxA
      clear hxA
      refine Go.Vc.draw_intro [⟨0, false, true, false, 0⟩, ⟨1, false, true, false, 1⟩, ⟨2, false, true, false, 3⟩, ⟨3, false, false, false, 0⟩, ⟨5, false, true, false, 0⟩, ⟨8, false, true, false, 0⟩, ⟨9, false, true, false, 256⟩, ⟨4, true, false, true, 8⟩, ⟨6, true, false, true, 56⟩, ⟨7, false, false, false, 120⟩, ⟨10, false, false, false, 1016⟩, ⟨11, false, false, false, 2047⟩, ⟨12, false, false, false, 4095⟩, ⟨13, true, false, false, 8191⟩] (hs := _) (hsub := (Sub.refl _)) (hm := by kernel_rfl) (hpl := by kernel_rfl) ?_
      conv => whnf
      conv => whnf
      repeat (first | ((with_reducible apply Go.Vc.shr32); conv => whnf) | ((with_reducible refine And.intro (And.intro ?_ ?_) ?_); (focus omega); (focus omega); conv => whnf) | ((with_reducible apply Go.Vc.ar_ld); (focus ((repeat (first | with_reducible assumption | with_reducible exact Go.Vc.hset_same _ _ _ | with_reducible refine (Go.Vc.hset_ne _ _ (by omega)).trans ?_)); done)); (focus exact rfl); (focus (first | omega | (simp; done) | (simp; omega))); intro xA hxA; conv => whnf) | ((with_reducible apply Go.Vc.and_leI); (focus omega); conv => whnf))
      refine (rot_spec _ _ (by omega) _ _).mono ?_
      rintro _ _ _ _ _ ⟨rfl, rfl, rfl⟩
      conv => whnf
      repeat (first | ((with_reducible refine And.intro (Go.Vc.Sub.refl _) ?_); conv => whnf))
      refine (rot_spec _ _ (by omega) _ _).mono ?_
      rintro _ _ _ _ _ ⟨rfl, rfl, rfl⟩
      conv => whnf
      repeat (first | ((with_reducible apply Go.Vc.add32); conv => whnf) | ((with_reducible apply Go.Vc.xor32); conv => whnf) | ((with_reducible refine And.intro (And.intro ?_ ?_) ?_); (focus omega); (focus omega); conv => whnf) | ((with_reducible apply Go.Vc.ar_st); (focus ((repeat (first | with_reducible assumption | with_reducible exact Go.Vc.hset_same _ _ _ | with_reducible refine (Go.Vc.hset_ne _ _ (by omega)).trans ?_)); done)); (focus exact rfl); (focus exact rfl); (focus (first | omega | (simp; done) | (simp; omega))); (focus exact rfl); intro heqA; (conv => whnf); intro cA hcA; rw [heqA] at hcA; clear heqA; subst hcA; conv => whnf) | ((with_reducible refine And.intro (Go.Vc.Sub.refl _) ?_); conv => whnf))
      obtain ⟨x1, rfl⟩ : ∃ x1, x1 = xA := ⟨xA, rfl⟩
      have hx1 : x1 = u + v := set_at hxA (by show i < _; omega)
      clear hxA
      subst hx1
      rw [rl15, rl13]
      refine Go.Vc.draw_intro [⟨0, false, true, false, 0⟩, ⟨1, false, true, false, 1⟩, ⟨2, false, true, false, 3⟩, ⟨3, false, false, false, 0⟩, ⟨5, false, true, false, 0⟩, ⟨8, false, true, false, 0⟩, ⟨9, false, true, false, 256⟩, ⟨4, true, false, true, 8⟩, ⟨6, true, false, true, 56⟩, ⟨7, false, false, false, 120⟩, ⟨10, false, false, false, 1016⟩, ⟨11, false, false, false, 2047⟩, ⟨12, false, false, false, 4095⟩, ⟨13, true, false, false, 8191⟩] (hs := _) (hsub := (Sub.refl _)) (hm := by kernel_rfl) (hpl := by kernel_rfl) ?_
      conv => whnf
      conv => whnf
      repeat (first | ((with_reducible apply Go.Vc.shr32); conv => whnf) | ((with_reducible refine And.intro (And.intro ?_ ?_) ?_); (focus omega); (focus omega); conv => whnf) | ((with_reducible apply Go.Vc.ar_ld); (focus ((repeat (first | with_reducible assumption | with_reducible exact Go.Vc.hset_same _ _ _ | with_reducible refine (Go.Vc.hset_ne _ _ (by omega)).trans ?_)); done)); (focus exact rfl); (focus (first | omega | (simp; done) | (simp; omega))); intro xA hxA; conv => whnf) | ((with_reducible apply Go.Vc.and_leI); (focus omega); conv => whnf))
      refine (rot_spec _ _ (by omega) _ _).mono ?_
      rintro _ _ _ _ _ ⟨rfl, rfl, rfl⟩
      conv => whnf
      repeat (first | ((with_reducible refine And.intro (Go.Vc.Sub.refl _) ?_); conv => whnf))
      refine (rot_spec _ _ (by omega) _ _).mono ?_
      rintro _ _ _ _ _ ⟨rfl, rfl, rfl⟩
      conv => whnf
      repeat (first | ((with_reducible apply Go.Vc.add32); conv => whnf) | ((with_reducible apply Go.Vc.xor32); conv => whnf) | ((with_reducible refine And.intro (And.intro ?_ ?_) ?_); (focus omega); (focus omega); conv => whnf) | ((with_reducible apply Go.Vc.ar_st); (focus ((repeat (first | with_reducible assumption | with_reducible exact Go.Vc.hset_same _ _ _ | with_reducible refine (Go.Vc.hset_ne _ _ (by omega)).trans ?_)); done)); (focus exact rfl); (focus exact rfl); (focus (first | omega | (simp; done) | (simp; omega))); (focus exact rfl); intro heqA; (conv => whnf); intro cA hcA; rw [heqA] at hcA; clear heqA; subst hcA; conv => whnf) | ((with_reducible apply Go.Vc.wr_i64); (focus exact And.intro (by omega) (by omega)); conv => whnf) | ((with_reducible refine And.intro (Go.Vc.Sub.refl _) ?_); conv => whnf))
      obtain ⟨x2, rfl⟩ : ∃ x2, x2 = xA := ⟨xA, rfl⟩
      have hx2 := set_at hxA (by rw [List.length_set]; show i < _; omega)
      clear hxA
      subst hx2
      rw [rl25, rl14, List.set_set, List.set_set]
      have hw : u + v + (rotr y 17 ^^^ rotr y 19 ^^^ y >>> (Int.toNat 10)) + (rotr z 7 ^^^ rotr z 18 ^^^ z >>> (Int.toNat 3)) = wNext (sched (words l) (i - 16)) i := by
        unfold wNext
        rw [show ((i : Int) - 2).toNat = i - 2 by omega] at hy
        rw [show ((i : Int) - 15).toNat = i - 15 by omega] at hz
        rw [show ((i : Int) - 7).toNat = i - 7 by omega] at hu
        rw [show ((i : Int) - 16).toNat = i - 16 by omega] at hv
        rw [← hy, ← hz, ← hu, ← hv]
        show u + v + ss1 y + ss0 z = ss1 y + u + ss0 z + v
        ac_rfl
      rw [show (sto l i).set ((i : Int)).toNat _ = _ from sto_set l hi16 hlt _ hw]
      refine round_end (i + 1) (by omega) ⟨rfl, rfl, rfl, trivial⟩ ⟨by omega, by omega, by omega, ?_, hset_same _ _ _⟩
      intro kS oS hoS
      have hkS := hd kS oS hoS
      repeat rw [Go.Vc.hset_ne _ _ (by omega)]
      exact hs1 kS oS hoS
    · have h64 : i = 64 := by omega
      subst h64
      conv => whnf
      have hhb := hs1 _ _ hb
      refine Go.Vc.ldrow hhb (by rw [Nat.ble_eq, HC_size rfl rfl]; decide) ?_
      rintro l1 hl1
      have hl1 : l1 = [u32v H.a, u32v H.b, u32v H.c, u32v H.d, u32v H.e, u32v H.f, u32v H.g, u32v H.h] := by rw [hl1]; rfl
      subst hl1
      conv => whnf
      repeat (first | ((with_reducible apply Go.Vc.strow); (focus ((repeat (first | with_reducible assumption | with_reducible exact Go.Vc.hset_same _ _ _ | with_reducible refine (Go.Vc.hset_ne _ _ (by omega)).trans ?_)); done)); (focus exact rfl); (focus exact rfl); (focus exact rfl); rintro _ rfl; conv => whnf) | (intro _ _; conv => whnf))
      rename_i r2 hr2
      have hW : sto l 64 = sched (words l) 48 := by simp [sto]
      rw [hW] at hh1
      generalize hWW : sched (words l) 48 = W at *
      have hWl : W.length = 64 := by rw [← hWW]; exact sched_length _ (words_length l) 48
      refine loop_intro2 (fun (i : Nat) (S : St) => [(0, .pointer (some ⟨b, 0, none⟩)), (4, .pointer (some ⟨r, 0, none⟩)), (9, .pointer (some ⟨r2, 0, none⟩)), (87, .int .i64 (i : Nat))])
        (fun i S h' t' => r2 < t' ∧ i ≤ 64 ∧ S = rounds H KT W i ∧ Sub h h' ∧ h' r = some (.cells (W.map u32v).toArray 171 (0, 0)) ∧ h' r2 = some (.cells (vs S) 169 (0, 0))) (fun i _ => 64 - i) 0 H ⟨rfl, rfl, rfl, rfl, trivial⟩ ⟨by omega, by omega, rfl, ?_, ?_, ?_⟩ ?_
      · intro kS oS hoS
        have hkS := hd kS oS hoS
        repeat rw [Go.Vc.hset_ne _ _ (by omega)]
        exact hs1 kS oS hoS
      · rw [hset_ne _ _ (by omega), hset_ne _ _ (by omega)]; exact hh1
      · rw [hset_same]; rfl
      have hrr : r < r2 ∧ t ≤ r2 := by omega
      clear hh1 hs1 hhb hd1 ht1 hi hb1
      rintro i S g h1 t1 hd1 ⟨ht1, hi, hS, hs1, hh1, hh2⟩
      have hhb := hs1 _ _ hb
      conv => whnf
      refine br (fun hb1 => ?_) (fun hb1 => ?_)
      · have hlt : i < 64 := by omega
        unfold vs at hh2
        conv => whnf
        refine Go.Vc.draw_intro [⟨0, false, false, false, 0⟩, ⟨1, false, false, false, 1⟩, ⟨2, false, false, false, 0⟩, ⟨3, false, false, false, 4⟩, ⟨4, false, false, false, 3⟩, ⟨5, false, false, false, 31⟩] (hs := h1) (hsub := (Sub.refl h1)) (hm := by kernel_rfl) (hpl := by kernel_rfl) ?_
        conv => whnf
        conv => whnf
        repeat (first | ((with_reducible refine And.intro (And.intro ?_ ?_) ?_); (focus omega); (focus omega); conv => whnf) | ((with_reducible apply Go.Vc.ld_i); (focus ((repeat (first | with_reducible assumption | with_reducible exact Go.Vc.hset_same _ _ _ | with_reducible refine (Go.Vc.hset_ne _ _ (by omega)).trans ?_)); done)); (focus exact rfl); conv => whnf))
        refine Go.Vc.draw_intro [⟨0, false, false, false, 0⟩, ⟨1, false, false, false, 1⟩, ⟨2, false, false, false, 0⟩, ⟨3, false, false, false, 0⟩, ⟨4, false, false, false, 4⟩, ⟨5, false, false, false, 20⟩, ⟨6, false, false, false, 60⟩, ⟨7, false, false, false, 124⟩, ⟨8, false, false, false, 255⟩, ⟨9, false, false, false, 0⟩, ⟨10, false, false, false, 512⟩, ⟨11, false, false, false, 1536⟩, ⟨12, false, false, false, 4095⟩, ⟨13, false, false, false, 0⟩, ⟨14, false, false, false, 8192⟩, ⟨15, false, false, false, 0⟩, ⟨16, false, false, false, 0⟩, ⟨17, false, false, false, 65536⟩, ⟨18, false, false, false, 0⟩, ⟨19, false, false, false, 262144⟩, ⟨20, false, false, false, 983040⟩, ⟨21, false, false, false, 2064384⟩, ⟨22, false, false, false, 4186112⟩, ⟨23, false, false, false, 8388607⟩, ⟨24, false, false, false, 16777215⟩] (hs := h1) (hsub := (Sub.refl h1)) (hm := by kernel_rfl) (hpl := by kernel_rfl) ?_
        conv => whnf
        conv => whnf
        repeat (first | ((with_reducible refine And.intro (And.intro ?_ ?_) ?_); (focus omega); (focus omega); conv => whnf) | ((with_reducible apply Go.Vc.ld_i); (focus ((repeat (first | with_reducible assumption | with_reducible exact Go.Vc.hset_same _ _ _ | with_reducible refine (Go.Vc.hset_ne _ _ (by omega)).trans ?_)); done)); (focus exact rfl); conv => whnf))
        refine Go.Vc.ld_i hhb (HC_k (j := i) rfl rfl (by show 0 + (7 + 1) + i * 1 = 8 + i; omega) hlt) ?_
        conv => whnf
        repeat (first | ((with_reducible apply Go.Vc.add32); conv => whnf) | ((with_reducible apply Go.Vc.xor32); conv => whnf) | ((with_reducible apply Go.Vc.and32); conv => whnf) | ((with_reducible refine And.intro (And.intro ?_ ?_) ?_); (focus omega); (focus omega); conv => whnf) | ((with_reducible apply Go.Vc.ld_i); (focus ((repeat (first | with_reducible assumption | with_reducible exact Go.Vc.hset_same _ _ _ | with_reducible refine (Go.Vc.hset_ne _ _ (by omega)).trans ?_)); done)); (focus exact rfl); conv => whnf) | ((with_reducible apply Go.Vc.ar_ld); (focus ((repeat (first | with_reducible assumption | with_reducible exact Go.Vc.hset_same _ _ _ | with_reducible refine (Go.Vc.hset_ne _ _ (by omega)).trans ?_)); done)); (focus exact rfl); (focus (first | omega | (simp; done) | (simp; omega))); intro xA hxA; conv => whnf))
        have hw : xA = W.getD i 0 := by
          have : W[i]? = some xA := hxA
          simp [List.getD_eq_getElem?_getD, this]
        subst hw
        refine (rot_spec _ _ (by omega) _ _).mono ?_
        rintro _ _ _ _ _ ⟨rfl, rfl, rfl⟩
        conv => whnf
        refine (rot_spec _ _ (by omega) _ _).mono ?_
        rintro _ _ _ _ _ ⟨rfl, rfl, rfl⟩
        conv => whnf
        repeat (first | ((with_reducible apply Go.Vc.xor32); conv => whnf))
        refine (rot_spec _ _ (by omega) _ _).mono ?_
        rintro _ _ _ _ _ ⟨rfl, rfl, rfl⟩
        conv => whnf
        repeat (first | ((with_reducible apply Go.Vc.add32); conv => whnf) | ((with_reducible apply Go.Vc.xor32); conv => whnf) | ((with_reducible apply Go.Vc.and32); conv => whnf) | ((with_reducible apply Go.Vc.or32); conv => whnf) | ((with_reducible refine And.intro (And.intro ?_ ?_) ?_); (focus omega); (focus omega); conv => whnf) | ((with_reducible apply Go.Vc.ld_i); (focus ((repeat (first | with_reducible assumption | with_reducible exact Go.Vc.hset_same _ _ _ | with_reducible refine (Go.Vc.hset_ne _ _ (by omega)).trans ?_)); done)); (focus exact rfl); conv => whnf))
        refine (rot_spec _ _ (by omega) _ _).mono ?_
        rintro _ _ _ _ _ ⟨rfl, rfl, rfl⟩
        conv => whnf
        refine (rot_spec _ _ (by omega) _ _).mono ?_
        rintro _ _ _ _ _ ⟨rfl, rfl, rfl⟩
        conv => whnf
        repeat (first | ((with_reducible apply Go.Vc.xor32); conv => whnf))
        refine (rot_spec _ _ (by omega) _ _).mono ?_
        rintro _ _ _ _ _ ⟨rfl, rfl, rfl⟩
        conv => whnf
        repeat (first | ((with_reducible apply Go.Vc.add32); conv => whnf) | ((with_reducible apply Go.Vc.xor32); conv => whnf) | ((with_reducible refine And.intro (And.intro ?_ ?_) ?_); (focus omega); (focus omega); conv => whnf) | ((with_reducible apply Go.Vc.strow); (focus ((repeat (first | with_reducible assumption | with_reducible exact Go.Vc.hset_same _ _ _ | with_reducible refine (Go.Vc.hset_ne _ _ (by omega)).trans ?_)); done)); (focus exact rfl); (focus exact rfl); (focus exact rfl); rintro _ rfl; conv => whnf) | ((with_reducible apply Go.Vc.ld_i); (focus ((repeat (first | with_reducible assumption | with_reducible exact Go.Vc.hset_same _ _ _ | with_reducible refine (Go.Vc.hset_ne _ _ (by omega)).trans ?_)); done)); (focus exact rfl); conv => whnf) | ((with_reducible apply Go.Vc.wr_i64); (focus exact And.intro (by omega) (by omega)); conv => whnf))
        rw [rl26, rl21, rl7, rl30, rl19, rl10]
        have e1 : S.h + KT.getD i 0 + W.getD i 0 + (S.g ^^^ (S.e &&& (S.f ^^^ S.g))) + (rotr S.e 6 ^^^ rotr S.e 11 ^^^ rotr S.e 25) = S.h + bs1 S.e + ch S.e S.f S.g + KT.getD i 0 + W.getD i 0 := by
          rw [ch_alt]
          show S.h + KT.getD i 0 + W.getD i 0 + ch S.e S.f S.g + bs1 S.e = _
          ac_rfl
        have e2 : (S.a &&& S.b ||| S.c &&& (S.a ||| S.b)) + (rotr S.a 2 ^^^ rotr S.a 13 ^^^ rotr S.a 22) = bs0 S.a + maj S.a S.b S.c := by
          rw [maj_alt]; exact BitVec.add_comm _ _
        rw [e1, e2]
        refine round_end2 (i + 1) (Go.Sha.step S (KT.getD i 0) (W.getD i 0)) (by omega) ⟨rfl, rfl, rfl, rfl, trivial⟩ ⟨by omega, by omega, by rw [hS]; rfl, ?_, ?_, ?_⟩
        · intro kS oS hoS
          have hkS := hd kS oS hoS
          repeat rw [Go.Vc.hset_ne _ _ (by omega)]
          exact hs1 kS oS hoS
        · rw [hset_ne _ _ (by omega)]; exact hh1
        · rw [hset_same]; rfl
      · have h64 : i = 64 := by omega
        subst h64
        conv => whnf
        refine loop_intro (fun (i : Nat) => [(0, .pointer (some ⟨b, 0, none⟩)), (9, .pointer (some ⟨r2, 0, none⟩)), (171, .int .i64 (i : Nat))])
          (fun i h' t' => r2 < t' ∧ i ≤ 8 ∧ h' b = some (.cells (HC (mix H S i) KT rest n) T (0, 0)) ∧ (∀ k o, k ≠ b → h k = some o → h' k = some o) ∧ h' r2 = some (.cells (S.list.map u32v).toArray 169 (0, 0))) (fun i => 8 - i) 0 ⟨rfl, rfl, rfl, trivial⟩ ⟨by omega, by omega, hhb, fun k o _ ho => hs1 k o ho, hh2⟩ ?_
        have hfin : H.add S = compress H l := by rw [hS, ← hWW]; rfl
        clear hh1 hs1 hhb hd1 ht1 hi hb1 hh2
        rintro i g h1 t1 hd1 ⟨ht1, hi, hhb, hk1, hh2⟩
        conv => whnf
        refine br (fun hb1 => ?_) (fun hb1 => ?_)
        · have hlt : i < 8 := by omega
          conv => whnf
          refine Go.Vc.draw_intro [⟨0, false, false, false, 0⟩, ⟨1, false, false, false, 0⟩, ⟨2, false, false, false, 1⟩, ⟨3, false, false, false, 5⟩, ⟨4, false, false, false, 15⟩, ⟨5, false, false, false, 31⟩, ⟨6, false, false, false, 0⟩, ⟨7, false, false, false, 64⟩, ⟨8, false, false, false, 192⟩, ⟨9, false, false, false, 511⟩, ⟨10, false, false, false, 1⟩, ⟨11, false, false, false, 1025⟩, ⟨12, false, false, false, 4095⟩, ⟨13, true, false, false, 8191⟩] (hs := h1) (hsub := (Sub.refl h1)) (hm := by kernel_rfl) (hpl := by kernel_rfl) ?_
          conv => whnf
          conv => whnf
          repeat (first | ((with_reducible refine And.intro (And.intro ?_ ?_) ?_); (focus omega); (focus omega); conv => whnf))
          refine Go.Vc.ld_i hhb (HC_h (j := i) (mix_length H S hi) (by show 0 + i * 1 = i; omega) hlt) ?_
          have hSl : S.list.length = 8 := rfl
          conv => whnf
          repeat (first | ((with_reducible apply Go.Vc.add32); conv => whnf) | ((with_reducible refine And.intro (And.intro ?_ ?_) ?_); (focus omega); (focus omega); conv => whnf) | ((with_reducible apply Go.Vc.ar_ld); (focus ((repeat (first | with_reducible assumption | with_reducible exact Go.Vc.hset_same _ _ _ | with_reducible refine (Go.Vc.hset_ne _ _ (by omega)).trans ?_)); done)); (focus exact rfl); (focus (first | omega | (simp; done) | (simp; omega))); intro xA hxA; conv => whnf))
          rw [mix_get H S hlt]
          have hx : S.list[i]? = some xA := hxA
          refine Go.Vc.st_s (hhb) rfl (by rw [HC_size (mix_length H S hi) rfl]; show 0 + i * 1 < 74; omega) (HC_set_h (mix_length H S hi) (by show 0 + i * 1 = i; omega) hlt _) ?_
          intro heS
          conv => whnf
          intro cS hcS
          rw [heS] at hcS
          clear heS
          subst hcS
          conv => whnf
          conv => whnf
          repeat (first | ((with_reducible apply Go.Vc.wr_i64); (focus exact And.intro (by omega) (by omega)); conv => whnf))
          rw [mix_set H S hlt hx]
          refine round_end (i + 1) (by omega) ⟨rfl, rfl, rfl, trivial⟩ ⟨by omega, by omega, hset_same _ _ _, ?_, by rw [hset_ne _ _ (by omega)]; exact hh2⟩
          intro k o hk ho
          rw [hset_ne _ _ hk]; exact hk1 k o hk ho
        · conv => whnf
          have h8 : i = 8 := by omega
          subst h8
          refine ⟨rfl, ?_, hk1⟩
          rw [hhb, ← hfin]; rfl
end Go.Proofs.YtlkpgjicpjjlcaaGreatDoor

/- Write, Sum, Len, Reset, One. -/
set_option linter.unusedSimpArgs false
namespace Go.Proofs.YtlkpgjicpjjlcaaGreatDoor
open Go Go.Vc Go.Sha
set_option maxRecDepth 10000
set_option linter.unusedVariables false

/-- A sum under way at block b: its eight numbers, what waits (at d), how much was written. -/
def HashG (h : Heap) (b : Nat) (d : Option Nat) (HM : St) (R : List UInt8) (N : Int) : Prop :=
  ∃ a n c, h b = some (.cells (HC HM.list KT (.slice a n c) N) 173 (0, 0)) ∧ Own h 5 a n c bv R ∧ owner a = d ∧ d ≠ some b
/-- A sum under way at block b, that was written M; what waits lies at d. -/
def HashAt (h : Heap) (b : Nat) (d : Option Nat) (M : List UInt8) : Prop :=
  ∃ a n c, h b = some (.cells (HC (run (M.length / 64) H0 M).list KT (.slice a n c) M.length) 173 (0, 0)) ∧ Own h 5 a n c bv (M.drop (64 * (M.length / 64))) ∧ owner a = d ∧ d ≠ some b
theorem HashAt.fr {h h' : Heap} {b : Nat} {d : Option Nat} {M : List UInt8} (x : HashAt h b d M) (hk : ∀ k o, k = b ∨ d = some k → h k = some o → h' k = some o) : HashAt h' b d M := by
  obtain ⟨a, n, c, h1, h2, h3, h4⟩ := x
  exact ⟨a, n, c, hk _ _ (.inl rfl) h1, h2.fr (fun k o e ho => hk k o (.inr (h3.symm.trans e)) ho), h3, h4⟩
theorem HashAt.sub {h h' : Heap} {b : Nat} {d : Option Nat} {M : List UInt8} (x : HashAt h b d M) (hs : Sub h h') : HashAt h' b d M := x.fr (fun k o _ ho => hs k o ho)

/-- Known, but not by the walk itself. -/
def Cel (h : Heap) (b : Nat) (c : Array Value) (T : TypeId) : Prop := h b = some (.cells c T (0, 0))

theorem drop_app {M S : List UInt8} : (M ++ S).drop (64 * (M.length / 64)) = M.drop (64 * (M.length / 64)) ++ S := List.drop_append_of_le_length (by omega)
theorem run_write (M S : List UInt8) : run ((M ++ S).length / 64) H0 (M ++ S) = run ((M.drop (64 * (M.length / 64)) ++ S).length / 64) (run (M.length / 64) H0 M) (M.drop (64 * (M.length / 64)) ++ S) := by
  have h1 : (M ++ S).length / 64 = M.length / 64 + (M.drop (64 * (M.length / 64)) ++ S).length / 64 := by
    rw [List.length_append, List.length_append, List.length_drop]; omega
  rw [h1, run_add, run_app _ _ _ _ (by omega), drop_app]
theorem run_succ (i : Nat) (s : St) (m : List UInt8) : run (i + 1) s m = compress (run i s m) ((m.drop (64 * i)).take 64) := by
  rw [run_add]; rfl

theorem write_gen {h : Heap} {t b : Nat} {d : Option Nat} {HM : St} {R : List UInt8} {N : Int} (x : HashG h b d HM R N) (s : ByteArray) (hs : R.length + s.size ≤ 1099511627775) (hN : 0 ≤ N ∧ N + s.size ≤ 4611686018427387904) :
    CallSpec Tryz.prog 79 #[.pointer (some ⟨b, 0, none⟩), .string s] h t (fun v h' t' => v = .tuple #[] ∧ ∃ d', HashG h' b d' (run ((R ++ s.data.toList).length / 64) HM (R ++ s.data.toList)) ((R ++ s.data.toList).drop (64 * ((R ++ s.data.toList).length / 64))) (N + s.size) ∧ (d' = d ∨ ∃ k, d' = some k ∧ t ≤ k ∧ k < t') ∧ ∀ k o, k ≠ b → d ≠ some k → h k = some o → h' k = some o) := by
  obtain ⟨a, n, c, hb, ho, hod, hdb⟩ := x
  have hsl : s.data.toList.length = s.size := by rw [Array.length_toList]; rfl
  have hbC : Cel h b (HC (HM).list KT (.slice a n c) N) 173 := hb
  refine Go.Vc.spec_of_vc (fn := Tryz.f79) Tryz.func79 rfl (by kernel_rfl) (by kernel_rfl) (Nat.le_of_ble_eq_true rfl) ?_
  intro hd
  have hbt := hd _ _ hb
  clear hb
  conv => whnf
  refine Go.Vc.ld_i hbC (HC_n rfl rfl) ?_
  conv => whnf
  repeat (first | ((with_reducible apply Go.Vc.wr_i64); (focus exact And.intro (by omega) (by omega)); conv => whnf))
  refine Go.Vc.st_s (hbC) rfl (by rw [HC_size rfl rfl]; decide) (HC_set_n rfl rfl _) ?_
  intro heS
  conv => whnf
  intro cS hcS
  rw [heS] at hcS
  clear heS
  subst hcS
  conv => whnf
  generalize hh1 : hset h b _ = h1
  have hk1 : ∀ k, k ≠ b → h1 k = h k := fun k hk => by rw [← hh1, hset_ne _ _ hk]
  have hd1 : Dom h1 t := by rw [← hh1]; exact hd.set b _ t (Nat.le_refl _) hbt
  have hb1 : Cel h1 b (HC (HM).list KT (.slice a n c) (N + s.size)) 173 := by rw [← hh1]; exact hset_same _ _ _
  conv => whnf
  refine Go.Vc.ld_i hb1 (HC_r rfl rfl) ?_
  have hnl := ho.1
  conv => whnf
  refine app_str Tryz.underlying48 Tryz.underlying9 (inf := Tryz.types[5]) (by kernel_rfl) (by kernel_rfl) (by kernel_rfl) (ho.keep (fun k hk => hk1 k (fun e => hdb (by rw [← hod, hk, e])))) (by show (n + s.size) * 1 ≤ _; omega) (by omega) (by show 1 ≤ 1000; omega) hd1 ?_
  intro a2 c2 h2 t2 ho2 ht2 hd2 hk2 how2
  have hb2 : Cel h2 b (HC (HM).list KT (.slice a n c) (N + s.size)) 173 := (hk2 b hbt (by rw [hod]; exact hdb)).trans hb1
  conv => whnf
  refine Go.Vc.st_s (hb2) rfl (by rw [HC_size rfl rfl]; decide) (HC_set_r rfl rfl _) ?_
  intro heS
  conv => whnf
  intro cS hcS
  rw [heS] at hcS
  clear heS
  subst hcS
  conv => whnf
  generalize hh3 : hset h2 b _ = h3
  have hk3 : ∀ k, k ≠ b → h3 k = h2 k := fun k hk => by rw [← hh3, hset_ne _ _ hk]
  have hb3 : Cel h3 b (HC (HM).list KT (.slice a2 (n + s.size) c2) (N + s.size)) 173 := by rw [← hh3]; exact hset_same _ _ _
  have how : owner a2 = owner a ∨ ∃ k, owner a2 = some k ∧ t ≤ k ∧ k < t2 := by
    rcases how2 with h | ⟨k, h, hk⟩
    · exact .inl h
    · right
      refine ⟨k, h, hk, ?_⟩
      rcases ho2.2 with ⟨h1, _⟩ | ⟨b', _, cs, fr, ha, _, hb', _⟩
      · rw [h1] at h; cases h
      · rw [ha] at h; cases h; exact hd2 _ _ hb'
  have hne2 : owner a2 ≠ some b := by
    rcases how with h | ⟨k, h, hk, _⟩
    · rw [h, hod]; exact hdb
    · rw [h]; intro e; cases e; omega
  have ho3 := ho2.keep (h' := h3) (fun k hk => hk3 k (fun e => hne2 (by rw [hk, e])))
  have hfin : ∀ k o, k ≠ b → d ≠ some k → h k = some o → h3 k = some o := by
    intro k o hk hdk ho
    rw [hk3 k hk, hk2 k (hd k o ho) (by rw [hod]; exact hdk), hk1 k hk]; exact ho
  generalize hR : R ++ s.data.toList = R0 at *
  refine loop_intro4 (fun (i : Nat) (a' : Option Addr) (n' c' : Nat) => [(0, .pointer (some ⟨b, 0, none⟩))])
    (fun i a' n' c' h' t' => t2 ≤ t' ∧ Cel h' b (HC (run i HM R0).list KT (.slice a' n' c') (N + s.size)) 173 ∧ Own h' 5 a' n' c' bv (R0.drop (64 * i)) ∧ 64 * i ≤ R0.length ∧ owner a' = owner a2 ∧ ∀ k o, k ≠ b → h3 k = some o → h' k = some o)
    (fun _ _ n' _ => n') 0 a2 (n + s.size) c2 ⟨rfl, trivial⟩ ⟨Nat.le_refl _, hb3, by rw [Nat.mul_zero, List.drop_zero]; exact ho3, by omega, rfl, fun k o _ ho => ho⟩ ?_
  rintro i a' n' c' g h4 t4 hd4 ⟨ht4, hb4, ho4, hi4, how4, hk4⟩
  have hl4 := ho4.1
  rw [List.length_drop] at hl4
  have hc4 := ho4.cap
  conv => whnf
  refine Go.Vc.ld_i hb4 (HC_r rfl rfl) ?_
  conv => whnf
  refine br (fun hb1 => ?_) (fun hb1 => ?_)
  · conv => whnf
    refine Go.Vc.ld_i hb4 (HC_r rfl rfl) ?_
    conv => whnf
    repeat (first | ((with_reducible refine And.intro (And.intro ?_ ?_) ?_); (focus omega); (focus omega); conv => whnf))
    refine (block_spec (n := N + s.size) (rest := .slice a' n' c') hb4 (l := (R0.drop (64 * i)).take 64) (ho4.sl.take (by omega))).mono ?_
    rintro _ h5 t5 hd5 ht5 ⟨rfl, hb5', hk5⟩
    have hb5 : Cel h5 b (HC (compress (run i HM R0) ((R0.drop (64 * i)).take 64)).list KT (.slice a' n' c') (N + s.size)) 173 := hb5'
    clear hb5'
    conv => whnf
    refine Go.Vc.ld_i hb5 (HC_r rfl rfl) ?_
    conv => whnf
    repeat (first | ((with_reducible refine And.intro (And.intro ?_ ?_) ?_); (focus omega); (focus omega); conv => whnf) | (intro _ _; conv => whnf))
    rename_i a6 ha6
    have ho5 := (ho4.fr (h' := h5) (fun k o hk ho => hk5 k o (fun e => hne2 (by rw [← how4, hk, e])) ho)).drop (m := 64) (a' := a6) (by omega) ha6
    have how6 : owner a6 = owner a2 := by rw [ha6, owner_cut']; exact how4
    refine Go.Vc.st_s (hb5) rfl (by rw [HC_size rfl rfl]; decide) (HC_set_r rfl rfl _) ?_
    intro heS
    conv => whnf
    intro cS hcS
    rw [heS] at hcS
    clear heS
    subst hcS
    conv => whnf
    conv => whnf
    refine round_end4 (i + 1) a6 (n' - 64) (c' - 64) (by omega) ⟨rfl, trivial⟩ ⟨by omega, ?_, ?_, by omega, how6, ?_⟩
    · rw [run_succ]; exact hset_same _ _ _
    · rw [show 64 * (i + 1) = 64 * i + 64 from by omega, ← List.drop_drop]
      exact ho5.keep (fun k hk => hset_ne _ _ (fun e => hne2 (by rw [← how6, hk, e])))
    · intro k o hk ho
      rw [hset_ne _ _ hk]; exact hk5 k o hk (hk4 k o hk ho)
  · conv => whnf
    have hi5 : R0.length / 64 = i := by omega
    rw [hi5]
    refine ⟨rfl, owner a2, ⟨a', n', c', ?_, ?_, how4, hne2⟩, ?_, ?_⟩
    · exact hb4
    · exact ho4
    · rcases how with h | ⟨k, h, hk, hk2⟩
      · exact .inl (h.trans hod)
      · exact .inr ⟨k, h, hk, by omega⟩
    · intro k o hk hdk ho
      exact hk4 k o hk (hfin k o hk hdk ho)

theorem HashAt.gen {h : Heap} {b : Nat} {d : Option Nat} {M : List UInt8} (x : HashAt h b d M) : HashG h b d (run (M.length / 64) H0 M) (M.drop (64 * (M.length / 64))) M.length := x
theorem write_spec {h : Heap} {t b : Nat} {d : Option Nat} {M : List UInt8} (x : HashAt h b d M) (s : ByteArray) (hs : M.length + s.size ≤ 1099511627775) :
    CallSpec Tryz.prog 79 #[.pointer (some ⟨b, 0, none⟩), .string s] h t (fun v h' t' => v = .tuple #[] ∧ ∃ d', HashAt h' b d' (M ++ s.data.toList) ∧ (d' = d ∨ ∃ k, d' = some k ∧ t ≤ k ∧ k < t') ∧ ∀ k o, k ≠ b → d ≠ some k → h k = some o → h' k = some o) := by
  have hsl : s.data.toList.length = s.size := by rw [Array.length_toList]; rfl
  refine (write_gen x.gen s (by rw [List.length_drop]; omega) (by omega)).mono ?_
  rintro _ h' t' _ _ ⟨rfl, d', hx, hd', hk⟩
  refine ⟨rfl, d', ?_, hd', hk⟩
  have hall := run_write M s.data.toList
  have htl : ((M ++ s.data.toList).length : Int) = M.length + s.size := by rw [List.length_append, hsl]; simp
  have hdr : (M ++ s.data.toList).drop (64 * ((M ++ s.data.toList).length / 64)) = (M.drop (64 * (M.length / 64)) ++ s.data.toList).drop (64 * ((M.drop (64 * (M.length / 64)) ++ s.data.toList).length / 64)) := by
    have e : (M ++ s.data.toList).length / 64 = M.length / 64 + (M.drop (64 * (M.length / 64)) ++ s.data.toList).length / 64 := by
      rw [List.length_append, List.length_append, List.length_drop]; omega
    rw [e, Nat.mul_add, ← List.drop_drop, drop_app]
  obtain ⟨a, n, c, h1, h2, h3⟩ := hx
  exact ⟨a, n, c, by rw [hall, htl]; exact h1, by rw [hdr]; exact h2, h3⟩

end Go.Proofs.YtlkpgjicpjjlcaaGreatDoor

/- Sum, Reset, One. -/
set_option linter.unusedSimpArgs false
namespace Go.Proofs.YtlkpgjicpjjlcaaGreatDoor
open Go Go.Vc Go.Sha
set_option maxRecDepth 10000
set_option linter.unusedVariables false

theorem HC_rowk {H K : List U} {rest : Value} {n : Int} (hH : H.length = 8) (hK : K.length = 64) : ((HC H K rest n).toList.drop 8).take 64 = K.map u32v := by
  simp [HC, List.drop_append, hH, List.take_append, hK]
theorem HC_rowh {H K : List U} {rest : Value} {n : Int} (hH : H.length = 8) : ((HC H K rest n).toList.drop 0).take 8 = H.map u32v := by
  simp [HC, List.take_append, hH]

theorem app_bytes {h : Heap} {t : Nat} {a xa : Option Addr} {n c m xc : Nat} {l l2 : List UInt8} {ty : TypeId} (ho : Own h 5 a n c bv l) (hx : Sl h xa m bv l2) (hb : n + m ≤ 1099511627776) (hd : Dom h t) {K : Value → Heap → Nat → Prop}
    (hK : ∀ a' c' h' t', Own h' 5 a' (n + m) c' bv (l ++ l2) → t ≤ t' → Dom h' t' → (∀ k, k < t → owner a ≠ some k → h' k = h k) → (owner a' = owner a ∨ ∃ r, owner a' = some r ∧ t ≤ r) → K (.slice a' (n + m) c') h' t') :
    AppVC Tryz.prog #[48, 48] ty (.slice a n c) (.slice xa m xc) K h t :=
  app_vc (f := bv) Tryz.underlying48 Tryz.underlying48 rfl (inf := Tryz.types[5]) (z := .int .u8 0) (by kernel_rfl) (by kernel_rfl) (by kernel_rfl) rfl ho ⟨_, _, rfl, hx⟩ (fun _ => rfl) (by show (n + m) * 1 ≤ _; omega) (by omega) (by show 1 ≤ 1000; omega) hd hK
theorem lit_bytes {h : Heap} {r : Nat} {l : List UInt8} {T : TypeId} {c : Array Value} (hr : h r = some (.cells c T (0, 0))) (hc : c = (l.map bv).toArray) {n : Nat} (hn : l.length = n) : Sl h (some ⟨r, 0, none⟩) n bv l := by
  subst hc; exact ar_sl hr hn
theorem readB_sl {h : Heap} {b off n : Nat} {l : List UInt8} (s : Sl h (some ⟨b, off, none⟩) n bv l) : ReadB h ⟨b, off, none⟩ n l := by
  refine ⟨s.1, fun i hi => ?_⟩
  obtain ⟨b', off', cs, T, fr, ha, hb, hc⟩ := s.2 (by omega)
  cases ha
  rw [addr_add]
  refine ⟨cs, T, fr, hb, rfl, ?_⟩
  have := hc i (by rw [s.1]; exact hi)
  rw [show (Addr.mk b (off + i) none).off = off + i from rfl, this]
  simp [bv, List.getD_eq_getElem?_getD, show i < l.length by rw [s.1]; exact hi]

theorem sum_spec {h : Heap} {t b : Nat} {d : Option Nat} {M : List UInt8} (x : HashAt h b d M) (hM : M.length ≤ 1099511627000) :
    CallSpec Tryz.prog 80 #[.pointer (some ⟨b, 0, none⟩)] h t (fun v h' t' => v = .string ⟨(sha M).toArray⟩ ∧ Sub h h') := by
  obtain ⟨a, n, c, hb, ho, _⟩ := x
  have hbC : Cel h b (HC (run (M.length / 64) H0 M).list KT (.slice a n c) M.length) 173 := hb
  clear hb
  generalize hHM : run (M.length / 64) H0 M = HM at hbC
  refine Go.Vc.spec_of_vc (fn := Tryz.f80) Tryz.func80 rfl (by kernel_rfl) (by kernel_rfl) (Nat.le_of_ble_eq_true rfl) ?_
  intro hd
  have hbt := hd _ _ hbC
  conv => whnf
  refine Go.Vc.draw_intro [⟨0, false, false, false, 0⟩, ⟨1, false, false, false, 1⟩, ⟨2, false, false, false, 3⟩, ⟨3, false, false, false, 7⟩, ⟨4, false, false, false, 0⟩, ⟨5, false, false, false, 16⟩, ⟨6, false, false, false, 48⟩, ⟨7, false, false, false, 112⟩, ⟨8, false, false, false, 255⟩, ⟨9, true, false, false, 511⟩, ⟨10, false, false, false, 1023⟩] (hs := h) (hsub := (Sub.refl h)) (hm := by kernel_rfl) (hpl := by kernel_rfl) ?_
  conv => whnf
  refine Go.Vc.ldrow hbC (by rw [Nat.ble_eq, HC_size rfl rfl]; decide) ?_
  intro l hl
  have hl : l = HM.list.map u32v := hl.trans (HC_rowh rfl)
  subst hl
  rw [Go.Vc.forceL_eq]
  conv => whnf
  refine Go.Vc.ldrow hbC (by rw [Nat.ble_eq, HC_size rfl rfl]; decide) ?_
  intro l hl
  have hl : l = KT.map u32v := hl.trans (HC_rowk rfl rfl)
  subst hl
  rw [Go.Vc.forceL_eq]
  conv => whnf
  refine build2 ?_
  conv => whnf
  intro r hr
  conv => whnf
  generalize hh1 : hset h r _ = h1
  have hbY : Cel h1 r (HC HM.list KT (.slice none 0 0) 0) 173 := by rw [← hh1]; exact hset_same _ _ _
  have hs1 : Sub h h1 := by rw [← hh1]; exact hd.sub_new hr _
  have hd1 : Dom h1 (r + 1) := by rw [← hh1]; exact hd.set r _ (r + 1) (by omega) (by omega)
  refine Go.Vc.ld_i (hs1 _ _ hbC) (HC_r rfl rfl) ?_
  generalize hR : M.drop (64 * (M.length / 64)) = R at *
  have hRl : R.length = M.length % 64 := by rw [← hR, List.length_drop]; omega
  have hon := ho.1
  conv => whnf
  refine app_bytes (Own.nil _ _ _) (ho.sl.sub hs1) (by omega) hd1 ?_
  intro a2 c2 h2 t2 ho2 ht2 hd2 hk2 how2
  rw [List.nil_append, Nat.zero_add] at ho2
  rw [Nat.zero_add n]
  have hs2 : Sub h1 h2 := fun k o ho => by rw [hk2 k (hd1 k o ho) (by simp [owner])]; exact ho
  have hf2 : ∀ k, owner a2 = some k → r + 1 ≤ k := by
    intro k hk
    rcases how2 with h | ⟨q, h, hq⟩
    · rw [h] at hk; cases hk
    · rw [h] at hk; cases hk; exact hq
  conv => whnf
  repeat (first | (intro _ _; conv => whnf))
  rename_i r3 hr3
  have hs3 := hd2.sub_new hr3 (.cells #[Value.int .u8 128] 5)
  have hd3 := hd2.set r3 (.cells #[Value.int .u8 128] 5) (r3 + 1) (by omega) (by omega)
  refine app_bytes (m := 1) (l2 := [128]) (ho2.fr (fun k o _ ho => hs3 k o ho)) (lit_bytes (hset_same _ _ _) rfl rfl) (by show n + 1 ≤ 1099511627776; omega) hd3 ?_
  intro a4 c4 h4 t4 ho4 ht4 hd4 hk4 how4
  have hs4 : Sub h1 h4 := by
    intro k o hk
    have hkt := hd1 k o hk
    have h5 := hs3 _ _ (hs2 _ _ hk)
    rw [hk4 k (by omega) (fun e => by have := hf2 k e; omega)]; exact h5
  have hf4 : ∀ k, owner a4 = some k → r + 1 ≤ k := by
    intro k hk
    rcases how4 with h | ⟨q, h, hq⟩
    · rw [h] at hk; exact hf2 k hk
    · rw [h] at hk; cases hk; omega
  conv => whnf
  refine loop_intro3 (fun (i : Nat) (a' : Option Addr) (c' : Nat) => [(0, .pointer (some ⟨b, 0, none⟩)), (3, .pointer (some ⟨r, 0, none⟩)), (4, .slice a' (R.length + 1 + i) c')])
    (fun i a' c' h' t' => t4 ≤ t' ∧ i ≤ (119 - M.length % 64) % 64 ∧ Own h' 5 a' (R.length + 1 + i) c' bv (R ++ 128 :: List.replicate i 0) ∧ (∀ k, owner a' = some k → r + 1 ≤ k) ∧ Sub h1 h')
    (fun i _ _ => 64 - i) 0 a4 c4 ⟨rfl, rfl, ?_, trivial⟩ ⟨by omega, by omega, ?_, hf4, hs4⟩ ?_
  · show Value.slice a4 _ c4 = Value.slice a4 _ c4
    rw [hon]
  · have := ho4; rw [← hon] at this; exact this
  rintro i a5 c5 g h5 t5 hd5 ⟨ht5, hi, ho5, hf5, hs5⟩
  conv => whnf
  repeat (first | ((with_reducible apply Go.Vc.rem_i); (focus omega); conv => whnf) | ((with_reducible refine And.intro ?_ (And.intro ?_ ?_)); (focus exact rfl); (focus omega); conv => whnf))
  refine br (fun hb1 => ?_) (fun hb1 => ?_)
  · have hiz : i < (119 - M.length % 64) % 64 := by omega
    conv => whnf
    repeat (first | (intro _ _; conv => whnf))
    rename_i r6 hr6
    have hs6 := hd5.sub_new hr6 (.cells #[Value.int .u8 0] 5)
    have hd6 := hd5.set r6 (.cells #[Value.int .u8 0] 5) (r6 + 1) (by omega) (by omega)
    refine app_bytes (m := 1) (l2 := [0]) (ho5.fr (fun k o _ ho => hs6 k o ho)) (lit_bytes (hset_same _ _ _) rfl rfl) (by omega) hd6 ?_
    intro a7 c7 h7 t7 ho7 ht7 hd7 hk7 how7
    conv => whnf
    refine round_end3 (i + 1) a7 c7 (by omega) ⟨rfl, rfl, rfl, trivial⟩ ⟨by omega, by omega, ?_, ?_, ?_⟩
    · rw [List.replicate_succ', ← List.cons_append, ← List.append_assoc]; exact ho7
    · intro k hk
      rcases how7 with h | ⟨q, h, hq⟩
      · rw [h] at hk; exact hf5 k hk
      · rw [h] at hk; cases hk; omega
    · intro k o hk
      have hkt := hd1 k o hk
      rw [hk7 k (by omega) (fun e => by have := hf5 k e; omega)]
      exact hs6 k o (hs5 k o hk)
  · have hiz : i = (119 - M.length % 64) % 64 := by omega
    conv => whnf
    refine loop_intro3 (fun (j : Nat) (a' : Option Addr) (c' : Nat) => [(0, .pointer (some ⟨b, 0, none⟩)), (3, .pointer (some ⟨r, 0, none⟩)), (4, .slice a' (R.length + 1 + i + j) c'), (34, .int .i64 (j : Nat))])
      (fun j a' c' h' t' => t5 ≤ t' ∧ j ≤ 8 ∧ Own h' 5 a' (R.length + 1 + i + j) c' bv (R ++ 128 :: (List.replicate i 0 ++ (be8 (8 * M.length)).take j)) ∧ (∀ k, owner a' = some k → r + 1 ≤ k) ∧ Sub h1 h')
      (fun j _ _ => 8 - j) 0 a5 c5 ⟨rfl, rfl, rfl, rfl, trivial⟩ ⟨by omega, by omega, by rw [List.take_zero, List.append_nil]; exact ho5, hf5, hs5⟩ ?_
    have hrt5 : r + 1 ≤ t5 := by omega
    clear ho5 hf5 hs5 hd5 ht5
    rintro j a5 c5 g h5 t6 hd5 ⟨ht5, hj, ho5, hf5, hs5⟩
    conv => whnf
    refine br (fun hb2 => ?_) (fun hb2 => ?_)
    · have hj8 : j < 8 := by omega
      conv => whnf
      refine Go.Vc.ld_i (hs5 _ _ (hs1 _ _ hbC)) (HC_n rfl rfl) ?_
      conv => whnf
      repeat (first | ((with_reducible apply Go.Vc.wr_i64); (focus exact And.intro (by omega) (by omega)); conv => whnf) | ((with_reducible apply Go.Vc.wr_u64); (focus exact And.intro (by omega) (by omega)); conv => whnf) | ((with_reducible apply Go.Vc.and_leI); (focus omega); conv => whnf))
      refine Go.Vc.shr_i ⟨by omega, by show _ < (18446744073709551616 : Int); omega⟩ (fun z hz hz0 hz1 => ?_)
      conv => whnf
      have hx : IntKind.u8.wrap z = (((UInt8.ofNat ((8 * M.length) >>> (56 - 8 * j))).toNat : Nat) : Int) := by
        rw [wu8, hz, Nat.shiftRight_eq_div_pow, show ((56 : Int) - 8 * j).toNat = 56 - 8 * j by omega]
        simp [Int.mul_comm]
      refine ⟨_, hx.symm, ?_⟩
      conv => whnf
      repeat (first | (intro _ _; conv => whnf))
      rename_i r6 hr6
      generalize hX : UInt8.ofNat ((8 * M.length) >>> (56 - 8 * j)) = X at *
      have hs6 := hd5.sub_new hr6 (.cells #[bv X] 5)
      have hd6 := hd5.set r6 (.cells #[bv X] 5) (r6 + 1) (by omega) (by omega)
      refine app_bytes (m := 1) (l2 := [X]) (ho5.fr (fun k o _ ho => hs6 k o ho)) (lit_bytes (hset_same _ _ _) rfl rfl) (by omega) hd6 ?_
      intro a7 c7 h7 t7 ho7 ht7 hd7 hk7 how7
      conv => whnf
      repeat (first | ((with_reducible apply Go.Vc.wr_i64); (focus exact And.intro (by omega) (by omega)); conv => whnf))
      refine round_end3 (j + 1) a7 c7 (by omega) ⟨rfl, rfl, rfl, rfl, trivial⟩ ⟨by omega, by omega, ?_, ?_, ?_⟩
      · have hb8 : (be8 (8 * M.length)).take (j + 1) = (be8 (8 * M.length)).take j ++ [X] := by
          rw [List.take_add_one, ← hX]
          congr 1
          simp [be8, hj8]
        rw [hb8, ← List.append_assoc, ← List.cons_append, ← List.append_assoc]; exact ho7
      · intro k hk
        rcases how7 with h | ⟨q, h, hq⟩
        · rw [h] at hk; exact hf5 k hk
        · rw [h] at hk; cases hk; omega
      · intro k o hk
        have hkt := hd1 k o hk
        rw [hk7 k (by omega) (fun e => by have := hf5 k e; omega)]
        exact hs6 k o (hs5 k o hk)
    · have hj8 : j = 8 := by omega
      subst hj8
      have hpad : R ++ 128 :: (List.replicate i 0 ++ (be8 (8 * M.length)).take 8) = R ++ 128 :: (List.replicate ((119 - M.length % 64) % 64) 0 ++ be8 (8 * M.length)) := by
        rw [← hiz, List.take_of_length_le (by simp [be8])]
      rw [hpad] at ho5
      generalize hE : R ++ 128 :: (List.replicate ((119 - M.length % 64) % 64) 0 ++ be8 (8 * M.length)) = E at *
      obtain ⟨bE, offE, rfl⟩ : ∃ bE offE, a5 = some ⟨bE, offE, none⟩ := by
        rcases ho5.2 with ⟨h1, h2, _⟩ | ⟨b', off', _, _, ha, _⟩
        · omega
        · exact ⟨b', off', ha⟩
      conv => whnf
      refine ⟨E, readB_sl ho5.sl, ?_⟩
      conv => whnf
      have hEl := ho5.1
      have hsz : (⟨E.toArray⟩ : ByteArray).size = E.length := by show E.toArray.size = _; simp
      refine (write_gen (HM := HM) (R := []) (N := 0) (d := none) ⟨none, 0, 0, hs5 _ _ hbY, Own.nil _ _ _, rfl, by simp⟩ ⟨E.toArray⟩ (by rw [hsz]; simp; omega) (by rw [hsz]; omega)).mono ?_
      rintro _ h8 t8 hd8 ht8 ⟨rfl, d8, ⟨a8, n8, c8, hb8', ho8, _, _⟩, hd8', hk8⟩
      rw [show ([] : List UInt8) ++ (⟨E.toArray⟩ : ByteArray).data.toList = E from by simp] at hb8'
      have hb8 : Cel h8 r (HC (run (E.length / 64) HM E).list KT (.slice a8 n8 c8) (0 + (⟨E.toArray⟩ : ByteArray).size)) 173 := hb8'
      clear hb8'
      have hs8 : Sub h h8 := by
        intro k o hk
        have := hd k o hk
        exact hk8 k o (by omega) (by simp) (hs5 k o (hs1 k o hk))
      generalize hS : run (E.length / 64) HM E = S at *
      conv => whnf
      refine Go.Vc.ldrow hb8 (by rw [Nat.ble_eq, HC_size rfl rfl]; decide) ?_
      intro l hl
      have hl : l = S.list.map u32v := hl.trans (HC_rowh rfl)
      subst hl
      rw [Go.Vc.forceL_eq]
      conv => whnf
      have hrt8 : r + 1 ≤ t8 := by omega
      refine loop_intro3 (fun (j : Nat) (a' : Option Addr) (c' : Nat) => [(6, .slice a' (4 * j) c'), (59, .agg (S.list.map u32v).toArray), (60, .int .i64 (j : Nat))])
        (fun j a' c' h' t' => t8 ≤ t' ∧ j ≤ 8 ∧ Own h' 5 a' (4 * j) c' bv ((S.list.take j).flatMap four) ∧ (∀ k, owner a' = some k → t8 ≤ k) ∧ Sub h8 h')
        (fun j _ _ => 8 - j) 0 none 0 ⟨rfl, rfl, rfl, trivial⟩ ⟨by omega, by omega, Own.nil _ _ _, (fun k hk => by cases hk), Sub.refl _⟩ ?_
      rintro j a9 c9 g h9 t9 hd9 ⟨ht9, hj, ho9, hf9, hs9⟩
      conv => whnf
      refine br (fun hb3 => ?_) (fun hb3 => ?_)
      · have hj8 : j < 8 := by omega
        have hSl : S.list.length = 8 := rfl
        conv => whnf
        repeat (first | ((with_reducible apply Go.Vc.shr32); conv => whnf) | ((with_reducible apply Go.Vc.c32_8); conv => whnf) | ((with_reducible refine And.intro (And.intro ?_ ?_) ?_); (focus omega); (focus omega); conv => whnf) | ((with_reducible apply Go.Vc.agg_ld); (focus exact rfl); (focus (first | omega | (simp; done) | (simp; omega))); intro xA hxA; conv => whnf) | (intro _ _; conv => whnf) | ((with_reducible apply Go.Vc.and_leI); (focus omega); conv => whnf))
        have hx : S.list[j]? = some xA := hxA
        rename_i r10 hr10
        have hX4 : [UInt8.ofNat (xA >>> (Int.toNat 24)).toNat, UInt8.ofNat (xA >>> (Int.toNat 16)).toNat, UInt8.ofNat (xA >>> (Int.toNat 8)).toNat, UInt8.ofNat xA.toNat] = four xA := by
          simp [four]
        generalize hX : [UInt8.ofNat (xA >>> (Int.toNat 24)).toNat, UInt8.ofNat (xA >>> (Int.toNat 16)).toNat, UInt8.ofNat (xA >>> (Int.toNat 8)).toNat, UInt8.ofNat xA.toNat] = X at *
        have hs10 := hd9.sub_new hr10 (.cells (X.map bv).toArray 5)
        have hd10 := hd9.set r10 (.cells (X.map bv).toArray 5) (r10 + 1) (by omega) (by omega)
        have hcell : #[Value.int .u8 (((UInt8.ofNat (xA >>> (Int.toNat 24)).toNat).toNat : Nat) : Int), Value.int .u8 (((UInt8.ofNat (xA >>> (Int.toNat 16)).toNat).toNat : Nat) : Int), Value.int .u8 (((UInt8.ofNat (xA >>> (Int.toNat 8)).toNat).toNat : Nat) : Int), Value.int .u8 (((UInt8.ofNat xA.toNat).toNat : Nat) : Int)] = (X.map bv).toArray := by rw [← hX]; rfl
        rw [show [Value.int .u8 (((UInt8.ofNat (xA >>> (Int.toNat 24)).toNat).toNat : Nat) : Int), Value.int .u8 (((UInt8.ofNat (xA >>> (Int.toNat 16)).toNat).toNat : Nat) : Int), Value.int .u8 (((UInt8.ofNat (xA >>> (Int.toNat 8)).toNat).toNat : Nat) : Int), Value.int .u8 (((UInt8.ofNat xA.toNat).toNat : Nat) : Int)].toArray = (X.map bv).toArray from hcell]
        have hXl : X.length = 4 := by rw [← hX]; rfl
        refine app_bytes (m := 4) (l2 := X) (ho9.fr (fun k o _ ho => hs10 k o ho)) (ar_sl (hset_same _ _ _) hXl) (by omega) hd10 ?_
        intro a11 c11 h11 t11 ho11 ht11 hd11 hk11 how11
        conv => whnf
        repeat (first | ((with_reducible apply Go.Vc.wr_i64); (focus exact And.intro (by omega) (by omega)); conv => whnf))
        refine round_end3 (j + 1) a11 c11 (by omega) ⟨?_, rfl, rfl, trivial⟩ ⟨by omega, by omega, ?_, ?_, ?_⟩
        · show Value.slice a11 (4 * j + 4) c11 = Value.slice a11 (4 * (j + 1)) c11
          rw [Nat.mul_add]
        · rw [List.take_add_one, hx, List.flatMap_append]
          rw [show 4 * (j + 1) = 4 * j + 4 by omega]
          simpa [← hX4] using ho11
        · intro k hk
          rcases how11 with h | ⟨q, h, hq⟩
          · rw [h] at hk; exact hf9 k hk
          · rw [h] at hk; cases hk; omega
        · intro k o hk
          have hkt := hd8 k o hk
          rw [hk11 k (by omega) (fun e => by have := hf9 k e; omega)]
          exact hs10 k o (hs9 k o hk)
      · have hj8 : j = 8 := by omega
        subst hj8
        have hout : (S.list.take 8).flatMap four = out S := rfl
        rw [hout] at ho9
        obtain ⟨bO, offO, rfl⟩ : ∃ bO offO, a9 = some ⟨bO, offO, none⟩ := by
          rcases ho9.2 with ⟨h1, h2, _⟩ | ⟨b', off', _, _, ha, _⟩
          · omega
          · exact ⟨b', off', ha⟩
        conv => whnf
        refine ⟨out S, readB_sl ho9.sl, ?_⟩
        conv => whnf
        refine ⟨?_, hs8.trans hs9⟩
        have hpm : pad M = M ++ 128 :: (List.replicate ((119 - M.length % 64) % 64) 0 ++ be8 (8 * M.length)) := rfl
        have hw := run_write M (128 :: (List.replicate ((119 - M.length % 64) % 64) 0 ++ be8 (8 * M.length)))
        rw [← hpm, hR, hE, hHM, hS] at hw
        unfold sha
        rw [hw]
end Go.Proofs.YtlkpgjicpjjlcaaGreatDoor

/- One, and the reference's sum. -/
set_option linter.unusedSimpArgs false
namespace Go.Proofs.YtlkpgjicpjjlcaaGreatDoor
open Go Go.Vc Go.Sha
set_option maxRecDepth 10000
set_option linter.unusedVariables false

theorem newAt {h : Heap} {b : Nat} (hb : h b = some (.cells (HC H0.list KT (.slice none 0 0) 0) 173 (0, 0))) : HashAt h b none [] :=
  ⟨none, 0, 0, hb, Own.nil _ _ _, rfl, by simp⟩
theorem one_spec (s : ByteArray) (hs : s.size ≤ 1099511627000) (h : Heap) (t : Nat) : CallSpec Tryz.prog 51 #[.string s] h t (fun v h' t' => v = .string (shaB s) ∧ Sub h h') := by
  have hsl : s.data.toList.length = s.size := by rw [Array.length_toList]; rfl
  refine Go.Vc.spec_of_vc (fn := Tryz.f51) Tryz.func51 rfl (by kernel_rfl) (by kernel_rfl) (Nat.le_of_ble_eq_true rfl) ?_
  intro hd
  conv => whnf
  refine (new_spec h t).mono ?_
  rintro _ h1 t1 hd1 ht1 ⟨b, rfl, hb, hbt, hb1, hs1⟩
  conv => whnf
  refine (write_spec (newAt hb1) s (by simp; omega)).mono ?_
  rintro _ h2 t2 hd2 ht2 ⟨rfl, d, x2, hd', hk2⟩
  conv => whnf
  rw [List.nil_append] at x2
  refine (sum_spec x2 (by omega)).mono ?_
  rintro _ h3 t3 hd3 ht3 ⟨rfl, hs3⟩
  conv => whnf
  refine ⟨rfl, ?_⟩
  intro k o ho
  have := hd k o ho
  exact hs3 k o (hk2 k o (by omega) (by simp) (hs1 k o ho))

theorem turn_spec (x : U) (n : Nat) (hn : n ≤ 31) (h : Heap) (t : Nat) : CallSpec Tryz.prog 115 #[.int .u32 (x.toNat : Int), .int .u64 (n : Int)] h t (fun v h' t' => v = u32v (rotr x n) ∧ h = h' ∧ t = t') := by
  refine Go.Vc.spec_of_vc (fn := Tryz.f115) Tryz.func115 rfl (by kernel_rfl) (by kernel_rfl) (Nat.le_of_ble_eq_true rfl) ?_
  intro hd
  conv => whnf
  repeat (first | ((with_reducible apply Go.Vc.or32); conv => whnf) | ((with_reducible apply Go.Vc.shl32); conv => whnf) | ((with_reducible apply Go.Vc.shr32); conv => whnf) | ((with_reducible apply Go.Vc.wr_u64); (focus exact And.intro (by omega) (by omega)); conv => whnf) | ((with_reducible apply Go.Vc.and_leI); (focus omega); conv => whnf))
  refine ⟨?_, rfl, rfl⟩
  unfold rotr
  have e : ((32 : Int) - n).toNat = 32 - n := by omega
  rw [e]; rfl

theorem four_spec (x : U) (h : Heap) (t : Nat) : CallSpec Tryz.prog 91 #[.int .u32 (x.toNat : Int)] h t (fun v h' t' => v = .string ⟨(four x).toArray⟩ ∧ Sub h h') := by
  refine Go.Vc.spec_of_vc (fn := Tryz.f91) Tryz.func91 rfl (by kernel_rfl) (by kernel_rfl) (Nat.le_of_ble_eq_true rfl) ?_
  intro hd
  conv => whnf
  repeat (first | ((with_reducible apply Go.Vc.shr32); conv => whnf) | ((with_reducible apply Go.Vc.c32_8); conv => whnf) | (intro _ _; conv => whnf) | ((with_reducible apply Go.Vc.and_leI); (focus omega); conv => whnf))
  rename_i r hr
  have hX4 : [UInt8.ofNat (x >>> (Int.toNat 24)).toNat, UInt8.ofNat (x >>> (Int.toNat 16)).toNat, UInt8.ofNat (x >>> (Int.toNat 8)).toNat, UInt8.ofNat x.toNat] = four x := by
    simp [four]
  refine ⟨four x, readB_sl (lit_bytes (hset_same _ _ _) (by rw [← hX4]; rfl) rfl), ?_⟩
  conv => whnf
  exact ⟨rfl, hd.sub_new hr _⟩

theorem byte_data (s : ByteArray) (i : Nat) : byte s.data.toList i = s.data.getD i 0 := by
  simp [byte, Array.getD_eq_getD_getElem?, List.getD_eq_getElem?_getD]
theorem be4_or (a b c d : UInt8) : BitVec.ofNat 32 a.toNat <<< 24 ||| BitVec.ofNat 32 b.toNat <<< 16 ||| BitVec.ofNat 32 c.toNat <<< 8 ||| BitVec.ofNat 32 d.toNat = be4 a b c d := by
  have h := pw_word [a, b, c, d] 0
  have e : pw [a, b, c, d] 0 4 = ((((0 : U) <<< 8 ||| BitVec.ofNat 32 a.toNat) <<< 8 ||| BitVec.ofNat 32 b.toNat) <<< 8 ||| BitVec.ofNat 32 c.toNat) <<< 8 ||| BitVec.ofNat 32 d.toNat := rfl
  rw [e] at h
  rw [show be4 a b c d = word [a, b, c, d] 0 from rfl, ← h]
  simp only [BitVec.shiftLeft_or_distrib, ← BitVec.shiftLeft_add]
  rw [show (0 : U) <<< (8 + 8 + 8 + 8) = 0#32 from by decide, BitVec.zero_or]

theorem word_spec (s : ByteArray) (i : Int) (hi : 0 ≤ i ∧ i + 3 < s.size) (hs : s.size ≤ 1099511627776) (h : Heap) (t : Nat) : CallSpec Tryz.prog 114 #[.string s, .int .i64 i] h t (fun v h' t' => v = u32v (be4 (byte s.data.toList i.toNat) (byte s.data.toList (i.toNat + 1)) (byte s.data.toList (i.toNat + 2)) (byte s.data.toList (i.toNat + 3))) ∧ h = h' ∧ t = t') := by
  refine Go.Vc.spec_of_vc (fn := Tryz.f114) Tryz.func114 rfl (by kernel_rfl) (by kernel_rfl) (Nat.le_of_ble_eq_true rfl) ?_
  intro hd
  conv => whnf
  refine Go.Vc.draw_intro [⟨0, false, false, false, 0⟩, ⟨1, false, false, false, 0⟩, ⟨2, false, false, false, 3⟩, ⟨3, false, false, false, 7⟩, ⟨4, false, false, false, 15⟩, ⟨5, false, false, false, 0⟩, ⟨6, false, false, false, 0⟩, ⟨7, false, false, false, 64⟩, ⟨8, false, false, false, 224⟩, ⟨9, false, false, false, 480⟩, ⟨10, false, false, false, 992⟩, ⟨11, false, false, false, 2047⟩, ⟨12, false, false, false, 0⟩, ⟨13, false, false, false, 0⟩, ⟨14, false, false, false, 8192⟩, ⟨15, false, false, false, 28672⟩, ⟨16, false, false, false, 61440⟩, ⟨17, false, false, false, 126976⟩, ⟨18, false, false, false, 262143⟩, ⟨19, false, false, false, 0⟩, ⟨20, false, false, false, 0⟩, ⟨21, false, false, false, 1048576⟩, ⟨22, false, false, false, 3670016⟩, ⟨23, false, false, false, 7864320⟩, ⟨24, false, false, false, 16777215⟩, ⟨25, false, false, false, 33554431⟩] (hs := (fun _ => none)) (hsub := (fun _ _ h => nomatch h)) (hm := by kernel_rfl) (hpl := by kernel_rfl) ?_
  conv => whnf
  conv => whnf
  repeat (first | ((with_reducible apply Go.Vc.or32); conv => whnf) | ((with_reducible apply Go.Vc.shl32); conv => whnf) | ((with_reducible apply Go.Vc.cb_32); conv => whnf) | ((with_reducible refine And.intro (And.intro ?_ ?_) ?_); (focus omega); (focus omega); conv => whnf) | (intro _ _; conv => whnf) | ((with_reducible apply Go.Vc.wr_i64); (focus exact And.intro (by omega) (by omega)); conv => whnf) | ((with_reducible apply Go.Vc.and_leI); (focus omega); conv => whnf))
  refine ⟨?_, rfl, rfl⟩
  rw [byte_data, byte_data, byte_data, byte_data, ← be4_or, show (i + 1).toNat = i.toNat + 1 by omega, show (i + 2).toNat = i.toNat + 2 by omega, show (i + 3).toNat = i.toNat + 3 by omega]
  rfl

def stv (s : St) : Value := .agg (vs s)
theorem step_spec (s : St) (k w : U) (h : Heap) (t : Nat) : CallSpec Tryz.prog 117 #[stv s, .int .u32 (k.toNat : Int), .int .u32 (w.toNat : Int)] h t (fun v h' t' => v = stv (Go.Sha.step s k w) ∧ Sub h h') := by
  unfold stv vs
  refine Go.Vc.spec_of_vc (fn := Tryz.f117) Tryz.func117 rfl (by kernel_rfl) (by kernel_rfl) (Nat.le_of_ble_eq_true rfl) ?_
  intro hd
  conv => whnf
  repeat (first | (intro _ _; conv => whnf))
  rename_i r hr r2 hr2
  have hs0 : ∀ o1 o2, Sub h (hset (hset h r o1) r2 o2) := by
    intro o1 o2 k o ho
    have := hd k o ho
    rw [hset_ne _ _ (by omega), hset_ne _ _ (by omega)]; exact ho
  refine Go.Vc.draw_intro [⟨0, false, true, false, 0⟩, ⟨1, false, true, false, 1⟩, ⟨2, false, false, false, 0⟩, ⟨3, false, false, false, 4⟩, ⟨5, false, true, false, 0⟩, ⟨6, false, true, false, 32⟩, ⟨9, false, true, false, 0⟩, ⟨10, false, true, false, 512⟩, ⟨14, false, true, false, 0⟩, ⟨15, false, true, false, 16384⟩, ⟨16, false, true, false, 0⟩, ⟨17, false, true, false, 65536⟩, ⟨18, false, true, false, 245760⟩, ⟨19, false, true, false, 0⟩, ⟨20, false, true, false, 524288⟩, ⟨21, false, true, false, 1572864⟩, ⟨22, false, true, false, 0⟩, ⟨23, false, true, false, 4194304⟩, ⟨24, false, true, false, 16252928⟩, ⟨25, false, true, false, 33538048⟩, ⟨27, false, true, false, 0⟩, ⟨29, false, true, false, 0⟩, ⟨4, true, false, true, 12⟩, ⟨7, true, false, true, 124⟩, ⟨8, false, true, false, 252⟩, ⟨11, true, false, true, 1788⟩, ⟨12, false, false, false, 4092⟩, ⟨13, false, false, false, 8191⟩, ⟨26, false, false, false, 67108863⟩, ⟨28, false, false, false, 268435455⟩, ⟨30, false, false, false, 1073741823⟩, ⟨31, false, false, false, 2147483647⟩] (hs := _) (hsub := (Sub.refl _)) (hm := by kernel_rfl) (hpl := by kernel_rfl) ?_
  conv => whnf
  conv => whnf
  repeat (first | ((with_reducible apply Go.Vc.xor32); conv => whnf) | ((with_reducible apply Go.Vc.and32); conv => whnf) | ((with_reducible apply Go.Vc.not32); conv => whnf) | ((with_reducible apply Go.Vc.ld_i); (focus ((repeat (first | with_reducible assumption | with_reducible exact Go.Vc.hset_same _ _ _ | with_reducible refine (Go.Vc.hset_ne _ _ (by omega)).trans ?_)); done)); (focus exact rfl); conv => whnf))
  refine (turn_spec _ 6 (by omega) _ _).mono ?_
  rintro _ _ _ _ _ ⟨rfl, rfl, rfl⟩
  conv => whnf
  repeat (first | ((with_reducible refine And.intro (Go.Vc.Sub.refl _) ?_); conv => whnf))
  refine (turn_spec _ 11 (by omega) _ _).mono ?_
  rintro _ _ _ _ _ ⟨rfl, rfl, rfl⟩
  conv => whnf
  repeat (first | ((with_reducible apply Go.Vc.xor32); conv => whnf) | ((with_reducible refine And.intro (Go.Vc.Sub.refl _) ?_); conv => whnf))
  refine (turn_spec _ 25 (by omega) _ _).mono ?_
  rintro _ _ _ _ _ ⟨rfl, rfl, rfl⟩
  conv => whnf
  repeat (first | ((with_reducible apply Go.Vc.add32); conv => whnf) | ((with_reducible apply Go.Vc.xor32); conv => whnf) | ((with_reducible refine And.intro (Go.Vc.Sub.refl _) ?_); conv => whnf))
  refine Go.Vc.draw_intro [⟨0, false, false, false, 0⟩, ⟨1, false, false, false, 1⟩, ⟨3, false, true, false, 0⟩, ⟨4, false, true, false, 8⟩, ⟨7, false, true, false, 0⟩, ⟨8, false, true, false, 128⟩, ⟨11, false, true, false, 0⟩, ⟨12, false, true, false, 2048⟩, ⟨13, false, true, false, 0⟩, ⟨14, false, true, false, 8192⟩, ⟨15, false, true, false, 30720⟩, ⟨16, false, true, false, 0⟩, ⟨17, false, true, false, 65536⟩, ⟨18, false, true, false, 0⟩, ⟨19, false, true, false, 262144⟩, ⟨20, false, true, false, 983040⟩, ⟨21, false, true, false, 2095104⟩, ⟨22, false, true, false, 0⟩, ⟨23, false, true, false, 4194304⟩, ⟨24, false, true, false, 0⟩, ⟨25, false, true, false, 16777216⟩, ⟨26, false, true, false, 62914560⟩, ⟨27, false, true, false, 134215680⟩, ⟨2, true, false, true, 3⟩, ⟨5, true, false, true, 31⟩, ⟨6, false, true, false, 63⟩, ⟨9, true, false, true, 447⟩, ⟨10, false, false, false, 1023⟩, ⟨28, false, false, false, 268435455⟩, ⟨29, false, false, false, 536870911⟩] (hs := _) (hsub := (Sub.refl _)) (hm := by kernel_rfl) (hpl := by kernel_rfl) ?_
  conv => whnf
  conv => whnf
  repeat (first | ((with_reducible apply Go.Vc.xor32); conv => whnf) | ((with_reducible apply Go.Vc.and32); conv => whnf) | ((with_reducible apply Go.Vc.ld_i); (focus ((repeat (first | with_reducible assumption | with_reducible exact Go.Vc.hset_same _ _ _ | with_reducible refine (Go.Vc.hset_ne _ _ (by omega)).trans ?_)); done)); (focus exact rfl); conv => whnf))
  refine (turn_spec _ 2 (by omega) _ _).mono ?_
  rintro _ _ _ _ _ ⟨rfl, rfl, rfl⟩
  conv => whnf
  repeat (first | ((with_reducible refine And.intro (Go.Vc.Sub.refl _) ?_); conv => whnf))
  refine (turn_spec _ 13 (by omega) _ _).mono ?_
  rintro _ _ _ _ _ ⟨rfl, rfl, rfl⟩
  conv => whnf
  repeat (first | ((with_reducible apply Go.Vc.xor32); conv => whnf) | ((with_reducible refine And.intro (Go.Vc.Sub.refl _) ?_); conv => whnf))
  refine (turn_spec _ 22 (by omega) _ _).mono ?_
  rintro _ _ _ _ _ ⟨rfl, rfl, rfl⟩
  conv => whnf
  repeat (first | ((with_reducible apply Go.Vc.add32); conv => whnf) | ((with_reducible apply Go.Vc.xor32); conv => whnf) | ((with_reducible apply Go.Vc.ldrow); (focus ((repeat (first | with_reducible assumption | with_reducible exact Go.Vc.hset_same _ _ _ | with_reducible refine (Go.Vc.hset_ne _ _ (by omega)).trans ?_)); done)); (focus exact rfl); rintro _ rfl; conv => whnf) | ((with_reducible apply Go.Vc.strow); (focus ((repeat (first | with_reducible assumption | with_reducible exact Go.Vc.hset_same _ _ _ | with_reducible refine (Go.Vc.hset_ne _ _ (by omega)).trans ?_)); done)); (focus exact rfl); (focus exact rfl); (focus exact rfl); rintro _ rfl; conv => whnf) | ((with_reducible apply Go.Vc.ld_i); (focus ((repeat (first | with_reducible assumption | with_reducible exact Go.Vc.hset_same _ _ _ | with_reducible refine (Go.Vc.hset_ne _ _ (by omega)).trans ?_)); done)); (focus exact rfl); conv => whnf) | ((with_reducible refine And.intro (Go.Vc.Sub.refl _) ?_); conv => whnf))
  refine ⟨rfl, ?_⟩
  intro k o ho
  have := hd k o ho
  rw [hset_ne _ _ (by omega)]; exact hs0 _ _ k o ho

theorem table_spec (h : Heap) (t : Nat) : CallSpec Tryz.prog 116 #[] h t (fun v h' t' => ∃ r, v = .slice (some ⟨r, 0, none⟩) 64 64 ∧ t ≤ r ∧ r < t' ∧ h' r = some (.cells (KT.map u32v).toArray 117 (0, 0)) ∧ Sub h h') := by
  refine Go.Vc.spec_of_vc (fn := Tryz.f116) Tryz.func116 rfl (by kernel_rfl) (by kernel_rfl) (Nat.le_of_ble_eq_true rfl) ?_
  intro hd
  conv => whnf
  intro r hr
  conv => whnf
  refine ⟨r, rfl, hr, by omega, ?_, hd.sub_new hr _⟩
  rw [hset_same]; rfl

theorem app_words {h : Heap} {t : Nat} {a xa : Option Addr} {n c m xc : Nat} {l l2 : List U} {ty : TypeId} (ho : Own h 117 a n c u32v l) (hx : Sl h xa m u32v l2) (hb : n + m ≤ 1073741824) (hd : Dom h t) {K : Value → Heap → Nat → Prop}
    (hK : ∀ a' c' h' t', Own h' 117 a' (n + m) c' u32v (l ++ l2) → t ≤ t' → Dom h' t' → (∀ k, k < t → owner a ≠ some k → h' k = h k) → (owner a' = owner a ∨ ∃ r, owner a' = some r ∧ t ≤ r) → K (.slice a' (n + m) c') h' t') :
    AppVC Tryz.prog #[196, 196] ty (.slice a n c) (.slice xa m xc) K h t :=
  app_vc (f := u32v) Tryz.underlying196 Tryz.underlying196 rfl (inf := Tryz.types[117]) (z := .int .u32 0) (by kernel_rfl) (by kernel_rfl) (by kernel_rfl) rfl ho ⟨_, _, rfl, hx⟩ (fun _ => rfl) (by show (n + m) * 4 ≤ _; omega) (by omega) (by show 4 ≤ 1000; omega) hd hK
theorem one_word {h : Heap} {r : Nat} {x : U} {T : TypeId} {c : Array Value} (hr : h r = some (.cells c T (0, 0))) (hc : c = #[u32v x]) : Sl h (some ⟨r, 0, none⟩) 1 u32v [x] := by
  subst hc; exact ar_sl (l := [x]) hr rfl

theorem at_getD {l : List U} {j : Nat} {x : U} (h : l[j]? = some x) : x = l.getD j 0 := by simp [List.getD_eq_getElem?_getD, h]

theorem refBlock_spec (S : St) (s : ByteArray) (hs : s.size = 64) (h : Heap) (t : Nat) : CallSpec Tryz.prog 92 #[stv S, .string s] h t (fun v h' t' => v = stv (compress S s.data.toList) ∧ Sub h h') := by
  have hsl : s.data.toList.length = 64 := by rw [Array.length_toList]; exact hs
  generalize hL : s.data.toList = L at *
  have hwl := words_length L
  refine Go.Vc.spec_of_vc (fn := Tryz.f92) Tryz.func92 rfl (by kernel_rfl) (by kernel_rfl) (Nat.le_of_ble_eq_true rfl) ?_
  intro hd
  conv => whnf
  intro r0 hr0
  conv => whnf
  intro r1 hr1
  conv => whnf
  generalize hh1 : hset (hset h r0 _) r1 _ = h1
  have hs1 : Sub h h1 := by
    intro k o ho
    have := hd k o ho
    rw [← hh1, hset_ne _ _ (by omega), hset_ne _ _ (by omega)]; exact ho
  have hc0 : h1 r0 = some (.cells (vs S) 163 (0, 0)) := by rw [← hh1, hset_ne _ _ (by omega)]; exact hset_same _ _ _
  have hc1 : Cel h1 r1 #[.int .u32 0, .int .u32 0, .int .u32 0, .int .u32 0, .int .u32 0, .int .u32 0, .int .u32 0, .int .u32 0] 163 := by rw [← hh1]; exact hset_same _ _ _
  have hd1 : Dom h1 (r1 + 1) := by rw [← hh1]; exact (hd.set r0 _ (r0 + 1) (by omega) (by omega)).set r1 _ (r1 + 1) (by omega) (by omega)
  refine loop_intro3 (fun (i : Nat) (a : Option Addr) (c : Nat) => [(1, .string s), (2, .pointer (some ⟨r0, 0, none⟩)), (4, .pointer (some ⟨r1, 0, none⟩)), (5, .slice a i c), (6, .int .i64 (i : Nat))])
    (fun i a c h' t' => r1 + 1 ≤ t' ∧ i ≤ 16 ∧ Own h' 117 a i c u32v ((words L).take i) ∧ (∀ k, owner a = some k → r1 + 1 ≤ k) ∧ Sub h1 h') (fun i _ _ => 16 - i) 0 none 0 ⟨rfl, rfl, rfl, rfl, rfl, trivial⟩ ⟨by omega, by omega, Own.nil _ _ _, (fun k hk => by cases hk), Sub.refl _⟩ ?_
  rintro i a c g h2 t2 hd2 ⟨ht2, hi, ho2, hf2, hs2⟩
  conv => whnf
  refine br (fun hb1 => ?_) (fun hb1 => ?_)
  · have hlt : i < 16 := by omega
    conv => whnf
    repeat (first | ((with_reducible apply Go.Vc.wr_i64); (focus exact And.intro (by omega) (by omega)); conv => whnf))
    refine (word_spec s (4 * i) (by omega) (by omega) _ _).mono ?_
    rintro _ _ _ _ _ ⟨rfl, rfl, rfl⟩
    have hw : be4 (byte s.data.toList (4 * (i : Int)).toNat) (byte s.data.toList ((4 * (i : Int)).toNat + 1)) (byte s.data.toList ((4 * (i : Int)).toNat + 2)) (byte s.data.toList ((4 * (i : Int)).toNat + 3)) = word L i := by
      rw [hL, show (4 * (i : Int)).toNat = 4 * i by omega]; rfl
    rw [hw]
    conv => whnf
    repeat (first | (intro _ _; conv => whnf))
    rename_i r3 hr3
    have hs3 := hd2.sub_new hr3 (.cells #[u32v (word L i)] 117)
    have hd3 := hd2.set r3 (.cells #[u32v (word L i)] 117) (r3 + 1) (by omega) (by omega)
    refine app_words (m := 1) (l2 := [word L i]) (ho2.fr (fun k o _ ho => hs3 k o ho)) (one_word (hset_same _ _ _) rfl) (by omega) hd3 ?_
    intro a4 c4 h4 t4 ho4 ht4 hd4 hk4 how4
    conv => whnf
    repeat (first | ((with_reducible apply Go.Vc.wr_i64); (focus exact And.intro (by omega) (by omega)); conv => whnf))
    refine round_end3 (i + 1) a4 c4 (by omega) ⟨rfl, rfl, rfl, rfl, rfl, trivial⟩ ⟨by omega, by omega, ?_, ?_, ?_⟩
    · have : (words L)[i]? = some (word L i) := by simp [words, hlt]
      rw [List.take_add_one, this]; exact ho4
    · intro k hk
      rcases how4 with h | ⟨q, h, hq⟩
      · rw [h] at hk; exact hf2 k hk
      · rw [h] at hk; cases hk; omega
    · intro k o hk
      have hkt := hd1 k o hk
      rw [hk4 k (by omega) (fun e => by have := hf2 k e; omega)]
      exact hs3 k o (hs2 k o hk)
  · have h16 : i = 16 := by omega
    subst h16
    rw [List.take_of_length_le (by omega)] at ho2
    conv => whnf
    refine loop_intro3 (fun (i : Nat) (a : Option Addr) (c : Nat) => [(1, .string s), (2, .pointer (some ⟨r0, 0, none⟩)), (4, .pointer (some ⟨r1, 0, none⟩)), (5, .slice a i c), (7, .int .i64 (i : Nat))])
      (fun i a c h' t' => r1 + 1 ≤ t' ∧ 16 ≤ i ∧ i ≤ 64 ∧ Own h' 117 a i c u32v (sched (words L) (i - 16)) ∧ (∀ k, owner a = some k → r1 + 1 ≤ k) ∧ Sub h1 h') (fun i _ _ => 64 - i) 16 a c ⟨rfl, rfl, rfl, rfl, rfl, trivial⟩ ⟨by omega, by omega, by omega, ho2, hf2, hs2⟩ ?_
    clear ho2 hf2 hs2 hd2 ht2 hb1
    rintro i a c g h2 t2 hd2 ⟨ht2, hi16, hi, ho2, hf2, hs2⟩
    have sl2 := ho2.sl
    conv => whnf
    refine br (fun hb1 => ?_) (fun hb1 => ?_)
    · have hlt : i < 64 := by omega
      conv => whnf
      refine Go.Vc.draw_intro [⟨0, false, false, false, 0⟩, ⟨1, false, false, false, 0⟩, ⟨2, false, false, false, 2⟩, ⟨3, false, false, false, 7⟩, ⟨4, false, false, false, 15⟩, ⟨6, false, true, false, 0⟩, ⟨7, false, true, false, 0⟩, ⟨8, false, true, false, 128⟩, ⟨9, false, true, false, 448⟩, ⟨10, false, true, false, 960⟩, ⟨13, false, true, false, 0⟩, ⟨14, false, true, false, 0⟩, ⟨15, false, true, false, 16384⟩, ⟨16, false, true, false, 57344⟩, ⟨17, false, true, false, 122880⟩, ⟨18, false, true, false, 253952⟩, ⟨5, true, false, true, 31⟩, ⟨11, true, false, true, 2047⟩, ⟨12, false, false, false, 4095⟩, ⟨19, false, false, false, 524287⟩, ⟨20, false, false, false, 1048575⟩] (hs := _) (hsub := (Sub.refl _)) (hm := by kernel_rfl) (hpl := by kernel_rfl) ?_
      conv => whnf
      conv => whnf
      repeat (first | ((with_reducible apply Go.Vc.shr32); conv => whnf) | ((with_reducible apply Go.Vc.sl_ix); (focus with_reducible assumption); (focus exact And.intro (by omega) (by omega)); intro xI bI offI hxI hcI; conv => whnf) | ((with_reducible apply Go.Vc.cell_i); (focus assumption); conv => whnf) | ((with_reducible apply Go.Vc.wr_i64); (focus exact And.intro (by omega) (by omega)); conv => whnf) | ((with_reducible apply Go.Vc.and_leI); (focus omega); conv => whnf))
      obtain ⟨yy, rfl⟩ : ∃ yy, yy = xI := ⟨xI, rfl⟩
      have hyy := at_getD hxI
      clear hxI
      subst hyy
      obtain ⟨yy, rfl⟩ : ∃ yy, yy = xI := ⟨xI, rfl⟩
      have hyy := at_getD hxI
      clear hxI
      subst hyy
      obtain ⟨yy, rfl⟩ : ∃ yy, yy = xI := ⟨xI, rfl⟩
      have hyy := at_getD hxI
      clear hxI
      subst hyy
      refine (turn_spec _ 17 (by omega) _ _).mono ?_
      rintro _ _ _ _ _ ⟨rfl, rfl, rfl⟩
      conv => whnf
      repeat (first | ((with_reducible refine And.intro (Go.Vc.Sub.refl _) ?_); conv => whnf))
      refine (turn_spec _ 19 (by omega) _ _).mono ?_
      rintro _ _ _ _ _ ⟨rfl, rfl, rfl⟩
      conv => whnf
      repeat (first | ((with_reducible apply Go.Vc.xor32); conv => whnf) | ((with_reducible refine And.intro (Go.Vc.Sub.refl _) ?_); conv => whnf))
      refine Go.Vc.draw_intro [⟨0, false, false, false, 0⟩, ⟨1, false, false, false, 0⟩, ⟨2, false, false, false, 2⟩, ⟨3, false, false, false, 7⟩, ⟨4, false, false, false, 15⟩, ⟨6, false, true, false, 0⟩, ⟨7, false, true, false, 0⟩, ⟨8, false, true, false, 128⟩, ⟨9, false, true, false, 448⟩, ⟨10, false, true, false, 960⟩, ⟨13, false, true, false, 0⟩, ⟨14, false, true, false, 0⟩, ⟨15, false, true, false, 16384⟩, ⟨16, false, true, false, 57344⟩, ⟨17, false, true, false, 122880⟩, ⟨18, false, true, false, 253952⟩, ⟨5, true, false, true, 31⟩, ⟨11, true, false, true, 2047⟩, ⟨12, false, false, false, 4095⟩, ⟨19, false, false, false, 524287⟩, ⟨20, false, false, false, 1048575⟩] (hs := _) (hsub := (Sub.refl _)) (hm := by kernel_rfl) (hpl := by kernel_rfl) ?_
      conv => whnf
      conv => whnf
      repeat (first | ((with_reducible apply Go.Vc.shr32); conv => whnf) | ((with_reducible apply Go.Vc.sl_ix); (focus with_reducible assumption); (focus exact And.intro (by omega) (by omega)); intro xI bI offI hxI hcI; conv => whnf) | ((with_reducible apply Go.Vc.cell_i); (focus assumption); conv => whnf) | ((with_reducible apply Go.Vc.wr_i64); (focus exact And.intro (by omega) (by omega)); conv => whnf) | ((with_reducible apply Go.Vc.and_leI); (focus omega); conv => whnf))
      obtain ⟨yy, rfl⟩ : ∃ yy, yy = xI := ⟨xI, rfl⟩
      have hyy := at_getD hxI
      clear hxI
      subst hyy
      obtain ⟨yy, rfl⟩ : ∃ yy, yy = xI := ⟨xI, rfl⟩
      have hyy := at_getD hxI
      clear hxI
      subst hyy
      obtain ⟨yy, rfl⟩ : ∃ yy, yy = xI := ⟨xI, rfl⟩
      have hyy := at_getD hxI
      clear hxI
      subst hyy
      refine (turn_spec _ 7 (by omega) _ _).mono ?_
      rintro _ _ _ _ _ ⟨rfl, rfl, rfl⟩
      conv => whnf
      repeat (first | ((with_reducible refine And.intro (Go.Vc.Sub.refl _) ?_); conv => whnf))
      refine (turn_spec _ 18 (by omega) _ _).mono ?_
      rintro _ _ _ _ _ ⟨rfl, rfl, rfl⟩
      conv => whnf
      repeat (first | ((with_reducible apply Go.Vc.xor32); conv => whnf) | ((with_reducible refine And.intro (Go.Vc.Sub.refl _) ?_); conv => whnf))
      refine Go.Vc.draw_intro [⟨0, false, true, false, 0⟩, ⟨1, false, false, false, 0⟩, ⟨2, false, false, false, 0⟩, ⟨3, false, false, false, 0⟩, ⟨4, false, false, false, 8⟩, ⟨5, false, false, false, 28⟩, ⟨6, false, false, false, 60⟩, ⟨7, false, false, false, 126⟩, ⟨8, false, false, false, 0⟩, ⟨9, false, false, false, 510⟩, ⟨10, false, false, false, 0⟩, ⟨11, false, false, false, 0⟩, ⟨12, false, false, false, 2048⟩, ⟨13, false, false, false, 7168⟩, ⟨14, false, false, false, 15360⟩, ⟨15, false, false, false, 32766⟩, ⟨16, true, false, true, 65534⟩, ⟨17, true, false, false, 131071⟩, ⟨18, false, false, false, 262143⟩] (hs := _) (hsub := (Sub.refl _)) (hm := by kernel_rfl) (hpl := by kernel_rfl) ?_
      conv => whnf
      conv => whnf
      repeat (first | ((with_reducible apply Go.Vc.add32); conv => whnf) | ((with_reducible apply Go.Vc.sl_ix); (focus with_reducible assumption); (focus exact And.intro (by omega) (by omega)); intro xI bI offI hxI hcI; conv => whnf) | ((with_reducible apply Go.Vc.cell_i); (focus assumption); conv => whnf) | (intro _ _; conv => whnf) | ((with_reducible apply Go.Vc.wr_i64); (focus exact And.intro (by omega) (by omega)); conv => whnf))
      rename_i r3 hr3
      obtain ⟨yy, rfl⟩ : ∃ yy, yy = xI := ⟨xI, rfl⟩
      have hyy := at_getD hxI
      clear hxI
      subst hyy
      obtain ⟨yy, rfl⟩ : ∃ yy, yy = xI := ⟨xI, rfl⟩
      have hyy := at_getD hxI
      clear hxI
      subst hyy
      have hw : (rotr ((sched (words L) (i - 16)).getD ((i : Int) - 2).toNat 0) 17 ^^^ rotr ((sched (words L) (i - 16)).getD ((i : Int) - 2).toNat 0) 19 ^^^ (sched (words L) (i - 16)).getD ((i : Int) - 2).toNat 0 >>> (Int.toNat 10)) + (sched (words L) (i - 16)).getD ((i : Int) - 7).toNat 0 +
          (rotr ((sched (words L) (i - 16)).getD ((i : Int) - 15).toNat 0) 7 ^^^ rotr ((sched (words L) (i - 16)).getD ((i : Int) - 15).toNat 0) 18 ^^^ (sched (words L) (i - 16)).getD ((i : Int) - 15).toNat 0 >>> (Int.toNat 3)) + (sched (words L) (i - 16)).getD ((i : Int) - 16).toNat 0 = wNext (sched (words L) (i - 16)) i := by
        rw [show ((i : Int) - 2).toNat = i - 2 by omega, show ((i : Int) - 15).toNat = i - 15 by omega, show ((i : Int) - 7).toNat = i - 7 by omega, show ((i : Int) - 16).toNat = i - 16 by omega]
        rfl
      rw [hw]
      generalize hX : wNext (sched (words L) (i - 16)) i = X at *
      have hs3 := hd2.sub_new hr3 (.cells #[u32v X] 117)
      have hd3 := hd2.set r3 (.cells #[u32v X] 117) (r3 + 1) (by omega) (by omega)
      refine ⟨hs3, ?_⟩
      conv => whnf
      refine app_words (m := 1) (l2 := [X]) (ho2.fr (fun k o _ ho => hs3 k o ho)) (one_word (hset_same _ _ _) rfl) (by omega) hd3 ?_
      intro a4 c4 h4 t4 ho4 ht4 hd4 hk4 how4
      conv => whnf
      repeat (first | ((with_reducible apply Go.Vc.wr_i64); (focus exact And.intro (by omega) (by omega)); conv => whnf))
      refine round_end3 (i + 1) a4 c4 (by omega) ⟨rfl, rfl, rfl, rfl, rfl, trivial⟩ ⟨by omega, by omega, by omega, ?_, ?_, ?_⟩
      · rw [show i + 1 - 16 = (i - 16) + 1 by omega, sched, show 16 + (i - 16) = i by omega, hX]; exact ho4
      · intro k hk
        rcases how4 with h | ⟨q, h, hq⟩
        · rw [h] at hk; exact hf2 k hk
        · rw [h] at hk; cases hk; omega
      · intro k o hk
        have hkt := hd1 k o hk
        rw [hk4 k (by omega) (fun e => by have := hf2 k e; omega)]
        exact hs3 k o (hs2 k o hk)
    · have h64 : i = 64 := by omega
      subst h64
      generalize hW : sched (words L) (64 - 16) = W at *
      have hWl : W.length = 64 := sl2.1
      conv => whnf
      refine (table_spec _ _).mono ?_
      rintro _ h3 t3 hd3 ht3 ⟨r3, rfl, hr3, hrt3, hk3, hs3⟩
      have hs13 : Sub h1 h3 := hs2.trans hs3
      have hc3 := hs13 _ _ hc0
      unfold vs at hc3
      conv => whnf
      repeat (first | ((with_reducible apply Go.Vc.ldrow); (focus ((repeat (first | with_reducible assumption | with_reducible exact Go.Vc.hset_same _ _ _ | with_reducible refine (Go.Vc.hset_ne _ _ (by omega)).trans ?_)); done)); (focus exact rfl); rintro _ rfl; conv => whnf) | ((with_reducible apply Go.Vc.strow); (focus ((repeat (first | with_reducible assumption | with_reducible exact Go.Vc.hset_same _ _ _ | with_reducible refine (Go.Vc.hset_ne _ _ (by omega)).trans ?_)); done)); (focus exact rfl); (focus exact rfl); (focus exact rfl); rintro _ rfl; conv => whnf) | (intro _ _; conv => whnf))
      rename_i r5 hr5
      refine loop_intro2 (fun (i : Nat) (Z : St) => [(2, .pointer (some ⟨r0, 0, none⟩)), (4, .pointer (some ⟨r1, 0, none⟩)), (5, .slice a 64 c), (10, .slice (some ⟨r3, 0, none⟩) 64 64), (11, .pointer (some ⟨r5, 0, none⟩)), (12, .int .i64 (i : Nat))])
        (fun i Z h' t' => r5 < t' ∧ i ≤ 64 ∧ Z = rounds S KT W i ∧ Sub h3 h' ∧ h' r5 = some (.cells (vs Z) 163 (0, 0))) (fun i _ => 64 - i) 0 S ⟨rfl, rfl, rfl, rfl, rfl, rfl, trivial⟩ ⟨by omega, by omega, rfl, ?_, ?_⟩ ?_
      · intro k o ho
        have := hd3 k o ho
        rw [hset_ne _ _ (by omega), hset_ne _ _ (by omega)]; exact ho
      · rw [hset_same]; rfl
      have hrr : t3 ≤ r5 ∧ r1 + 1 ≤ t3 := by omega
      clear hb1
      rintro i Z g h6 t6 hd6 ⟨ht6, hi, hZ, hs6, hk6⟩
      have hk6K := hs6 _ _ hk3
      have sl6 := (sl2.sub hs3).sub hs6
      have slK : Sl h6 (some ⟨r3, 0, none⟩) 64 u32v KT := ar_sl hk6K rfl
      conv => whnf
      refine br (fun hb1 => ?_) (fun hb1 => ?_)
      · have hlt : i < 64 := by omega
        conv => whnf
        refine Go.Vc.draw_intro [⟨0, false, false, false, 0⟩, ⟨1, false, false, false, 0⟩, ⟨2, false, false, false, 0⟩, ⟨3, false, false, false, 6⟩, ⟨4, false, false, false, 14⟩, ⟨5, false, false, false, 0⟩, ⟨6, false, false, false, 0⟩, ⟨7, false, false, false, 96⟩, ⟨8, false, false, false, 224⟩, ⟨9, true, false, false, 511⟩, ⟨10, true, false, false, 1023⟩] (hs := h6) (hsub := (Sub.refl _)) (hm := by kernel_rfl) (hpl := by kernel_rfl) ?_
        conv => whnf
        have hKl : KT.length = 64 := rfl
        refine Go.Vc.ldrow hk6 rfl ?_
        rintro l hl
        have hl : l = [u32v Z.a, u32v Z.b, u32v Z.c, u32v Z.d, u32v Z.e, u32v Z.f, u32v Z.g, u32v Z.h] := by rw [hl]; rfl
        subst hl
        conv => whnf
        repeat (first | ((with_reducible apply Go.Vc.own_ix); (focus exact And.intro (by omega) (by omega)); conv => whnf) | ((with_reducible apply Go.Vc.sl_ix); (focus with_reducible assumption); (focus exact And.intro (by omega) (by omega)); intro xI bI offI hxI hcI; conv => whnf) | ((with_reducible apply Go.Vc.ar_ld); (focus ((repeat (first | with_reducible assumption | with_reducible exact Go.Vc.hset_same _ _ _ | with_reducible refine (Go.Vc.hset_ne _ _ (by omega)).trans ?_)); done)); (focus exact rfl); (focus (first | omega | (simp; done) | (simp; omega))); intro xA hxA; conv => whnf) | ((with_reducible apply Go.Vc.cell_i); (focus assumption); conv => whnf))
        obtain rfl : xI = W.getD i 0 := at_getD (j := i) hxI
        obtain rfl : xA = KT.getD i 0 := at_getD (j := i) hxA
        refine (step_spec Z _ _ _ _).mono ?_
        rintro _ h7 t7 hd7 ht7 ⟨rfl, hs7⟩
        unfold stv
        have hk7 := hs7 _ _ hk6
        conv => whnf
        refine Go.Vc.strow hk7 rfl rfl rfl ?_
        rintro cc hcc
        have hcc : cc = vs (Go.Sha.step Z (KT.getD i 0) (W.getD i 0)) := by rw [hcc]; rfl
        subst hcc
        conv => whnf
        repeat (first | ((with_reducible apply Go.Vc.wr_i64); (focus exact And.intro (by omega) (by omega)); conv => whnf))
        refine round_end2 (i + 1) (Go.Sha.step Z (KT.getD i 0) (W.getD i 0)) (by omega) ⟨rfl, rfl, rfl, rfl, rfl, rfl, trivial⟩ ⟨by omega, by omega, by rw [hZ]; rfl, ?_, hset_same _ _ _⟩
        intro k o ho
        have := hd3 k o ho
        rw [hset_ne _ _ (by omega)]; exact hs7 _ _ (hs6 _ _ ho)
      · have h64 : i = 64 := by omega
        subst h64
        have hk60 : h6 r0 = some (.cells #[u32v S.a, u32v S.b, u32v S.c, u32v S.d, u32v S.e, u32v S.f, u32v S.g, u32v S.h] 163 (0, 0)) := hs6 _ _ hc3
        have hk61 : Cel h6 r1 #[.int .u32 0, .int .u32 0, .int .u32 0, .int .u32 0, .int .u32 0, .int .u32 0, .int .u32 0, .int .u32 0] 163 := hs6 _ _ (hs13 _ _ hc1)
        unfold vs at hk6
        conv => whnf
        repeat (first | ((with_reducible apply Go.Vc.add32); conv => whnf) | ((with_reducible apply Go.Vc.ld_i); (focus ((repeat (first | with_reducible assumption | with_reducible exact Go.Vc.hset_same _ _ _ | with_reducible refine (Go.Vc.hset_ne _ _ (by omega)).trans ?_)); done)); (focus exact rfl); conv => whnf))
        refine Go.Vc.strow hk61 rfl rfl rfl ?_
        rintro cc hcc
        have hcc : cc = vs (S.add Z) := by rw [hcc]; rfl
        subst hcc
        conv => whnf
        refine Go.Vc.ldrow (hset_same _ _ _) rfl ?_
        rintro l hl
        have hl : l = (vs (S.add Z)).toList := by rw [hl]; rfl
        subst hl
        rw [Go.Vc.forceL_eq]
        conv => whnf
        refine ⟨?_, ?_⟩
        · have : S.add Z = compress S L := by rw [hZ, ← hW]; rfl
          rw [this]; rfl
        · intro k o ho
          have := hd k o ho
          rw [hset_ne _ _ (by omega)]; exact hs6 _ _ (hs13 _ _ (hs1 _ _ ho))
end Go.Proofs.YtlkpgjicpjjlcaaGreatDoor

/- The reference's One; hex; the chapter's examples. -/
set_option linter.unusedSimpArgs false
namespace Go.Proofs.YtlkpgjicpjjlcaaGreatDoor
open Go Go.Vc Go.Sha
set_option maxRecDepth 10000
set_option linter.unusedVariables false

def strL (l : List UInt8) : ByteArray := ⟨l.toArray⟩
theorem strL_app (a b : List UInt8) : strL a ++ strL b = strL (a ++ b) := by
  apply ByteArray.ext; simp [strL, ByteArray.data_append]
theorem strL_self (s : ByteArray) : strL s.data.toList = s := by apply ByteArray.ext; simp [strL]
theorem strL_size (l : List UInt8) : (strL l).size = l.length := by show l.toArray.size = _; simp
theorem strL_toList (l : List UInt8) : (strL l).data.toList = l := by simp [strL]
theorem strL_extract (l : List UInt8) (i j : Nat) : ((strL l).extract i j).data.toList = (l.drop i).take (j - i) := by
  rw [ByteArray.data_extract]; simp [strL, List.extract_eq_take_drop]
theorem u8_eq {a b : Nat} (h : a % 256 = b % 256) : UInt8.ofNat a = UInt8.ofNat b := by
  apply UInt8.toNat_inj.1; simpa using h
theorem four_be8 (n : Nat) : four (BitVec.ofNat 32 (n / 4294967296)) ++ four (BitVec.ofNat 32 n) = be8 n := by
  have e : be8 n = [UInt8.ofNat (n >>> 56), UInt8.ofNat (n >>> 48), UInt8.ofNat (n >>> 40), UInt8.ofNat (n >>> 32), UInt8.ofNat (n >>> 24), UInt8.ofNat (n >>> 16), UInt8.ofNat (n >>> 8), UInt8.ofNat (n >>> 0)] := rfl
  rw [e]
  simp only [four, BitVec.toNat_ofNat, List.cons_append, List.nil_append, List.cons.injEq, and_true]
  simp only [Nat.shiftRight_eq_div_pow]
  refine ⟨u8_eq ?_, u8_eq ?_, u8_eq ?_, u8_eq ?_, u8_eq ?_, u8_eq ?_, u8_eq ?_, u8_eq ?_⟩ <;> omega
theorem vs_fours (s : St) : out s = four s.a ++ four s.b ++ four s.c ++ four s.d ++ four s.e ++ four s.f ++ four s.g ++ four s.h := rfl

@[simp] theorem four_length (x : U) : (four x).length = 4 := rfl
theorem refOne_spec (s : ByteArray) (hs : s.size ≤ 1099511627000) (h : Heap) (t : Nat) : CallSpec Tryz.prog 72 #[.string s] h t (fun v h' t' => v = .string (shaB s) ∧ Sub h h') := by
  obtain ⟨M, rfl⟩ : ∃ M, s = strL M := ⟨s.data.toList, (strL_self s).symm⟩
  have hM := strL_size M
  have hsha : shaB (strL M) = strL (sha M) := by unfold shaB; rw [strL_toList]; rfl
  rw [hsha]
  refine Go.Vc.spec_of_vc (fn := Tryz.f72) Tryz.func72 rfl (by kernel_rfl) (by kernel_rfl) (Nat.le_of_ble_eq_true rfl) ?_
  intro hd
  conv => whnf
  repeat (first | ((with_reducible apply Go.Vc.wr_i64); (focus exact And.intro (by omega) (by omega)); conv => whnf) | ((with_reducible apply Go.Vc.and_leN); (focus (first | omega | (simp only [ByteArray.size, List.size_toArray, List.length_cons, List.length_nil] at *; omega))); conv => whnf))
  rw [show strL M ++ (⟨#[128]⟩ : ByteArray) = strL (M ++ 128 :: List.replicate 0 0) from strL_app M [128], hM]
  refine loop_intro (fun (i : Nat) => [(0, .string (strL (M ++ 128 :: List.replicate i 0))), (3, .int .i64 (8 * (M.length : Int)))])
    (fun i h' t' => h = h' ∧ t = t' ∧ i ≤ (119 - M.length % 64) % 64) (fun i => 64 - i) 0 ⟨rfl, rfl, trivial⟩ ⟨rfl, rfl, by omega⟩ ?_
  rintro i g _ _ _ ⟨rfl, rfl, hi⟩
  have hsz : (strL (M ++ 128 :: List.replicate i 0)).size = M.length + 1 + i := by rw [strL_size]; simp; omega
  conv => whnf
  repeat (first | ((with_reducible apply Go.Vc.rem_i); (focus omega); conv => whnf) | ((with_reducible refine And.intro ?_ (And.intro ?_ ?_)); (focus exact rfl); (focus omega); conv => whnf))
  rw [hsz]
  refine br (fun hb1 => ?_) (fun hb1 => ?_)
  · have hiz : i < (119 - M.length % 64) % 64 := by omega
    conv => whnf
    refine And.intro (by rw [hsz]; show M.length + 1 + i + 1 ≤ _; omega) ?_
    conv => whnf
    refine round_end (i + 1) (by omega) ⟨?_, rfl, trivial⟩ ⟨rfl, rfl, by omega⟩
    show Value.string (strL (M ++ 128 :: List.replicate i 0) ++ strL [0]) = _
    rw [strL_app, List.replicate_succ', List.append_assoc]; rfl
  · have hiz : i = (119 - M.length % 64) % 64 := by omega
    conv => whnf
    repeat (first | ((with_reducible apply Go.Vc.shr_i64); (focus exact And.intro (by omega) (by omega)); intro zS hzS hzS0 hzS1; conv => whnf) | ((with_reducible apply Go.Vc.and_leI); (focus omega); conv => whnf))
    have hzS0 : zS = ((8 * M.length / 4294967296 : Nat) : Int) := by rw [hzS]; simp
    refine ⟨((BitVec.ofNat 32 (8 * M.length / 4294967296)).toNat : Int), by rw [hzS0, wrap32, BitVec.toNat_ofNat]; omega, ?_⟩
    conv => whnf
    refine (four_spec _ _ _).mono ?_
    rintro _ h1 t1 hd1 ht1 ⟨rfl, hs1⟩
    conv => whnf
    refine And.intro (by rw [hsz]; show M.length + 1 + i + 4 ≤ _; omega) ?_
    conv => whnf
    refine ⟨((BitVec.ofNat 32 (8 * M.length)).toNat : Int), by rw [wrap32, BitVec.toNat_ofNat]; omega, ?_⟩
    conv => whnf
    refine (four_spec _ _ _).mono ?_
    rintro _ h2 t2 hd2 ht2 ⟨rfl, hs2⟩
    rw [show strL (M ++ 128 :: List.replicate i 0) ++ (⟨(four (BitVec.ofNat 32 (8 * M.length / 4294967296))).toArray⟩ : ByteArray) = strL (M ++ 128 :: List.replicate i 0 ++ four (BitVec.ofNat 32 (8 * M.length / 4294967296))) from strL_app _ _]
    conv => whnf
    refine And.intro (by rw [strL_size]; simp; show _ + 4 ≤ _; omega) ?_
    have hP : strL (M ++ 128 :: List.replicate i 0 ++ four (BitVec.ofNat 32 (8 * M.length / 4294967296))) ++ (⟨(four (BitVec.ofNat 32 (8 * M.length))).toArray⟩ : ByteArray) = strL (pad M) := by
      rw [show (⟨(four (BitVec.ofNat 32 (8 * M.length))).toArray⟩ : ByteArray) = strL (four (BitVec.ofNat 32 (8 * M.length))) from rfl, strL_app, List.append_assoc, four_be8, hiz]
      unfold pad
      rw [List.append_assoc]; rfl
    rw [hP]
    have hpl := pad_length M
    have hpl2 : (pad M).length ≤ M.length + 136 := by simp [pad, be8]; omega
    have hps := strL_size (pad M)
    have hsh : sha M = out (run ((pad M).length / 64) H0 (pad M)) := rfl
    generalize hE : pad M = E at *
    have hs12 : Sub h h2 := hs1.trans hs2
    conv => whnf
    repeat (first | ((with_reducible apply Go.Vc.strow); (focus ((repeat (first | with_reducible assumption | with_reducible exact Go.Vc.hset_same _ _ _ | with_reducible refine (Go.Vc.hset_ne _ _ (by omega)).trans ?_)); done)); (focus exact rfl); (focus exact rfl); (focus exact rfl); rintro _ rfl; conv => whnf) | (intro _ _; conv => whnf))
    rename_i r hr
    refine loop_intro (fun (k : Nat) => [(0, .string (strL E)), (4, .pointer (some ⟨r, 0, none⟩)), (5, .int .i64 (64 * k : Nat))])
      (fun k h' t' => r < t' ∧ 64 * k ≤ E.length ∧ Sub h h' ∧ h' r = some (.cells (vs (run k H0 E)) 163 (0, 0))) (fun k => E.length - 64 * k) 0 ⟨rfl, rfl, rfl, trivial⟩ ⟨by omega, by omega, ?_, ?_⟩ ?_
    · intro k o ho
      have := hd k o ho
      rw [hset_ne _ _ (by omega), hset_ne _ _ (by omega)]; exact hs12 _ _ ho
    · rw [hset_same]; rfl
    rintro k g h3 t3 hd3 ⟨ht3, hk, hs3, hk3⟩
    conv => whnf
    rw [hps]
    refine br (fun hb2 => ?_) (fun hb2 => ?_)
    · have hk64 : 64 * k + 64 ≤ E.length := by omega
      conv => whnf
      refine Go.Vc.draw_intro [⟨0, false, false, false, 0⟩, ⟨1, false, false, false, 0⟩, ⟨2, false, false, false, 0⟩, ⟨3, false, false, false, 0⟩, ⟨4, false, false, false, 8⟩, ⟨5, false, false, false, 30⟩, ⟨6, true, false, false, 63⟩, ⟨7, true, false, false, 127⟩] (hs := h3) (hsub := (Sub.refl _)) (hm := by kernel_rfl) (hpl := by kernel_rfl) ?_
      conv => whnf
      refine Go.Vc.ldrow hk3 rfl ?_
      rintro l hl
      have hl : l = (vs (run k H0 E)).toList := by rw [hl]; rfl
      subst hl
      rw [Go.Vc.forceL_eq]
      conv => whnf
      repeat (first | ((with_reducible refine And.intro (And.intro ?_ ?_) ?_); (focus omega); (focus omega); conv => whnf) | ((with_reducible apply Go.Vc.wr_i64); (focus exact And.intro (by omega) (by omega)); conv => whnf))
      have hx : ((strL E).extract (64 * k) (64 * k + 64)).data.toList = (E.drop (64 * k)).take 64 := by rw [strL_extract]; congr 1; omega
      have hxs : ((strL E).extract (64 * k) (64 * k + 64)).size = 64 := by
        show ((strL E).extract (64 * k) (64 * k + 64)).data.size = 64
        rw [← Array.length_toList, hx, List.length_take, List.length_drop]; omega
      rw [show ((64 * k : Nat) : Int).toNat = 64 * k from rfl, show (((64 * k : Nat) : Int) + 64).toNat = 64 * k + 64 from rfl]
      refine (refBlock_spec (run k H0 E) _ hxs _ _).mono ?_
      rintro _ h4 t4 hd4 ht4 ⟨rfl, hs4⟩
      rw [hx, ← run_succ]
      have hk4 := hs4 _ _ hk3
      generalize hS1 : run (k + 1) H0 E = S1 at *
      unfold stv
      conv => whnf
      refine Go.Vc.strow hk4 rfl rfl rfl ?_
      rintro cc hcc
      have hcc : cc = vs S1 := by rw [hcc]; rfl
      subst hcc
      conv => whnf
      repeat (first | ((with_reducible apply Go.Vc.wr_i64); (focus exact And.intro (by omega) (by omega)); conv => whnf))
      refine round_end (k + 1) (by omega) ⟨rfl, rfl, rfl, trivial⟩ ⟨by omega, by omega, ?_, by rw [hS1]; exact hset_same _ _ _⟩
      intro k o ho
      have := hd k o ho
      rw [hset_ne _ _ (by omega)]; exact hs4 _ _ (hs3 _ _ ho)
    · have hkk : k = E.length / 64 := by omega
      conv => whnf
      refine Go.Vc.draw_intro [⟨0, false, false, false, 0⟩, ⟨1, false, false, false, 1⟩, ⟨3, false, true, false, 0⟩, ⟨4, false, true, false, 8⟩, ⟨7, false, true, false, 0⟩, ⟨8, false, true, false, 128⟩, ⟨11, false, true, false, 0⟩, ⟨12, false, true, false, 2048⟩, ⟨15, false, true, false, 0⟩, ⟨16, false, true, false, 32768⟩, ⟨19, false, true, false, 0⟩, ⟨20, false, true, false, 524288⟩, ⟨23, false, true, false, 0⟩, ⟨24, false, true, false, 8388608⟩, ⟨27, false, true, false, 0⟩, ⟨28, false, true, false, 134217728⟩, ⟨2, true, false, true, 3⟩, ⟨5, true, false, true, 31⟩, ⟨6, false, true, false, 63⟩, ⟨9, true, false, true, 447⟩, ⟨10, false, true, false, 1023⟩, ⟨13, true, false, true, 7103⟩, ⟨14, false, true, false, 16383⟩, ⟨17, true, false, true, 113599⟩, ⟨18, false, true, false, 262143⟩, ⟨21, true, false, true, 1817535⟩, ⟨22, false, true, false, 4194303⟩, ⟨25, true, false, true, 29080511⟩, ⟨26, false, true, false, 67108863⟩, ⟨29, true, false, true, 465288127⟩, ⟨30, false, false, false, 1073741823⟩, ⟨31, false, false, false, 2147483647⟩] (hs := h3) (hsub := (Sub.refl _)) (hm := by kernel_rfl) (hpl := by kernel_rfl) ?_
      conv => whnf
      rw [hkk] at hk3
      rw [hsh]
      generalize run (E.length / 64) H0 E = S at *
      unfold vs at hk3
      have hsX := Sub.refl h3
      conv => whnf
      repeat (first | ((with_reducible apply Go.Vc.ld_i); (focus ((repeat (first | with_reducible assumption | with_reducible exact Go.Vc.hset_same _ _ _ | with_reducible refine (Go.Vc.hset_ne _ _ (by omega)).trans ?_)); done)); (focus exact rfl); conv => whnf))
      refine (four_spec _ _ _).mono ?_
      rintro _ hN tN hdN htN ⟨rfl, hsN⟩
      have hsX := hsX.trans hsN
      conv => whnf
      refine ⟨hsX, ?_⟩
      conv => whnf
      refine (four_spec _ _ _).mono ?_
      rintro _ hN tN hdN htN ⟨rfl, hsN⟩
      have hsX := hsX.trans hsN
      conv => whnf
      refine ⟨hsX, ?_⟩
      conv => whnf
      refine And.intro (by show (strL (four S.a)).size + (strL (four S.b)).size ≤ _; rw [strL_size, strL_size]; simp only [List.length_append, four_length]; decide) ?_
      rw [show (⟨(four S.a).toArray⟩ : ByteArray) ++ (⟨(four S.b).toArray⟩ : ByteArray) = strL (four S.a ++ four S.b) from strL_app (four S.a) (four S.b)]
      conv => whnf
      refine (four_spec _ _ _).mono ?_
      rintro _ hN tN hdN htN ⟨rfl, hsN⟩
      have hsX := hsX.trans hsN
      conv => whnf
      refine ⟨hsX, ?_⟩
      conv => whnf
      refine And.intro (by show (strL (four S.a ++ four S.b)).size + (strL (four S.c)).size ≤ _; rw [strL_size, strL_size]; simp only [List.length_append, four_length]; decide) ?_
      rw [show strL (four S.a ++ four S.b) ++ (⟨(four S.c).toArray⟩ : ByteArray) = strL (four S.a ++ four S.b ++ four S.c) from strL_app (four S.a ++ four S.b) (four S.c)]
      conv => whnf
      refine (four_spec _ _ _).mono ?_
      rintro _ hN tN hdN htN ⟨rfl, hsN⟩
      have hsX := hsX.trans hsN
      conv => whnf
      refine ⟨hsX, ?_⟩
      conv => whnf
      refine And.intro (by show (strL (four S.a ++ four S.b ++ four S.c)).size + (strL (four S.d)).size ≤ _; rw [strL_size, strL_size]; simp only [List.length_append, four_length]; decide) ?_
      rw [show strL (four S.a ++ four S.b ++ four S.c) ++ (⟨(four S.d).toArray⟩ : ByteArray) = strL (four S.a ++ four S.b ++ four S.c ++ four S.d) from strL_app (four S.a ++ four S.b ++ four S.c) (four S.d)]
      conv => whnf
      refine (four_spec _ _ _).mono ?_
      rintro _ hN tN hdN htN ⟨rfl, hsN⟩
      have hsX := hsX.trans hsN
      conv => whnf
      refine ⟨hsX, ?_⟩
      conv => whnf
      refine And.intro (by show (strL (four S.a ++ four S.b ++ four S.c ++ four S.d)).size + (strL (four S.e)).size ≤ _; rw [strL_size, strL_size]; simp only [List.length_append, four_length]; decide) ?_
      rw [show strL (four S.a ++ four S.b ++ four S.c ++ four S.d) ++ (⟨(four S.e).toArray⟩ : ByteArray) = strL (four S.a ++ four S.b ++ four S.c ++ four S.d ++ four S.e) from strL_app (four S.a ++ four S.b ++ four S.c ++ four S.d) (four S.e)]
      conv => whnf
      refine (four_spec _ _ _).mono ?_
      rintro _ hN tN hdN htN ⟨rfl, hsN⟩
      have hsX := hsX.trans hsN
      conv => whnf
      refine ⟨hsX, ?_⟩
      conv => whnf
      refine And.intro (by show (strL (four S.a ++ four S.b ++ four S.c ++ four S.d ++ four S.e)).size + (strL (four S.f)).size ≤ _; rw [strL_size, strL_size]; simp only [List.length_append, four_length]; decide) ?_
      rw [show strL (four S.a ++ four S.b ++ four S.c ++ four S.d ++ four S.e) ++ (⟨(four S.f).toArray⟩ : ByteArray) = strL (four S.a ++ four S.b ++ four S.c ++ four S.d ++ four S.e ++ four S.f) from strL_app (four S.a ++ four S.b ++ four S.c ++ four S.d ++ four S.e) (four S.f)]
      conv => whnf
      refine (four_spec _ _ _).mono ?_
      rintro _ hN tN hdN htN ⟨rfl, hsN⟩
      have hsX := hsX.trans hsN
      conv => whnf
      refine ⟨hsX, ?_⟩
      conv => whnf
      refine And.intro (by show (strL (four S.a ++ four S.b ++ four S.c ++ four S.d ++ four S.e ++ four S.f)).size + (strL (four S.g)).size ≤ _; rw [strL_size, strL_size]; simp only [List.length_append, four_length]; decide) ?_
      rw [show strL (four S.a ++ four S.b ++ four S.c ++ four S.d ++ four S.e ++ four S.f) ++ (⟨(four S.g).toArray⟩ : ByteArray) = strL (four S.a ++ four S.b ++ four S.c ++ four S.d ++ four S.e ++ four S.f ++ four S.g) from strL_app (four S.a ++ four S.b ++ four S.c ++ four S.d ++ four S.e ++ four S.f) (four S.g)]
      conv => whnf
      refine (four_spec _ _ _).mono ?_
      rintro _ hN tN hdN htN ⟨rfl, hsN⟩
      have hsX := hsX.trans hsN
      conv => whnf
      refine ⟨hsX, ?_⟩
      conv => whnf
      refine And.intro (by show (strL (four S.a ++ four S.b ++ four S.c ++ four S.d ++ four S.e ++ four S.f ++ four S.g)).size + (strL (four S.h)).size ≤ _; rw [strL_size, strL_size]; simp only [List.length_append, four_length]; decide) ?_
      rw [show strL (four S.a ++ four S.b ++ four S.c ++ four S.d ++ four S.e ++ four S.f ++ four S.g) ++ (⟨(four S.h).toArray⟩ : ByteArray) = strL (four S.a ++ four S.b ++ four S.c ++ four S.d ++ four S.e ++ four S.f ++ four S.g ++ four S.h) from strL_app (four S.a ++ four S.b ++ four S.c ++ four S.d ++ four S.e ++ four S.f ++ four S.g) (four S.h)]
      conv => whnf
      refine ⟨rfl, ?_⟩
      exact hs3.trans hsX
end Go.Proofs.YtlkpgjicpjjlcaaGreatDoor
