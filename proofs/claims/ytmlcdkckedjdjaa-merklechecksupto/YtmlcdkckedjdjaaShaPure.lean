/- SHA-256 in plain Lean: the sum, and how it is made in pieces; a second form that the kernel reckons fast. -/
import Derived.KernelRfl
namespace Go.Sha
abbrev U := BitVec 32
def rotr (x : U) (n : Nat) : U := x >>> n ||| x <<< (32 - n)
def bs0 (x : U) : U := rotr x 2 ^^^ rotr x 13 ^^^ rotr x 22
def bs1 (x : U) : U := rotr x 6 ^^^ rotr x 11 ^^^ rotr x 25
def ss0 (x : U) : U := rotr x 7 ^^^ rotr x 18 ^^^ x >>> 3
def ss1 (x : U) : U := rotr x 17 ^^^ rotr x 19 ^^^ x >>> 10
def ch (e f g : U) : U := (e &&& f) ^^^ (~~~e &&& g)
def maj (a b c : U) : U := (a &&& b) ^^^ (a &&& c) ^^^ (b &&& c)
theorem ch_alt (e f g : U) : g ^^^ (e &&& (f ^^^ g)) = ch e f g := by
  apply BitVec.eq_of_getLsbD_eq
  intro i hi
  simp only [ch, BitVec.getLsbD_xor, BitVec.getLsbD_and, BitVec.getLsbD_not, hi, decide_true, Bool.true_and]
  cases e.getLsbD i <;> cases f.getLsbD i <;> cases g.getLsbD i <;> rfl
theorem maj_alt (a b c : U) : (a &&& b) ||| (c &&& (a ||| b)) = maj a b c := by
  apply BitVec.eq_of_getLsbD_eq
  intro i hi
  simp only [maj, BitVec.getLsbD_xor, BitVec.getLsbD_and, BitVec.getLsbD_or]
  cases a.getLsbD i <;> cases b.getLsbD i <;> cases c.getLsbD i <;> rfl

structure St where
  a : U
  b : U
  c : U
  d : U
  e : U
  f : U
  g : U
  h : U
def St.list (s : St) : List U := [s.a, s.b, s.c, s.d, s.e, s.f, s.g, s.h]
def St.add (s n : St) : St := ⟨s.a + n.a, s.b + n.b, s.c + n.c, s.d + n.d, s.e + n.e, s.f + n.f, s.g + n.g, s.h + n.h⟩

def KT : List U := [
  0x428a2f98, 0x71374491, 0xb5c0fbcf, 0xe9b5dba5, 0x3956c25b, 0x59f111f1, 0x923f82a4, 0xab1c5ed5, 0xd807aa98, 0x12835b01, 0x243185be, 0x550c7dc3, 0x72be5d74, 0x80deb1fe, 0x9bdc06a7, 0xc19bf174,
  0xe49b69c1, 0xefbe4786, 0x0fc19dc6, 0x240ca1cc, 0x2de92c6f, 0x4a7484aa, 0x5cb0a9dc, 0x76f988da, 0x983e5152, 0xa831c66d, 0xb00327c8, 0xbf597fc7, 0xc6e00bf3, 0xd5a79147, 0x06ca6351, 0x14292967,
  0x27b70a85, 0x2e1b2138, 0x4d2c6dfc, 0x53380d13, 0x650a7354, 0x766a0abb, 0x81c2c92e, 0x92722c85, 0xa2bfe8a1, 0xa81a664b, 0xc24b8b70, 0xc76c51a3, 0xd192e819, 0xd6990624, 0xf40e3585, 0x106aa070,
  0x19a4c116, 0x1e376c08, 0x2748774c, 0x34b0bcb5, 0x391c0cb3, 0x4ed8aa4a, 0x5b9cca4f, 0x682e6ff3, 0x748f82ee, 0x78a5636f, 0x84c87814, 0x8cc70208, 0x90befffa, 0xa4506ceb, 0xbef9a3f7, 0xc67178f2]
def H0 : St := ⟨0x6a09e667, 0xbb67ae85, 0x3c6ef372, 0xa54ff53a, 0x510e527f, 0x9b05688c, 0x1f83d9ab, 0x5be0cd19⟩

def step (s : St) (k w : U) : St :=
  let t := s.h + bs1 s.e + ch s.e s.f s.g + k + w
  let u := bs0 s.a + maj s.a s.b s.c
  ⟨t + u, s.a, s.b, s.c, s.d + t, s.e, s.f, s.g⟩

def byte (l : List UInt8) (i : Nat) : UInt8 := l.getD i 0
def be4 (a b c d : UInt8) : U := BitVec.ofNat 32 (a.toNat * 16777216 + b.toNat * 65536 + c.toNat * 256 + d.toNat)
def word (l : List UInt8) (i : Nat) : U := be4 (byte l (4 * i)) (byte l (4 * i + 1)) (byte l (4 * i + 2)) (byte l (4 * i + 3))
def words (l : List UInt8) : List U := (List.range 16).map (word l)
def wNext (w : List U) (i : Nat) : U := ss1 (w.getD (i - 2) 0) + w.getD (i - 7) 0 + ss0 (w.getD (i - 15) 0) + w.getD (i - 16) 0
def sched (w : List U) : Nat → List U
  | 0 => w
  | n + 1 => sched w n ++ [wNext (sched w n) (16 + n)]
def rounds (s : St) (ks ws : List U) : Nat → St
  | 0 => s
  | n + 1 => step (rounds s ks ws n) (ks.getD n 0) (ws.getD n 0)
def compress (s : St) (blk : List UInt8) : St := s.add (rounds s KT (sched (words blk) 48) 64)
def run : Nat → St → List UInt8 → St
  | 0, s, _ => s
  | n + 1, s, m => run n (compress s (m.take 64)) (m.drop 64)
def be8 (n : Nat) : List UInt8 := (List.range 8).map fun i => UInt8.ofNat (n >>> (56 - 8 * i))
def pad (m : List UInt8) : List UInt8 := m ++ 0x80 :: (List.replicate ((119 - m.length % 64) % 64) 0 ++ be8 (8 * m.length))
def four (x : U) : List UInt8 := [UInt8.ofNat (x.toNat >>> 24), UInt8.ofNat (x.toNat >>> 16), UInt8.ofNat (x.toNat >>> 8), UInt8.ofNat x.toNat]
def out (s : St) : List UInt8 := s.list.flatMap four
def sha (m : List UInt8) : List UInt8 := out (run ((pad m).length / 64) H0 (pad m))
def shaB (s : ByteArray) : ByteArray := ⟨(sha s.data.toList).toArray⟩

theorem sched_length (w : List U) (hw : w.length = 16) (n : Nat) : (sched w n).length = 16 + n := by
  induction n with
  | zero => simpa [sched] using hw
  | succ n ih => simp [sched, ih]; omega
theorem words_length (l : List UInt8) : (words l).length = 16 := by simp [words]
theorem out_length (s : St) : (out s).length = 32 := rfl
theorem sha_length (m : List UInt8) : (sha m).length = 32 := out_length _
theorem shaB_size (s : ByteArray) : (shaB s).size = 32 := by
  show (sha s.data.toList).toArray.size = 32
  rw [List.size_toArray, sha_length]
theorem pad_length (m : List UInt8) : (pad m).length % 64 = 0 := by
  simp [pad, be8]; omega
theorem run_add (a b : Nat) : ∀ (s : St) (m : List UInt8), run (a + b) s m = run b (run a s m) (m.drop (64 * a)) := by
  induction a with
  | zero => intro s m; simp [run]
  | succ a ih =>
    intro s m
    rw [show a + 1 + b = (a + b) + 1 from by omega]
    simp only [run]
    rw [ih, List.drop_drop, show 64 + 64 * a = 64 * (a + 1) from by omega]
theorem run_app (a : Nat) : ∀ (s : St) (m x : List UInt8), 64 * a ≤ m.length → run a s (m ++ x) = run a s m := by
  induction a with
  | zero => intros; rfl
  | succ a ih =>
    intro s m x h
    simp only [run]
    rw [List.take_append_of_le_length (by omega), List.drop_append_of_le_length (by omega), ih _ _ _ (by simp; omega)]

/-! ### a form for the kernel -/
def fc {α : Type} (n : Nat) (K : Nat → α) : α :=
  match n with
  | 0 => K 0
  | m + 1 => K (m + 1)
theorem fc_eq {α : Type} (n : Nat) (K : Nat → α) : fc n K = K n := by cases n <;> rfl
def fb {α : Type} (x : U) (K : U → α) : α := fc x.toNat fun n => K (BitVec.ofNat 32 n)
theorem fb_eq {α : Type} (x : U) (K : U → α) : fb x K = K x := by simp [fb, fc_eq]

def nth : List U → Nat → U
  | [], _ => 0
  | x :: _, 0 => x
  | _ :: l, n + 1 => nth l n
theorem nth_eq (l : List U) : ∀ n, nth l n = l.getD n 0 := by
  induction l with
  | nil => intro n; rfl
  | cons x l ih => intro n; cases n with
    | zero => rfl
    | succ n => simp [nth, ih]
def schedE : Nat → List U → List U
  | 0, r => r
  | n + 1, r => fb (ss1 (nth r 1) + nth r 6 + ss0 (nth r 14) + nth r 15) fun x => schedE n (x :: r)
theorem schedE_eq (w : List U) (hw : w.length = 16) (n : Nat) : ∀ k, schedE n (sched w k).reverse = (sched w (k + n)).reverse := by
  induction n with
  | zero => intro k; rfl
  | succ n ih =>
    intro k
    have hl := sched_length w hw k
    simp only [schedE, fb_eq, nth_eq]
    have e : ∀ j, j < 16 → (sched w k).reverse.getD j 0 = (sched w k).getD (16 + k - (j + 1)) 0 := by
      intro j hj
      simp only [List.getD_eq_getElem?_getD]
      rw [List.getElem?_reverse (by omega), hl]
      congr 2; omega
    rw [e 1 (by omega), e 6 (by omega), e 14 (by omega), e 15 (by omega)]
    have := ih (k + 1)
    rw [show k + (n + 1) = k + 1 + n from by omega, ← this]
    congr 1
    simp [sched, wNext]
def stepE {α : Type} (s : St) (k w : U) (K : St → α) : α :=
  fb (s.h + bs1 s.e + ch s.e s.f s.g + k + w) fun t => fb (t + (bs0 s.a + maj s.a s.b s.c)) fun x => fb (s.d + t) fun y => K ⟨x, s.a, s.b, s.c, y, s.e, s.f, s.g⟩
theorem stepE_eq {α : Type} (s : St) (k w : U) (K : St → α) : stepE s k w K = K (step s k w) := by simp [stepE, fb_eq, step]
def roundsE : List U → List U → St → St
  | k :: ks, w :: ws, s => stepE s k w fun s => roundsE ks ws s
  | _, _, s => s
theorem rounds_le (ks ws : List U) (n : Nat) : ∀ (s : St) (k : U) (w : U), rounds (step s k w) ks ws n = rounds s (k :: ks) (w :: ws) (n + 1) := by
  induction n with
  | zero => intro s k w; rfl
  | succ n ih => intro s k w; rw [rounds, ih]; rfl
theorem roundsE_eq : ∀ (ks ws : List U) (s : St), ks.length = ws.length → roundsE ks ws s = rounds s ks ws ks.length := by
  intro ks
  induction ks with
  | nil => intro ws s h; rfl
  | cons k ks ih =>
    intro ws s h
    cases ws with
    | nil => simp at h
    | cons w ws => simp only [roundsE, stepE_eq, List.length_cons]; rw [ih _ _ (by simpa using h), rounds_le]
def forceL {α : Type} : List U → (List U → α) → α
  | [], K => K []
  | x :: l, K => fb x fun x => forceL l fun l => K (x :: l)
theorem forceL_eq {α : Type} (l : List U) : ∀ (K : List U → α), forceL l K = K l := by
  induction l with
  | nil => intro K; rfl
  | cons x l ih => intro K; simp [forceL, fb_eq, ih]
def forceS {α : Type} (s : St) (K : St → α) : α := fb s.a fun a => fb s.b fun b => fb s.c fun c => fb s.d fun d => fb s.e fun e => fb s.f fun f => fb s.g fun g => fb s.h fun h => K ⟨a, b, c, d, e, f, g, h⟩
theorem forceS_eq {α : Type} (s : St) (K : St → α) : forceS s K = K s := by simp [forceS, fb_eq]
def wordsE : Nat → List UInt8 → List U
  | n + 1, a :: b :: c :: d :: l => be4 a b c d :: wordsE n l
  | _, _ => []
theorem wordsE_eq : ∀ (n : Nat) (l : List UInt8), 4 * n ≤ l.length → wordsE n l = (List.range n).map (word l) := by
  intro n
  induction n with
  | zero => intro l _; cases l <;> rfl
  | succ n ih =>
    intro l h
    match l, h with
    | a :: b :: c :: d :: l, h =>
      simp only [List.length_cons] at h
      rw [wordsE, ih l (by omega), List.range_succ_eq_map, List.map_cons, List.map_map]
      congr 1
    | [], h => simp at h
    | [_], h => simp at h; omega
    | [_, _], h => simp at h; omega
    | [_, _, _], h => simp at h; omega
def compressE (s : St) (blk : List UInt8) : St :=
  forceL (wordsE 16 blk) fun w => forceS (s.add (roundsE KT (schedE 48 w.reverse).reverse s)) id
theorem compressE_eq (s : St) (blk : List UInt8) (h : blk.length = 64) : compressE s blk = compress s blk := by
  have hl := words_length blk
  simp only [compressE, forceL_eq, forceS_eq, id]
  rw [wordsE_eq 16 blk (by omega)]
  change s.add (roundsE KT (schedE 48 (words blk).reverse).reverse s) = _
  have := schedE_eq (words blk) hl 48 0
  rw [show sched (words blk) 0 = words blk from rfl] at this
  rw [this, List.reverse_reverse, roundsE_eq _ _ _ (by rw [sched_length _ hl]; rfl)]
  rfl
def runE : Nat → St → List UInt8 → St
  | 0, s, _ => s
  | n + 1, s, m => runE n (compressE s (m.take 64)) (m.drop 64)
theorem runE_eq : ∀ (n : Nat) (s : St) (m : List UInt8), 64 * n ≤ m.length → runE n s m = run n s m := by
  intro n
  induction n with
  | zero => intros; rfl
  | succ n ih =>
    intro s m h
    simp only [runE, run]
    rw [compressE_eq _ _ (by simp; omega), ih _ _ (by simp; omega)]
def shaE (m : List UInt8) : List UInt8 := out (runE ((pad m).length / 64) H0 (pad m))
theorem shaE_eq (m : List UInt8) : shaE m = sha m := by
  unfold shaE sha
  rw [runE_eq _ _ _ (by have := pad_length m; omega)]
set_option maxRecDepth 100000 in
theorem sha_abc : sha [97, 98, 99] = [0xba, 0x78, 0x16, 0xbf, 0x8f, 0x01, 0xcf, 0xea, 0x41, 0x41, 0x40, 0xde, 0x5d, 0xae, 0x22, 0x23, 0xb0, 0x03, 0x61, 0xa3, 0x96, 0x17, 0x7a, 0x9c, 0xb4, 0x10, 0xff, 0x61, 0xf2, 0x00, 0x15, 0xad] := by
  rw [← shaE_eq]
  kernel_rfl
end Go.Sha
