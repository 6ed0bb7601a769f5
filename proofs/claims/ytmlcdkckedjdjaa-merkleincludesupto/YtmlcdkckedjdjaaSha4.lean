/- A block of the sum. -/
import Derived.Test.YtmlcdkckedjdjaaSha3
namespace Go.Proofs.Ytmlcdkckedjdjaa
open Go Go.Vc Go.Sha
set_option maxRecDepth 10000
set_option linter.unusedVariables false

def pw (l : List UInt8) (j : Nat) : Nat → U
  | 0 => 0
  | m + 1 => pw l j m <<< 8 ||| BitVec.ofNat 32 (byte l (4 * j + m)).toNat
theorem pw_step {y : U} {b : UInt8} {k : Nat} (hy : y.toNat < 2 ^ k) (hk : k ≤ 24) : (y <<< 8 ||| BitVec.ofNat 32 b.toNat).toNat = y.toNat * 256 + b.toNat := by
  have hb := b.toNat_lt
  have hk2 : 2 ^ k ≤ 2 ^ 24 := Nat.pow_le_pow_right (by omega) hk
  rw [BitVec.toNat_or, BitVec.toNat_shiftLeft, BitVec.toNat_ofNat, Nat.shiftLeft_eq, Nat.mod_eq_of_lt (by omega), Nat.mod_eq_of_lt (by omega), Nat.mul_comm]
  exact (Nat.two_pow_add_eq_or_of_lt (i := 8) (by omega) y.toNat).symm
theorem pw_word (l : List UInt8) (j : Nat) : pw l j 4 = word l j := by
  apply BitVec.eq_of_toNat_eq
  have h0 := (byte l (4 * j)).toNat_lt
  have h1 := (byte l (4 * j + 1)).toNat_lt
  have h2 := (byte l (4 * j + 2)).toNat_lt
  have h3 := (byte l (4 * j + 3)).toNat_lt
  have e1 : (pw l j 1).toNat = (byte l (4 * j)).toNat := by
    have := pw_step (y := 0) (b := byte l (4 * j + 0)) (k := 0) (by decide) (by omega)
    rw [show (pw l j 1) = (0 : U) <<< 8 ||| BitVec.ofNat 32 (byte l (4 * j + 0)).toNat from rfl, this]; simp
  have e2 : (pw l j 2).toNat = (byte l (4 * j)).toNat * 256 + (byte l (4 * j + 1)).toNat := by
    show (pw l j 1 <<< 8 ||| BitVec.ofNat 32 (byte l (4 * j + 1)).toNat : U).toNat = _
    rw [pw_step (k := 8) (by omega) (by omega), e1]
  have e3 : (pw l j 3).toNat = ((byte l (4 * j)).toNat * 256 + (byte l (4 * j + 1)).toNat) * 256 + (byte l (4 * j + 2)).toNat := by
    show (pw l j 2 <<< 8 ||| BitVec.ofNat 32 (byte l (4 * j + 2)).toNat : U).toNat = _
    rw [pw_step (k := 16) (by omega) (by omega), e2]
  have e4 : (pw l j 4).toNat = (((byte l (4 * j)).toNat * 256 + (byte l (4 * j + 1)).toNat) * 256 + (byte l (4 * j + 2)).toNat) * 256 + (byte l (4 * j + 3)).toNat := by
    show (pw l j 3 <<< 8 ||| BitVec.ofNat 32 (byte l (4 * j + 3)).toNat : U).toNat = _
    rw [pw_step (k := 24) (by omega) (by omega), e3]
  rw [e4]
  unfold word be4
  rw [BitVec.toNat_ofNat]
  omega
def wto (l : List UInt8) (i : Nat) : List U := (List.range 64).map fun j => pw l j (min 4 (i - 4 * j))
@[simp] theorem wto_length (l : List UInt8) (i : Nat) : (wto l i).length = 64 := by simp [wto]
theorem wto_get {l : List UInt8} {i j : Nat} {x : U} (h : (wto l i)[j]? = some x) : x = pw l j (min 4 (i - 4 * j)) := by
  unfold wto at h
  rw [List.getElem?_map] at h
  by_cases h64 : j < 64
  · rw [List.getElem?_range h64] at h; exact (by simpa using h.symm)
  · rw [List.getElem?_eq_none (by simp; omega)] at h; cases h
theorem wto_set (l : List UInt8) {i : Nat} (hi : i < 64) (x : U) (hx : x = pw l (i / 4) (i % 4) <<< 8 ||| BitVec.ofNat 32 (byte l i).toNat) : (wto l i).set (i / 4) x = wto l (i + 1) := by
  unfold wto
  apply List.ext_getElem
  · simp
  · intro j h1 h2
    simp at h1
    rw [List.getElem_set]
    simp only [List.getElem_map, List.getElem_range]
    split
    · rename_i e
      subst e
      rw [show min 4 (i + 1 - 4 * (i / 4)) = i % 4 + 1 by omega, hx]
      show _ = pw l (i / 4) (i % 4) <<< 8 ||| BitVec.ofNat 32 (byte l (4 * (i / 4) + i % 4)).toNat
      rw [show 4 * (i / 4) + i % 4 = i by omega]
    · rename_i e
      rw [show min 4 (i + 1 - 4 * j) = min 4 (i - 4 * j) by omega]
def sto (l : List UInt8) (i : Nat) : List U := sched (words l) (i - 16) ++ List.replicate (64 - i) 0
theorem sto_length (l : List UInt8) {i : Nat} (h : 16 ≤ i ∧ i ≤ 64) : (sto l i).length = 64 := by
  unfold sto
  rw [List.length_append, sched_length _ (words_length l), List.length_replicate]; omega
theorem wto_all (l : List UInt8) : wto l 64 = sto l 16 := by
  unfold wto sto
  rw [show sched (words l) (16 - 16) = words l from rfl]
  apply List.ext_getElem
  · simp [words]
  · intro j h1 h2
    simp at h1
    rw [List.getElem_append]
    simp only [List.getElem_map, List.getElem_range, words_length]
    split
    · rename_i h
      rw [show min 4 (64 - 4 * j) = 4 by omega, pw_word]
      simp [words]
    · rename_i h
      rw [show min 4 (64 - 4 * j) = 0 by omega, List.getElem_replicate]; rfl
theorem sto_get (l : List UInt8) {i j : Nat} {x : U} (h16 : 16 ≤ i) (hj : j < i) (h : (sto l i)[j]? = some x) : x = (sched (words l) (i - 16)).getD j 0 := by
  unfold sto at h
  have hl := sched_length (words l) (words_length l) (i - 16)
  rw [List.getElem?_append_left (by omega)] at h
  simp [List.getD_eq_getElem?_getD, h]
theorem sto_set (l : List UInt8) {i : Nat} (h16 : 16 ≤ i) (hi : i < 64) (x : U) (hx : x = wNext (sched (words l) (i - 16)) i) : (sto l i).set i x = sto l (i + 1) := by
  unfold sto
  have hl := sched_length (words l) (words_length l) (i - 16)
  rw [List.set_append_right _ _ (by omega), hl, show i - (16 + (i - 16)) = 0 by omega, show 64 - i = (64 - (i + 1)) + 1 by omega, List.replicate_succ, List.set_cons_zero]
  rw [show i + 1 - 16 = (i - 16) + 1 by omega, sched, show 16 + (i - 16) = i by omega, ← hx]
  simp

theorem rl15 (x : U) : x <<< (Int.toNat 15) ||| x >>> ((32 : Int) - 15).toNat = rotr x 17 := BitVec.or_comm _ _
theorem rl13 (x : U) : x <<< (Int.toNat 13) ||| x >>> ((32 : Int) - 13).toNat = rotr x 19 := BitVec.or_comm _ _
theorem rl25 (x : U) : x <<< (Int.toNat 25) ||| x >>> ((32 : Int) - 25).toNat = rotr x 7 := BitVec.or_comm _ _
theorem rl14 (x : U) : x <<< (Int.toNat 14) ||| x >>> ((32 : Int) - 14).toNat = rotr x 18 := BitVec.or_comm _ _
theorem rl26 (x : U) : x <<< (Int.toNat 26) ||| x >>> ((32 : Int) - 26).toNat = rotr x 6 := BitVec.or_comm _ _
theorem rl21 (x : U) : x <<< (Int.toNat 21) ||| x >>> ((32 : Int) - 21).toNat = rotr x 11 := BitVec.or_comm _ _
theorem rl7 (x : U) : x <<< (Int.toNat 7) ||| x >>> ((32 : Int) - 7).toNat = rotr x 25 := BitVec.or_comm _ _
theorem rl30 (x : U) : x <<< (Int.toNat 30) ||| x >>> ((32 : Int) - 30).toNat = rotr x 2 := BitVec.or_comm _ _
theorem rl19 (x : U) : x <<< (Int.toNat 19) ||| x >>> ((32 : Int) - 19).toNat = rotr x 13 := BitVec.or_comm _ _
theorem rl10 (x : U) : x <<< (Int.toNat 10) ||| x >>> ((32 : Int) - 10).toNat = rotr x 22 := BitVec.or_comm _ _
theorem set_at {l : List U} {i : Nat} {x y : U} (h : (l.set i x)[i]? = some y) (hi : i < l.length) : y = x := by
  rw [List.getElem?_set_self hi] at h; exact (Option.some.inj h).symm

def vs (s : St) : Array Value := #[u32v s.a, u32v s.b, u32v s.c, u32v s.d, u32v s.e, u32v s.f, u32v s.g, u32v s.h]
theorem KT_length : KT.length = 64 := rfl

def mix (H S : St) (i : Nat) : List U := (H.add S).list.take i ++ H.list.drop i
theorem mix_cases {i : Nat} (hi : i < 8) : i = 0 ∨ i = 1 ∨ i = 2 ∨ i = 3 ∨ i = 4 ∨ i = 5 ∨ i = 6 ∨ i = 7 := by omega
theorem mix_length (H S : St) {i : Nat} (hi : i ≤ 8) : (mix H S i).length = 8 := by
  have h1 : (H.add S).list.length = 8 := rfl
  have h2 : H.list.length = 8 := rfl
  unfold mix; rw [List.length_append, List.length_take, List.length_drop]; omega
theorem mix_get (H S : St) {i : Nat} (hi : i < 8) : (mix H S i).getD i 0 = H.list.getD i 0 := by
  rcases mix_cases hi with rfl | rfl | rfl | rfl | rfl | rfl | rfl | rfl <;> rfl
theorem mix_set (H S : St) {i : Nat} {x : U} (hi : i < 8) (hx : S.list[i]? = some x) : (mix H S i).set i (H.list.getD i 0 + x) = mix H S (i + 1) := by
  rcases mix_cases hi with rfl | rfl | rfl | rfl | rfl | rfl | rfl | rfl <;> (cases hx; rfl)

theorem block_spec {h : Heap} {t b : Nat} {H : St} {rest : Value} {n : Int} {a : Option Addr} {c : Nat} {l : List UInt8} {T : TypeId} (hb : h b = some (.cells (HC H.list KT rest n) T (0, 0))) (s : Sl h a 64 bv l) :
    CallSpec Try.prog 53 #[.pointer (some ⟨b, 0, none⟩), .slice a 64 c] h t (fun v h' t' => v = .tuple #[] ∧ h' b = some (.cells (HC (compress H l).list KT rest n) T (0, 0)) ∧ ∀ k o, k ≠ b → h k = some o → h' k = some o) := by
  have hl := s.1
  refine Go.Vc.spec_of_vc (fn := Try.f53) Try.func53 rfl (by kernel_rfl) (by kernel_rfl) (Nat.le_of_ble_eq_true rfl) ?_
  intro hd
  have hbt := hd _ _ hb
  conv => whnf
  repeat (first | (intro _ _; conv => whnf))
  rename_i r hr
  refine loop_intro (fun (i : Nat) => [(0, .pointer (some ⟨b, 0, none⟩)), (1, .slice a 64 c), (4, .pointer (some ⟨r, 0, none⟩)), (16, .int .i64 (i : Nat))])
    (fun i h' t' => r < t' ∧ i ≤ 64 ∧ Sub h h' ∧ h' r = some (.cells ((wto l i).map u32v).toArray 71 (0, 0))) (fun i => 64 - i) 0 ⟨rfl, rfl, rfl, rfl, trivial⟩ ⟨by omega, by omega, hd.sub_new hr _, by rw [hset_same]; rfl⟩ ?_
  rintro i g h1 t1 hd1 ⟨ht1, hi, hs1, hh1⟩
  have s1 := s.sub hs1
  conv => whnf
  refine br (fun hb1 => ?_) (fun hb1 => ?_)
  · have hlt : i < 64 := by omega
    conv => whnf
    refine Go.Vc.draw_intro [⟨0, false, false, false, 0⟩, ⟨1, false, false, false, 1⟩, ⟨2, false, false, false, 0⟩, ⟨3, false, false, false, 4⟩, ⟨4, false, false, false, 12⟩, ⟨5, false, false, false, 28⟩, ⟨6, false, false, false, 60⟩, ⟨7, false, false, false, 0⟩, ⟨8, false, false, false, 0⟩, ⟨9, false, false, false, 384⟩, ⟨10, false, false, false, 896⟩, ⟨11, false, false, false, 1920⟩, ⟨12, false, false, false, 4092⟩, ⟨13, false, false, false, 8191⟩, ⟨14, true, false, false, 16383⟩] (hs := h1) (hsub := (Sub.refl h1)) (hm := by kernel_rfl) (hpl := by kernel_rfl) ?_
    conv => whnf
    conv => whnf
    repeat (first | ((with_reducible apply Go.Vc.or32); conv => whnf) | ((with_reducible apply Go.Vc.shl32); conv => whnf) | ((with_reducible apply Go.Vc.c8_32); conv => whnf) | ((with_reducible apply Go.Vc.sl_ix); (focus with_reducible assumption); (focus exact And.intro (by omega) (by omega)); intro xI bI offI hxI hcI; conv => whnf) | ((with_reducible refine And.intro (And.intro ?_ ?_) ?_); (focus omega); (focus omega); conv => whnf) | ((with_reducible apply Go.Vc.ar_ld); (focus ((repeat (first | with_reducible assumption | with_reducible exact Go.Vc.hset_same _ _ _ | with_reducible refine (Go.Vc.hset_ne _ _ (by omega)).trans ?_)); done)); (focus exact rfl); (focus (first | omega | (simp; done) | (simp; omega))); intro xA hxA; conv => whnf) | ((with_reducible apply Go.Vc.ar_st); (focus ((repeat (first | with_reducible assumption | with_reducible exact Go.Vc.hset_same _ _ _ | with_reducible refine (Go.Vc.hset_ne _ _ (by omega)).trans ?_)); done)); (focus exact rfl); (focus exact rfl); (focus (first | omega | (simp; done) | (simp; omega))); (focus exact rfl); intro heqA; (conv => whnf); intro cA hcA; rw [heqA] at hcA; clear heqA; subst hcA; conv => whnf) | ((with_reducible apply Go.Vc.cell_i); (focus assumption); conv => whnf) | ((with_reducible apply Go.Vc.wr_i64); (focus exact And.intro (by omega) (by omega)); conv => whnf) | ((with_reducible apply Go.Vc.quo_i64); (focus exact And.intro (by omega) (And.intro (by omega) (by omega))); conv => whnf) | ((with_reducible apply Go.Vc.and_leI); (focus omega); conv => whnf) | ((with_reducible refine And.intro ?_ (And.intro ?_ ?_)); (focus exact rfl); (focus omega); conv => whnf))
    have hxa := wto_get hxA
    have hxl : byte l i = xI := by
      have : l[i]? = some xI := hxI
      simp [byte, List.getD_eq_getElem?_getD, this]
    have hset := wto_set l hlt (xA <<< (Int.toNat 8) ||| BitVec.ofNat 32 xI.toNat) (by
      rw [hxl, hxa, show min 4 (i - 4 * ((i : Int) / 4).toNat) = i % 4 from by show min 4 (i - 4 * (i / 4)) = i % 4; omega]; rfl)
    rw [show (wto l i).set ((i : Int) / 4).toNat _ = _ from hset]
    refine round_end (i + 1) (by omega) ⟨rfl, rfl, rfl, rfl, trivial⟩ ⟨by omega, by omega, ?_, hset_same _ _ _⟩
    intro kS oS hoS
    have hkS := hd kS oS hoS
    repeat rw [Go.Vc.hset_ne _ _ (by omega)]
    exact hs1 kS oS hoS
  · have h64 : i = 64 := by omega
    subst h64
    rw [wto_all] at hh1
    conv => whnf
    refine loop_intro (fun (i : Nat) => [(0, .pointer (some ⟨b, 0, none⟩)), (4, .pointer (some ⟨r, 0, none⟩)), (6, .int .i64 (i : Nat))])
      (fun i h' t' => r < t' ∧ 16 ≤ i ∧ i ≤ 64 ∧ Sub h h' ∧ h' r = some (.cells ((sto l i).map u32v).toArray 71 (0, 0))) (fun i => 64 - i) 16 ⟨rfl, rfl, rfl, trivial⟩ ⟨by omega, by omega, by omega, hs1, hh1⟩ ?_
    clear hh1 hs1 s1 hd1 ht1 hi hb1
    rintro i g h1 t1 hd1 ⟨ht1, hi16, hi, hs1, hh1⟩
    have hsl := sto_length l ⟨hi16, hi⟩
    conv => whnf
    refine br (fun hb1 => ?_) (fun hb1 => ?_)
    · have hlt : i < 64 := by omega
      conv => whnf
      refine Go.Vc.draw_intro [⟨0, false, false, false, 0⟩, ⟨1, false, false, false, 1⟩, ⟨2, false, false, false, 3⟩, ⟨3, false, false, false, 7⟩, ⟨4, false, false, false, 0⟩, ⟨5, false, false, false, 16⟩, ⟨6, false, false, false, 48⟩, ⟨7, false, false, false, 112⟩, ⟨8, false, false, false, 15⟩, ⟨9, false, false, false, 511⟩] (hs := h1) (hsub := (Sub.refl h1)) (hm := by kernel_rfl) (hpl := by kernel_rfl) ?_
      conv => whnf
      conv => whnf
      repeat (first | ((with_reducible refine And.intro (And.intro ?_ ?_) ?_); (focus omega); (focus omega); conv => whnf) | ((with_reducible apply Go.Vc.ar_ld); (focus ((repeat (first | with_reducible assumption | with_reducible exact Go.Vc.hset_same _ _ _ | with_reducible refine (Go.Vc.hset_ne _ _ (by omega)).trans ?_)); done)); (focus exact rfl); (focus (first | omega | (simp; done) | (simp; omega))); intro xA hxA; conv => whnf) | ((with_reducible apply Go.Vc.wr_i64); (focus exact And.intro (by omega) (by omega)); conv => whnf))
      obtain ⟨z, rfl⟩ : ∃ z, z = xA := ⟨xA, rfl⟩
      have hz := sto_get l hi16 (by omega) hxA
      clear hxA
      obtain ⟨y, rfl⟩ : ∃ y, y = xA := ⟨xA, rfl⟩
      have hy := sto_get l hi16 (by omega) hxA
      clear hxA
      refine Go.Vc.draw_intro [⟨0, false, false, false, 0⟩, ⟨1, false, false, false, 0⟩, ⟨2, false, false, false, 2⟩, ⟨3, false, false, false, 6⟩, ⟨4, false, false, false, 14⟩, ⟨5, false, false, false, 0⟩, ⟨6, false, false, false, 32⟩, ⟨7, false, false, false, 96⟩, ⟨8, false, false, false, 224⟩, ⟨9, false, false, false, 510⟩, ⟨10, false, false, false, 1023⟩, ⟨11, true, false, false, 2047⟩] (hs := h1) (hsub := (Sub.refl h1)) (hm := by kernel_rfl) (hpl := by kernel_rfl) ?_
      conv => whnf
      conv => whnf
      repeat (first | ((with_reducible apply Go.Vc.add32); conv => whnf) | ((with_reducible refine And.intro (And.intro ?_ ?_) ?_); (focus omega); (focus omega); conv => whnf) | ((with_reducible apply Go.Vc.ar_ld); (focus ((repeat (first | with_reducible assumption | with_reducible exact Go.Vc.hset_same _ _ _ | with_reducible refine (Go.Vc.hset_ne _ _ (by omega)).trans ?_)); done)); (focus exact rfl); (focus (first | omega | (simp; done) | (simp; omega))); intro xA hxA; conv => whnf) | ((with_reducible apply Go.Vc.ar_st); (focus ((repeat (first | with_reducible assumption | with_reducible exact Go.Vc.hset_same _ _ _ | with_reducible refine (Go.Vc.hset_ne _ _ (by omega)).trans ?_)); done)); (focus exact rfl); (focus exact rfl); (focus (first | omega | (simp; done) | (simp; omega))); (focus exact rfl); intro heqA; (conv => whnf); intro cA hcA; rw [heqA] at hcA; clear heqA; subst hcA; conv => whnf) | ((with_reducible apply Go.Vc.wr_i64); (focus exact And.intro (by omega) (by omega)); conv => whnf))
      obtain ⟨v, rfl⟩ : ∃ v, v = xA := ⟨xA, rfl⟩
      have hv := sto_get l hi16 (by omega) hxA
      clear hxA
      obtain ⟨u, rfl⟩ : ∃ u, u = xA := ⟨xA, rfl⟩
      have hu := sto_get l hi16 (by omega) hxA
      clear hxA
      refine Go.Vc.draw_intro [⟨0, false, true, false, 0⟩, ⟨1, false, true, false, 1⟩, ⟨2, false, true, false, 3⟩, ⟨3, false, false, false, 0⟩, ⟨5, false, true, false, 0⟩, ⟨8, false, true, false, 0⟩, ⟨9, false, true, false, 256⟩, ⟨4, true, false, true, 8⟩, ⟨6, true, false, true, 56⟩, ⟨7, false, false, false, 120⟩, ⟨10, false, false, false, 1016⟩, ⟨11, false, false, false, 2047⟩, ⟨12, false, false, false, 4095⟩, ⟨13, true, false, false, 8191⟩] (hs := _) (hsub := (Sub.refl _)) (hm := by kernel_rfl) (hpl := by kernel_rfl) ?_
      conv => whnf
      conv => whnf
      repeat (first | ((with_reducible apply Go.Vc.shr32); conv => whnf) | ((with_reducible refine And.intro (And.intro ?_ ?_) ?_); (focus omega); (focus omega); conv => whnf) | ((with_reducible apply Go.Vc.ar_ld); (focus ((repeat (first | with_reducible assumption | with_reducible exact Go.Vc.hset_same _ _ _ | with_reducible refine (Go.Vc.hset_ne _ _ (by omega)).trans ?_)); done)); (focus exact rfl); (focus (first | omega | (simp; done) | (simp; omega))); intro xA hxA; conv => whnf) | ((with_reducible apply Go.Vc.and_leI); (focus omega); conv => whnf))
      refine (rot_spec _ _ (by omega) _ _).mono ?_
      rintro _ _ _ _ _ ⟨rfl, rfl, rfl⟩
      conv => whnf
      repeat (first | ((with_reducible refine And.intro (Go.Vc.Sub.refl _) ?_); conv => whnf))
      refine (rot_spec _ _ (by omega) _ _).mono ?_
      rintro _ _ _ _ _ ⟨rfl, rfl, rfl⟩
      conv => whnf
      repeat (first | ((with_reducible apply Go.Vc.add32); conv => whnf) | ((with_reducible apply Go.Vc.xor32); conv => whnf) | ((with_reducible refine And.intro (And.intro ?_ ?_) ?_); (focus omega); (focus omega); conv => whnf) | ((with_reducible apply Go.Vc.ar_st); (focus ((repeat (first | with_reducible assumption | with_reducible exact Go.Vc.hset_same _ _ _ | with_reducible refine (Go.Vc.hset_ne _ _ (by omega)).trans ?_)); done)); (focus exact rfl); (focus exact rfl); (focus (first | omega | (simp; done) | (simp; omega))); (focus exact rfl); intro heqA; (conv => whnf); intro cA hcA; rw [heqA] at hcA; clear heqA; subst hcA; conv => whnf) | ((with_reducible refine And.intro (Go.Vc.Sub.refl _) ?_); conv => whnf))
      obtain ⟨x1, rfl⟩ : ∃ x1, x1 = xA := ⟨xA, rfl⟩
      have hx1 : x1 = u + v := set_at hxA (by show i < _; omega)
      clear hxA
      subst hx1
      rw [rl15, rl13]
      refine Go.Vc.draw_intro [⟨0, false, true, false, 0⟩, ⟨1, false, true, false, 1⟩, ⟨2, false, true, false, 3⟩, ⟨3, false, false, false, 0⟩, ⟨5, false, true, false, 0⟩, ⟨8, false, true, false, 0⟩, ⟨9, false, true, false, 256⟩, ⟨4, true, false, true, 8⟩, ⟨6, true, false, true, 56⟩, ⟨7, false, false, false, 120⟩, ⟨10, false, false, false, 1016⟩, ⟨11, false, false, false, 2047⟩, ⟨12, false, false, false, 4095⟩, ⟨13, true, false, false, 8191⟩] (hs := _) (hsub := (Sub.refl _)) (hm := by kernel_rfl) (hpl := by kernel_rfl) ?_
      conv => whnf
      conv => whnf
      repeat (first | ((with_reducible apply Go.Vc.shr32); conv => whnf) | ((with_reducible refine And.intro (And.intro ?_ ?_) ?_); (focus omega); (focus omega); conv => whnf) | ((with_reducible apply Go.Vc.ar_ld); (focus ((repeat (first | with_reducible assumption | with_reducible exact Go.Vc.hset_same _ _ _ | with_reducible refine (Go.Vc.hset_ne _ _ (by omega)).trans ?_)); done)); (focus exact rfl); (focus (first | omega | (simp; done) | (simp; omega))); intro xA hxA; conv => whnf) | ((with_reducible apply Go.Vc.and_leI); (focus omega); conv => whnf))
      refine (rot_spec _ _ (by omega) _ _).mono ?_
      rintro _ _ _ _ _ ⟨rfl, rfl, rfl⟩
      conv => whnf
      repeat (first | ((with_reducible refine And.intro (Go.Vc.Sub.refl _) ?_); conv => whnf))
      refine (rot_spec _ _ (by omega) _ _).mono ?_
      rintro _ _ _ _ _ ⟨rfl, rfl, rfl⟩
      conv => whnf
      repeat (first | ((with_reducible apply Go.Vc.add32); conv => whnf) | ((with_reducible apply Go.Vc.xor32); conv => whnf) | ((with_reducible refine And.intro (And.intro ?_ ?_) ?_); (focus omega); (focus omega); conv => whnf) | ((with_reducible apply Go.Vc.ar_st); (focus ((repeat (first | with_reducible assumption | with_reducible exact Go.Vc.hset_same _ _ _ | with_reducible refine (Go.Vc.hset_ne _ _ (by omega)).trans ?_)); done)); (focus exact rfl); (focus exact rfl); (focus (first | omega | (simp; done) | (simp; omega))); (focus exact rfl); intro heqA; (conv => whnf); intro cA hcA; rw [heqA] at hcA; clear heqA; subst hcA; conv => whnf) | ((with_reducible apply Go.Vc.wr_i64); (focus exact And.intro (by omega) (by omega)); conv => whnf) | ((with_reducible refine And.intro (Go.Vc.Sub.refl _) ?_); conv => whnf))
      obtain ⟨x2, rfl⟩ : ∃ x2, x2 = xA := ⟨xA, rfl⟩
      have hx2 := set_at hxA (by rw [List.length_set]; show i < _; omega)
      clear hxA
      subst hx2
      rw [rl25, rl14, List.set_set, List.set_set]
      have hw : u + v + (rotr y 17 ^^^ rotr y 19 ^^^ y >>> (Int.toNat 10)) + (rotr z 7 ^^^ rotr z 18 ^^^ z >>> (Int.toNat 3)) = wNext (sched (words l) (i - 16)) i := by
        unfold wNext
        rw [show ((i : Int) - 2).toNat = i - 2 by omega] at hy
        rw [show ((i : Int) - 15).toNat = i - 15 by omega] at hz
        rw [show ((i : Int) - 7).toNat = i - 7 by omega] at hu
        rw [show ((i : Int) - 16).toNat = i - 16 by omega] at hv
        rw [← hy, ← hz, ← hu, ← hv]
        show u + v + ss1 y + ss0 z = ss1 y + u + ss0 z + v
        ac_rfl
      rw [show (sto l i).set ((i : Int)).toNat _ = _ from sto_set l hi16 hlt _ hw]
      refine round_end (i + 1) (by omega) ⟨rfl, rfl, rfl, trivial⟩ ⟨by omega, by omega, by omega, ?_, hset_same _ _ _⟩
      intro kS oS hoS
      have hkS := hd kS oS hoS
      repeat rw [Go.Vc.hset_ne _ _ (by omega)]
      exact hs1 kS oS hoS
    · have h64 : i = 64 := by omega
      subst h64
      conv => whnf
      have hhb := hs1 _ _ hb
      refine Go.Vc.ldrow hhb (by rw [Nat.ble_eq, HC_size rfl rfl]; decide) ?_
      rintro l1 hl1
      have hl1 : l1 = [u32v H.a, u32v H.b, u32v H.c, u32v H.d, u32v H.e, u32v H.f, u32v H.g, u32v H.h] := by rw [hl1]; rfl
      subst hl1
      conv => whnf
      repeat (first | ((with_reducible apply Go.Vc.strow); (focus ((repeat (first | with_reducible assumption | with_reducible exact Go.Vc.hset_same _ _ _ | with_reducible refine (Go.Vc.hset_ne _ _ (by omega)).trans ?_)); done)); (focus exact rfl); (focus exact rfl); (focus exact rfl); rintro _ rfl; conv => whnf) | (intro _ _; conv => whnf))
      rename_i r2 hr2
      have hW : sto l 64 = sched (words l) 48 := by simp [sto]
      rw [hW] at hh1
      generalize hWW : sched (words l) 48 = W at *
      have hWl : W.length = 64 := by rw [← hWW]; exact sched_length _ (words_length l) 48
      refine loop_intro2 (fun (i : Nat) (S : St) => [(0, .pointer (some ⟨b, 0, none⟩)), (4, .pointer (some ⟨r, 0, none⟩)), (9, .pointer (some ⟨r2, 0, none⟩)), (87, .int .i64 (i : Nat))])
        (fun i S h' t' => r2 < t' ∧ i ≤ 64 ∧ S = rounds H KT W i ∧ Sub h h' ∧ h' r = some (.cells (W.map u32v).toArray 71 (0, 0)) ∧ h' r2 = some (.cells (vs S) 69 (0, 0))) (fun i _ => 64 - i) 0 H ⟨rfl, rfl, rfl, rfl, trivial⟩ ⟨by omega, by omega, rfl, ?_, ?_, ?_⟩ ?_
      · intro kS oS hoS
        have hkS := hd kS oS hoS
        repeat rw [Go.Vc.hset_ne _ _ (by omega)]
        exact hs1 kS oS hoS
      · rw [hset_ne _ _ (by omega), hset_ne _ _ (by omega)]; exact hh1
      · rw [hset_same]; rfl
      have hrr : r < r2 ∧ t ≤ r2 := by omega
      clear hh1 hs1 hhb hd1 ht1 hi hb1
      rintro i S g h1 t1 hd1 ⟨ht1, hi, hS, hs1, hh1, hh2⟩
      have hhb := hs1 _ _ hb
      conv => whnf
      refine br (fun hb1 => ?_) (fun hb1 => ?_)
      · have hlt : i < 64 := by omega
        unfold vs at hh2
        conv => whnf
        refine Go.Vc.draw_intro [⟨0, false, false, false, 0⟩, ⟨1, false, false, false, 1⟩, ⟨2, false, false, false, 0⟩, ⟨3, false, false, false, 4⟩, ⟨4, false, false, false, 3⟩, ⟨5, false, false, false, 31⟩] (hs := h1) (hsub := (Sub.refl h1)) (hm := by kernel_rfl) (hpl := by kernel_rfl) ?_
        conv => whnf
        conv => whnf
        repeat (first | ((with_reducible refine And.intro (And.intro ?_ ?_) ?_); (focus omega); (focus omega); conv => whnf) | ((with_reducible apply Go.Vc.ld_i); (focus ((repeat (first | with_reducible assumption | with_reducible exact Go.Vc.hset_same _ _ _ | with_reducible refine (Go.Vc.hset_ne _ _ (by omega)).trans ?_)); done)); (focus exact rfl); conv => whnf))
        refine Go.Vc.draw_intro [⟨0, false, false, false, 0⟩, ⟨1, false, false, false, 1⟩, ⟨2, false, false, false, 0⟩, ⟨3, false, false, false, 0⟩, ⟨4, false, false, false, 4⟩, ⟨5, false, false, false, 20⟩, ⟨6, false, false, false, 60⟩, ⟨7, false, false, false, 124⟩, ⟨8, false, false, false, 255⟩, ⟨9, false, false, false, 0⟩, ⟨10, false, false, false, 512⟩, ⟨11, false, false, false, 1536⟩, ⟨12, false, false, false, 4095⟩, ⟨13, false, false, false, 0⟩, ⟨14, false, false, false, 8192⟩, ⟨15, false, false, false, 0⟩, ⟨16, false, false, false, 0⟩, ⟨17, false, false, false, 65536⟩, ⟨18, false, false, false, 0⟩, ⟨19, false, false, false, 262144⟩, ⟨20, false, false, false, 983040⟩, ⟨21, false, false, false, 2064384⟩, ⟨22, false, false, false, 4186112⟩, ⟨23, false, false, false, 8388607⟩, ⟨24, false, false, false, 16777215⟩] (hs := h1) (hsub := (Sub.refl h1)) (hm := by kernel_rfl) (hpl := by kernel_rfl) ?_
        conv => whnf
        conv => whnf
        repeat (first | ((with_reducible refine And.intro (And.intro ?_ ?_) ?_); (focus omega); (focus omega); conv => whnf) | ((with_reducible apply Go.Vc.ld_i); (focus ((repeat (first | with_reducible assumption | with_reducible exact Go.Vc.hset_same _ _ _ | with_reducible refine (Go.Vc.hset_ne _ _ (by omega)).trans ?_)); done)); (focus exact rfl); conv => whnf))
        refine Go.Vc.ld_i hhb (HC_k (j := i) rfl rfl (by show 0 + (7 + 1) + i * 1 = 8 + i; omega) hlt) ?_
        conv => whnf
        repeat (first | ((with_reducible apply Go.Vc.add32); conv => whnf) | ((with_reducible apply Go.Vc.xor32); conv => whnf) | ((with_reducible apply Go.Vc.and32); conv => whnf) | ((with_reducible refine And.intro (And.intro ?_ ?_) ?_); (focus omega); (focus omega); conv => whnf) | ((with_reducible apply Go.Vc.ld_i); (focus ((repeat (first | with_reducible assumption | with_reducible exact Go.Vc.hset_same _ _ _ | with_reducible refine (Go.Vc.hset_ne _ _ (by omega)).trans ?_)); done)); (focus exact rfl); conv => whnf) | ((with_reducible apply Go.Vc.ar_ld); (focus ((repeat (first | with_reducible assumption | with_reducible exact Go.Vc.hset_same _ _ _ | with_reducible refine (Go.Vc.hset_ne _ _ (by omega)).trans ?_)); done)); (focus exact rfl); (focus (first | omega | (simp; done) | (simp; omega))); intro xA hxA; conv => whnf))
        have hw : xA = W.getD i 0 := by
          have : W[i]? = some xA := hxA
          simp [List.getD_eq_getElem?_getD, this]
        subst hw
        refine (rot_spec _ _ (by omega) _ _).mono ?_
        rintro _ _ _ _ _ ⟨rfl, rfl, rfl⟩
        conv => whnf
        refine (rot_spec _ _ (by omega) _ _).mono ?_
        rintro _ _ _ _ _ ⟨rfl, rfl, rfl⟩
        conv => whnf
        repeat (first | ((with_reducible apply Go.Vc.xor32); conv => whnf))
        refine (rot_spec _ _ (by omega) _ _).mono ?_
        rintro _ _ _ _ _ ⟨rfl, rfl, rfl⟩
        conv => whnf
        repeat (first | ((with_reducible apply Go.Vc.add32); conv => whnf) | ((with_reducible apply Go.Vc.xor32); conv => whnf) | ((with_reducible apply Go.Vc.and32); conv => whnf) | ((with_reducible apply Go.Vc.or32); conv => whnf) | ((with_reducible refine And.intro (And.intro ?_ ?_) ?_); (focus omega); (focus omega); conv => whnf) | ((with_reducible apply Go.Vc.ld_i); (focus ((repeat (first | with_reducible assumption | with_reducible exact Go.Vc.hset_same _ _ _ | with_reducible refine (Go.Vc.hset_ne _ _ (by omega)).trans ?_)); done)); (focus exact rfl); conv => whnf))
        refine (rot_spec _ _ (by omega) _ _).mono ?_
        rintro _ _ _ _ _ ⟨rfl, rfl, rfl⟩
        conv => whnf
        refine (rot_spec _ _ (by omega) _ _).mono ?_
        rintro _ _ _ _ _ ⟨rfl, rfl, rfl⟩
        conv => whnf
        repeat (first | ((with_reducible apply Go.Vc.xor32); conv => whnf))
        refine (rot_spec _ _ (by omega) _ _).mono ?_
        rintro _ _ _ _ _ ⟨rfl, rfl, rfl⟩
        conv => whnf
        repeat (first | ((with_reducible apply Go.Vc.add32); conv => whnf) | ((with_reducible apply Go.Vc.xor32); conv => whnf) | ((with_reducible refine And.intro (And.intro ?_ ?_) ?_); (focus omega); (focus omega); conv => whnf) | ((with_reducible apply Go.Vc.strow); (focus ((repeat (first | with_reducible assumption | with_reducible exact Go.Vc.hset_same _ _ _ | with_reducible refine (Go.Vc.hset_ne _ _ (by omega)).trans ?_)); done)); (focus exact rfl); (focus exact rfl); (focus exact rfl); rintro _ rfl; conv => whnf) | ((with_reducible apply Go.Vc.ld_i); (focus ((repeat (first | with_reducible assumption | with_reducible exact Go.Vc.hset_same _ _ _ | with_reducible refine (Go.Vc.hset_ne _ _ (by omega)).trans ?_)); done)); (focus exact rfl); conv => whnf) | ((with_reducible apply Go.Vc.wr_i64); (focus exact And.intro (by omega) (by omega)); conv => whnf))
        rw [rl26, rl21, rl7, rl30, rl19, rl10]
        have e1 : S.h + KT.getD i 0 + W.getD i 0 + (S.g ^^^ (S.e &&& (S.f ^^^ S.g))) + (rotr S.e 6 ^^^ rotr S.e 11 ^^^ rotr S.e 25) = S.h + bs1 S.e + ch S.e S.f S.g + KT.getD i 0 + W.getD i 0 := by
          rw [ch_alt]
          show S.h + KT.getD i 0 + W.getD i 0 + ch S.e S.f S.g + bs1 S.e = _
          ac_rfl
        have e2 : (S.a &&& S.b ||| S.c &&& (S.a ||| S.b)) + (rotr S.a 2 ^^^ rotr S.a 13 ^^^ rotr S.a 22) = bs0 S.a + maj S.a S.b S.c := by
          rw [maj_alt]; exact BitVec.add_comm _ _
        rw [e1, e2]
        refine round_end2 (i + 1) (Go.Sha.step S (KT.getD i 0) (W.getD i 0)) (by omega) ⟨rfl, rfl, rfl, rfl, trivial⟩ ⟨by omega, by omega, by rw [hS]; rfl, ?_, ?_, ?_⟩
        · intro kS oS hoS
          have hkS := hd kS oS hoS
          repeat rw [Go.Vc.hset_ne _ _ (by omega)]
          exact hs1 kS oS hoS
        · rw [hset_ne _ _ (by omega)]; exact hh1
        · rw [hset_same]; rfl
      · have h64 : i = 64 := by omega
        subst h64
        conv => whnf
        refine loop_intro (fun (i : Nat) => [(0, .pointer (some ⟨b, 0, none⟩)), (9, .pointer (some ⟨r2, 0, none⟩)), (171, .int .i64 (i : Nat))])
          (fun i h' t' => r2 < t' ∧ i ≤ 8 ∧ h' b = some (.cells (HC (mix H S i) KT rest n) T (0, 0)) ∧ (∀ k o, k ≠ b → h k = some o → h' k = some o) ∧ h' r2 = some (.cells (S.list.map u32v).toArray 69 (0, 0))) (fun i => 8 - i) 0 ⟨rfl, rfl, rfl, trivial⟩ ⟨by omega, by omega, hhb, fun k o _ ho => hs1 k o ho, hh2⟩ ?_
        have hfin : H.add S = compress H l := by rw [hS, ← hWW]; rfl
        clear hh1 hs1 hhb hd1 ht1 hi hb1 hh2
        rintro i g h1 t1 hd1 ⟨ht1, hi, hhb, hk1, hh2⟩
        conv => whnf
        refine br (fun hb1 => ?_) (fun hb1 => ?_)
        · have hlt : i < 8 := by omega
          conv => whnf
          refine Go.Vc.draw_intro [⟨0, false, false, false, 0⟩, ⟨1, false, false, false, 0⟩, ⟨2, false, false, false, 1⟩, ⟨3, false, false, false, 5⟩, ⟨4, false, false, false, 15⟩, ⟨5, false, false, false, 31⟩, ⟨6, false, false, false, 0⟩, ⟨7, false, false, false, 64⟩, ⟨8, false, false, false, 192⟩, ⟨9, false, false, false, 511⟩, ⟨10, false, false, false, 1⟩, ⟨11, false, false, false, 1025⟩, ⟨12, false, false, false, 4095⟩, ⟨13, true, false, false, 8191⟩] (hs := h1) (hsub := (Sub.refl h1)) (hm := by kernel_rfl) (hpl := by kernel_rfl) ?_
          conv => whnf
          conv => whnf
          repeat (first | ((with_reducible refine And.intro (And.intro ?_ ?_) ?_); (focus omega); (focus omega); conv => whnf))
          refine Go.Vc.ld_i hhb (HC_h (j := i) (mix_length H S hi) (by show 0 + i * 1 = i; omega) hlt) ?_
          have hSl : S.list.length = 8 := rfl
          conv => whnf
          repeat (first | ((with_reducible apply Go.Vc.add32); conv => whnf) | ((with_reducible refine And.intro (And.intro ?_ ?_) ?_); (focus omega); (focus omega); conv => whnf) | ((with_reducible apply Go.Vc.ar_ld); (focus ((repeat (first | with_reducible assumption | with_reducible exact Go.Vc.hset_same _ _ _ | with_reducible refine (Go.Vc.hset_ne _ _ (by omega)).trans ?_)); done)); (focus exact rfl); (focus (first | omega | (simp; done) | (simp; omega))); intro xA hxA; conv => whnf))
          rw [mix_get H S hlt]
          have hx : S.list[i]? = some xA := hxA
          refine Go.Vc.st_s (hhb) rfl (by rw [HC_size (mix_length H S hi) rfl]; show 0 + i * 1 < 74; omega) (HC_set_h (mix_length H S hi) (by show 0 + i * 1 = i; omega) hlt _) ?_
          intro heS
          conv => whnf
          intro cS hcS
          rw [heS] at hcS
          clear heS
          subst hcS
          conv => whnf
          conv => whnf
          repeat (first | ((with_reducible apply Go.Vc.wr_i64); (focus exact And.intro (by omega) (by omega)); conv => whnf))
          rw [mix_set H S hlt hx]
          refine round_end (i + 1) (by omega) ⟨rfl, rfl, rfl, trivial⟩ ⟨by omega, by omega, hset_same _ _ _, ?_, by rw [hset_ne _ _ (by omega)]; exact hh2⟩
          intro k o hk ho
          rw [hset_ne _ _ hk]; exact hk1 k o hk ho
        · conv => whnf
          have h8 : i = 8 := by omega
          subst h8
          refine ⟨rfl, ?_, hk1⟩
          rw [hhb, ← hfin]; rfl
end Go.Proofs.Ytmlcdkckedjdjaa
