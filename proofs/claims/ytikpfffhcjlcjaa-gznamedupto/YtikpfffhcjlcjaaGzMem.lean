import Derived.Test.YtikpfffhcjlcjaaGzCrc
import Derived.Test.YtikpfffhcjlcjaaShelf
import Derived.WalkKit
set_option linter.unusedSimpArgs false
namespace Go.Gz
open Go Go.Vc
def lowL (n : Nat) (size : Nat) : List UInt8 := (List.range size).map fun i => UInt8.ofNat (n / 2 ^ (8 * i))
def lowF (n size : Nat) : ByteArray := ⟨(lowL n size).toArray⟩
def lowTo (n size i : Nat) : List UInt8 := (List.range size).map fun j => if j < i then UInt8.ofNat (n / 2 ^ (8 * j)) else 0
theorem lowTo_len (n size i : Nat) : (lowTo n size i).length = size := by simp [lowTo]
theorem lowTo_set {n size i : Nat} (h : i < size) : (lowTo n size i).set i (UInt8.ofNat (n / 2 ^ (8 * i))) = lowTo n size (i + 1) := by
  apply List.ext_getElem
  · simp [lowTo]
  · intro j h1 h2
    simp [lowTo] at h1
    rw [List.getElem_set]
    simp only [lowTo, List.getElem_map, List.getElem_range]
    split
    · rename_i e; subst e; rw [if_pos (by omega)]
    · rename_i e
      by_cases hj : j < i
      · rw [if_pos hj, if_pos (by omega)]
      · rw [if_neg hj, if_neg (by omega)]
theorem lowTo_end (n size : Nat) : lowTo n size size = lowL n size := List.map_congr_left fun j hj => if_pos (List.mem_range.1 hj)
theorem lowTo_zero (n size : Nat) : lowTo n size 0 = List.replicate size 0 := by
  unfold lowTo
  exact (List.map_congr_left (g := fun _ => (0 : UInt8)) fun j _ => if_neg (Nat.not_lt_zero j)).trans (by rw [List.map_const', List.length_range])
theorem wrap8 (m : Nat) : IntKind.u8.wrap (m : Int) = (((UInt8.ofNat m).toNat : Nat) : Int) := by
  rw [wu8, UInt8.toNat_ofNat']
  omega
def endF (s : ByteArray) : ByteArray := lowF (crcF s).toNat 4 ++ lowF s.size 4
theorem lowF_size (n k : Nat) : (lowF n k).size = k := by
  show (lowL n k).toArray.size = k
  rw [List.size_toArray, lowL, List.length_map, List.length_range]
end Go.Gz
namespace Go.Proofs.Ytikpfffhcjlcjaa
open Go Go.Vc Go.Gz
set_option maxRecDepth 20000
set_option linter.unusedVariables false
theorem readB_arr {h : Heap} {b n : Nat} {l : List UInt8} {T : TypeId} {fr : Nat × Nat} (hb : h b = some (.cells (List.map bv l).toArray T fr)) (hn : l.length = n) : ReadB h ⟨b, 0, none⟩ n l := by
  refine ⟨hn, fun i hi => ?_⟩
  rw [addr_add]
  refine ⟨_, T, fr, hb, rfl, ?_⟩
  simp [bv, List.getD_eq_getElem?_getD, List.getElem?_eq_getElem (show i < l.length by omega)]
theorem low_spec {h : Heap} {t : Nat} (n size : Nat) (hn : n ≤ 2 ^ 40) (hk : 1 ≤ size ∧ size ≤ 8) :
    CallSpec Try.prog 64 #[.int .i64 (n : Nat), .int .i64 (size : Nat)] h t (fun v h' t' => v = .string (lowF n size) ∧ Vc.Sub h h' ∧ t ≤ t') := by
  refine Go.Vc.spec_of_vc (fn := Try.f64) Try.func64 rfl (by kernel_rfl) (by kernel_rfl) (Nat.le_of_ble_eq_true rfl) ?_
  intro hd
  conv => whnf
  repeat (first | ((with_reducible apply Go.Vc.mk_b); (focus exact And.intro (by omega) (by omega)); (focus exact rfl); (focus omega); intro rM csM hrM hcsM; (first | (replace hcsM := hcsM.trans (Go.Vc.zc (Value.int .i64) 0 _)) | (replace hcsM := hcsM.trans (Go.Vc.zc Go.Vc.bv 0 _)) | (replace hcsM := hcsM.trans (Go.Vc.zc Value.string ByteArray.empty _))); subst hcsM; conv => whnf))
  have hs0 := hd.sub_new hrM (.cells (List.map bv (List.replicate size 0)).toArray 5)
  refine loop_intro (fun i : Nat => [(0, .int .i64 (n : Nat)), (5, .slice (some ⟨rM, 0, none⟩) size size), (10, .int .i64 (size : Nat)), (11, .int .i64 (i : Nat))])
    (fun i h' t' => i ≤ size ∧ h' rM = some (.cells ((lowTo n size i).map bv).toArray 5 (0, 0)) ∧ Vc.Sub h h' ∧ rM < t') (fun i => size - i) 0 ⟨rfl, rfl, rfl, rfl, trivial⟩
    ⟨by omega, (hset_same _ _ _).trans (by rw [lowTo_zero]; rfl), hs0, by omega⟩ ?_
  rintro i e1 g t1 hd1 ⟨hi, hb, hs1, ht1⟩
  have hl := lowTo_len n size i
  conv => whnf
  refine br (fun hb1 => ?_) (fun hb1 => ?_)
  · conv => whnf
    repeat (first | ((with_reducible apply Go.Vc.wr_i64); (focus exact And.intro (by omega) (by omega)); conv => whnf) | ((with_reducible apply Go.Vc.shr_i64); (focus exact And.intro (by omega) (by omega)); intro zS hzS hzS0 hzS1; conv => whnf) | ((with_reducible apply Go.Vc.and_leI); (focus omega); conv => whnf))
    have e8 : zS = ((n / 2 ^ (8 * i) : Nat) : Int) := by
      rw [hzS, show (8 * (i : Int)).toNat = 8 * i by omega]
      push_cast
      rfl
    refine ⟨((UInt8.ofNat (n / 2 ^ (8 * i))).toNat : Nat), by rw [e8, wrap8], ?_⟩
    have hb2 : i < size := by omega
    conv => whnf
    repeat (first | ((with_reducible apply Go.Vc.own_ix); (focus exact And.intro (by omega) (by omega)); conv => whnf) | ((with_reducible apply Go.Vc.ar_st); (focus ((repeat (first | with_reducible assumption | with_reducible exact Go.Vc.hset_same _ _ _ | with_reducible refine (Go.Vc.hset_ne _ _ (by omega)).trans ?_)); done)); (focus exact rfl); (focus exact rfl); (focus (first | omega | (simp; done) | (simp; omega))); (focus exact rfl); intro heqA; (conv => whnf); intro cA hcA; rw [heqA] at hcA; clear heqA; subst hcA; conv => whnf) | ((with_reducible apply Go.Vc.wr_i64); (focus exact And.intro (by omega) (by omega)); conv => whnf))
    refine round_end (i + 1) (by omega) ⟨rfl, rfl, rfl, rfl, trivial⟩ ⟨by omega, (hset_same _ _ _).trans ?_, fun b o hb' => ?_, by omega⟩
    · rw [Int.toNat_natCast, lowTo_set hb2]
    · have := hd _ _ hb'
      rw [hset_ne _ _ (by omega)]
      exact hs1 _ _ hb'
  · obtain rfl : i = size := by omega
    rw [lowTo_end] at hb
    have rb := readB_arr hb (show (lowL n i).length = i by simp [lowL])
    conv => whnf
    refine ⟨_, rb, ?_⟩
    conv => whnf
    repeat (first | ((with_reducible refine And.intro ?_ (And.intro ?_ ?_)); (focus exact rfl); (focus omega); conv => whnf))
    exact show t ≤ t1 by omega
def Mb (h : Heap) (r : Nat) (b : ByteArray) (at_ : Nat) (e : Int) : Prop := h r = some (.cells #[.string b, .int .i64 (at_ : Nat), .int .i64 e] 83 (0, 0))
def Oth (r : Nat) (h h' : Heap) : Prop := ∀ k o, k ≠ r → h k = some o → h' k = some o
theorem Oth.trans {r : Nat} {h1 h2 h3 : Heap} (a : Oth r h1 h2) (b : Oth r h2 h3) : Oth r h1 h3 := fun k o hk h => b k o hk (a k o hk h)
theorem Oth.set {r : Nat} {h : Heap} (o : Obj) : Oth r h (hset h r o) := fun k x hk hx => by rw [hset_ne _ _ hk]; exact hx
theorem Oth.of_sub {r : Nat} {h h' : Heap} (s : Vc.Sub h h') : Oth r h h' := fun k o _ hx => s k o hx
theorem skip_ok {h : Heap} {t r : Nat} {b : ByteArray} {at_ n : Nat} (M : Mb h r b at_ 0) (hb : b.size ≤ 1000000000) (hn : at_ + n ≤ b.size) :
    CallSpec Try.prog 41 #[.pointer (some ⟨r, 0, none⟩), .int .i64 (n : Nat)] h t (fun v h' t' => v = .string (b.extract at_ (at_ + n)) ∧ Mb h' r b (at_ + n) 0 ∧ Oth r h h' ∧ t ≤ t') := by
  unfold Mb at M
  refine Go.Vc.spec_of_vc (fn := Try.f41) Try.func41 rfl (by kernel_rfl) (by kernel_rfl) (Nat.le_of_ble_eq_true rfl) ?_
  intro hd
  conv => whnf
  refine Go.Vc.draw_intro [⟨0, false, false, false, 0⟩, ⟨1, false, false, false, 1⟩, ⟨2, false, false, false, 3⟩, ⟨3, false, false, false, 7⟩, ⟨4, false, false, false, 15⟩, ⟨5, false, false, false, 31⟩, ⟨6, false, false, false, 63⟩, ⟨7, false, false, false, 127⟩, ⟨8, false, false, false, 255⟩, ⟨9, false, false, false, 511⟩, ⟨10, false, false, false, 1023⟩, ⟨11, false, false, false, 63⟩, ⟨12, false, false, false, 2111⟩, ⟨13, false, false, false, 6207⟩, ⟨14, false, false, false, 14399⟩, ⟨15, false, false, false, 32767⟩, ⟨16, false, false, false, 63⟩, ⟨17, false, false, false, 131071⟩, ⟨18, false, false, false, 262143⟩] (hs := (fun _ => none)) (hsub := (fun _ _ h => nomatch h)) (hm := by kernel_rfl) (hpl := by kernel_rfl) ?_
  conv => whnf
  conv => whnf
  repeat (first | ((with_reducible apply Go.Vc.ld_i); (focus ((repeat (first | with_reducible assumption | with_reducible exact Go.Vc.hset_same _ _ _ | with_reducible refine (Go.Vc.hset_ne _ _ (by omega)).trans ?_)); done)); (focus exact rfl); conv => whnf) | ((with_reducible apply Go.Vc.st_i); (focus ((repeat (first | with_reducible assumption | with_reducible exact Go.Vc.hset_same _ _ _ | with_reducible refine (Go.Vc.hset_ne _ _ (by omega)).trans ?_)); done)); (focus exact rfl); (focus exact rfl); (focus exact rfl); (conv => whnf); intro cA hcA; (first | (simp only [List.setIfInBounds_toArray, List.set_cons_succ, List.set_cons_zero] at hcA; subst hcA) | subst hcA); conv => whnf) | ((with_reducible apply Go.Vc.wr_i64); (focus exact And.intro (by omega) (by omega)); conv => whnf) | (refine Go.Vc.br_f ?_ ?_; (focus omega); conv => whnf))
  refine Go.Vc.draw_intro [⟨0, false, false, false, 0⟩, ⟨1, false, false, false, 1⟩, ⟨2, false, false, false, 3⟩, ⟨3, false, false, false, 7⟩, ⟨4, false, false, false, 0⟩, ⟨5, false, false, false, 16⟩, ⟨6, false, false, false, 48⟩, ⟨7, false, false, false, 112⟩, ⟨8, false, false, false, 0⟩, ⟨9, false, false, false, 496⟩, ⟨10, false, false, false, 0⟩, ⟨11, false, false, false, 1024⟩, ⟨12, false, false, false, 3072⟩, ⟨13, false, false, false, 7168⟩, ⟨14, false, false, false, 16383⟩, ⟨15, false, false, false, 32767⟩] (hs := (fun _ => none)) (hsub := (fun _ _ h => nomatch h)) (hm := by kernel_rfl) (hpl := by kernel_rfl) ?_
  conv => whnf
  conv => whnf
  repeat (first | ((with_reducible refine And.intro (And.intro ?_ ?_) ?_); (focus omega); (focus omega); conv => whnf) | ((with_reducible apply Go.Vc.ld_i); (focus ((repeat (first | with_reducible assumption | with_reducible exact Go.Vc.hset_same _ _ _ | with_reducible refine (Go.Vc.hset_ne _ _ (by omega)).trans ?_)); done)); (focus exact rfl); conv => whnf) | ((with_reducible apply Go.Vc.wr_i64); (focus exact And.intro (by omega) (by omega)); conv => whnf))
  refine ⟨?_, ?_, Oth.set _, Nat.le_refl _⟩
  · rw [show ((at_ : Int) + n - n).toNat = at_ by omega, show ((at_ : Int) + n).toNat = at_ + n by omega]
  · exact (hset_same _ _ _).trans (by rw [show ((at_ : Int) + n) = ((at_ + n : Nat) : Int) by omega])
theorem skip_no {h : Heap} {t r : Nat} {b : ByteArray} {at_ n : Nat} (M : Mb h r b at_ 0) (hb : b.size ≤ 1000000000) (ha : at_ ≤ b.size) (hn : b.size < at_ + n) (hn2 : n ≤ 1000000) :
    CallSpec Try.prog 41 #[.pointer (some ⟨r, 0, none⟩), .int .i64 (n : Nat)] h t (fun v h' t' => v = .string ByteArray.empty ∧ Mb h' r b at_ 2 ∧ Oth r h h' ∧ t ≤ t') := by
  unfold Mb at M
  refine Go.Vc.spec_of_vc (fn := Try.f41) Try.func41 rfl (by kernel_rfl) (by kernel_rfl) (Nat.le_of_ble_eq_true rfl) ?_
  intro hd
  conv => whnf
  refine Go.Vc.draw_intro [⟨0, false, false, false, 0⟩, ⟨1, false, false, false, 1⟩, ⟨2, false, false, false, 3⟩, ⟨3, false, false, false, 7⟩, ⟨4, false, false, false, 15⟩, ⟨5, false, false, false, 31⟩, ⟨6, false, false, false, 63⟩, ⟨7, false, false, false, 127⟩, ⟨8, false, false, false, 255⟩, ⟨9, false, false, false, 511⟩, ⟨10, false, false, false, 1023⟩, ⟨11, false, false, false, 63⟩, ⟨12, false, false, false, 2111⟩, ⟨13, false, false, false, 6207⟩, ⟨14, false, false, false, 14399⟩, ⟨15, false, false, false, 32767⟩, ⟨16, false, false, false, 63⟩, ⟨17, false, false, false, 131071⟩, ⟨18, false, false, false, 262143⟩] (hs := (fun _ => none)) (hsub := (fun _ _ h => nomatch h)) (hm := by kernel_rfl) (hpl := by kernel_rfl) ?_
  conv => whnf
  conv => whnf
  repeat (first | ((with_reducible apply Go.Vc.ld_i); (focus ((repeat (first | with_reducible assumption | with_reducible exact Go.Vc.hset_same _ _ _ | with_reducible refine (Go.Vc.hset_ne _ _ (by omega)).trans ?_)); done)); (focus exact rfl); conv => whnf) | ((with_reducible apply Go.Vc.st_i); (focus ((repeat (first | with_reducible assumption | with_reducible exact Go.Vc.hset_same _ _ _ | with_reducible refine (Go.Vc.hset_ne _ _ (by omega)).trans ?_)); done)); (focus exact rfl); (focus exact rfl); (focus exact rfl); (conv => whnf); intro cA hcA; (first | (simp only [List.setIfInBounds_toArray, List.set_cons_succ, List.set_cons_zero] at hcA; subst hcA) | subst hcA); conv => whnf) | ((with_reducible apply Go.Vc.wr_i64); (focus exact And.intro (by omega) (by omega)); conv => whnf) | (refine Go.Vc.br_t ?_ ?_; (focus omega); conv => whnf) | (refine Go.Vc.br_f ?_ ?_; (focus omega); conv => whnf))
  exact ⟨rfl, hset_same _ _ _, Oth.set _, Nat.le_refl _⟩
theorem or_high {x y : Int} (hx : 0 ≤ x ∧ x < 256) (hy : 0 ≤ y ∧ y < 256) {Q : Int → Prop} (hk : Q (x + y * 256)) :
    ∃ z, z = IntKind.i64.wrap ((BitVec.ofInt IntKind.i64.bits x ||| BitVec.ofInt IntKind.i64.bits (shlV .i64 y 8)).toNat : Int) ∧ Q z := by
  refine ⟨_, ?_, hk⟩
  obtain ⟨X, rfl⟩ := Int.eq_ofNat_of_zero_le hx.1
  obtain ⟨Y, rfl⟩ := Int.eq_ofNat_of_zero_le hy.1
  have e0 : shlV .i64 ((Y : Nat) : Int) 8 = ((Y * 256 : Nat) : Int) := by
    unfold shlV
    show IntKind.i64.wrap (((Y : Nat) : Int) * 2 ^ 8) = _
    rw [show ((2 : Int) ^ 8) = 256 from rfl, wi (by omega) (by omega)]
    push_cast
    rfl
  rw [e0]
  have e2 : (BitVec.ofInt IntKind.i64.bits ((X : Nat) : Int) ||| BitVec.ofInt IntKind.i64.bits ((Y * 256 : Nat) : Int)).toNat = X + Y * 256 := by
    show (BitVec.ofInt 64 ((X : Nat) : Int) ||| BitVec.ofInt 64 ((Y * 256 : Nat) : Int)).toNat = _
    rw [BitVec.ofInt_natCast, BitVec.ofInt_natCast, BitVec.toNat_or, BitVec.toNat_ofNat, BitVec.toNat_ofNat, Nat.mod_eq_of_lt (by omega), Nat.mod_eq_of_lt (by omega)]
    have := Nat.two_pow_add_eq_or_of_lt (i := 8) (b := X) (by omega) Y
    rw [Nat.or_comm, Nat.mul_comm Y, show 256 = 2 ^ 8 from rfl, ← this, Nat.add_comm]
  rw [e2, wi (by omega) (by omega)]
  push_cast
  rfl
theorem ext_byte {b : ByteArray} {i j k : Nat} (h1 : i + k < j) (h2 : j ≤ b.size) : byteAt (b.extract i j) k = byteAt b (i + k) := by
  unfold byteAt
  rw [ByteArray.data_extract, Array.getD_eq_getD_getElem?, Array.getD_eq_getD_getElem?, Array.getElem?_extract, if_pos (by have : b.data.size = b.size := rfl; omega)]
theorem more_ok {h : Heap} {t r : Nat} {b : ByteArray} {at_ n : Nat} (M : Mb h r b at_ 0) (hb : b.size ≤ 1000000000) (hn : at_ + 2 + n ≤ b.size) (hl : byteAt b at_ + byteAt b (at_ + 1) * 256 = (n : Nat)) :
    CallSpec Try.prog 43 #[.pointer (some ⟨r, 0, none⟩)] h t (fun v h' t' => v = .tuple #[] ∧ Mb h' r b (at_ + 2 + n) 0 ∧ Oth r h h' ∧ t ≤ t') := by
  have hz : (b.extract at_ (at_ + 2)).size = 2 := by rw [ByteArray.size_extract]; omega
  have hne : b.extract at_ (at_ + 2) ≠ ByteArray.empty := fun e => by rw [e] at hz; cases hz
  have r0 := byteAt_range b at_
  have r1 := byteAt_range b (at_ + 1)
  have e0 := ext_byte (b := b) (i := at_) (j := at_ + 2) (k := 0) (by omega) (by omega)
  rw [Nat.add_zero] at e0
  have e1 := ext_byte (b := b) (i := at_) (j := at_ + 2) (k := 1) (by omega) (by omega)
  refine Go.Vc.spec_of_vc (fn := Try.f43) Try.func43 rfl (by kernel_rfl) (by kernel_rfl) (Nat.le_of_ble_eq_true rfl) ?_
  intro hd
  conv => whnf
  refine (skip_ok M hb (n := 2) (by omega)).mono ?_
  rintro _ g t1 hd1 ht1 ⟨rfl, M1, o1, _⟩
  conv => whnf
  refine br_t hne ?_
  conv => whnf
  refine Go.Vc.draw_intro [⟨0, false, false, false, 0⟩, ⟨1, false, false, false, 0⟩, ⟨2, false, false, false, 2⟩, ⟨3, false, false, false, 6⟩, ⟨4, false, false, false, 0⟩, ⟨5, false, false, false, 16⟩, ⟨6, false, false, false, 48⟩, ⟨7, false, false, false, 112⟩, ⟨8, false, false, false, 254⟩, ⟨9, true, false, false, 511⟩] (hs := (fun _ => none)) (hsub := (fun _ _ h => nomatch h)) (hm := by kernel_rfl) (hpl := by kernel_rfl) ?_
  conv => whnf
  conv => whnf
  repeat (first | ((with_reducible refine And.intro (And.intro ?_ ?_) ?_); (focus omega); (focus omega); conv => whnf) | (intro _ _; conv => whnf) | ((with_reducible apply Go.Vc.wr_i64); (focus exact And.intro (by omega) (by omega)); conv => whnf) | ((with_reducible apply Go.Vc.and_leI); (focus omega); conv => whnf))
  refine ⟨_, rfl, ?_⟩
  conv => whnf
  rw [show Int.toNat 1 = 1 from rfl, show Int.toNat 0 = 0 from rfl, e0, e1]
  refine or_high (x := byteAt b at_) (y := byteAt b (at_ + 1)) (by omega) (by omega) ?_
  rw [hl]
  conv => whnf
  refine (skip_ok M1 hb (n := n) (by omega)).mono ?_
  rintro _ g3 t3 hd3 ht3 ⟨rfl, M3, o3, _⟩
  conv => whnf
  repeat (first | ((with_reducible refine And.intro ?_ (And.intro ?_ ?_)); (focus exact rfl); (focus omega); conv => whnf))
  exact ⟨o1.trans o3, by omega⟩
theorem idxbyte_spec {h : Heap} {t : Nat} (s : ByteArray) :
    CallSpec Try.prog 66 #[.string s, .int .u8 0] h t (fun v h' t' => v = .int .i64 (Lib.indexByte s.data.toList 0) ∧ h' = h ∧ t' = t) :=
  same_bridge (callable_of Try.func66 rfl (by kernel_rfl)) (fun w => Try.strings_IndexByte s 0 w)
theorem text_ok {h : Heap} {t r : Nat} {b : ByteArray} {at_ n : Nat} (M : Mb h r b at_ 0) (hb : b.size ≤ 1000000000) (ha : at_ ≤ b.size) (hn : Lib.indexByte (b.extract at_ b.size).data.toList 0 = (n : Nat)) (hn2 : n ≤ 1000000) :
    CallSpec Try.prog 44 #[.pointer (some ⟨r, 0, none⟩)] h t (fun v h' t' => v = .tuple #[] ∧ Mb h' r b (at_ + n + 1) 0 ∧ Oth r h h' ∧ t ≤ t') := by
  unfold Mb at M
  refine Go.Vc.spec_of_vc (fn := Try.f44) Try.func44 rfl (by kernel_rfl) (by kernel_rfl) (Nat.le_of_ble_eq_true rfl) ?_
  intro hd
  conv => whnf
  repeat (first | ((with_reducible apply Go.Vc.ld_i); (focus ((repeat (first | with_reducible assumption | with_reducible exact Go.Vc.hset_same _ _ _ | with_reducible refine (Go.Vc.hset_ne _ _ (by omega)).trans ?_)); done)); (focus exact rfl); conv => whnf) | (refine Go.Vc.br_f ?_ ?_; (focus omega); conv => whnf))
  refine Go.Vc.draw_intro [⟨0, false, false, false, 0⟩, ⟨1, false, false, false, 1⟩, ⟨2, false, false, false, 3⟩, ⟨3, false, false, false, 7⟩, ⟨4, false, false, false, 0⟩, ⟨5, false, false, false, 16⟩, ⟨6, false, false, false, 48⟩, ⟨7, false, false, false, 112⟩, ⟨8, false, false, false, 255⟩, ⟨9, true, false, false, 511⟩, ⟨10, false, false, false, 1023⟩] (hs := (fun _ => none)) (hsub := (fun _ _ h => nomatch h)) (hm := by kernel_rfl) (hpl := by kernel_rfl) ?_
  conv => whnf
  conv => whnf
  repeat (first | ((with_reducible refine And.intro (And.intro ?_ ?_) ?_); (focus omega); (focus omega); conv => whnf) | ((with_reducible apply Go.Vc.ld_i); (focus ((repeat (first | with_reducible assumption | with_reducible exact Go.Vc.hset_same _ _ _ | with_reducible refine (Go.Vc.hset_ne _ _ (by omega)).trans ?_)); done)); (focus exact rfl); conv => whnf))
  refine (idxbyte_spec _).mono ?_
  rintro _ g t1 hd1 ht1 ⟨rfl, rfl, rfl⟩
  rw [show ((at_ : Nat) : Int).toNat = at_ from rfl, hn]
  conv => whnf
  repeat (first | ((with_reducible apply Go.Vc.ld_i); (focus ((repeat (first | with_reducible assumption | with_reducible exact Go.Vc.hset_same _ _ _ | with_reducible refine (Go.Vc.hset_ne _ _ (by omega)).trans ?_)); done)); (focus exact rfl); conv => whnf) | ((with_reducible apply Go.Vc.st_i); (focus ((repeat (first | with_reducible assumption | with_reducible exact Go.Vc.hset_same _ _ _ | with_reducible refine (Go.Vc.hset_ne _ _ (by omega)).trans ?_)); done)); (focus exact rfl); (focus exact rfl); (focus exact rfl); (conv => whnf); intro cA hcA; (first | (simp only [List.setIfInBounds_toArray, List.set_cons_succ, List.set_cons_zero] at hcA; subst hcA) | subst hcA); conv => whnf) | ((with_reducible apply Go.Vc.wr_i64); (focus exact And.intro (by omega) (by omega)); conv => whnf) | (refine Go.Vc.br_f ?_ ?_; (focus omega); conv => whnf))
  exact ⟨rfl, (hset_same _ _ _).trans (by rw [show ((at_ : Int) + ((n : Int) + 1)) = ((at_ + n + 1 : Nat) : Int) by omega]), Oth.set _, Nat.le_refl _⟩
theorem sum_ok {h : Heap} {t r : Nat} {b : ByteArray} {at_ : Nat} (M : Mb h r b at_ 0) (hb : b.size ≤ 1000000000) (ha : at_ + 2 ≤ b.size) :
    CallSpec Try.prog 45 #[.pointer (some ⟨r, 0, none⟩)] h t (fun v h' t' => v = .tuple #[] ∧ Mb h' r b (at_ + 2) (if b.extract at_ (at_ + 2) = lowF (crcF (b.extract 0 at_)).toNat 2 then 0 else 8) ∧ Oth r h h' ∧ t ≤ t') := by
  have M0 := M
  unfold Mb at M
  refine Go.Vc.spec_of_vc (fn := Try.f45) Try.func45 rfl (by kernel_rfl) (by kernel_rfl) (Nat.le_of_ble_eq_true rfl) ?_
  intro hd
  conv => whnf
  repeat (first | ((with_reducible apply Go.Vc.ld_i); (focus ((repeat (first | with_reducible assumption | with_reducible exact Go.Vc.hset_same _ _ _ | with_reducible refine (Go.Vc.hset_ne _ _ (by omega)).trans ?_)); done)); (focus exact rfl); conv => whnf) | (refine Go.Vc.br_t ?_ ?_; (focus omega); conv => whnf))
  refine Go.Vc.draw_intro [⟨0, false, false, false, 0⟩, ⟨1, false, false, false, 1⟩, ⟨2, false, false, false, 3⟩, ⟨3, false, false, false, 7⟩, ⟨4, false, false, false, 0⟩, ⟨5, false, false, false, 16⟩, ⟨6, false, false, false, 48⟩, ⟨7, false, false, false, 112⟩, ⟨8, false, false, false, 255⟩, ⟨9, true, false, false, 511⟩, ⟨10, false, false, false, 1023⟩, ⟨11, true, false, false, 2047⟩, ⟨12, false, false, false, 4095⟩] (hs := (fun _ => none)) (hsub := (fun _ _ h => nomatch h)) (hm := by kernel_rfl) (hpl := by kernel_rfl) ?_
  conv => whnf
  conv => whnf
  repeat (first | ((with_reducible refine And.intro (And.intro ?_ ?_) ?_); (focus omega); (focus omega); conv => whnf) | ((with_reducible apply Go.Vc.ld_i); (focus ((repeat (first | with_reducible assumption | with_reducible exact Go.Vc.hset_same _ _ _ | with_reducible refine (Go.Vc.hset_ne _ _ (by omega)).trans ?_)); done)); (focus exact rfl); conv => whnf))
  have hcl := (crcF (b.extract 0 at_)).isLt
  have hes : (b.extract 0 at_).size = at_ := by rw [ByteArray.size_extract]; omega
  refine (crcsum_spec (b.extract 0 at_) (by omega)).mono ?_
  rintro _ g t1 hd1 ht1 ⟨rfl, s1, _⟩
  conv => whnf
  repeat (first | ((with_reducible apply Go.Vc.wr_i64); (focus exact And.intro (by omega) (by omega)); conv => whnf))
  refine (low_spec (crcF (b.extract 0 at_)).toNat 2 (by omega) (by omega)).mono ?_
  rintro _ g2 t2 hd2 ht2 ⟨rfl, s2, _⟩
  conv => whnf
  refine (skip_ok (s2 _ _ (s1 _ _ M0)) hb (n := 2) ha).mono ?_
  rintro _ g3 t3 hd3 ht3 ⟨rfl, M3, o3, _⟩
  have M3' := M3
  unfold Mb at M3'
  have hso := ((Oth.of_sub (r := r) s1).trans (Oth.of_sub s2)).trans o3
  conv => whnf
  repeat (first | ((with_reducible apply Go.Vc.ld_i); (focus ((repeat (first | with_reducible assumption | with_reducible exact Go.Vc.hset_same _ _ _ | with_reducible refine (Go.Vc.hset_ne _ _ (by omega)).trans ?_)); done)); (focus exact rfl); conv => whnf) | (refine Go.Vc.br_t ?_ ?_; (focus omega); conv => whnf))
  refine br (fun hx => ?_) (fun hx => ?_)
  · rw [if_neg hx]
    conv => whnf
    repeat (first | ((with_reducible apply Go.Vc.st_i); (focus ((repeat (first | with_reducible assumption | with_reducible exact Go.Vc.hset_same _ _ _ | with_reducible refine (Go.Vc.hset_ne _ _ (by omega)).trans ?_)); done)); (focus exact rfl); (focus exact rfl); (focus exact rfl); (conv => whnf); intro cA hcA; (first | (simp only [List.setIfInBounds_toArray, List.set_cons_succ, List.set_cons_zero] at hcA; subst hcA) | subst hcA); conv => whnf))
    exact ⟨rfl, hset_same _ _ _, hso.trans (Oth.set _), by omega⟩
  · rw [if_pos (Decidable.of_not_not hx)]
    conv => whnf
    repeat (first | ((with_reducible refine And.intro ?_ (And.intro ?_ ?_)); (focus exact rfl); (focus omega); conv => whnf))
    exact ⟨hso, by omega⟩
end Go.Proofs.Ytikpfffhcjlcjaa
