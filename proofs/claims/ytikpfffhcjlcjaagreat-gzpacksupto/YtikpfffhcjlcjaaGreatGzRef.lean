import Derived.Test.YtikpfffhcjlcjaaGreatGzEx
import Derived.Test.YtikpfffhcjlcjaaGreatCrcPure
import Derived.Test.YtikpfffhcjlcjaaGreatDefRef7
set_option linter.unusedSimpArgs false
namespace Go.Proofs.YtikpfffhcjlcjaaGreat
open Go Go.Vc Go.Huf Go.Dfl Go.Gz
set_option maxRecDepth 20000
set_option linter.unusedVariables false
theorem rsummore_spec {h : Heap} {t : Nat} (x : BitVec 32) (s : ByteArray) (hs : s.size ≤ 1000000000) :
    CallSpec Tryz.prog 29 #[u32v x, .string s] h t (fun v h' t' => v = u32v (~~~(s.data.toList.foldl crcStep (~~~x))) ∧ h = h' ∧ t = t') := by
  refine Go.Vc.spec_of_vc (fn := Tryz.f29) Tryz.func29 rfl (by kernel_rfl) (by kernel_rfl) (Nat.le_of_ble_eq_true rfl) ?_
  intro hd
  conv => whnf
  repeat (first | ((with_reducible apply Go.Vc.not32); conv => whnf))
  refine loop_intro (fun i : Nat => [(1, .string s), (5, u32v ((s.data.toList.take i).foldl crcStep (~~~x))), (6, .int .i64 (i : Nat))])
    (fun i h' t' => h = h' ∧ t = t' ∧ i ≤ s.size) (fun i => s.size - i) 0 ⟨rfl, rfl, rfl, trivial⟩ ⟨rfl, rfl, by omega⟩ ?_
  rintro i e1 _ _ hd2 ⟨rfl, rfl, hi⟩
  conv => whnf
  refine br (fun hb1 => ?_) (fun hb1 => ?_)
  · have hjl : i < s.data.toList.length := by rw [Array.length_toList]; show i < s.size; omega
    have hg : s.data.getD i 0 = s.data.toList[i] := by
      rw [Array.getD_eq_getD_getElem?, ← Array.getElem?_toList, List.getElem?_eq_getElem hjl]; rfl
    obtain ⟨c, hc⟩ : ∃ c, (s.data.toList.take i).foldl crcStep (~~~x) = c := ⟨_, rfl⟩
    rw [hc]
    conv => whnf
    repeat (first | ((with_reducible apply Go.Vc.xor32); conv => whnf) | ((with_reducible apply Go.Vc.cb_32); conv => whnf) | ((with_reducible refine And.intro (And.intro ?_ ?_) ?_); (focus omega); (focus omega); conv => whnf) | (intro _ _; conv => whnf))
    refine loop_intro (fun k : Nat => [(1, .string s), (5, u32v (halfs k (c ^^^ BitVec.ofNat 32 (s.data.getD i 0).toNat))), (6, .int .i64 (i : Nat)), (7, .int .i64 (k : Nat))])
      (fun k h' t' => h = h' ∧ t = t' ∧ k ≤ 8) (fun k => 8 - k) 0 ⟨rfl, rfl, rfl, rfl, trivial⟩ ⟨rfl, rfl, by omega⟩ ?_
    rintro k e2 _ _ hd3 ⟨rfl, rfl, hk⟩
    conv => whnf
    refine br (fun hb2 => ?_) (fun hb2 => ?_)
    · obtain ⟨w, hw⟩ : ∃ w, halfs k (c ^^^ BitVec.ofNat 32 (s.data.getD i 0).toNat) = w := ⟨_, rfl⟩
      have hwl := w.isLt
      rw [hw]
      have h1 : ((w &&& 1#32).toNat) = w.toNat % 2 := by
        rw [BitVec.toNat_and]
        show w.toNat &&& 1 = _
        rw [Nat.and_one_is_mod]
      conv => whnf
      repeat (first | ((with_reducible apply Go.Vc.rem_i); (focus omega); conv => whnf) | ((with_reducible refine And.intro ?_ (And.intro ?_ ?_)); (focus exact rfl); (focus omega); conv => whnf))
      refine br (fun h3 => ?_) (fun h3 => ?_)
      · have he : halfB w = (w >>> 1) ^^^ polyB := by unfold halfB; rw [h1, if_pos (by omega)]
        conv => whnf
        repeat (first | ((with_reducible apply Go.Vc.shr32); conv => whnf) | ((with_reducible apply Go.Vc.and_leI); (focus omega); conv => whnf))
        refine xor32 (x := w >>> 1) (y := polyB) ?_
        conv => whnf
        repeat (first | ((with_reducible apply Go.Vc.wr_i64); (focus exact And.intro (by omega) (by omega)); conv => whnf))
        refine round_end (k + 1) (by omega) ⟨rfl, ?_, rfl, rfl, trivial⟩ ⟨rfl, rfl, by omega⟩
        rw [halfs, hw, he]
        rfl
      · have he : halfB w = w >>> 1 := by unfold halfB; rw [h1, if_neg (by omega)]
        conv => whnf
        repeat (first | ((with_reducible apply Go.Vc.shr32); conv => whnf) | ((with_reducible apply Go.Vc.wr_i64); (focus exact And.intro (by omega) (by omega)); conv => whnf) | ((with_reducible apply Go.Vc.and_leI); (focus omega); conv => whnf))
        refine round_end (k + 1) (by omega) ⟨rfl, ?_, rfl, rfl, trivial⟩ ⟨rfl, rfl, by omega⟩
        rw [halfs, hw, he]
        rfl
    · obtain rfl : k = 8 := by omega
      conv => whnf
      repeat (first | ((with_reducible apply Go.Vc.wr_i64); (focus exact And.intro (by omega) (by omega)); conv => whnf))
      refine round_end (i + 1) (by omega) ⟨rfl, ?_, rfl, trivial⟩ ⟨rfl, rfl, by omega⟩
      rw [List.take_add_one, List.getElem?_eq_getElem hjl, List.foldl_append, hc, step_eq, hg]
      rfl
  · obtain rfl : i = s.size := by omega
    rw [List.take_of_length_le (by rw [Array.length_toList]; exact Nat.le_refl _)]
    conv => whnf
    repeat (first | ((with_reducible apply Go.Vc.not32); conv => whnf))
    exact ⟨rfl, rfl, rfl⟩
theorem rsum_spec {h : Heap} {t : Nat} (s : ByteArray) (hs : s.size ≤ 1000000000) :
    CallSpec Tryz.prog 14 #[.string s] h t (fun v h' t' => v = u32v (crcF s) ∧ h = h' ∧ t = t') := by
  refine Go.Vc.spec_of_vc (fn := Tryz.f14) Tryz.func14 rfl (by kernel_rfl) (by kernel_rfl) (Nat.le_of_ble_eq_true rfl) ?_
  intro hd
  conv => whnf
  refine (rsummore_spec 0#32 s hs).mono ?_
  rintro _ g t1 hd1 ht1 ⟨rfl, rfl, rfl⟩
  conv => whnf
  exact ⟨rfl, rfl, rfl⟩
theorem four_spec {h : Heap} {t : Nat} (n : BitVec 32) :
    CallSpec Tryz.prog 13 #[u32v n] h t (fun v h' t' => v = .string (lowF n.toNat 4) ∧ Vc.Sub h h' ∧ t ≤ t') := by
  refine Go.Vc.spec_of_vc (fn := Tryz.f13) Tryz.func13 rfl (by kernel_rfl) (by kernel_rfl) (Nat.le_of_ble_eq_true rfl) ?_
  intro hd
  conv => whnf
  repeat (first | ((with_reducible apply Go.Vc.shr32); conv => whnf) | ((with_reducible apply Go.Vc.c32_8); conv => whnf) | (intro _ _; conv => whnf) | ((with_reducible apply Go.Vc.and_leI); (focus omega); conv => whnf))
  rename_i r hr
  have hb : hset h r (.cells #[.int .u8 ((UInt8.ofNat n.toNat).toNat : Nat), .int .u8 ((UInt8.ofNat (n >>> Int.toNat 8).toNat).toNat : Nat), .int .u8 ((UInt8.ofNat (n >>> Int.toNat 16).toNat).toNat : Nat), .int .u8 ((UInt8.ofNat (n >>> Int.toNat 24).toNat).toNat : Nat)] 5) r = some (.cells (List.map bv [UInt8.ofNat n.toNat, UInt8.ofNat (n >>> Int.toNat 8).toNat, UInt8.ofNat (n >>> Int.toNat 16).toNat, UInt8.ofNat (n >>> Int.toNat 24).toNat]).toArray 5 (0, 0)) := hset_same _ _ _
  refine ⟨_, readB_arr hb rfl, ?_⟩
  have e : (⟨[UInt8.ofNat n.toNat, UInt8.ofNat (n >>> Int.toNat 8).toNat, UInt8.ofNat (n >>> Int.toNat 16).toNat, UInt8.ofNat (n >>> Int.toNat 24).toNat].toArray⟩ : ByteArray) = lowF n.toNat 4 := by
    unfold lowF lowL
    show _ = (⟨[UInt8.ofNat (n.toNat / 2 ^ (8 * 0)), UInt8.ofNat (n.toNat / 2 ^ (8 * 1)), UInt8.ofNat (n.toNat / 2 ^ (8 * 2)), UInt8.ofNat (n.toNat / 2 ^ (8 * 3))].toArray⟩ : ByteArray)
    have es : ∀ k : Nat, (n >>> k).toNat = n.toNat / 2 ^ k := fun k => by rw [BitVec.toNat_ushiftRight, Nat.shiftRight_eq_div_pow]
    rw [show Int.toNat 8 = 8 from rfl, show Int.toNat 16 = 16 from rfl, show Int.toNat 24 = 24 from rfl, es, es, es, Nat.mul_zero, Nat.pow_zero, Nat.div_one]
  rw [e]
  conv => whnf
  exact ⟨rfl, hd.sub_new hr _, by omega⟩
theorem zrpack_spec {h : Heap} {t : Nat} (s : ByteArray) (hs : s.size ≤ 32768) :
    CallSpec Tryz.prog 7 #[.string s] h t (fun v h' t' => v = .string (packZ s) ∧ Vc.Sub h h' ∧ t ≤ t') := by
  have hl := packL_le s hs
  have hz := packS_size2 s
  have hcl := (crcF s).isLt
  have hah : (({ data := #[31, 139, 8, 0, 0, 0, 0, 0, 0, 255] } : ByteArray) ++ packS s).size = 10 + (packS s).size := by rw [ByteArray.size_append]; rfl
  refine Go.Vc.spec_of_vc (fn := Tryz.f7) Tryz.func7 rfl (by kernel_rfl) (by kernel_rfl) (Nat.le_of_ble_eq_true rfl) ?_
  intro hd
  conv => whnf
  refine (rpack_spec s (by omega)).mono ?_
  rintro _ g t1 hd1 ht1 ⟨rfl, s1, _⟩
  conv => whnf
  repeat (first | ((with_reducible apply Go.Vc.and_leN); (focus (first | omega | (simp only [ByteArray.size, List.size_toArray, List.length_cons, List.length_nil] at *; omega))); conv => whnf))
  refine (rsum_spec s (by omega)).mono ?_
  rintro _ _ _ _ _ ⟨rfl, rfl, rfl⟩
  conv => whnf
  refine (four_spec (crcF s)).mono ?_
  rintro _ g2 t2 hd2 ht2 ⟨rfl, s2, _⟩
  have z1 := lowF_size (crcF s).toNat 4
  have z2 := lowF_size s.size 4
  have hb1 : (({ data := #[31, 139, 8, 0, 0, 0, 0, 0, 0, 255] } : ByteArray) ++ packS s ++ lowF (crcF s).toNat 4).size = 14 + (packS s).size := by rw [ByteArray.size_append, hah, z1]; omega
  conv => whnf
  repeat (first | ((with_reducible apply Go.Vc.wr_u32); (focus exact And.intro (by omega) (by omega)); conv => whnf) | ((with_reducible apply Go.Vc.and_leN); (focus (first | omega | (simp only [ByteArray.size, List.size_toArray, List.length_cons, List.length_nil] at *; omega))); conv => whnf))
  have hsv : Value.int .u32 ((s.size : Nat) : Int) = u32v (BitVec.ofNat 32 s.size) := by
    show _ = Value.int .u32 (((BitVec.ofNat 32 s.size).toNat : Nat) : Int)
    rw [BitVec.toNat_ofNat, Nat.mod_eq_of_lt (by omega)]
  rw [hsv]
  refine (four_spec (BitVec.ofNat 32 s.size)).mono ?_
  rintro _ g3 t3 hd3 ht3 ⟨rfl, s3, _⟩
  rw [show (BitVec.ofNat 32 s.size).toNat = s.size by rw [BitVec.toNat_ofNat, Nat.mod_eq_of_lt (by omega)]]
  conv => whnf
  repeat (first | ((with_reducible apply Go.Vc.and_leN); (focus (first | omega | (simp only [ByteArray.size, List.size_toArray, List.length_cons, List.length_nil] at *; omega))); conv => whnf))
  exact ⟨by unfold packZ endF; rw [← ByteArray.append_assoc]; rfl, s1.trans (s2.trans s3), by omega⟩
end Go.Proofs.YtikpfffhcjlcjaaGreat
