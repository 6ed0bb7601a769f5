import Derived.Test.YtikpfffhcjlcjaaVcC
import Derived.Test.YtikpfffhcjlcjaaHuff4
set_option linter.unusedSimpArgs false
namespace Go.Gz
open Go Go.Vc
def polyB : BitVec 32 := 3988292384#32
def halfB (n : BitVec 32) : BitVec 32 := if (((n &&& 1#32).toNat : Nat) : Int) ≠ 0 then (n >>> 1) ^^^ polyB else n >>> 1
def halfs : Nat → BitVec 32 → BitVec 32
  | 0, n => n
  | k + 1, n => halfB (halfs k n)
def tabF (i : Nat) : BitVec 32 := halfs 8 (BitVec.ofNat 32 i)
def tabL : List (BitVec 32) := (List.range 256).map tabF
def tabTo (i : Nat) : List (BitVec 32) := (List.range 256).map fun j => if j < i then tabF j else 0#32
def crcStep (n : BitVec 32) (b : UInt8) : BitVec 32 := (n >>> 8) ^^^ tabF (UInt8.ofNat n.toNat ^^^ b).toNat
def crcF (s : ByteArray) : BitVec 32 := ~~~(s.data.toList.foldl crcStep (~~~0#32))
theorem tabTo_len (i : Nat) : (tabTo i).length = 256 := by simp [tabTo]
theorem tabTo_set {i : Nat} (h : i < 256) : (tabTo i).set i (tabF i) = tabTo (i + 1) := by
  apply List.ext_getElem
  · simp [tabTo]
  · intro j h1 h2
    simp [tabTo] at h1
    rw [List.getElem_set]
    simp only [tabTo, List.getElem_map, List.getElem_range]
    split
    · rename_i e; subst e; rw [if_pos (by omega)]
    · rename_i e
      by_cases hj : j < i
      · rw [if_pos hj, if_pos (by omega)]
      · rw [if_neg hj, if_neg (by omega)]
theorem tabTo_end : tabTo 256 = tabL := List.map_congr_left fun j hj => if_pos (List.mem_range.1 hj)
theorem tabTo_zero : tabTo 0 = List.replicate 256 0#32 := by
  unfold tabTo
  exact (List.map_congr_left (g := fun _ => 0#32) fun j _ => if_neg (Nat.not_lt_zero j)).trans (by rw [List.map_const', List.length_range])
theorem tabL_get {i : Nat} {x : BitVec 32} (h : tabL[i]? = some x) : x = tabF i := by
  unfold tabL at h
  rw [List.getElem?_map] at h
  rcases Nat.lt_or_ge i 256 with h1 | h1
  · rw [List.getElem?_range h1] at h
    exact (Option.some.inj h).symm
  · rw [List.getElem?_eq_none (by simp; omega)] at h; cases h
theorem xor8 (A B : UInt8) {Q : Int → Prop} (hk : Q (((A ^^^ B).toNat : Nat) : Int)) : ∃ z, z = IntKind.u8.wrap ((BitVec.ofInt IntKind.u8.bits ((A.toNat : Nat) : Int) ^^^ BitVec.ofInt IntKind.u8.bits ((B.toNat : Nat) : Int)).toNat : Int) ∧ Q z := by
  refine ⟨_, ?_, hk⟩
  have hA := A.toNat_lt
  have hB := B.toNat_lt
  have e : (BitVec.ofInt 8 ((A.toNat : Nat) : Int) ^^^ BitVec.ofInt 8 ((B.toNat : Nat) : Int)).toNat = (A ^^^ B).toNat := by
    rw [BitVec.ofInt_natCast, BitVec.ofInt_natCast, BitVec.toNat_xor, BitVec.toNat_ofNat, BitVec.toNat_ofNat, UInt8.toNat_xor, Nat.mod_eq_of_lt (by omega), Nat.mod_eq_of_lt (by omega)]
  show _ = IntKind.u8.wrap ((BitVec.ofInt 8 ((A.toNat : Nat) : Int) ^^^ BitVec.ofInt 8 ((B.toNat : Nat) : Int)).toNat : Int)
  have hl := (A ^^^ B).toNat_lt
  rw [e, wu8, Int.emod_eq_of_lt (by omega) (by omega)]
end Go.Gz
namespace Go.Proofs.Ytikpfffhcjlcjaa
open Go Go.Vc Go.Gz
set_option maxRecDepth 20000
set_option linter.unusedVariables false
theorem half_spec {h : Heap} {t : Nat} (x : BitVec 32) :
    CallSpec Try.prog 89 #[u32v x] h t (fun v h' t' => v = u32v (halfB x) ∧ h = h' ∧ t = t') := by
  unfold halfB
  refine Go.Vc.spec_of_vc (fn := Try.f89) Try.func89 rfl (by kernel_rfl) (by kernel_rfl) (Nat.le_of_ble_eq_true rfl) ?_
  intro hd
  conv => whnf
  refine and32 (x := x) (y := 1#32) ?_
  conv => whnf
  refine br (fun h1 => ?_) (fun h1 => ?_)
  · rw [if_pos h1]
    conv => whnf
    repeat (first | ((with_reducible apply Go.Vc.shr32); conv => whnf) | ((with_reducible apply Go.Vc.and_leI); (focus omega); conv => whnf))
    refine xor32 (x := x >>> 1) (y := polyB) ?_
    conv => whnf
    exact ⟨rfl, rfl, rfl⟩
  · rw [if_neg h1]
    conv => whnf
    repeat (first | ((with_reducible apply Go.Vc.shr32); conv => whnf) | ((with_reducible apply Go.Vc.and_leI); (focus omega); conv => whnf))
    exact ⟨rfl, rfl, rfl⟩
theorem table1_spec {h : Heap} {t b : Nat} (A : UInt8) (hb : h b = some (.cells (tabL.map u32v).toArray 136 (0, 0))) :
    CallSpec Try.prog 90 #[.int .u8 ((A.toNat : Nat) : Int), .pointer (some ⟨b, 0, none⟩)] h t (fun v h' t' => v = u32v (tabF A.toNat) ∧ h = h' ∧ t = t') := by
  have hl : tabL.length = 256 := by simp [tabL]
  have hA := A.toNat_lt
  refine Go.Vc.spec_of_vc (fn := Try.f90) Try.func90 rfl (by kernel_rfl) (by kernel_rfl) (Nat.le_of_ble_eq_true rfl) ?_
  intro hd
  conv => whnf
  repeat (first | ((with_reducible refine And.intro (And.intro ?_ ?_) ?_); (focus omega); (focus omega); conv => whnf) | ((with_reducible apply Go.Vc.ar_ld); (focus ((repeat (first | with_reducible assumption | with_reducible exact Go.Vc.hset_same _ _ _ | with_reducible refine (Go.Vc.hset_ne _ _ (by omega)).trans ?_)); done)); (focus exact rfl); (focus (first | omega | (simp; done) | (simp; omega))); intro xA hxA; conv => whnf))
  have e : tabL[A.toNat]? = some xA := hxA
  rw [tabL_get e]
  exact ⟨rfl, rfl, rfl⟩
theorem table_spec {h : Heap} {t : Nat} :
    CallSpec Try.prog 67 #[] h t (fun v h' t' => ∃ b, v = .func (.func 90) #[] #[.pointer (some ⟨b, 0, none⟩)] ∧ h' b = some (.cells (tabL.map u32v).toArray 136 (0, 0)) ∧ t ≤ b ∧ Vc.Sub h h' ∧ t ≤ t') := by
  refine Go.Vc.spec_of_vc (fn := Try.f67) Try.func67 rfl (by kernel_rfl) (by kernel_rfl) (Nat.le_of_ble_eq_true rfl) ?_
  intro hd
  conv => whnf
  repeat (first | (intro _ _; conv => whnf))
  rename_i r hr
  refine loop_intro (fun i : Nat => [(1, .pointer (some ⟨r, 0, none⟩)), (4, .int .i64 (i : Nat))])
    (fun i h' t' => i ≤ 256 ∧ h' r = some (.cells ((tabTo i).map u32v).toArray 136 (0, 0)) ∧ Vc.Sub h h' ∧ r < t') (fun i => 256 - i) 0 ⟨rfl, rfl, trivial⟩
    ⟨by omega, (hset_same _ _ _).trans (by rw [tabTo_zero]; kernel_rfl), hd.sub_new hr _, by omega⟩ ?_
  rintro i e1 g t1 hd1 ⟨hi, hb, hs1, ht1⟩
  conv => whnf
  refine br (fun hb1 => ?_) (fun hb1 => ?_)
  · have hl := tabTo_len i
    conv => whnf
    repeat (first | ((with_reducible apply Go.Vc.wr_u32); (focus exact And.intro (by omega) (by omega)); conv => whnf))
    refine loop_intro (fun j : Nat => [(1, .pointer (some ⟨r, 0, none⟩)), (2, .int .i64 (i : Nat)), (3, u32v (halfs j (BitVec.ofNat 32 i))), (4, .int .i64 (i : Nat)), (9, .int .i64 (j : Nat))])
      (fun j h' t' => g = h' ∧ t1 = t' ∧ j ≤ 8) (fun j => 8 - j) 0 ⟨rfl, rfl, by
        show Value.int .u32 (i : Nat) = Value.int .u32 (((BitVec.ofNat 32 i).toNat : Nat) : Int)
        rw [BitVec.toNat_ofNat, Nat.mod_eq_of_lt (by omega)], rfl, rfl, trivial⟩ ⟨rfl, rfl, by omega⟩ ?_
    rintro j e2 _ _ hd2 ⟨rfl, rfl, hj⟩
    conv => whnf
    refine br (fun hb2 => ?_) (fun hb2 => ?_)
    · conv => whnf
      refine (half_spec (halfs j (BitVec.ofNat 32 i))).mono ?_
      rintro _ h3 t3 hd3 ht3 ⟨rfl, rfl, rfl⟩
      conv => whnf
      repeat (first | ((with_reducible apply Go.Vc.wr_i64); (focus exact And.intro (by omega) (by omega)); conv => whnf))
      exact round_end (j + 1) (by omega) ⟨rfl, rfl, rfl, rfl, rfl, trivial⟩ ⟨rfl, rfl, by omega⟩
    · obtain rfl : j = 8 := by omega
      conv => whnf
      repeat (first | ((with_reducible refine And.intro (And.intro ?_ ?_) ?_); (focus omega); (focus omega); conv => whnf) | ((with_reducible apply Go.Vc.ar_st); (focus ((repeat (first | with_reducible assumption | with_reducible exact Go.Vc.hset_same _ _ _ | with_reducible refine (Go.Vc.hset_ne _ _ (by omega)).trans ?_)); done)); (focus exact rfl); (focus exact rfl); (focus (first | omega | (simp; done) | (simp; omega))); (focus exact rfl); intro heqA; (conv => whnf); intro cA hcA; rw [heqA] at hcA; clear heqA; subst hcA; conv => whnf) | ((with_reducible apply Go.Vc.wr_i64); (focus exact And.intro (by omega) (by omega)); conv => whnf))
      refine round_end (i + 1) (by omega) ⟨rfl, rfl, trivial⟩ ⟨by omega, (hset_same _ _ _).trans (by rw [Int.toNat_natCast]; exact congrArg (fun l => some (Obj.cells (List.map u32v l).toArray 136 (0, 0))) (tabTo_set (by omega))), fun b o hb' => ?_, by omega⟩
      have := hd _ _ hb'
      rw [hset_ne _ _ (by omega)]
      exact hs1 _ _ hb'
  · obtain rfl : i = 256 := by omega
    rw [tabTo_end] at hb
    conv => whnf
    exact ⟨r, rfl, hb, hr, hs1, by omega⟩
theorem crcmore_spec {h : Heap} {t : Nat} (x : BitVec 32) (s : ByteArray) (hs : s.size ≤ 1000000000) :
    CallSpec Try.prog 46 #[u32v x, .string s] h t (fun v h' t' => v = u32v (~~~(s.data.toList.foldl crcStep (~~~x))) ∧ Vc.Sub h h' ∧ t ≤ t') := by
  refine Go.Vc.spec_of_vc (fn := Try.f46) Try.func46 rfl (by kernel_rfl) (by kernel_rfl) (Nat.le_of_ble_eq_true rfl) ?_
  intro hd
  conv => whnf
  refine table_spec.mono ?_
  rintro _ g t1 hd1 ht1 ⟨b, rfl, hb, hbt, hs1, _⟩
  conv => whnf
  repeat (first | ((with_reducible apply Go.Vc.not32); conv => whnf))
  refine loop_intro (fun i : Nat => [(1, .string s), (5, .func (.func 90) #[] #[.pointer (some ⟨b, 0, none⟩)]), (6, u32v ((s.data.toList.take i).foldl crcStep (~~~x))), (12, .int .i64 (s.size : Nat)), (13, .int .i64 (i : Nat))])
    (fun i h' t' => g = h' ∧ t1 = t' ∧ i ≤ s.size) (fun i => s.size - i) 0 ⟨rfl, rfl, rfl, rfl, rfl, trivial⟩ ⟨rfl, rfl, by omega⟩ ?_
  rintro i e1 _ _ hd2 ⟨rfl, rfl, hi⟩
  conv => whnf
  refine br (fun hb1 => ?_) (fun hb1 => ?_)
  · have hjl : i < s.data.toList.length := by rw [Array.length_toList]; show i < s.size; omega
    have hg : s.data.getD i 0 = s.data.toList[i] := by
      rw [Array.getD_eq_getD_getElem?, ← Array.getElem?_toList, List.getElem?_eq_getElem hjl]; rfl
    conv => whnf
    repeat (first | ((with_reducible apply Go.Vc.shr32); conv => whnf) | ((with_reducible apply Go.Vc.c32_8); conv => whnf) | ((with_reducible refine And.intro (And.intro ?_ ?_) ?_); (focus omega); (focus omega); conv => whnf) | (intro _ _; conv => whnf) | ((with_reducible apply Go.Vc.and_leI); (focus omega); conv => whnf))
    refine xor8 (UInt8.ofNat (List.foldl crcStep (~~~x) (List.take i s.data.toList)).toNat) (s.data.getD i 0) ?_
    conv => whnf
    refine (table1_spec _ hb).mono ?_
    rintro _ h3 t3 hd3 ht3 ⟨rfl, rfl, rfl⟩
    conv => whnf
    repeat (first | ((with_reducible apply Go.Vc.xor32); conv => whnf) | ((with_reducible apply Go.Vc.wr_i64); (focus exact And.intro (by omega) (by omega)); conv => whnf))
    refine round_end (i + 1) (by omega) ⟨rfl, rfl, ?_, rfl, rfl, trivial⟩ ⟨rfl, rfl, by omega⟩
    rw [List.take_add_one, List.getElem?_eq_getElem hjl, List.foldl_append, hg]
    rfl
  · obtain rfl : i = s.size := by omega
    rw [List.take_of_length_le (by rw [Array.length_toList]; exact Nat.le_refl _)]
    conv => whnf
    repeat (first | ((with_reducible apply Go.Vc.not32); conv => whnf) | ((with_reducible refine And.intro ?_ (And.intro ?_ ?_)); (focus exact rfl); (focus omega); conv => whnf))
    exact show t ≤ t1 by omega
theorem crcsum_spec {h : Heap} {t : Nat} (s : ByteArray) (hs : s.size ≤ 1000000000) :
    CallSpec Try.prog 27 #[.string s] h t (fun v h' t' => v = u32v (crcF s) ∧ Vc.Sub h h' ∧ t ≤ t') := by
  refine Go.Vc.spec_of_vc (fn := Try.f27) Try.func27 rfl (by kernel_rfl) (by kernel_rfl) (Nat.le_of_ble_eq_true rfl) ?_
  intro hd
  conv => whnf
  refine (crcmore_spec 0#32 s hs).mono ?_
  rintro _ g t1 hd1 ht1 ⟨rfl, hs1, _⟩
  conv => whnf
  repeat (first | ((with_reducible refine And.intro ?_ (And.intro ?_ ?_)); (focus exact rfl); (focus omega); conv => whnf))
  exact show t ≤ t1 by omega
end Go.Proofs.Ytikpfffhcjlcjaa
