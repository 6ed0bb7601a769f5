/- MerkleRoots answers true, by its contract. -/
import Derived.Test.YtmlcdkckedjdjaaMerkle13
namespace Go.Proofs.Ytmlcdkckedjdjaa
open Go Go.Vc Go.Sha Go.Mk
set_option maxRecDepth 10000
set_option linter.unusedVariables false

theorem words_true (l : List ByteArray) : decide (l = l) = true := decide_eq_true rfl
theorem MerkleRoots_spec (h : Heap) (t : Nat) (a0 : Option Addr) (n0 c0 : Nat) (l0 : List ByteArray) (s0 : Sl h a0 n0 Value.string l0) (hn0 : n0 ≤ 1048576) (hc0 : n0 ≤ c0) (hb0 : ∀ s ∈ l0, s.size ≤ 1048576)
    (n : Int) (hn : IntKind.min .u16 ≤ n ∧ n ≤ IntKind.max .u16) (i : Int) (hi : IntKind.min .i64 ≤ i ∧ i ≤ IntKind.max .i64) (m : Int) (hm : IntKind.min .i64 ≤ m ∧ m ≤ IntKind.max .i64) (own : Bool) :
    CallSpec Try.prog 6 #[.slice a0 n0 c0, .int .u16 n, .int .i64 i, .int .i64 m, .bool own] h t (fun v h' _ => v = .bool true ∧ Sub h h') := by
  have hn : 0 ≤ n ∧ n ≤ 65535 := hn
  have hi : -9223372036854775808 ≤ i ∧ i ≤ 9223372036854775807 := hi
  have hm : -9223372036854775808 ≤ m ∧ m ≤ 9223372036854775807 := hm
  refine Go.Vc.spec_of_vc (fn := Try.f6) Try.func6 rfl (by kernel_rfl) (by kernel_rfl) (Nat.le_of_ble_eq_true rfl) ?_
  intro hd
  conv => whnf
  refine (examples_spec h t).mono ?_
  rintro _ h1 t1 hd1 ht1 ⟨rfl, hs1⟩
  conv => whnf
  repeat (first | ((with_reducible refine And.intro (And.intro ?_ ?_) ?_); (focus omega); (focus omega); conv => whnf))
  generalize hk : (if (60 : Int) < (n0 : Int) then (60 : Int) else (n0 : Int)).toNat = k
  have hk1 : k ≤ 60 ∧ k ≤ n0 := by split at hk <;> omega
  cases own with
  | true =>
    obtain ⟨NX, hN⟩ : ∃ N : Nat, n % 301 = N := ⟨(n % 301).toNat, by omega⟩
    conv => whnf
    repeat (first | ((with_reducible apply Go.Vc.wr_i64); (focus exact And.intro (by omega) (by omega)); conv => whnf) | ((with_reducible apply Go.Vc.rem_i); (focus omega); conv => whnf) | ((with_reducible refine And.intro ?_ (And.intro ?_ ?_)); (focus exact rfl); (focus omega); conv => whnf))
    rw [hN]
    refine (list_spec NX (by omega) ByteArray.empty (by decide) _ _).mono ?_
    rintro _ h2 t2 hd2 ht2 ⟨aX, cX, rfl, o2, hw2, hs2⟩
    have hxX := listL_bd ByteArray.empty NX
    have hLX := listL_len ByteArray.empty NX
    generalize listL ByteArray.empty NX = LX at *
    have SX := hs1.trans hs2
    have sX := o2.sl
    have hcX := o2.cap
    have hNX : NX ≤ 65536 := by omega
    conv => whnf
    refine (inclusion_spec sX hNX hcX hxX i hi).mono ?_
    rintro _ h3 t3 hd3 ht3 ⟨a3, m3, c3, rfl, o3, hw3, hs3⟩
    conv => whnf
    refine (refinclusion_spec (sX.sub hs3) hNX hcX hxX i hi).mono ?_
    rintro _ h4 t4 hd4 ht4 ⟨a4, m4, c4, rfl, o4, hm4, hw4, hs4⟩
    conv => whnf
    refine (consistency_spec ((sX.sub hs3).sub hs4) hNX hcX hxX m hm).mono ?_
    rintro _ h5 t5 hd5 ht5 ⟨a5, m5, c5, rfl, o5, hw5, hs5⟩
    conv => whnf
    refine (refconsistency_spec (((sX.sub hs3).sub hs4).sub hs5) hNX hcX hxX m hm).mono ?_
    rintro _ h6 t6 hd6 ht6 ⟨a6, m6, c6, rfl, o6, hm6, hw6, hs6⟩
    have sX6 := (((sX.sub hs3).sub hs4).sub hs5).sub hs6
    have s3 := (((o3.sl).sub hs4).sub hs5).sub hs6
    have s4 := ((o4.sl).sub hs5).sub hs6
    have s5 := (o5.sl).sub hs6
    have s6 := o6.sl
    have e34 : m3 = m4 := by rw [← o3.1, ← o4.1]
    have e56 : m5 = m6 := by rw [← o5.1, ← o6.1]
    generalize (if 0 ≤ i ∧ i < (NX : Nat) then inc ndB emB LX i.toNat else []) = P at *
    generalize (if 1 ≤ m ∧ m ≤ (NX : Nat) then con ndB emB LX m.toNat true else []) = Q at *
    conv => whnf
    refine (words_spec s3 s4 (by omega) (by omega)).mono ?_
    rintro _ h7 t7 hd7 ht7 ⟨rfl, hs7⟩
    rw [words_true]
    conv => whnf
    refine (words_spec (s5.sub hs7) (s6.sub hs7) (by omega) (by omega)).mono ?_
    rintro _ h8 t8 hd8 ht8 ⟨rfl, hs8⟩
    rw [words_true]
    have sX8 := (sX6.sub hs7).sub hs8
    have S8 := SX.trans (hs3.trans (hs4.trans (hs5.trans (hs6.trans (hs7.trans hs8)))))
    conv => whnf
    refine br (fun hb1 => ?_) (fun hb1 => ?_)
    · conv => whnf
      repeat (first | ((with_reducible apply Go.Vc.sl_ix); (focus with_reducible assumption); (focus exact And.intro (by omega) (by omega)); intro xI bI offI hxI hcI; conv => whnf) | ((with_reducible apply Go.Vc.cell_i); (focus assumption); conv => whnf))
      have hs : xI.size ≤ 274877906944 := hxX _ (List.mem_of_getElem? hxI)
      generalize xI = s at *
      refine (root_spec sX8 hNX hxX).mono ?_
      rintro _ h9 t9 hd9 ht9 ⟨rfl, hs9⟩
      conv => whnf
      refine (refroot_spec NX (sX8.sub hs9) hNX hcX hxX).mono ?_
      rintro _ hA tA hdA htA ⟨rfl, hsA⟩
      conv => whnf
      refine br_t rfl ?_
      conv => whnf
      refine (leaf_spec _ hs _ _).mono ?_
      rintro _ hB tB hdB htB ⟨rfl, hsB⟩
      conv => whnf
      refine (refleaf_spec _ hs _ _).mono ?_
      rintro _ hC tC hdC htC ⟨rfl, hsC⟩
      conv => whnf
      refine br_t rfl ?_
      conv => whnf
      refine (node_spec _ _ hs (by decide) _ _).mono ?_
      rintro _ hD tD hdD htD ⟨rfl, hsD⟩
      conv => whnf
      refine (refnode_spec _ _ hs (by decide) _ _).mono ?_
      rintro _ hE tE hdE htE ⟨rfl, hsE⟩
      conv => whnf
      refine br_t rfl ?_
      conv => whnf
      rw [show (decide (0 ≤ i ∧ i < (NX : Int)) == decide (0 ≤ i ∧ i < (NX : Int))) = true from beq_self_eq_true _]
      conv => whnf
      refine ⟨?_, S8.trans (hs9.trans (hsA.trans (hsB.trans (hsC.trans (hsD.trans hsE)))))⟩
      exact congrArg Value.bool (beq_self_eq_true _)
    · have hs : ByteArray.empty.size ≤ 274877906944 := by decide
      conv => whnf
      refine (root_spec sX8 hNX hxX).mono ?_
      rintro _ h9 t9 hd9 ht9 ⟨rfl, hs9⟩
      conv => whnf
      refine (refroot_spec NX (sX8.sub hs9) hNX hcX hxX).mono ?_
      rintro _ hA tA hdA htA ⟨rfl, hsA⟩
      conv => whnf
      refine br_t rfl ?_
      conv => whnf
      refine (leaf_spec _ hs _ _).mono ?_
      rintro _ hB tB hdB htB ⟨rfl, hsB⟩
      conv => whnf
      refine (refleaf_spec _ hs _ _).mono ?_
      rintro _ hC tC hdC htC ⟨rfl, hsC⟩
      conv => whnf
      refine br_t rfl ?_
      conv => whnf
      refine (node_spec _ _ hs (by decide) _ _).mono ?_
      rintro _ hD tD hdD htD ⟨rfl, hsD⟩
      conv => whnf
      refine (refnode_spec _ _ hs (by decide) _ _).mono ?_
      rintro _ hE tE hdE htE ⟨rfl, hsE⟩
      conv => whnf
      refine br_t rfl ?_
      conv => whnf
      rw [show (decide (0 ≤ i ∧ i < (NX : Int)) == decide (0 ≤ i ∧ i < (NX : Int))) = true from beq_self_eq_true _]
      conv => whnf
      refine ⟨?_, S8.trans (hs9.trans (hsA.trans (hsB.trans (hsC.trans (hsD.trans hsE)))))⟩
      exact congrArg Value.bool (beq_self_eq_true _)
  | false =>
    have sX := (s0.sub hs1).take (m := k) (by omega)
    have hLX : (l0.take k).length = k := by rw [List.length_take, s0.1]; omega
    have hxX : ∀ x ∈ l0.take k, x.size ≤ 274877906944 := fun x hx => by have := hb0 x (List.mem_of_mem_take hx); omega
    have hcX : k ≤ c0 := by omega
    have hNX : k ≤ 65536 := by omega
    have SX := hs1
    generalize l0.take k = LX at *
    clear hk hk1
    generalize k = NX at *
    conv => whnf
    refine (inclusion_spec sX hNX hcX hxX i hi).mono ?_
    rintro _ h3 t3 hd3 ht3 ⟨a3, m3, c3, rfl, o3, hw3, hs3⟩
    conv => whnf
    refine (refinclusion_spec (sX.sub hs3) hNX hcX hxX i hi).mono ?_
    rintro _ h4 t4 hd4 ht4 ⟨a4, m4, c4, rfl, o4, hm4, hw4, hs4⟩
    conv => whnf
    refine (consistency_spec ((sX.sub hs3).sub hs4) hNX hcX hxX m hm).mono ?_
    rintro _ h5 t5 hd5 ht5 ⟨a5, m5, c5, rfl, o5, hw5, hs5⟩
    conv => whnf
    refine (refconsistency_spec (((sX.sub hs3).sub hs4).sub hs5) hNX hcX hxX m hm).mono ?_
    rintro _ h6 t6 hd6 ht6 ⟨a6, m6, c6, rfl, o6, hm6, hw6, hs6⟩
    have sX6 := (((sX.sub hs3).sub hs4).sub hs5).sub hs6
    have s3 := (((o3.sl).sub hs4).sub hs5).sub hs6
    have s4 := ((o4.sl).sub hs5).sub hs6
    have s5 := (o5.sl).sub hs6
    have s6 := o6.sl
    have e34 : m3 = m4 := by rw [← o3.1, ← o4.1]
    have e56 : m5 = m6 := by rw [← o5.1, ← o6.1]
    generalize (if 0 ≤ i ∧ i < (NX : Nat) then inc ndB emB LX i.toNat else []) = P at *
    generalize (if 1 ≤ m ∧ m ≤ (NX : Nat) then con ndB emB LX m.toNat true else []) = Q at *
    conv => whnf
    refine (words_spec s3 s4 (by omega) (by omega)).mono ?_
    rintro _ h7 t7 hd7 ht7 ⟨rfl, hs7⟩
    rw [words_true]
    conv => whnf
    refine (words_spec (s5.sub hs7) (s6.sub hs7) (by omega) (by omega)).mono ?_
    rintro _ h8 t8 hd8 ht8 ⟨rfl, hs8⟩
    rw [words_true]
    have sX8 := (sX6.sub hs7).sub hs8
    have S8 := SX.trans (hs3.trans (hs4.trans (hs5.trans (hs6.trans (hs7.trans hs8)))))
    conv => whnf
    refine br (fun hb1 => ?_) (fun hb1 => ?_)
    · conv => whnf
      repeat (first | ((with_reducible apply Go.Vc.sl_ix); (focus with_reducible assumption); (focus exact And.intro (by omega) (by omega)); intro xI bI offI hxI hcI; conv => whnf) | ((with_reducible apply Go.Vc.cell_i); (focus assumption); conv => whnf))
      have hs : xI.size ≤ 274877906944 := hxX _ (List.mem_of_getElem? hxI)
      generalize xI = s at *
      refine (root_spec sX8 hNX hxX).mono ?_
      rintro _ h9 t9 hd9 ht9 ⟨rfl, hs9⟩
      conv => whnf
      refine (refroot_spec NX (sX8.sub hs9) hNX hcX hxX).mono ?_
      rintro _ hA tA hdA htA ⟨rfl, hsA⟩
      conv => whnf
      refine br_t rfl ?_
      conv => whnf
      refine (leaf_spec _ hs _ _).mono ?_
      rintro _ hB tB hdB htB ⟨rfl, hsB⟩
      conv => whnf
      refine (refleaf_spec _ hs _ _).mono ?_
      rintro _ hC tC hdC htC ⟨rfl, hsC⟩
      conv => whnf
      refine br_t rfl ?_
      conv => whnf
      refine (node_spec _ _ hs (by decide) _ _).mono ?_
      rintro _ hD tD hdD htD ⟨rfl, hsD⟩
      conv => whnf
      refine (refnode_spec _ _ hs (by decide) _ _).mono ?_
      rintro _ hE tE hdE htE ⟨rfl, hsE⟩
      conv => whnf
      refine br_t rfl ?_
      conv => whnf
      rw [show (decide (0 ≤ i ∧ i < (NX : Int)) == decide (0 ≤ i ∧ i < (NX : Int))) = true from beq_self_eq_true _]
      conv => whnf
      refine ⟨?_, S8.trans (hs9.trans (hsA.trans (hsB.trans (hsC.trans (hsD.trans hsE)))))⟩
      exact congrArg Value.bool (beq_self_eq_true _)
    · have hs : ByteArray.empty.size ≤ 274877906944 := by decide
      conv => whnf
      refine (root_spec sX8 hNX hxX).mono ?_
      rintro _ h9 t9 hd9 ht9 ⟨rfl, hs9⟩
      conv => whnf
      refine (refroot_spec NX (sX8.sub hs9) hNX hcX hxX).mono ?_
      rintro _ hA tA hdA htA ⟨rfl, hsA⟩
      conv => whnf
      refine br_t rfl ?_
      conv => whnf
      refine (leaf_spec _ hs _ _).mono ?_
      rintro _ hB tB hdB htB ⟨rfl, hsB⟩
      conv => whnf
      refine (refleaf_spec _ hs _ _).mono ?_
      rintro _ hC tC hdC htC ⟨rfl, hsC⟩
      conv => whnf
      refine br_t rfl ?_
      conv => whnf
      refine (node_spec _ _ hs (by decide) _ _).mono ?_
      rintro _ hD tD hdD htD ⟨rfl, hsD⟩
      conv => whnf
      refine (refnode_spec _ _ hs (by decide) _ _).mono ?_
      rintro _ hE tE hdE htE ⟨rfl, hsE⟩
      conv => whnf
      refine br_t rfl ?_
      conv => whnf
      rw [show (decide (0 ≤ i ∧ i < (NX : Int)) == decide (0 ≤ i ∧ i < (NX : Int))) = true from beq_self_eq_true _]
      conv => whnf
      refine ⟨?_, S8.trans (hs9.trans (hsA.trans (hsB.trans (hsC.trans (hsD.trans hsE)))))⟩
      exact congrArg Value.bool (beq_self_eq_true _)
end Go.Proofs.Ytmlcdkckedjdjaa
