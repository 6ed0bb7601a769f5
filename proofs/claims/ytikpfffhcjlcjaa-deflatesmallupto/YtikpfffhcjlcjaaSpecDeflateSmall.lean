/- DeflateSmall answers true, by its contract. -/
import Derived.Test.YtikpfffhcjlcjaaDefSmall
set_option linter.unusedSimpArgs false
namespace Go.Proofs.Ytikpfffhcjlcjaa
open Go Go.Vc Go.Huf Go.Dfl
set_option maxRecDepth 10000
set_option linter.unusedVariables false

theorem readB_ar {h : Heap} {b n : Nat} {l : List UInt8} {T : TypeId} {fr : Nat × Nat} (hb : h b = some (.cells (List.map bv l).toArray T fr)) (hn : l.length = n) : ReadB h ⟨b, 0, none⟩ n l := by
  refine ⟨hn, fun i hi => ?_⟩
  rw [addr_add]
  refine ⟨_, T, fr, hb, rfl, ?_⟩
  simp [bv, List.getD_eq_getElem?_getD, List.getElem?_eq_getElem (show i < l.length by omega)]
theorem DeflateSmall_spec (h : Heap) (t : Nat) (c : Int) (hc : IntKind.min .u8 ≤ c ∧ c ≤ IntKind.max .u8) (n : Int) (hn : IntKind.min .u16 ≤ n ∧ n ≤ IntKind.max .u16) :
    CallSpec Try.prog 8 #[.int .u8 c, .int .u16 n] h t (fun v h' _ => v = .bool true ∧ Vc.Sub h h') := by
  rw [show IntKind.min .u8 = 0 from rfl, show IntKind.max .u8 = 255 from rfl] at hc
  rw [show IntKind.min .u16 = 0 from rfl, show IntKind.max .u16 = 65535 from rfl] at hn
  obtain ⟨C, hC⟩ : ∃ C : UInt8, c = ((C.toNat : Nat) : Int) := ⟨UInt8.ofNat c.toNat, by rw [UInt8.toNat_ofNat', Nat.mod_eq_of_lt (by omega)]; omega⟩
  subst hC
  refine Go.Vc.spec_of_vc (fn := Try.f8) Try.func8 rfl (by kernel_rfl) (by kernel_rfl) (Nat.le_of_ble_eq_true rfl) ?_
  intro hd
  conv => whnf
  refine (examples_spec h t).mono ?_
  rintro _ h1 t1 hd1 ht1 ⟨rfl, hs1, _⟩
  conv => whnf
  repeat (first | ((with_reducible apply Go.Vc.mk_b); (focus exact And.intro (by omega) (by omega)); (focus exact rfl); (focus omega); intro rM csM hrM hcsM; (first | (replace hcsM := hcsM.trans (Go.Vc.zc (Value.int .i64) 0 _)) | (replace hcsM := hcsM.trans (Go.Vc.zc Go.Vc.bv 0 _)) | (replace hcsM := hcsM.trans (Go.Vc.zc Value.string ByteArray.empty _))); subst hcsM; conv => whnf) | ((with_reducible apply Go.Vc.wr_i64); (focus exact And.intro (by omega) (by omega)); conv => whnf) | ((with_reducible apply Go.Vc.rem_i); (focus omega); conv => whnf) | ((with_reducible refine And.intro ?_ (And.intro ?_ ?_)); (focus exact rfl); (focus omega); conv => whnf))
  obtain ⟨N, hN⟩ := Int.eq_ofNat_of_zero_le (show 0 ≤ n % 2001 by omega)
  have hN2 : N ≤ 2000 := by omega
  rw [hN, Int.toNat_natCast]
  have hs2 := hd1.sub_new hrM (.cells (List.map bv (List.replicate N 0)).toArray 5)
  refine loop_intro (fun j : Nat => [(0, .int .u8 ((C.toNat : Nat) : Int)), (5, .bool true), (6, .slice (some ⟨rM, 0, none⟩) N N), (7, .int .i64 (j : Nat))])
    (fun j h' t' => j ≤ N ∧ h' rM = some (.cells (List.map bv (List.replicate j C ++ List.replicate (N - j) 0)).toArray 5 (0, 0)) ∧ (∀ b o, h1 b = some o → h' b = some o) ∧ rM < t' ∧ t1 ≤ t') (fun j => N - j) 0 ⟨rfl, rfl, rfl, rfl, trivial⟩ ⟨by omega, by rw [List.replicate_zero, List.nil_append]; exact hset_same _ _ _, hs2, by omega, by omega⟩ ?_
  rintro j e2 g t2 hd2 ⟨hj, hb, hs3, ht2, ht3⟩
  have hlen : (List.replicate j C ++ List.replicate (N - j) (0 : UInt8)).length = N := by simp; omega
  conv => whnf
  refine br (fun hj1 => ?_) (fun hj1 => ?_)
  · conv => whnf
    repeat (first | ((with_reducible apply Go.Vc.own_ix); (focus exact And.intro (by omega) (by omega)); conv => whnf) | ((with_reducible apply Go.Vc.ar_st); (focus ((repeat (first | with_reducible assumption | with_reducible exact Go.Vc.hset_same _ _ _ | with_reducible refine (Go.Vc.hset_ne _ _ (by omega)).trans ?_)); done)); (focus exact rfl); (focus exact rfl); (focus (first | omega | (simp; done) | (simp; omega))); (focus exact rfl); intro heqA; (conv => whnf); intro cA hcA; rw [heqA] at hcA; clear heqA; subst hcA; conv => whnf) | ((with_reducible apply Go.Vc.wr_i64); (focus exact And.intro (by omega) (by omega)); conv => whnf))
    refine round_end (j + 1) (by omega) ⟨rfl, rfl, rfl, rfl, trivial⟩ ⟨by omega, ?_, fun b o hb' => ?_, by omega, by omega⟩
    · rw [hset_same, Int.toNat_natCast]
      have e : (List.replicate j C ++ List.replicate (N - j) (0 : UInt8)).set j C = List.replicate (j + 1) C ++ List.replicate (N - (j + 1)) 0 := by
        obtain ⟨m, hm⟩ : ∃ m, N - j = m + 1 := ⟨N - j - 1, by omega⟩
        rw [hm, show N - (j + 1) = m by omega, List.set_append_right _ _ (by simp), List.length_replicate, Nat.sub_self, List.replicate_succ, List.set_cons_zero, List.replicate_succ', List.append_assoc]
        rfl
      rw [← e]
    · have := hd1 _ _ hb'
      rw [hset_ne _ _ (by omega)]
      exact hs3 b o hb'
  · obtain rfl : j = N := by omega
    rw [Nat.sub_self, List.replicate_zero, List.append_nil] at hb
    have hrd := readB_ar hb (List.length_replicate ..)
    conv => whnf
    refine ⟨List.replicate j C, hrd, ?_⟩
    conv => whnf
    refine (pack_spec (repS j C) (by rw [rep_size]; omega)).mono ?_
    rintro _ h4 t4 hd4 ht4 ⟨rfl, hs4, _⟩
    have hsm := rep_small C hN2
    have hrd4 := readB_ar (hs4 _ _ hb) (List.length_replicate ..)
    conv => whnf
    repeat (first | (refine Go.Vc.br_t ?_ ?_; (focus omega); conv => whnf))
    refine ⟨List.replicate j C, hrd4, ?_⟩
    conv => whnf
    refine (pack_spec (repS j C) (by rw [rep_size]; omega)).mono ?_
    rintro _ h5 t5 hd5 ht5 ⟨rfl, hs5, _⟩
    conv => whnf
    refine ⟨?_, fun b o hb' => hs5 _ _ (hs4 _ _ (hs3 _ _ (hs1 _ _ hb')))⟩
    rw [opq_eq, decide_eq_true rfl]
end Go.Proofs.Ytikpfffhcjlcjaa
