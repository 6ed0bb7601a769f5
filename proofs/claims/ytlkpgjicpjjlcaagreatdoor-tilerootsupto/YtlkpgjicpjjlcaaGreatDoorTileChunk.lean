import Derived.Test.YtlkpgjicpjjlcaaGreatDoorTileBld
/- slices.Chunk, handed on. -/
set_option linter.unusedSimpArgs false
namespace Go.Vc
open Go
variable {P : Program}
theorem gen_slice3 {T E : TypeId} {inf : TypeInfo} (hT : P.underlying T = some (.slice E)) (hi : P.info? E = some inf) {a : Option Addr} {n c : Nat} {k1 k2 k3 : IntKind} {i j m : Int} {K : Value → Heap → Nat → Prop} {h : Heap} {t : Nat} (h0 : 0 ≤ i ∧ i ≤ j ∧ j ≤ m ∧ m ≤ c)
    (hk : K (.slice (cutA a i.toNat inf.size m.toNat) (j.toNat - i.toNat) (m.toNat - i.toNat)) h t) : Slice3VC P T (.slice a n c) (some (.int k1 i)) (some (.int k2 j)) (some (.int k3 m)) K h t := by
  refine ⟨?_⟩
  simp only [Instr.sliceAt, Instr.slice, Instr.sliceBounds, gen_b, gen_underlying hT, Option.isSome, if_true, Bool.true_eq_false]
  rw [sliceBound_gen (by omega), sliceBound_gen (by omega), sliceBound_gen (by omega)]
  simp only [gen_p, gen_b, gen_sizeOf hi]
  exact hk
end Go.Vc
namespace Go.Proofs.YtlkpgjicpjjlcaaGreatDoor
open Go Go.Vc Go.Tile
set_option maxRecDepth 20000
set_option linter.unusedVariables false
theorem sl_part {α : Type} {h : Heap} {a : Option Addr} {n i z : Nat} {f : α → Value} {l : List α} (s : Sl h a n f l) (hi : i + z ≤ n) (hz : 1 ≤ z) : Sl h (a.map (·.add i)) z f ((l.drop i).take z) := by
  have h1 := s.drop (m := i) (c := n + 1) (a' := cutA a i 1 (n + 1)) (by omega) (by omega) rfl
  rw [show cutA a i 1 (n + 1) = a.map (·.add i) by unfold cutA; rw [if_neg (by omega), Nat.mul_one]] at h1
  exact h1.take (by omega)
theorem chunkfn_spec {h : Heap} {t : Nat} (a : Option Addr) (n c z : Nat) (hz : 1 ≤ z) :
    CallSpec Tryz.prog 44 #[.slice a n c, .int .i64 (z : Nat)] h t (fun v h' t' => ∃ r2 r3, v = .func (.func 70) #[] #[.pointer (some ⟨r2, 0, none⟩), .pointer (some ⟨r3, 0, none⟩)] ∧ h' r2 = some (.cells #[.slice a n c] 42 (0, 0)) ∧ h' r3 = some (.cells #[.int .i64 (z : Nat)] 3 (0, 0)) ∧ t ≤ r2 ∧ r2 < r3 ∧ r3 < t' ∧ Vc.Sub h h') := by
  refine Go.Vc.spec_of_vc (fn := Tryz.f44) Tryz.func44 rfl (by kernel_rfl) (by kernel_rfl) (Nat.le_of_ble_eq_true rfl) ?_
  intro hd
  conv => whnf
  repeat (first | ((with_reducible apply Go.Vc.ld_i); (focus ((repeat (first | with_reducible assumption | with_reducible exact Go.Vc.hset_same _ _ _ | with_reducible refine (Go.Vc.hset_ne _ _ (by omega)).trans ?_)); done)); (focus exact rfl); conv => whnf) | (intro _ _; conv => whnf) | (refine Go.Vc.br_f ?_ ?_; (focus omega); conv => whnf))
  rename_i r2 hr2 r3 hr3
  refine ⟨r2, r3, rfl, ?_, hset_same _ _ _, hr2, by omega, by omega, ?_⟩
  · rw [hset_ne _ _ (by omega)]
    exact hset_same _ _ _
  · intro b o hb
    have := hd b o hb
    rw [hset_ne _ _ (by omega), hset_ne _ _ (by omega)]
    exact hb
theorem chunk_spec {h : Heap} {t l : Nat} {a : Option Addr} {n c z m r2 r3 : Nat} (hz : 1 ≤ z) (hnm : n = m * z) (hnc : n ≤ c) (hn : n ≤ 1000000000) (I : Nat → Heap → Nat → Prop) (I0 : I 0 h t)
    (keep : ∀ k h' t', I k h' t' → h' r2 = some (.cells #[.slice a n c] 42 (0, 0)) ∧ h' r3 = some (.cells #[.int .i64 (z : Nat)] 3 (0, 0)))
    (step : ∀ k h' t', k < m → t ≤ t' → Dom h' t' → I k h' t' → YieldSpec Tryz.prog l #[.slice (a.map (·.add (k * z))) z z] h' t' (fun b h'' t'' => b = .bool true ∧ I (k + 1) h'' t'')) :
    CallSpec Tryz.prog 70 #[.func (.yield l) #[] #[], .pointer (some ⟨r2, 0, none⟩), .pointer (some ⟨r3, 0, none⟩)] h t (fun _ h' t' => I m h' t') := by
  refine Go.Vc.spec_of_vcI (fn := Tryz.f70) Tryz.func70 rfl (by kernel_rfl) (by kernel_rfl) (Nat.le_of_ble_eq_true rfl) ?_
  intro hd
  conv => whnf
  refine loop_introI (fun (k : Nat) => [(0, .func (.yield l) #[] #[]), (1, .pointer (some ⟨r2, 0, none⟩)), (2, .pointer (some ⟨r3, 0, none⟩)), (4, .int .i64 ((k * z : Nat) : Int))])
    (fun k h' t' => k ≤ m ∧ t ≤ t' ∧ I k h' t') (fun k => m - k) 0 ⟨rfl, rfl, rfl, ?_, trivial⟩ ⟨by omega, by omega, I0⟩ ?_
  · show Value.int .i64 _ = Value.int .i64 _
    rw [Nat.zero_mul]
    rfl
  rintro k e1 g t1 hd1 ⟨hk, ht1, hI⟩
  obtain ⟨g2, g3⟩ := keep _ _ _ hI
  conv => whnf
  repeat (first | ((with_reducible apply Go.Vc.ld_i); (focus ((repeat (first | with_reducible assumption | with_reducible exact Go.Vc.hset_same _ _ _ | with_reducible refine (Go.Vc.hset_ne _ _ (by omega)).trans ?_)); done)); (focus exact rfl); conv => whnf))
  refine br (fun hb => ?_) (fun hb => ?_)
  · have hkm : k < m := by
      apply Classical.byContradiction
      intro hc
      obtain rfl : k = m := by omega
      omega
    have hkz : k * z + z ≤ n := by
      rw [hnm, ← Nat.succ_mul]
      exact Nat.mul_le_mul_right _ hkm
    have hkz2 : (k + 1) * z = k * z + z := Nat.succ_mul _ _
    have hkzI : ((k * z : Nat) : Int).toNat = k * z := Int.toNat_natCast _
    generalize hkze : k * z = kz at *
    conv => whnf
    refine Go.Vc.draw_intro [⟨0, false, false, false, 0⟩, ⟨1, false, false, false, 0⟩, ⟨2, false, false, false, 0⟩, ⟨3, false, false, false, 6⟩, ⟨4, false, false, false, 14⟩, ⟨5, false, false, false, 31⟩, ⟨6, false, false, false, 63⟩] (hs := g) (hsub := (Sub.refl _)) (hm := by kernel_rfl) (hpl := by kernel_rfl) ?_
    conv => whnf
    conv => whnf
    repeat (first | ((with_reducible refine And.intro (And.intro ?_ ?_) ?_); (focus omega); (focus omega); conv => whnf) | ((with_reducible apply Go.Vc.ld_i); (focus ((repeat (first | with_reducible assumption | with_reducible exact Go.Vc.hset_same _ _ _ | with_reducible refine (Go.Vc.hset_ne _ _ (by omega)).trans ?_)); done)); (focus exact rfl); conv => whnf) | (intro _ _; conv => whnf) | ((with_reducible apply Go.Vc.wr_i64); (focus exact And.intro (by omega) (by omega)); conv => whnf))
    have hmin : (if ((n - ((kz : Nat) : Int).toNat : Nat) : Int) < (z : Int) then ((n - ((kz : Nat) : Int).toNat : Nat) : Int) else (z : Int)) = (z : Int) := if_neg (by omega)
    rw [hmin]
    refine gen_slice3 (a := a) (n := n) (c := c) (inf := Tryz.types[9]) (k1 := .i64) (k2 := .i64) (k3 := .i64) (i := (kz : Nat)) (j := (kz : Nat) + (z : Nat)) (m := (kz : Nat) + (z : Nat)) Tryz.underlying42 (by kernel_rfl) ⟨by omega, by omega, by omega, by omega⟩ ?_
    conv => whnf
    have hv : Value.slice (cutA a ((kz : Nat) : Int).toNat (Tryz.types[9]).size (((kz : Nat) : Int) + ((z : Nat) : Int)).toNat) ((((kz : Nat) : Int) + ((z : Nat) : Int)).toNat - ((kz : Nat) : Int).toNat) ((((kz : Nat) : Int) + ((z : Nat) : Int)).toNat - ((kz : Nat) : Int).toNat) = .slice (a.map (·.add kz)) z z := by
      have e1 : (((kz : Nat) : Int) + ((z : Nat) : Int)).toNat = kz + z := by omega
      have e2 : (Tryz.types[9]).size = 1 := by kernel_rfl
      rw [e1, hkzI, e2, Nat.add_sub_cancel_left]
      unfold cutA
      rw [if_neg (by omega), Nat.mul_one]
    rw [hv]
    have hst := step k g t1 hkm ht1 hd1 hI
    rw [hkze] at hst
    refine hst.mono ?_
    rintro _ g7 t7 hd7 ht7 ⟨rfl, hI7⟩
    obtain ⟨q2, q3⟩ := keep _ _ _ hI7
    conv => whnf
    repeat (first | ((with_reducible apply Go.Vc.ld_i); (focus ((repeat (first | with_reducible assumption | with_reducible exact Go.Vc.hset_same _ _ _ | with_reducible refine (Go.Vc.hset_ne _ _ (by omega)).trans ?_)); done)); (focus exact rfl); conv => whnf) | ((with_reducible apply Go.Vc.wr_i64); (focus exact And.intro (by omega) (by omega)); conv => whnf))
    refine ⟨rfl, round_end (k + 1) (by omega) ⟨rfl, rfl, rfl, ?_, trivial⟩ ⟨by omega, by omega, hI7⟩⟩
    show Value.int .i64 _ = Value.int .i64 _
    congr 1
    omega
  · have hkm : k = m := by
      apply Classical.byContradiction
      intro hc
      have : (k + 1) * z ≤ m * z := Nat.mul_le_mul_right _ (by omega)
      rw [Nat.succ_mul] at this
      omega
    subst hkm
    conv => whnf
    exact hI
end Go.Proofs.YtlkpgjicpjjlcaaGreatDoor
