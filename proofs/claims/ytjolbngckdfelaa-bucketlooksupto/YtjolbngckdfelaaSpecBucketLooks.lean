/- BucketLooks answers true, by its contract. -/
import Derived.Test.YtjolbngckdfelaaBucket7
namespace Go.Proofs.Ytjolbngckdfelaa
open Go Go.Vc
set_option maxRecDepth 10000
set_option linter.unusedVariables false

theorem lk1 : callR ⟨[], ByteArray.empty, 0, [1, 0, 1, 0, 2, 0]⟩ (isNamed ⟨#[120]⟩) (getR ⟨#[120]⟩) = (7, ⟨[], ByteArray.empty, 0, [0, 1, 0, 2, 0]⟩) := rfl
theorem lk2 : callR ⟨[], ByteArray.empty, 0, [0, 1, 0, 2, 0]⟩ (isNamed ⟨#[120]⟩) (getR ⟨#[120]⟩) = (3, ⟨[], ByteArray.empty, 0, [1, 0, 2, 0]⟩) := rfl
theorem lk3 (x : ByteArray) : callR ⟨[], ByteArray.empty, 0, [1, 0, 2, 0]⟩ (isNamed ⟨#[]⟩) (putR ⟨#[]⟩ x) = (1, ⟨[], ByteArray.empty, 0, [0, 2, 0]⟩) := rfl
theorem lk4 (x : ByteArray) : callR ⟨[], ByteArray.empty, 0, [0, 2, 0]⟩ (isNamed ⟨#[120]⟩) (putR ⟨#[120]⟩ x) = (0, ⟨[(⟨#[120]⟩, x)], ByteArray.empty, 0, [2, 0]⟩) := rfl
theorem lk5 (x y : ByteArray) : callR ⟨[(⟨#[120]⟩, x)], ByteArray.empty, 0, [2, 0]⟩ (isNamed ⟨#[120]⟩) (putR ⟨#[120]⟩ y) = (7, ⟨[(⟨#[120]⟩, y)], ByteArray.empty, 0, [0]⟩) := rfl
theorem lk6 (y : ByteArray) : callR ⟨[(⟨#[120]⟩, y)], ByteArray.empty, 0, [0]⟩ (isNamed ⟨#[120]⟩) (getR ⟨#[120]⟩) = (0, ⟨[(⟨#[120]⟩, y)], ByteArray.empty, 0, []⟩) := rfl
theorem BucketLooks_spec (h : Heap) (t : Nat) (n : Int) (hn : IntKind.min .u8 ≤ n ∧ n ≤ IntKind.max .u8) (x : ByteArray) (hx : x.size ≤ 1048576) :
    CallSpec Try.prog 6 #[.int .u8 n, .string x] h t (fun v h' _ => v = .bool true ∧ Sub h h') := by
  have hn : 0 ≤ n ∧ n ≤ 255 := hn
  refine Go.Vc.spec_of_vc (fn := Try.f6) Try.func6 rfl (by kernel_rfl) (by kernel_rfl) (Nat.le_of_ble_eq_true rfl) ?_
  intro hd
  conv => whnf
  refine (examples_spec h t).mono ?_
  rintro _ _ t1 hd1 ht1 ⟨rfl, rfl⟩
  conv => whnf
  refine (new_spec _ t1).mono ?_
  rintro _ h2 t2 hd2 ht2 ⟨b, m, rfl, hb, hm, hbt, hmt, B2, hs2⟩
  conv => whnf
  intro r hr
  conv => whnf
  have hsr := hd2.sub_new hr (.cells #[.int .i64 1, .int .i64 0, .int .i64 1, .int .i64 0, .int .i64 2, .int .i64 0] 3)
  refine (fates_spec (l := [1, 0, 1, 0, 2, 0]) (B2.sub hsr) ?_ (by simp)).mono ?_
  · refine ⟨rfl, fun _ => ⟨r, 0, _, _, _, rfl, hset_same _ _ _, ?_⟩⟩
    intro i hi
    simp at hi
    have : i = 0 ∨ i = 1 ∨ i = 2 ∨ i = 3 ∨ i = 4 ∨ i = 5 := by omega
    rcases this with rfl | rfl | rfl | rfl | rfl | rfl <;> rfl
  rintro _ h3 t3 hd3 ht3 ⟨rfl, d, B3, f3, _⟩
  have B3 : Bkt h3 b m d ⟨[], ByteArray.empty, 0, [1, 0, 1, 0, 2, 0]⟩ := B3
  have F3 : FrB b m h2 h3 := (FrB.of_sub hsr).trans f3
  conv => whnf
  refine loop_intro (fun i : Nat => [(0, .int .u8 n), (1, .string x), (5, .bool true), (6, .pointer (some ⟨b, 0, none⟩)), (7, .int .i64 (i : Nat))])
    (fun i h' t' => i ≤ 10 ∧ t3 ≤ t' ∧ Bkt h' b m d ⟨[], ByteArray.empty, 0, [1, 0, 1, 0, 2, 0]⟩ ∧ FrB b m h2 h') (fun i => 10 - i) 0 ⟨rfl, rfl, rfl, rfl, rfl, trivial⟩ ⟨by omega, by omega, B3, F3⟩ ?_
  rintro i g h4 t4 hd4 ⟨hi, ht4, B4, f4⟩
  conv => whnf
  repeat (first | ((with_reducible apply Go.Vc.wr_i64); (focus exact And.intro (by omega) (by omega)); conv => whnf) | ((with_reducible apply Go.Vc.rem_i); (focus omega); conv => whnf) | ((with_reducible refine And.intro ?_ (And.intro ?_ ?_)); (focus exact rfl); (focus omega); conv => whnf))
  refine br (fun hb1 => ?_) (fun hb1 => ?_)
  · conv => whnf
    refine (peek_spec B4 ⟨#[120]⟩).mono ?_
    rintro _ _ _ _ _ ⟨rfl, rfl, rfl⟩
    conv => whnf
    refine (held_spec B4).mono ?_
    rintro _ _ _ _ _ ⟨rfl, rfl, rfl⟩
    conv => whnf
    refine br_f (by simp) ?_
    conv => whnf
    refine (names_spec B4 (by simp)).mono ?_
    rintro _ h5 t5 hd5 ht5 ⟨a5, c5, rfl, o5, hw5, hs5⟩
    conv => whnf
    refine br_f (by simp) ?_
    conv => whnf
    repeat (first | ((with_reducible apply Go.Vc.wr_i64); (focus exact And.intro (by omega) (by omega)); conv => whnf))
    refine round_end (i + 1) (by omega) ⟨rfl, rfl, rfl, rfl, rfl, trivial⟩ ⟨by omega, by omega, B4.sub hs5, f4.trans (FrB.of_sub hs5)⟩
  · conv => whnf
    refine (get_spec B4 ⟨#[120]⟩).mono ?_
    rintro _ h5 t5 hd5 ht5 ⟨hv, B5, f5⟩
    rw [show callR _ _ _ = _ from lk1] at hv B5
    subst hv
    conv => whnf
    refine (get_spec B5 ⟨#[120]⟩).mono ?_
    rintro _ h6 t6 hd6 ht6 ⟨hv, B6, f6⟩
    rw [show callR _ _ _ = _ from lk2] at hv B6
    subst hv
    conv => whnf
    refine (put_spec B6 ⟨#[]⟩ x).mono ?_
    rintro _ h7 t7 hd7 ht7 ⟨hv, B7, f7⟩
    rw [show callR _ _ _ = _ from lk3 x] at hv B7
    subst hv
    conv => whnf
    refine (put_spec B7 ⟨#[120]⟩ x).mono ?_
    rintro _ h8 t8 hd8 ht8 ⟨hv, B8, f8⟩
    rw [show callR _ _ _ = _ from lk4 x] at hv B8
    subst hv
    have h33 : (⟨#[33]⟩ : ByteArray).size = 1 := rfl
    conv => whnf
    repeat (first | ((with_reducible apply Go.Vc.and_leN); (focus (first | omega | (simp only [ByteArray.size, List.size_toArray, List.length_cons, List.length_nil] at *; omega))); conv => whnf))
    refine (put_spec B8 ⟨#[120]⟩ (x ++ ⟨#[33]⟩)).mono ?_
    rintro _ h9 t9 hd9 ht9 ⟨hv, B9, f9⟩
    rw [show callR _ _ _ = _ from lk5 x _] at hv B9
    subst hv
    conv => whnf
    refine (get_spec B9 ⟨#[120]⟩).mono ?_
    rintro _ hA tA hdA htA ⟨hv, BA, fA⟩
    rw [show callR _ _ _ = _ from lk6 _] at hv BA
    subst hv
    have FA := f4.trans (f5.trans (f6.trans (f7.trans (f8.trans (f9.trans fA)))))
    have hsub : Vc.Sub h hA := by
      intro k o ho
      have := hd k o ho
      exact FA k o (by omega) (by omega) (hs2 k o ho)
    conv => whnf
    repeat (first | (refine Go.Vc.br_t ?_ ?_; (focus omega); conv => whnf) | ((with_reducible apply Go.Vc.and_leN); (focus (first | omega | (simp only [ByteArray.size, List.size_toArray, List.length_cons, List.length_nil] at *; omega))); conv => whnf))
    refine br_t rfl ?_
    conv => whnf
    exact ⟨by rw [opq_eq]; rfl, hsub⟩
end Go.Proofs.Ytjolbngckdfelaa
