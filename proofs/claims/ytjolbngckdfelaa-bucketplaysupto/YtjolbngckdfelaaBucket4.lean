/- The bucket's Fates, and the chapter's examples. -/
import Derived.Test.YtjolbngckdfelaaBucket3
namespace Go.Proofs.Ytjolbngckdfelaa
open Go Go.Vc
set_option maxRecDepth 10000
set_option linter.unusedVariables false

theorem fates_spec {h : Heap} {t b m : Nat} {d : Option Nat} {s : BS} (B : Bkt h b m d s) {a : Option Addr} {n c : Nat} {l : List Int} (hl : Sl h a n (Value.int .i64) l) (hsz : s.fs.length + n ≤ 2 ^ 30) :
    CallSpec Try.prog 10 #[.pointer (some ⟨b, 0, none⟩), .slice a n c] h t
      (fun v h' _ => v = .tuple #[] ∧ ∃ d', Bkt h' b m d' { s with fs := s.fs ++ l } ∧ FrB b m h h' ∧ ∀ k, d' = some k → t ≤ k) := by
  obtain ⟨D, lock, ver, fs⟩ := s
  obtain ⟨o, a1, n1, c1, T, hb, hm, hmo, hsl, hnc, hbm, hdb, how⟩ := B
  simp only at hb hmo hsl hsz
  refine Go.Vc.spec_of_vc (fn := Try.f10) Try.func10 rfl (by kernel_rfl) (by kernel_rfl) (Nat.le_of_ble_eq_true rfl) ?_
  intro hd
  conv => whnf
  refine ⟨_, ⟨_, _, _, hb, rfl, rfl⟩, ?_⟩
  conv => whnf
  intro r hr
  conv => whnf
  have hs1 := hd.sub_new hr (.cells #[.slice a1 n1 c1, .slice a n c] 22)
  have hsq : Sl (hset h r (.cells #[.slice a1 n1 c1, .slice a n c] 22)) (some ⟨r, 0, none⟩) 2 SV.val [⟨a1, n1, c1, fs⟩, ⟨a, n, c, l⟩] := by
    refine ⟨rfl, fun _ => ⟨r, 0, _, _, _, rfl, hset_same _ _ _, ?_⟩⟩
    intro i hi
    simp at hi
    have : i = 0 ∨ i = 1 := by omega
    rcases this with rfl | rfl <;> rfl
  refine (concat_spec (qs := [⟨a1, n1, c1, fs⟩, ⟨a, n, c, l⟩]) hsq ?_ ?_ (by omega)).mono ?_
  · intro q hq
    simp at hq
    rcases hq with rfl | rfl
    · exact hsl.sub hs1
    · exact hl.sub hs1
  · have := hsl.1; simp [sizes]; omega
  · rintro _ h2 t2 hd2 ht2 ⟨a2, n2, c2, rfl, ho2, hs2, hf2⟩
    conv => whnf
    have hb2 := hs2 _ _ (hs1 _ _ hb)
    refine ⟨rfl, _, _, _, hb2, Go.Vc.lt_of_blt rfl, rfl, ?_⟩
    rintro _ rfl
    conv => whnf
    have hbt : b < t := hd _ _ hb
    refine ⟨rfl, owner a2, ⟨o, a2, n2, c2, T, hset_same _ _ _, ?_, hmo, ?_, ho2.cap, hbm, ?_, rfl⟩, ?_, ?_⟩
    · rw [hset_ne _ _ (fun e => hbm e.symm)]; exact hs2 _ _ (hs1 _ _ hm)
    · have h3 := (ho2.keep (h' := hset h2 b (.cells #[.map (some m), .string lock, .int .i64 ver, .slice a2 n2 c2] T (0, 0))) (fun k hk => hset_ne _ _ (by have := hf2 k hk; omega))).sl
      simpa using h3
    · intro e; have := hf2 b e; omega
    · intro k o' h1 _ ho
      rw [hset_ne _ _ h1]
      exact hs2 _ _ (hs1 _ _ ho)
    · intro k hk; have := hf2 k hk; omega

def ba (l : List UInt8) : ByteArray := ⟨l.toArray⟩

theorem ex1 : callR ⟨[], ByteArray.empty, 0, [0, 0, 2, 1]⟩ true (fun s => swapR s 0 ⟨#[97]⟩) = (0, ⟨[], ⟨#[97]⟩, 1, [0, 2, 1]⟩) := rfl
theorem ex2 : callR ⟨[], ⟨#[97]⟩, 1, [0, 2, 1]⟩ true (fun s => swapR s 0 ⟨#[98]⟩) = (6, ⟨[], ⟨#[97]⟩, 1, [2, 1]⟩) := rfl
theorem ex3 : callR ⟨[], ⟨#[97]⟩, 1, [2, 1]⟩ (isNamed ⟨#[120]⟩) (putR ⟨#[120]⟩ ⟨#[49]⟩) = (7, ⟨[(⟨#[120]⟩, ⟨#[49]⟩)], ⟨#[97]⟩, 1, [1]⟩) := rfl
theorem ex4 : callR ⟨[(⟨#[120]⟩, ⟨#[49]⟩)], ⟨#[97]⟩, 1, [1]⟩ (isNamed ⟨#[120]⟩) (putR ⟨#[120]⟩ ⟨#[50]⟩) = (7, ⟨[(⟨#[120]⟩, ⟨#[49]⟩)], ⟨#[97]⟩, 1, []⟩) := rfl

theorem examples_spec (h : Heap) (t : Nat) : CallSpec Try.prog 8 #[] h t (fun v h' _ => v = .bool true ∧ h = h') := by
  refine CallSpec.part ?_
  refine Go.Vc.spec_of_vc (fn := Try.f8) Try.func8 rfl (by kernel_rfl) (by kernel_rfl) (Nat.le_of_ble_eq_true rfl) ?_
  intro hd
  conv => whnf
  refine (new_spec h t).mono ?_
  rintro _ h1 t1 hd1 ht1 ⟨b, m, rfl, hb, hm, hbt, hmt, B1, hs1⟩
  conv => whnf
  intro r hr
  conv => whnf
  have hs2 := hd1.sub_new hr (.cells #[.int .i64 0, .int .i64 0, .int .i64 2, .int .i64 1] 3)
  refine (fates_spec (l := [0, 0, 2, 1]) (B1.sub hs2) ?_ (by simp)).mono ?_
  · refine ⟨rfl, fun _ => ⟨r, 0, _, _, _, rfl, hset_same _ _ _, ?_⟩⟩
    intro i hi
    simp at hi
    have : i = 0 ∨ i = 1 ∨ i = 2 ∨ i = 3 := by omega
    rcases this with rfl | rfl | rfl | rfl <;> rfl
  rintro _ h2 t2 hd2 ht2 ⟨rfl, d, B2, f2, _⟩
  have B2 : Bkt h2 b m d ⟨[], ByteArray.empty, 0, [0, 0, 2, 1]⟩ := B2
  conv => whnf
  refine (swap_spec B2 ⟨#[97]⟩ (v := 0) (by omega) (by omega)).mono ?_
  rintro _ h3 t3 hd3 ht3 ⟨hv, B3, f3⟩
  rw [show callR _ true _ = _ from ex1] at hv B3
  subst hv
  conv => whnf
  refine (swap_spec B3 ⟨#[98]⟩ (v := 0) (by omega) (by omega)).mono ?_
  rintro _ h4 t4 hd4 ht4 ⟨hv, B4, f4⟩
  rw [show callR _ true _ = _ from ex2] at hv B4
  subst hv
  conv => whnf
  refine (put_spec B4 ⟨#[120]⟩ ⟨#[49]⟩).mono ?_
  rintro _ h5 t5 hd5 ht5 ⟨hv, B5, f5⟩
  rw [show callR _ _ _ = _ from ex3] at hv B5
  subst hv
  conv => whnf
  refine (put_spec B5 ⟨#[120]⟩ ⟨#[50]⟩).mono ?_
  rintro _ h6 t6 hd6 ht6 ⟨hv, B6, f6⟩
  rw [show callR _ _ _ = _ from ex4] at hv B6
  subst hv
  conv => whnf
  refine (peek_spec B6 ⟨#[120]⟩).mono ?_
  rintro _ _ _ _ _ ⟨rfl, rfl, rfl⟩
  conv => whnf
  refine (held_spec B6).mono ?_
  rintro _ _ _ _ _ ⟨rfl, rfl, rfl⟩
  conv => whnf
  refine br_t rfl ?_
  conv => whnf
  refine br_t rfl ?_
  conv => whnf
  refine br_t rfl ?_
  conv => whnf
  refine br_t rfl ?_
  conv => whnf
  refine br_t rfl ?_
  conv => whnf
  refine br_t rfl ?_
  conv => whnf
  refine ⟨h, ?_, by rw [opq_eq]; rfl, rfl⟩
  have hfr : FrB b m h1 h6 := (FrB.of_sub hs2).trans (f2.trans (f3.trans (f4.trans (f5.trans f6))))
  intro k o ho
  have := hd k o ho
  exact hfr k o (by omega) (by omega) (hs1 k o ho)
end Go.Proofs.Ytjolbngckdfelaa
