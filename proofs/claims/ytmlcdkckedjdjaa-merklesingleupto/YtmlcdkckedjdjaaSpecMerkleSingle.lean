/- MerkleSingle answers true, by its contract. -/
import Derived.Test.YtmlcdkckedjdjaaMerkle10
namespace Go.Proofs.Ytmlcdkckedjdjaa
open Go Go.Vc Go.Sha Go.Mk
set_option maxRecDepth 10000
set_option linter.unusedVariables false

theorem MerkleSingle_spec (h : Heap) (t : Nat) (a : ByteArray) (ha : a.size ≤ 1048576) (b : ByteArray) (hb : b.size ≤ 1048576) :
    CallSpec Try.prog 9 #[.string a, .string b] h t (fun v h' _ => v = .bool true ∧ Sub h h') := by
  refine Go.Vc.spec_of_vc (fn := Try.f9) Try.func9 rfl (by kernel_rfl) (by kernel_rfl) (Nat.le_of_ble_eq_true rfl) ?_
  intro hd
  conv => whnf
  refine (examples_spec h t).mono ?_
  rintro _ h1 t1 hd1 ht1 ⟨rfl, hs1⟩
  conv => whnf
  repeat (first | ((with_reducible refine And.intro (And.intro ?_ ?_) ?_); (focus omega); (focus omega); conv => whnf) | (intro _ _; conv => whnf))
  generalize hm : (if (100 : Int) < (a.size : Int) then (100 : Int) else (a.size : Int)).toNat = m
  have hm1 := cut_range a 100 hm
  have hca := extract_size (i := 0) (by omega) hm1.2
  generalize a.extract 0 m = x at *
  generalize hm' : (if (100 : Int) < (b.size : Int) then (100 : Int) else (b.size : Int)).toNat = m'
  have hm1' := cut_range b 100 hm'
  have hcb := extract_size (i := 0) (by omega) hm1'.2
  generalize b.extract 0 m' = y at *
  conv => whnf
  have x1 : ∀ z ∈ [x], z.size ≤ 274877906944 := fun z hz => by rw [List.mem_singleton.1 hz]; omega
  rename_i r1 hr1
  have hsr1 := hd1.sub_new hr1 (.cells #[.string x] 9)
  refine (inclusion_spec (ar_sl (l := [x]) (n := 1) (hset_same _ _ _) rfl) (by decide) (by decide) x1 0 (by decide)).mono ?_
  rintro _ h2 t2 hd2 ht2 ⟨a2, m2, c2, rfl, o2, hw2, hs2⟩
  rw [if_pos (by decide), inc_one ndB emB (l := [x]) (by simp)] at o2
  obtain rfl : 0 = m2 := o2.1
  conv => whnf
  repeat (first | (intro _ _; conv => whnf))
  rename_i r2 hr2
  have hsr2 := hd2.sub_new hr2 (.cells #[.string x] 9)
  refine (consistency_spec (ar_sl (l := [x]) (n := 1) (hset_same _ _ _) rfl) (by decide) (by decide) x1 1 (by decide)).mono ?_
  rintro _ h3 t3 hd3 ht3 ⟨a3, m3, c3, rfl, o3, hw3, hs3⟩
  rw [if_pos (by decide), con_ge ndB emB (l := [x]) (by simp)] at o3
  obtain rfl : 0 = m3 := o3.1
  have H3 := hs1.trans (hsr1.trans (hs2.trans (hsr2.trans hs3)))
  conv => whnf
  repeat (first | (intro _ _; conv => whnf))
  rename_i r3 hr3
  have hsr3 := hd3.sub_new hr3 (.cells #[.string x] 9)
  refine (root_spec (ar_sl (l := [x]) (n := 1) (hset_same _ _ _) rfl) (by decide) x1).mono ?_
  rintro _ h4 t4 hd4 ht4 ⟨rfl, hs4⟩
  rw [rt_one]
  conv => whnf
  refine br_t rfl ?_
  conv => whnf
  repeat (first | (refine Go.Vc.br_t ?_ ?_; (focus omega); conv => whnf))
  have sN : ∀ h : Heap, Sl h none 0 Value.string [] := fun h => Sl.nil _ _ _
  refine (included_spec x 1 0 (by decide) (by decide) x (by omega) (sN _) (by decide) (fun z hz => by cases hz)).mono ?_
  rintro _ h5 t5 hd5 ht5 ⟨rfl, hs5⟩
  rw [show ∀ z, incd x 1 0 z [] = decide (z = x) from fun z => incd_one x z, decide_eq_true rfl]
  conv => whnf
  refine (included_spec x 1 0 (by decide) (by decide) y (by omega) (sN _) (by decide) (fun z hz => by cases hz)).mono ?_
  rintro _ h6 t6 hd6 ht6 ⟨rfl, hs6⟩
  rw [show ∀ z, incd x 1 0 z [] = decide (z = x) from fun z => incd_one x z]
  conv => whnf
  rw [show (decide (y = x) == opq (decide (x = y))) = true by rw [opq_eq]; simp [eq_comm]]
  refine (grown_spec x (by omega) 1 (by decide) y 1 (by decide) (sN _) (by decide) (by decide) (fun z hz => by cases hz)).mono ?_
  rintro _ h7 t7 hd7 ht7 ⟨rfl, hs7⟩
  rw [show grwd x 1 y 1 [] = decide (x = y) from grwd_one x y]
  conv => whnf
  rw [show (decide (x = y) == opq (decide (x = y))) = true by rw [opq_eq]; simp]
  conv => whnf
  repeat (first | ((with_reducible apply Go.Vc.and_leN); (focus (first | omega | (simp only [ByteArray.size, List.size_toArray, List.length_cons, List.length_nil] at *; omega))); conv => whnf))
  refine (leaf_spec (⟨#[1]⟩ ++ x) (by rw [ByteArray.size_append, one_size]; omega) _ _).mono ?_
  rintro _ h8 t8 hd8 ht8 ⟨rfl, hs8⟩
  conv => whnf
  refine (leaf_spec x (by omega) _ _).mono ?_
  rintro _ h9 t9 hd9 ht9 ⟨rfl, hs9⟩
  conv => whnf
  refine ⟨by rw [lfB_size, one_size]; omega, ?_⟩
  conv => whnf
  refine br_t (fun e => ?_) ?_
  · have := congrArg ByteArray.size e
    rw [ByteArray.size_append, lfB_size, lfB_size, one_size] at this
    omega
  conv => whnf
  refine (node_spec x y (by omega) (by omega) _ _).mono ?_
  rintro _ h10 t10 hd10 ht10 ⟨rfl, hs10⟩
  conv => whnf
  rw [ndB_size]
  conv => whnf
  exact ⟨by rw [opq_eq]; rfl, H3.trans (hsr3.trans (hs4.trans (hs5.trans (hs6.trans (hs7.trans (hs8.trans (hs9.trans hs10)))))))⟩
end Go.Proofs.Ytmlcdkckedjdjaa
