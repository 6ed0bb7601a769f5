/- MerkleHalves answers true, by its contract. -/
import Derived.Test.YtmlcdkckedjdjaaMerkle13
namespace Go.Proofs.Ytmlcdkckedjdjaa
open Go Go.Vc Go.Sha Go.Mk
set_option maxRecDepth 10000
set_option linter.unusedVariables false

theorem MerkleHalves_spec (h : Heap) (t : Nat) (n : Int) (hn : IntKind.min .u8 ≤ n ∧ n ≤ IntKind.max .u8) (m : Int) (hm : IntKind.min .u8 ≤ m ∧ m ≤ IntKind.max .u8) (s : ByteArray) (hs : s.size ≤ 1048576) :
    CallSpec Try.prog 4 #[.int .u8 n, .int .u8 m, .string s] h t (fun v h' _ => v = .bool true ∧ Sub h h') := by
  have hn : 0 ≤ n ∧ n ≤ 255 := hn
  have hm : 0 ≤ m ∧ m ≤ 255 := hm
  refine Go.Vc.spec_of_vc (fn := Try.f4) Try.func4 rfl (by kernel_rfl) (by kernel_rfl) (Nat.le_of_ble_eq_true rfl) ?_
  intro hd
  conv => whnf
  refine (examples_spec h t).mono ?_
  rintro _ h1 t1 hd1 ht1 ⟨rfl, hs1⟩
  conv => whnf
  repeat (first | ((with_reducible refine And.intro (And.intro ?_ ?_) ?_); (focus omega); (focus omega); conv => whnf) | ((with_reducible apply Go.Vc.one_shl); (focus exact And.intro (by omega) (by omega)); intro zP hzP hzP0 hzP1; conv => whnf) | ((with_reducible apply Go.Vc.rem_i); (focus omega); conv => whnf) | ((with_reducible apply Go.Vc.and_leI); (focus omega); conv => whnf) | ((with_reducible refine And.intro ?_ (And.intro ?_ ?_)); (focus exact rfl); (focus omega); conv => whnf))
  generalize hk : (if (20 : Int) < (s.size : Int) then (20 : Int) else (s.size : Int)).toNat = k
  have hk1 := cut_range s 20 hk
  have hcs := extract_size (i := 0) (by omega) hk1.2
  generalize s.extract 0 k = x at *
  have he : (n % 8).toNat ≤ 7 := by omega
  generalize (n % 8).toNat = e at *
  have hP : zP ≤ 128 := by rw [hzP]; exact Nat.pow_le_pow_right (by decide) he
  conv => whnf
  refine (list_spec zP (by omega) x (by omega) _ _).mono ?_
  rintro _ h2 t2 hd2 ht2 ⟨a2, c2, rfl, o2, hw2, hs2⟩
  conv => whnf
  repeat (first | ((with_reducible refine And.intro (And.intro ?_ ?_) ?_); (focus omega); (focus omega); conv => whnf) | ((with_reducible apply Go.Vc.wr_i64); (focus exact And.intro (by omega) (by omega)); conv => whnf) | ((with_reducible apply Go.Vc.rem_i); (focus omega); conv => whnf) | ((with_reducible refine And.intro ?_ (And.intro ?_ ?_)); (focus exact rfl); (focus omega); conv => whnf))
  generalize hk' : (if (20 : Int) < (s.size : Int) then (20 : Int) else (s.size : Int)).toNat = k'
  have hk1' := cut_range s 20 hk'
  have hcs' := extract_size (i := 0) (by omega) hk1'.2
  generalize s.extract 0 k' = x' at *
  obtain ⟨m0, hm0⟩ : ∃ m0 : Nat, m % 100 = m0 := ⟨(m % 100).toNat, by omega⟩
  rw [hm0]
  have h1s := one_size 111
  conv => whnf
  repeat (first | ((with_reducible apply Go.Vc.and_leN); (focus (first | omega | (simp only [ByteArray.size, List.size_toArray, List.length_cons, List.length_nil] at *; omega))); conv => whnf))
  refine (list_spec m0 (by omega) (⟨#[111]⟩ ++ x') (by rw [ByteArray.size_append]; omega) _ _).mono ?_
  rintro _ h3 t3 hd3 ht3 ⟨a3, c3, rfl, o3, hw3, hs3⟩
  conv => whnf
  have o2b := o2.fr (h' := h3) (fun b o _ ho => hs3 b o ho)
  refine app_new hd3 o2b.sl (by omega) ?_
  intro a4 c4 h4 t4 o4 ht4 hd4 hs4 hw4
  conv => whnf
  refine app_more hd3 ht4 hs4 hw4 hd4 o4 (o2b.sl.sub hs4) (by omega) ?_
  intro a5 c5 h5 t5 o5 ht5 hd5 hs5 hw5 _
  have hL := listL_bd x zP
  have hO := listL_bd (⟨#[111]⟩ ++ x') m0
  have hLl := listL_len x zP
  have hOl := listL_len (⟨#[111]⟩ ++ x') m0
  generalize listL x zP = L at *
  generalize listL (⟨#[111]⟩ ++ x') m0 = O at *
  have s2 := o2b.sl.sub hs5
  have s3 := o3.sl.sub hs5
  have S5 := hs1.trans (hs2.trans (hs3.trans hs5))
  have hLL : ∀ x ∈ L ++ L, x.size ≤ 274877906944 := fun x hx => (List.mem_append.1 hx).elim (hL x) (hL x)
  have hLO : ∀ x ∈ L ++ O, x.size ≤ 274877906944 := fun x hx => (List.mem_append.1 hx).elim (hL x) (hO x)
  conv => whnf
  refine (root_spec o5.sl (by omega) hLL).mono ?_
  rintro _ h6 t6 hd6 ht6 ⟨rfl, hs6⟩
  conv => whnf
  refine (root_spec (s2.sub hs6) (by omega) hL).mono ?_
  rintro _ h7 t7 hd7 ht7 ⟨rfl, hs7⟩
  conv => whnf
  refine (root_spec ((s2.sub hs6).sub hs7) (by omega) hL).mono ?_
  rintro _ h8 t8 hd8 ht8 ⟨rfl, hs8⟩
  conv => whnf
  refine (node_spec _ _ (rt_bd hL) (rt_bd hL) _ _).mono ?_
  rintro _ h9 t9 hd9 ht9 ⟨rfl, hs9⟩
  have H9 := hs6.trans (hs7.trans (hs8.trans hs9))
  rw [rt_app ndB emB (e := e) (by omega) (by omega) (by omega)]
  conv => whnf
  refine br_f (by simp) ?_
  conv => whnf
  refine br (fun hb1 => ?_) (fun hb1 => ?_)
  · conv => whnf
    exact ⟨rfl, S5.trans H9⟩
  conv => whnf
  refine br (fun hb2 => ?_) (fun hb2 => ?_)
  · conv => whnf
    exact ⟨rfl, S5.trans H9⟩
  conv => whnf
  refine app_new hd9 (s2.sub H9) (by omega) ?_
  intro aa ca ha ta oa hta hda hsa hwa
  conv => whnf
  refine app_more hd9 hta hsa hwa hda oa ((s3.sub H9).sub hsa) (by omega) ?_
  intro ab cb hb tb ob htb hdb hsb hwb _
  have S10 := H9.trans hsb
  conv => whnf
  refine (root_spec ob.sl (by omega) hLO).mono ?_
  rintro _ h11 t11 hd11 ht11 ⟨rfl, hs11⟩
  conv => whnf
  refine (root_spec ((s2.sub S10).sub hs11) (by omega) hL).mono ?_
  rintro _ h12 t12 hd12 ht12 ⟨rfl, hs12⟩
  conv => whnf
  refine (root_spec (((s3.sub S10).sub hs11).sub hs12) (by omega) hO).mono ?_
  rintro _ h13 t13 hd13 ht13 ⟨rfl, hs13⟩
  conv => whnf
  refine (node_spec _ _ (rt_bd hL) (rt_bd hO) _ _).mono ?_
  rintro _ h14 t14 hd14 ht14 ⟨rfl, hs14⟩
  rw [rt_app ndB emB (e := e) (by omega) (by omega) (by omega)]
  conv => whnf
  exact ⟨by rw [opq_eq]; simp, S5.trans (S10.trans (hs11.trans (hs12.trans (hs13.trans hs14))))⟩
end Go.Proofs.Ytmlcdkckedjdjaa
