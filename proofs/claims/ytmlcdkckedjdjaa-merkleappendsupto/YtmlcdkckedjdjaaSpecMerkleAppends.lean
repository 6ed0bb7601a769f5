/- MerkleAppends answers true, by its contract. -/
import Derived.Test.YtmlcdkckedjdjaaMerkle13
namespace Go.Proofs.Ytmlcdkckedjdjaa
open Go Go.Vc Go.Sha Go.Mk
set_option maxRecDepth 10000
set_option linter.unusedVariables false

theorem MerkleAppends_spec (h : Heap) (t : Nat) (n : Int) (hn : IntKind.min .u8 ≤ n ∧ n ≤ IntKind.max .u8) (s : ByteArray) (hs : s.size ≤ 1048576) :
    CallSpec Try.prog 5 #[.int .u8 n, .string s] h t (fun v h' _ => v = .bool true ∧ Sub h h') := by
  have hn : 0 ≤ n ∧ n ≤ 255 := hn
  refine Go.Vc.spec_of_vc (fn := Try.f5) Try.func5 rfl (by kernel_rfl) (by kernel_rfl) (Nat.le_of_ble_eq_true rfl) ?_
  intro hd
  conv => whnf
  refine (examples_spec h t).mono ?_
  rintro _ h1 t1 hd1 ht1 ⟨rfl, hs1⟩
  conv => whnf
  repeat (first | ((with_reducible apply Go.Vc.one_shl); (focus exact And.intro (by omega) (by omega)); intro zP hzP hzP0 hzP1; conv => whnf) | ((with_reducible apply Go.Vc.rem_i); (focus omega); conv => whnf) | ((with_reducible apply Go.Vc.and_leI); (focus omega); conv => whnf) | ((with_reducible refine And.intro ?_ (And.intro ?_ ?_)); (focus exact rfl); (focus omega); conv => whnf))
  have he : (n % 8).toNat ≤ 7 := by omega
  generalize (n % 8).toNat = e at *
  have hP : zP ≤ 128 := by rw [hzP]; exact Nat.pow_le_pow_right (by decide) he
  have h1s := one_size 97
  refine (list_spec zP (by omega) ⟨#[97]⟩ (by omega) _ _).mono ?_
  rintro _ h2 t2 hd2 ht2 ⟨a2, c2, rfl, o2, hw2, hs2⟩
  have hL := listL_bd ⟨#[97]⟩ zP
  have hLl := listL_len ⟨#[97]⟩ zP
  generalize listL ⟨#[97]⟩ zP = L at *
  conv => whnf
  refine app_new hd2 o2.sl (by omega) ?_
  intro a4 c4 h4 t4 o4 ht4 hd4 hs4 hw4
  conv => whnf
  repeat (first | (intro _ _; conv => whnf))
  rename_i r hr
  refine app_one hd2 ht4 hs4 hw4 hd4 hr o4 (by omega) ?_
  intro a5 c5 h5 t5 o5 ht5 hd5 hs5 hw5 _
  have s2 := o2.sl.sub hs5
  have S5 := hs1.trans (hs2.trans hs5)
  have hLS : ∀ x ∈ L ++ [s], x.size ≤ 274877906944 := fun x hx => (List.mem_append.1 hx).elim (hL x) (fun h => by rw [List.mem_singleton.1 h]; omega)
  have hlen : (L ++ [s]).length = zP + 1 := by simp [hLl]
  have hsp : sp (L ++ [s]).length = zP := by rw [hlen, hzP]; exact sp_of (by omega) (by omega)
  have hT : (L ++ [s]).take zP = L := by rw [← hLl]; simp
  have hD : (L ++ [s]).drop zP = [s] := by rw [← hLl]; simp
  have hInc : inc ndB emB (L ++ [s]) zP = [rt ndB emB L] := by
    rw [inc_ge ndB emB (by omega) (by rw [hsp]; omega), hsp, hD, hT, Nat.sub_self, inc_one ndB emB (l := [s]) (by simp), List.nil_append]
  have hCon : con ndB emB (L ++ [s]) zP true = [s] := by
    rw [con_lo ndB emB (by omega) (by omega) (by rw [hsp]; omega), hsp, hD, hT, con_ge ndB emB (by omega), rt_one]; rfl
  have hRt : rt ndB emB (L ++ [s]) = ndB (rt ndB emB L) s := by
    rw [rt_app ndB emB (e := e) (by omega) (by simp) (by simp; omega), rt_one]
  conv => whnf
  refine (inclusion_spec o5.sl (by omega) o5.cap hLS (zP : Nat) (by omega)).mono ?_
  rintro _ h6 t6 hd6 ht6 ⟨a6, m6, c6, rfl, o6, hw6, hs6⟩
  rw [decide_eq_true (by omega)]
  rw [if_pos (by omega), Int.toNat_natCast, hInc] at o6
  obtain rfl : 1 = m6 := o6.1
  conv => whnf
  refine (consistency_spec (o5.sl.sub hs6) (by omega) o5.cap hLS (zP : Nat) (by omega)).mono ?_
  rintro _ h7 t7 hd7 ht7 ⟨a7, m7, c7, rfl, o7, hw7, hs7⟩
  rw [decide_eq_true (by omega)]
  rw [if_pos (by omega), Int.toNat_natCast, hCon] at o7
  obtain rfl : 1 = m7 := o7.1
  conv => whnf
  have s5 := (o5.sl.sub hs6).sub hs7
  have s6 := o6.sl.sub hs7
  have s7 := o7.sl
  have s8 := (s2.sub hs6).sub hs7
  refine Go.Vc.draw_intro [⟨0, false, false, false, 0⟩, ⟨1, false, false, false, 1⟩, ⟨2, false, false, false, 3⟩, ⟨4, false, true, false, 3⟩, ⟨6, false, true, false, 3⟩, ⟨3, true, false, true, 7⟩, ⟨5, true, false, true, 31⟩, ⟨7, true, false, true, 127⟩, ⟨8, false, false, false, 255⟩, ⟨9, false, false, false, 511⟩, ⟨10, false, false, false, 1023⟩, ⟨11, false, false, false, 2047⟩, ⟨12, false, false, false, 4095⟩, ⟨13, false, false, false, 8191⟩, ⟨14, false, false, false, 16383⟩, ⟨15, false, false, false, 32767⟩, ⟨16, false, false, false, 65535⟩, ⟨17, false, false, false, 131071⟩, ⟨18, false, false, false, 262143⟩, ⟨19, false, true, false, 524287⟩, ⟨20, false, true, false, 1048575⟩, ⟨21, false, true, false, 2097151⟩, ⟨22, false, false, false, 524287⟩, ⟨23, true, false, true, 4718591⟩, ⟨24, false, false, false, 16777215⟩, ⟨25, false, false, false, 33554431⟩, ⟨26, false, false, false, 67108863⟩, ⟨27, false, false, false, 134217727⟩, ⟨28, false, false, false, 268435455⟩, ⟨29, false, false, false, 536870911⟩, ⟨30, false, false, false, 1073741823⟩, ⟨31, false, false, false, 2147483647⟩, ⟨32, false, false, false, 4294967295⟩, ⟨33, false, false, false, 8589934591⟩, ⟨34, false, false, false, 17179869183⟩, ⟨35, false, false, false, 34359738367⟩, ⟨36, false, false, false, 68719476735⟩, ⟨37, false, false, false, 137438953471⟩, ⟨38, false, false, false, 34359738367⟩, ⟨39, false, false, false, 549755813887⟩, ⟨40, false, false, false, 1099511627775⟩, ⟨41, false, false, false, 2199023255551⟩] (hs := h7) (hsub := (Sub.refl _)) (hm := by kernel_rfl) (hpl := by kernel_rfl) ?_
  conv => whnf
  refine (root_spec s5 (by omega) hLS).mono ?_
  rintro _ h8 t8 hd8 ht8 ⟨rfl, hs8⟩
  conv => whnf
  refine ⟨hs8, ?_⟩
  have s9 := s8.sub hs8
  conv => whnf
  refine (root_spec s9 (by omega) hL).mono ?_
  rintro _ h9 t9 hd9 ht9 ⟨rfl, hs9⟩
  conv => whnf
  refine ⟨hs8.trans hs9, ?_⟩
  conv => whnf
  refine (node_spec _ _ (rt_bd hL) (by omega) _ _).mono ?_
  rintro _ h10 t10 hd10 ht10 ⟨rfl, hs10⟩
  have S10 := hs8.trans (hs9.trans hs10)
  rw [hRt]
  conv => whnf
  refine ⟨S10, ?_⟩
  conv => whnf
  refine br_t rfl ?_
  conv => whnf
  repeat (first | ((with_reducible apply Go.Vc.sl_ix); (focus with_reducible assumption); (focus exact And.intro (by omega) (by omega)); intro xI bI offI hxI hcI; conv => whnf) | ((with_reducible apply Go.Vc.cell_i); (focus assumption); conv => whnf) | (refine Go.Vc.br_t ?_ ?_; (focus omega); conv => whnf))
  have ex : rt ndB emB L = xI := Option.some.inj hxI
  subst ex
  clear hxI
  refine (root_spec (s8.sub S10) (by omega) hL).mono ?_
  rintro _ h11 t11 hd11 ht11 ⟨rfl, hs11⟩
  conv => whnf
  refine ⟨S10.trans hs11, ?_⟩
  conv => whnf
  refine br_t rfl ?_
  replace s7 := s7.sub (S10.trans hs11)
  conv => whnf
  repeat (first | ((with_reducible apply Go.Vc.sl_ix); (focus with_reducible assumption); (focus exact And.intro (by omega) (by omega)); intro xI bI offI hxI hcI; conv => whnf) | ((with_reducible apply Go.Vc.cell_i); (focus assumption); conv => whnf) | (refine Go.Vc.br_t ?_ ?_; (focus omega); conv => whnf))
  have ex : s = xI := Option.some.inj hxI
  subst ex
  clear hxI
  exact ⟨by rw [opq_eq]; simp, S5.trans (hs6.trans (hs7.trans (S10.trans hs11)))⟩
end Go.Proofs.Ytmlcdkckedjdjaa
