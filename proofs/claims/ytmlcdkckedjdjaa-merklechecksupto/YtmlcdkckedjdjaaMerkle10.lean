/- The chapter's examples. -/
import Derived.Test.YtmlcdkckedjdjaaMerkle9
namespace Go.Proofs.Ytmlcdkckedjdjaa
open Go Go.Vc Go.Sha Go.Mk
set_option maxRecDepth 10000
set_option linter.unusedVariables false

set_option maxRecDepth 100000 in
theorem sha_none : sha [] = [0xe3, 0xb0, 0xc4, 0x42, 0x98, 0xfc, 0x1c, 0x14, 0x9a, 0xfb, 0xf4, 0xc8, 0x99, 0x6f, 0xb9, 0x24, 0x27, 0xae, 0x41, 0xe4, 0x64, 0x9b, 0x93, 0x4c, 0xa4, 0x95, 0x99, 0x1b, 0x78, 0x52, 0xb8, 0x55] := by
  rw [← shaE_eq]
  kernel_rfl
def noneHex : List UInt8 := [101, 51, 98, 48, 99, 52, 52, 50, 57, 56, 102, 99, 49, 99, 49, 52, 57, 97, 102, 98, 102, 52, 99, 56, 57, 57, 54, 102, 98, 57, 50, 52, 50, 55, 97, 101, 52, 49, 101, 52, 54, 52, 57, 98, 57, 51, 52, 99, 97, 52, 57, 53, 57, 57, 49, 98, 55, 56, 53, 50, 98, 56, 53, 53]
theorem none_hex : (sha []).flatMap hex2 = noneHex := by rw [sha_none]; decide
theorem extract_size {s : ByteArray} {i j : Nat} (h : i ≤ j) (hj : j ≤ s.size) : (s.extract i j).size = j - i := by
  rw [ByteArray.size_extract]; omega
theorem cut_range (s : ByteArray) (n : Nat) {m : Nat} (hm : (if (n : Int) < (s.size : Int) then (n : Int) else (s.size : Int)).toNat = m) : m ≤ n ∧ m ≤ s.size := by split at hm <;> omega
theorem incd_one (a b : ByteArray) : incd a 1 0 b [] = decide (b = a) := by
  unfold incd
  show (true && (decide ((way 1 0).length = 0) && decide (up ndB (way 1 0).reverse [] b = a))) = _
  rw [way_one (by decide)]; rfl
theorem grwd_one (a b : ByteArray) : grwd a 1 b 1 [] = decide (a = b) := by
  have e : endS a 1 1 [] = ⟨a, a, [], true⟩ := by unfold endS; rw [climb_ge ndB (by decide)]; rfl
  unfold grwd
  show (true && ((endS a 1 1 []).fits && (decide ((endS a 1 1 []).rest = []) && (decide ((endS a 1 1 []).before = a) && decide ((endS a 1 1 []).now = b))))) = _
  rw [e]; simp
theorem sp3 : sp 3 = 2 := by decide
theorem sp2 : sp 2 = 1 := by decide
theorem rt2 (a b : ByteArray) : rt ndB emB [a, b] = ndB a b := by
  rw [rt_two ndB emB (by simp), show [a, b].length = 2 from rfl, sp2]
  show ndB (rt ndB emB [a]) (rt ndB emB [b]) = _
  rw [rt_one, rt_one]
theorem rt3 (a b c : ByteArray) : rt ndB emB [a, b, c] = ndB (ndB a b) c := by
  rw [rt_two ndB emB (by simp), show [a, b, c].length = 3 from rfl, sp3]
  show ndB (rt ndB emB [a, b]) (rt ndB emB [c]) = _
  rw [rt2, rt_one]
theorem inc3 (a b c : ByteArray) : inc ndB emB [a, b, c] 2 = [ndB a b] := by
  rw [inc_ge ndB emB (by simp) (by rw [show [a, b, c].length = 3 from rfl, sp3]; decide), show [a, b, c].length = 3 from rfl, sp3]
  show inc ndB emB [c] 0 ++ [rt ndB emB [a, b]] = _
  rw [inc_one ndB emB (by simp), rt2]; rfl
theorem incd_true {l : List ByteArray} {i : Nat} (hi : i < l.length) : incd (rt ndB emB l) ((l.length : Nat) : Int) ((i : Nat) : Int) l[i] (inc ndB emB l i) = true := by
  unfold incd
  rw [decide_eq_true (by omega), Int.toNat_natCast, Int.toNat_natCast, decide_eq_true (inc_way_length ndB emB _ l i rfl).symm, decide_eq_true (up_inc ndB emB _ l i rfl hi)]
  rfl
theorem examples_spec (h : Heap) (t : Nat) : CallSpec Try.prog 10 #[] h t (fun v h' _ => v = .bool true ∧ Sub h h') := by
  refine Go.Vc.spec_of_vc (fn := Try.f10) Try.func10 rfl (by kernel_rfl) (by kernel_rfl) (Nat.le_of_ble_eq_true rfl) ?_
  intro hd
  conv => whnf
  refine (list_spec 3 (by decide) ByteArray.empty (by decide) _ _).mono ?_
  rintro _ h1 t1 hd1 ht1 ⟨a1, c1, rfl, o1, hw1, hs1⟩
  have hx1 : ∀ x ∈ listL ByteArray.empty 3, x.size ≤ 274877906944 := fun x hx => by rw [listL_size _ _ _ hx]; decide
  conv => whnf
  refine (inclusion_spec o1.sl (by decide) o1.cap hx1 2 (by decide) ).mono ?_
  rintro _ h2 t2 hd2 ht2 ⟨a2, m2, c2, rfl, o2, hw2, hs2⟩
  conv => whnf
  have o3 := o1.fr (h' := h2) (fun b o _ ho => hs2 b o ho)
  have s3 := o3.sl
  have sE : Sl h2 none 0 Value.string [] := ⟨rfl, fun h0 => by omega⟩
  refine Go.Vc.draw_intro [⟨0, true, false, true, 0⟩, ⟨1, true, false, true, 1⟩, ⟨2, false, false, false, 3⟩, ⟨3, false, false, false, 7⟩, ⟨4, false, false, false, 15⟩, ⟨6, false, true, false, 15⟩, ⟨7, false, true, false, 79⟩, ⟨8, false, true, false, 207⟩, ⟨9, false, true, false, 15⟩, ⟨10, false, true, false, 527⟩, ⟨11, false, true, false, 1551⟩, ⟨13, false, true, false, 15⟩, ⟨14, false, true, false, 8207⟩, ⟨15, false, true, false, 24591⟩, ⟨5, true, false, true, 31⟩, ⟨12, true, false, true, 4095⟩, ⟨16, true, false, true, 65535⟩, ⟨17, false, false, false, 131071⟩, ⟨18, false, false, false, 262143⟩, ⟨19, false, false, false, 524287⟩, ⟨20, false, false, false, 1048575⟩, ⟨21, false, false, false, 2097151⟩, ⟨22, false, false, false, 4194303⟩, ⟨23, false, false, false, 8388607⟩, ⟨24, false, false, false, 16777215⟩, ⟨25, false, false, false, 33554431⟩, ⟨26, false, false, false, 67108863⟩, ⟨27, false, false, false, 134217727⟩, ⟨28, false, false, false, 268435455⟩, ⟨30, false, true, false, 268435455⟩, ⟨31, false, true, false, 1342177279⟩, ⟨32, false, true, false, 3489660927⟩, ⟨33, false, true, false, 268435455⟩, ⟨29, true, false, true, 536870911⟩, ⟨34, true, false, false, 17179869183⟩, ⟨35, false, false, false, 34359738367⟩, ⟨36, false, false, false, 68719476735⟩] (hs := h2) (hsub := (Sub.refl _)) (hm := by kernel_rfl) (hpl := by kernel_rfl) ?_
  conv => whnf
  conv => whnf
  refine (root_spec sE (by decide) (fun x hx => by cases hx)).mono ?_
  rintro _ h4 t4 hd4 ht4 ⟨rfl, hs4⟩
  conv => whnf
  refine ⟨hs4, ?_⟩
  have e0 : rt ndB emB [] = strL (sha []) := by rw [rt_nil]; rfl
  rw [e0]
  refine (hex_spec (sha []) (by rw [sha_none]; decide) _ _).mono ?_
  rintro _ h5 t5 hd5 ht5 ⟨rfl, hs5⟩
  rw [none_hex]
  conv => whnf
  refine ⟨hs4.trans hs5, ?_⟩
  conv => whnf
  refine br_t rfl ?_
  conv => whnf
  repeat (first | ((with_reducible apply Go.Vc.sl_ix); (focus with_reducible assumption); (focus exact And.intro (by omega) (by omega)); intro xI bI offI hxI hcI; conv => whnf) | ((with_reducible apply Go.Vc.cell_i); (focus assumption); conv => whnf))
  have s5 := (s3.sub hs4).sub hs5
  refine (root_spec s5 (by decide) hx1).mono ?_
  rintro _ h6 t6 hd6 ht6 ⟨rfl, hs6⟩
  conv => whnf
  refine ⟨hs4.trans (hs5.trans hs6), ?_⟩
  have s6 := s5.sub hs6
  conv => whnf
  have e : lel ByteArray.empty 2 = xI := Option.some.inj hxI
  clear hxI
  subst e
  have e : lel ByteArray.empty 1 = xI := Option.some.inj hxI
  clear hxI
  subst e
  have e : lel ByteArray.empty 0 = xI := Option.some.inj hxI
  clear hxI
  subst e
  have hsz : ∀ i, (lel ByteArray.empty i).size ≤ 274877906944 := fun i => by rw [show (lel ByteArray.empty i).size = 32 from lfB_size _]; decide
  refine (node_spec _ _ (hsz 0) (hsz 1) _ _).mono ?_
  rintro _ h7 t7 hd7 ht7 ⟨rfl, hs7⟩
  conv => whnf
  refine ⟨hs4.trans (hs5.trans (hs6.trans hs7)), ?_⟩
  conv => whnf
  refine (node_spec _ _ (nd_le _ (by decide) _ _) (hsz 2) _ _).mono ?_
  rintro _ h8 t8 hd8 ht8 ⟨rfl, hs8⟩
  conv => whnf
  refine ⟨hs4.trans (hs5.trans (hs6.trans (hs7.trans hs8))), ?_⟩
  have hL3 : listL ByteArray.empty 3 = [lel ByteArray.empty 0, lel ByteArray.empty 1, lel ByteArray.empty 2] := rfl
  have o2 : Own h2 9 a2 m2 c2 Value.string (inc ndB emB (listL ByteArray.empty 3) 2) := o2
  rw [hL3, inc3] at o2
  conv => whnf
  rw [hL3, rt3]
  refine br_t rfl ?_
  have hm2 : 1 = m2 := o2.1
  subst hm2
  have s8 := (s6.sub hs7).sub hs8
  have s9 := s3
  have hs28 := hs4.trans (hs5.trans (hs6.trans (hs7.trans hs8)))
  conv => whnf
  repeat (first | ((with_reducible apply Go.Vc.sl_ix); (focus with_reducible assumption); (focus exact And.intro (by omega) (by omega)); intro xI bI offI hxI hcI; conv => whnf) | ((with_reducible apply Go.Vc.cell_i); (focus assumption); conv => whnf) | (refine Go.Vc.br_t ?_ ?_; (focus omega); conv => whnf))
  have e : lel ByteArray.empty 2 = xI := Option.some.inj hxI
  clear hxI
  subst e
  refine (root_spec s8 (by decide) hx1).mono ?_
  rintro _ h10 t10 hd10 ht10 ⟨rfl, hs10⟩
  conv => whnf
  refine ⟨hs28.trans hs10, ?_⟩
  conv => whnf
  refine (included_spec _ 3 2 (by decide) (by decide) _ (hsz 2) (o2.sl.sub (hs28.trans hs10)) (by decide) (fun x hx => ?_)).mono ?_
  · rw [List.mem_singleton.1 hx]; exact nd_le _ (by decide) _ _
  rintro _ h11 t11 hd11 ht11 ⟨rfl, hs11⟩
  conv => whnf
  refine ⟨?_, hs1.trans (hs2.trans (hs28.trans (hs10.trans hs11)))⟩
  have := incd_true (l := [lel ByteArray.empty 0, lel ByteArray.empty 1, lel ByteArray.empty 2]) (i := 2) (by simp)
  rw [inc3] at this
  exact congrArg Value.bool this
end Go.Proofs.Ytmlcdkckedjdjaa
