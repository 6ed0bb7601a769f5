/- BucketNews answers true, by its contract. -/
import Derived.Test.YtjolbngckdfelaaBucket7
namespace Go.Proofs.Ytjolbngckdfelaa
open Go Go.Vc
set_option maxRecDepth 10000
set_option linter.unusedVariables false

theorem isNamed_no : isNamed ⟨#[]⟩ = false := rfl
theorem callR_no (s : BS) (act : BS → Int × BS) : callR s false act = (1, s.next) := rfl
theorem cut_range (s : ByteArray) (n : Nat) {m : Nat} (hm : (if (n : Int) < (s.size : Int) then (n : Int) else (s.size : Int)).toNat = m) : m ≤ n ∧ m ≤ s.size := by split at hm <;> omega
/-- What lies at the one name: nothing, or what the first one brought. -/
def dOf (name : ByteArray) : Option ByteArray → List (ByteArray × ByteArray)
  | none => []
  | some v => [(name, v)]
theorem aGet_dOf (name : ByteArray) (o : Option ByteArray) : aGet (dOf name o) name = o := by
  cases o <;> simp [dOf, aGet]
theorem aPut_none (name x : ByteArray) : aPut (dOf name none) name x = dOf name (some x) := by simp [dOf, aPut]
theorem new_cases (name x : ByteArray) (s : BS) (o : Option ByteArray) (hs : s.D = dOf name o) (hn : isNamed name = true) :
    ∃ (e : Int) (s' : BS) (o' : Option ByteArray), callR s (isNamed name) (putNewR name x) = (e, s') ∧ s'.D = dOf name o' ∧
      ((o' = some x ∧ o = none ∧ (e = 0 ∨ e = 7)) ∨ (o' = o ∧ e = 7) ∨ (o' = o ∧ o.isSome = true ∧ e = 5)) := by
  rw [hn]
  unfold callR
  rw [if_neg (by simp)]
  have hD : s.next.D = dOf name o := hs
  by_cases h1 : fateOf s.fs = 1
  · rw [if_pos h1]; exact ⟨7, _, o, rfl, hD, .inr (.inl ⟨rfl, rfl⟩)⟩
  · rw [if_neg h1]
    cases o with
    | none =>
      have hp : putNewR name x s.next = (0, { s.next with D := dOf name (some x) }) := by
        unfold putNewR; rw [hD, aGet_dOf, aPut_none]; rfl
      rw [hp]
      split
      · exact ⟨0, _, some x, rfl, rfl, .inl ⟨rfl, rfl, .inl rfl⟩⟩
      · exact ⟨7, _, some x, rfl, rfl, .inl ⟨rfl, rfl, .inr rfl⟩⟩
    | some v =>
      have hp : putNewR name x s.next = (5, s.next) := by
        unfold putNewR; rw [hD, aGet_dOf]; rfl
      rw [hp]
      split
      · exact ⟨5, _, some v, rfl, hD, .inr (.inr ⟨rfl, rfl, rfl⟩)⟩
      · exact ⟨7, _, some v, rfl, hD, .inr (.inl ⟨rfl, rfl⟩)⟩
theorem BucketNews_spec (h : Heap) (t : Nat) (a0 : Option Addr) (n0 c0 : Nat) (l0 : List ByteArray) (s0 : Sl h a0 n0 Value.string l0) (hn0 : n0 ≤ 1048576) (hc0 : n0 ≤ c0) (hb0 : ∀ s ∈ l0, s.size ≤ 1048576)
    (a1 : Option Addr) (n1 c1 : Nat) (l1 : List Int) (s1 : Sl h a1 n1 (Value.int .i64) l1) (hn1 : n1 ≤ 1048576) (hc1 : n1 ≤ c1) (hb1 : ∀ z ∈ l1, IntKind.min .i64 ≤ z ∧ z ≤ IntKind.max .i64) (nm : ByteArray) (hnm : nm.size ≤ 1048576) :
    CallSpec Try.prog 5 #[.slice a0 n0 c0, .slice a1 n1 c1, .string nm] h t (fun v h' _ => v = .bool true ∧ Vc.Sub h h') := by
  refine Go.Vc.spec_of_vc (fn := Try.f5) Try.func5 rfl (by kernel_rfl) (by kernel_rfl) (Nat.le_of_ble_eq_true rfl) ?_
  intro hd
  conv => whnf
  refine (examples_spec h t).mono ?_
  rintro _ _ t1 hd1 ht1 ⟨rfl, rfl⟩
  conv => whnf
  refine (new_spec _ t1).mono ?_
  rintro _ h2 t2 hd2 ht2 ⟨b, m, rfl, hb, hm, hbt, hmt, B2, hs2⟩
  conv => whnf
  repeat (first | ((with_reducible refine And.intro (And.intro ?_ ?_) ?_); (focus omega); (focus omega); conv => whnf))
  generalize hk : (if (100 : Int) < (nm.size : Int) then (100 : Int) else (nm.size : Int)).toNat = k
  have hk1 := cut_range nm 100 hk
  have hcs : (nm.extract 0 k).size ≤ 100 := by rw [ByteArray.size_extract]; omega
  generalize nm.extract 0 k = name at *
  conv => whnf
  refine br (fun hb2 => ?_) (fun hb2 => ?_)
  · have e : name = ⟨#[]⟩ := hb2
    subst e
    conv => whnf
    refine (put_spec B2 ⟨#[]⟩ ⟨#[120]⟩).mono ?_
    rintro _ h3 t3 hd3 ht3 ⟨hv, B3, f3⟩
    rw [isNamed_no, callR_no] at hv B3
    subst hv
    conv => whnf
    repeat (first | (refine Go.Vc.br_t ?_ ?_; (focus omega); conv => whnf))
    refine (putNew_spec B3 ⟨#[]⟩ ⟨#[120]⟩).mono ?_
    rintro _ h4 t4 hd4 ht4 ⟨hv, B4, f4⟩
    rw [isNamed_no, callR_no] at hv B4
    subst hv
    conv => whnf
    refine ⟨by rw [opq_eq]; rfl, ?_⟩
    intro q o ho
    have := hd q o ho
    exact f4 q o (by omega) (by omega) (f3 q o (by omega) (by omega) (hs2 q o ho))
  have hnamed : isNamed name = true := by
    unfold isNamed; rw [decide_eq_true]; exact ⟨hb2, hcs⟩
  conv => whnf
  refine (fates_spec (l := l1) B2 (s1.sub hs2) (by simp; omega)).mono ?_
  rintro _ h3 t3 hd3 ht3 ⟨rfl, d, B3, f3, _⟩
  conv => whnf
  refine loop_intro4 (fun (i : Nat) (s : BS) (o : Option ByteArray) (fst : ByteArray) => [(0, .slice a0 n0 c0), (2, .string name), (7, .bool true), (8, .pointer (some ⟨b, 0, none⟩)), (9, .string fst), (10, .bool o.isSome), (11, .int .i64 (i : Nat))])
    (fun i s o fst h' t' => i ≤ n0 ∧ i ≤ 20 ∧ t3 ≤ t' ∧ Bkt h' b m d s ∧ s.D = dOf name o ∧ (∀ v, o = some v → fst = v) ∧ FrB b m h2 h') (fun i _ _ _ => 20 - i) 0 _ none ByteArray.empty ⟨rfl, rfl, rfl, rfl, rfl, rfl, rfl, trivial⟩ ⟨by omega, by omega, by omega, B3, rfl, (fun v hv => by cases hv), f3⟩ ?_
  rintro i s o fst g h4 t4 hd4 ⟨hi, hi20, ht4, B4, hD4, hf4, f4⟩
  have hsub : Vc.Sub h h4 := by
    intro q o ho
    have := hd q o ho
    exact f4 q o (by omega) (by omega) (hs2 q o ho)
  have s4 := s0.sub hsub
  conv => whnf
  refine br (fun hb3 => ?_) (fun hb3 => ?_)
  · conv => whnf
    refine br (fun hb4 => ?_) (fun hb4 => ?_)
    · conv => whnf
      repeat (first | ((with_reducible apply Go.Vc.sl_ix); (focus with_reducible assumption); (focus exact And.intro (by omega) (by omega)); intro xI bI offI hxI hcI; conv => whnf) | ((with_reducible apply Go.Vc.cell_i); (focus assumption); conv => whnf))
      obtain ⟨y, hy⟩ : ∃ y, l0[i]? = some y := ⟨l0[i]'(by rw [s0.1]; omega), List.getElem?_eq_getElem _⟩
      have e : y = xI := by rw [Int.toNat_natCast] at hxI; exact Option.some.inj (hy.symm.trans hxI)
      subst e
      clear hxI
      refine (putNew_spec B4 name y).mono ?_
      obtain ⟨e, s', o', hc, hD', hcase⟩ := new_cases name y s o hD4 hnamed
      rintro _ h5 t5 hd5 ht5 ⟨rfl, B5, f5⟩
      rw [hc] at B5 ⊢
      have f5' := f4.trans f5
      have hsub5 : Vc.Sub h h5 := by
        intro q o ho
        have := hd q o ho
        exact f5' q o (by omega) (by omega) (hs2 q o ho)
      have s5 := s0.sub hsub5
      conv => whnf
      refine (peek_spec B5 name).mono ?_
      rintro _ _ _ _ _ ⟨rfl, rfl, rfl⟩
      rw [hD', aGet_dOf]
      have hgo : ∀ (fst' : ByteArray), (∀ v, o' = some v → fst' = v) → True := fun _ _ => trivial
      rcases hcase with ⟨rfl, rfl, he⟩ | ⟨rfl, rfl⟩ | ⟨rfl, ho, rfl⟩
      · rcases he with rfl | rfl
        · conv => whnf
          repeat (first | ((with_reducible apply Go.Vc.sl_ix); (focus with_reducible assumption); (focus exact And.intro (by omega) (by omega)); intro xI bI offI hxI hcI; conv => whnf) | ((with_reducible apply Go.Vc.cell_i); (focus assumption); conv => whnf) | (refine Go.Vc.br_t ?_ ?_; (focus omega); conv => whnf))
          have e : y = xI := Option.some.inj (hy.symm.trans (by rw [Int.toNat_natCast] at hxI; exact hxI))
          subst e
          clear hxI
          refine br_f (fun h => h rfl) ?_
          conv => whnf
          repeat (first | ((with_reducible apply Go.Vc.sl_ix); (focus with_reducible assumption); (focus exact And.intro (by omega) (by omega)); intro xI bI offI hxI hcI; conv => whnf) | ((with_reducible apply Go.Vc.cell_i); (focus assumption); conv => whnf) | (refine Go.Vc.br_f ?_ ?_; (focus omega); conv => whnf))
          have e : y = xI := Option.some.inj (hy.symm.trans (by rw [Int.toNat_natCast] at hxI; exact hxI))
          subst e
          clear hxI
          refine br_f (fun h => h rfl) ?_
          conv => whnf
          repeat (first | ((with_reducible apply Go.Vc.wr_i64); (focus exact And.intro (by omega) (by omega)); conv => whnf))
          refine round_end4 (i + 1) s' (some y) y (by omega) ⟨rfl, rfl, rfl, rfl, rfl, rfl, rfl, trivial⟩ ⟨by omega, by omega, by omega, B5, hD', (fun v hv => Option.some.inj hv), f5'⟩
        · conv => whnf
          repeat (first | ((with_reducible apply Go.Vc.sl_ix); (focus with_reducible assumption); (focus exact And.intro (by omega) (by omega)); intro xI bI offI hxI hcI; conv => whnf) | ((with_reducible apply Go.Vc.cell_i); (focus assumption); conv => whnf) | (refine Go.Vc.br_f ?_ ?_; (focus omega); conv => whnf))
          have e : y = xI := Option.some.inj (hy.symm.trans (by rw [Int.toNat_natCast] at hxI; exact hxI))
          subst e
          clear hxI
          refine br_f (fun h => h rfl) ?_
          conv => whnf
          repeat (first | ((with_reducible apply Go.Vc.wr_i64); (focus exact And.intro (by omega) (by omega)); conv => whnf))
          refine round_end4 (i + 1) s' (some y) y (by omega) ⟨rfl, rfl, rfl, rfl, rfl, rfl, rfl, trivial⟩ ⟨by omega, by omega, by omega, B5, hD', (fun v hv => Option.some.inj hv), f5'⟩
      · cases o' with
        | none =>
          conv => whnf
          repeat (first | ((with_reducible apply Go.Vc.wr_i64); (focus exact And.intro (by omega) (by omega)); conv => whnf) | (refine Go.Vc.br_f ?_ ?_; (focus omega); conv => whnf))
          refine round_end4 (i + 1) s' _ fst (by omega) ⟨rfl, rfl, rfl, rfl, rfl, rfl, rfl, trivial⟩ ⟨by omega, by omega, by omega, B5, hD', hf4, f5'⟩
        | some v =>
          have ev := hf4 v rfl
          subst ev
          conv => whnf
          repeat (first | (refine Go.Vc.br_f ?_ ?_; (focus omega); conv => whnf))
          refine br_f (fun h => h rfl) ?_
          conv => whnf
          repeat (first | ((with_reducible apply Go.Vc.wr_i64); (focus exact And.intro (by omega) (by omega)); conv => whnf))
          refine round_end4 (i + 1) s' _ fst (by omega) ⟨rfl, rfl, rfl, rfl, rfl, rfl, rfl, trivial⟩ ⟨by omega, by omega, by omega, B5, hD', hf4, f5'⟩
      · cases o' with
        | none => cases ho
        | some v =>
          have ev := hf4 v rfl
          subst ev
          conv => whnf
          repeat (first | (refine Go.Vc.br_t ?_ ?_; (focus omega); conv => whnf) | (refine Go.Vc.br_f ?_ ?_; (focus omega); conv => whnf))
          refine br_f (fun h => h rfl) ?_
          conv => whnf
          repeat (first | ((with_reducible apply Go.Vc.wr_i64); (focus exact And.intro (by omega) (by omega)); conv => whnf))
          refine round_end4 (i + 1) s' _ fst (by omega) ⟨rfl, rfl, rfl, rfl, rfl, rfl, rfl, trivial⟩ ⟨by omega, by omega, by omega, B5, hD', hf4, f5'⟩
    · conv => whnf
      refine (names_spec B4 (by rw [hD4]; cases o <;> simp [dOf])).mono ?_
      rintro _ h5 t5 hd5 ht5 ⟨a5, c5, rfl, o5, hw5, hs5⟩
      conv => whnf
      have hlen : s.D.length ≤ 1 := by rw [hD4]; cases o <;> simp [dOf]
      refine ⟨by rw [opq_eq, decide_eq_true (by omega)], hsub.trans hs5⟩
  · conv => whnf
    refine (names_spec B4 (by rw [hD4]; cases o <;> simp [dOf])).mono ?_
    rintro _ h5 t5 hd5 ht5 ⟨a5, c5, rfl, o5, hw5, hs5⟩
    conv => whnf
    have hlen : s.D.length ≤ 1 := by rw [hD4]; cases o <;> simp [dOf]
    refine ⟨by rw [opq_eq, decide_eq_true (by omega)], hsub.trans hs5⟩
end Go.Proofs.Ytjolbngckdfelaa
