/- BucketFates answers true, by its contract. -/
import Derived.Test.YtjolbngckdfelaaBucket4
namespace Go.Proofs.Ytjolbngckdfelaa
open Go Go.Vc
set_option maxRecDepth 10000
set_option linter.unusedVariables false

theorem Bkt.fr {h h' : Heap} {b m b' m' : Nat} {d : Option Nat} {s : BS} (B : Bkt h b m d s) (f : FrB b' m' h h') (h1 : b ≠ b') (h2 : b ≠ m') (h3 : m ≠ b') (h4 : m ≠ m') (h5 : ∀ k, d = some k → k ≠ b' ∧ k ≠ m') : Bkt h' b m d s := by
  refine B.keep (fun k hk o ho => ?_)
  rcases hk with rfl | rfl | hk
  · exact f _ o h1 h2 ho
  · exact f _ o h3 h4 ho
  · exact f _ o (h5 k hk).1 (h5 k hk).2 ho
def nm (j : Nat) : ByteArray := ⟨#[110, UInt8.ofNat j]⟩
theorem nm_inj {i j : Nat} (hi : i < 20) (hj : j < 20) (h : nm i = nm j) : i = j := by
  have h1 : (nm i).data = (nm j).data := by rw [h]
  simp only [nm, Array.mk.injEq, List.cons.injEq, true_and, and_true] at h1
  have h2 := congrArg UInt8.toNat h1
  simp at h2
  omega

theorem nm_named (i : Nat) : isNamed (nm i) = true := by
  refine decide_eq_true ⟨fun e => ?_, ?_⟩
  · have h1 : (nm i).data = #[] := by rw [e]
    simp [nm] at h1
  · show 2 ≤ 100
    decide
theorem put_cases (s : BS) (k v : ByteArray) : callR s true (putR k v) = ((if fateOf s.fs = 0 then 0 else 7), (if fateOf s.fs = 1 then s.next else { s.next with D := aPut s.D k v })) := by
  simp only [callR, putR, BS.next, Bool.true_eq_false, if_false]
  by_cases h1 : fateOf s.fs = 1
  · simp [h1]
  · by_cases h0 : fateOf s.fs = 0
    · simp [h0]
    · simp [h1, h0]

theorem BucketFates_spec (h : Heap) (t : Nat) (a0 : Option Addr) (n0 c0 : Nat) (l0 : List Int) (s0 : Sl h a0 n0 (Value.int .i64) l0) (hn0 : n0 ≤ 1048576) (hc0 : n0 ≤ c0) (hb0 : ∀ z ∈ l0, IntKind.min .i64 ≤ z ∧ z ≤ IntKind.max .i64) (x : Int) (hx : IntKind.min .u8 ≤ x ∧ x ≤ IntKind.max .u8) :
    CallSpec Try.prog 4 #[.slice a0 n0 c0, .int .u8 x] h t (fun v h' _ => v = .bool true ∧ Sub h h') := by
  refine Go.Vc.spec_of_vc (fn := Try.f4) Try.func4 rfl (by kernel_rfl) (by kernel_rfl) (Nat.le_of_ble_eq_true rfl) ?_
  intro hd
  conv => whnf
  refine (examples_spec h t).mono ?_
  rintro _ _ t1 hd1 ht1 ⟨rfl, rfl⟩
  conv => whnf
  repeat (first | ((with_reducible apply Go.Vc.sl_ix); (focus with_reducible assumption); (focus exact And.intro (by omega) (by omega)); intro xI bI offI hxI hcI; conv => whnf) | ((with_reducible refine And.intro (And.intro ?_ ?_) ?_); (focus omega); (focus omega); conv => whnf) | ((with_reducible refine And.intro (And.intro ?_ (And.intro ?_ ?_)) ?_); (focus omega); (focus omega); (focus omega); conv => whnf) | ((with_reducible apply Go.Vc.ld_i); (focus ((repeat (first | with_reducible assumption | with_reducible exact Go.Vc.hset_same _ _ _ | with_reducible refine (Go.Vc.hset_ne _ _ (by omega)).trans ?_)); done)); (focus exact rfl); conv => whnf) | ((with_reducible apply Go.Vc.st_i); (focus ((repeat (first | with_reducible assumption | with_reducible exact Go.Vc.hset_same _ _ _ | with_reducible refine (Go.Vc.hset_ne _ _ (by omega)).trans ?_)); done)); (focus exact rfl); (focus exact rfl); (focus exact rfl); (focus exact rfl); conv => whnf) | ((with_reducible apply Go.Vc.cell_i); (focus assumption); conv => whnf) | (intro _ _; conv => whnf) | (refine Go.Vc.br_t ?_ ?_; (focus omega); conv => whnf) | (refine Go.Vc.br_f ?_ ?_; (focus omega); conv => whnf) | (refine Go.Vc.brn_t ?_ ?_; (focus omega); conv => whnf) | (refine Go.Vc.brn_f ?_ ?_; (focus omega); conv => whnf) | ((with_reducible refine And.intro ?_ ?_); (focus omega); conv => whnf) | ((with_reducible refine And.intro ?_ (And.intro ?_ ?_)); (focus exact rfl); (focus omega); conv => whnf))
  generalize hm : (if (20 : Int) < (n0 : Int) then (20 : Int) else (n0 : Int)).toNat = m
  generalize hk : (if (m : Int) < IntKind.i64.wrap (x.tmod 21) then (m : Int) else IntKind.i64.wrap (x.tmod 21)) = k
  have hm20 : m ≤ 20 ∧ m ≤ n0 := by split at hm <;> omega
  have hx0 : 0 ≤ x ∧ x ≤ 255 := hx
  have hx1 : IntKind.i64.wrap (x.tmod 21) = x % 21 := by rw [Int.tmod_eq_emod_of_nonneg hx0.1]; exact wi (by omega) (by omega)
  have hk0 : 0 ≤ k ∧ k ≤ m := by rw [hx1] at hk; split at hk <;> omega
  refine (new_spec _ t1).mono ?_
  rintro _ h2 t2 hd2 ht2 ⟨b, q, rfl, hb, hq, hbt, hqt, A2, hs2⟩
  conv => whnf
  repeat (first | ((with_reducible apply Go.Vc.sl_ix); (focus with_reducible assumption); (focus exact And.intro (by omega) (by omega)); intro xI bI offI hxI hcI; conv => whnf) | ((with_reducible refine And.intro (And.intro ?_ ?_) ?_); (focus omega); (focus omega); conv => whnf) | ((with_reducible refine And.intro (And.intro ?_ (And.intro ?_ ?_)) ?_); (focus omega); (focus omega); (focus omega); conv => whnf) | ((with_reducible apply Go.Vc.ld_i); (focus ((repeat (first | with_reducible assumption | with_reducible exact Go.Vc.hset_same _ _ _ | with_reducible refine (Go.Vc.hset_ne _ _ (by omega)).trans ?_)); done)); (focus exact rfl); conv => whnf) | ((with_reducible apply Go.Vc.st_i); (focus ((repeat (first | with_reducible assumption | with_reducible exact Go.Vc.hset_same _ _ _ | with_reducible refine (Go.Vc.hset_ne _ _ (by omega)).trans ?_)); done)); (focus exact rfl); (focus exact rfl); (focus exact rfl); (focus exact rfl); conv => whnf) | ((with_reducible apply Go.Vc.cell_i); (focus assumption); conv => whnf) | (intro _ _; conv => whnf) | (refine Go.Vc.br_t ?_ ?_; (focus omega); conv => whnf) | (refine Go.Vc.br_f ?_ ?_; (focus omega); conv => whnf) | (refine Go.Vc.brn_t ?_ ?_; (focus omega); conv => whnf) | (refine Go.Vc.brn_f ?_ ?_; (focus omega); conv => whnf) | ((with_reducible refine And.intro ?_ ?_); (focus omega); conv => whnf) | ((with_reducible refine And.intro ?_ (And.intro ?_ ?_)); (focus exact rfl); (focus omega); conv => whnf))
  refine (new_spec _ t2).mono ?_
  rintro _ h3 t3 hd3 ht3 ⟨b', q', rfl, hb', hq', hbt', hqt', B3, hs3⟩
  have A3 := A2.sub hs3
  have sl3 := ((s0.sub hs2).sub hs3).take hm20.2
  conv => whnf
  repeat (first | ((with_reducible apply Go.Vc.sl_ix); (focus with_reducible assumption); (focus exact And.intro (by omega) (by omega)); intro xI bI offI hxI hcI; conv => whnf) | ((with_reducible refine And.intro (And.intro ?_ ?_) ?_); (focus omega); (focus omega); conv => whnf) | ((with_reducible refine And.intro (And.intro ?_ (And.intro ?_ ?_)) ?_); (focus omega); (focus omega); (focus omega); conv => whnf) | ((with_reducible apply Go.Vc.ld_i); (focus ((repeat (first | with_reducible assumption | with_reducible exact Go.Vc.hset_same _ _ _ | with_reducible refine (Go.Vc.hset_ne _ _ (by omega)).trans ?_)); done)); (focus exact rfl); conv => whnf) | ((with_reducible apply Go.Vc.st_i); (focus ((repeat (first | with_reducible assumption | with_reducible exact Go.Vc.hset_same _ _ _ | with_reducible refine (Go.Vc.hset_ne _ _ (by omega)).trans ?_)); done)); (focus exact rfl); (focus exact rfl); (focus exact rfl); (focus exact rfl); conv => whnf) | ((with_reducible apply Go.Vc.cell_i); (focus assumption); conv => whnf) | (intro _ _; conv => whnf) | (refine Go.Vc.br_t ?_ ?_; (focus omega); conv => whnf) | (refine Go.Vc.br_f ?_ ?_; (focus omega); conv => whnf) | (refine Go.Vc.brn_t ?_ ?_; (focus omega); conv => whnf) | (refine Go.Vc.brn_f ?_ ?_; (focus omega); conv => whnf) | ((with_reducible refine And.intro ?_ ?_); (focus omega); conv => whnf) | ((with_reducible refine And.intro ?_ (And.intro ?_ ?_)); (focus exact rfl); (focus omega); conv => whnf))
  refine (fates_spec (l := l0.take m) A3 sl3 (by simp; omega)).mono ?_
  rintro _ h4 t4 hd4 ht4 ⟨rfl, da, A4, f4, fr4⟩
  have hsub4 : Sub h h4 := by
    intro k o ho
    have := hd k o ho
    exact f4 k o (by omega) (by omega) (hs3 k o (hs2 k o ho))
  have B4 := B3.fr f4 (by omega) (by omega) (by omega) (by omega) (fun k e => by cases e)
  conv => whnf
  repeat (first | ((with_reducible apply Go.Vc.sl_ix); (focus with_reducible assumption); (focus exact And.intro (by omega) (by omega)); intro xI bI offI hxI hcI; conv => whnf) | ((with_reducible refine And.intro (And.intro ?_ ?_) ?_); (focus omega); (focus omega); conv => whnf) | ((with_reducible refine And.intro (And.intro ?_ (And.intro ?_ ?_)) ?_); (focus omega); (focus omega); (focus omega); conv => whnf) | ((with_reducible apply Go.Vc.ld_i); (focus ((repeat (first | with_reducible assumption | with_reducible exact Go.Vc.hset_same _ _ _ | with_reducible refine (Go.Vc.hset_ne _ _ (by omega)).trans ?_)); done)); (focus exact rfl); conv => whnf) | ((with_reducible apply Go.Vc.st_i); (focus ((repeat (first | with_reducible assumption | with_reducible exact Go.Vc.hset_same _ _ _ | with_reducible refine (Go.Vc.hset_ne _ _ (by omega)).trans ?_)); done)); (focus exact rfl); (focus exact rfl); (focus exact rfl); (focus exact rfl); conv => whnf) | ((with_reducible apply Go.Vc.cell_i); (focus assumption); conv => whnf) | (intro _ _; conv => whnf) | (refine Go.Vc.br_t ?_ ?_; (focus omega); conv => whnf) | (refine Go.Vc.br_f ?_ ?_; (focus omega); conv => whnf) | (refine Go.Vc.brn_t ?_ ?_; (focus omega); conv => whnf) | (refine Go.Vc.brn_f ?_ ?_; (focus omega); conv => whnf) | ((with_reducible refine And.intro ?_ ?_); (focus omega); conv => whnf) | ((with_reducible refine And.intro ?_ (And.intro ?_ ?_)); (focus exact rfl); (focus omega); conv => whnf))
  refine (fates_spec (l := l0.take k.toNat) B4 ((s0.sub hsub4).take (by omega)) (by simp; omega)).mono ?_
  rintro _ h5 t5 hd5 ht5 ⟨rfl, db, B5, f5, fr5⟩
  have hsub5 : Sub h h5 := by
    intro k o ho
    have := hd k o ho
    exact f5 k o (by omega) (by omega) (hsub4 k o ho)
  have A5 := A4.fr f5 (by omega) (by omega) (by omega) (by omega) (fun k e => by have := fr4 k e; omega)
  have sl5 := (s0.sub hsub5).take hm20.2
  conv => whnf
  repeat (first | ((with_reducible apply Go.Vc.sl_ix); (focus with_reducible assumption); (focus exact And.intro (by omega) (by omega)); intro xI bI offI hxI hcI; conv => whnf) | ((with_reducible refine And.intro (And.intro ?_ ?_) ?_); (focus omega); (focus omega); conv => whnf) | ((with_reducible refine And.intro (And.intro ?_ (And.intro ?_ ?_)) ?_); (focus omega); (focus omega); (focus omega); conv => whnf) | ((with_reducible apply Go.Vc.ld_i); (focus ((repeat (first | with_reducible assumption | with_reducible exact Go.Vc.hset_same _ _ _ | with_reducible refine (Go.Vc.hset_ne _ _ (by omega)).trans ?_)); done)); (focus exact rfl); conv => whnf) | ((with_reducible apply Go.Vc.st_i); (focus ((repeat (first | with_reducible assumption | with_reducible exact Go.Vc.hset_same _ _ _ | with_reducible refine (Go.Vc.hset_ne _ _ (by omega)).trans ?_)); done)); (focus exact rfl); (focus exact rfl); (focus exact rfl); (focus exact rfl); conv => whnf) | ((with_reducible apply Go.Vc.cell_i); (focus assumption); conv => whnf) | (intro _ _; conv => whnf) | (refine Go.Vc.br_t ?_ ?_; (focus omega); conv => whnf) | (refine Go.Vc.br_f ?_ ?_; (focus omega); conv => whnf) | (refine Go.Vc.brn_t ?_ ?_; (focus omega); conv => whnf) | (refine Go.Vc.brn_f ?_ ?_; (focus omega); conv => whnf) | ((with_reducible refine And.intro ?_ ?_); (focus omega); conv => whnf) | ((with_reducible refine And.intro ?_ (And.intro ?_ ?_)); (focus exact rfl); (focus omega); conv => whnf))
  rename_i a' ha'
  refine (fates_spec (l := (l0.take m).drop k.toNat) B5 (sl5.drop (by omega) (by omega) ha') (by simp; omega)).mono ?_
  rintro _ h6 t6 hd6 ht6 ⟨rfl, db, B6, f6, fr6⟩
  have hsub6 : Sub h h6 := by
    intro k o ho
    have := hd k o ho
    exact f6 k o (by omega) (by omega) (hsub5 k o ho)
  have A6 := A5.fr f6 (by omega) (by omega) (by omega) (by omega) (fun k e => by have := fr4 k e; omega)
  have hfs : ([] ++ l0.take k.toNat) ++ (l0.take m).drop k.toNat = l0.take m := by
    rw [List.nil_append]
    have : l0.take k.toNat = (l0.take m).take k.toNat := by rw [List.take_take, Nat.min_eq_left (by omega)]
    rw [this, List.take_append_drop]
  rw [show ([] : List Int) ++ l0.take m = l0.take m from rfl] at A6
  simp only [hfs] at B6
  have ll : (l0.take m).length = m := by rw [List.length_take, s0.1]; omega
  generalize hL : l0.take m = L at *
  conv => whnf
  refine loop_intro2 (fun (i : Nat) (s : BS) => [(0, .slice a0 m c0), (5, .bool true), (7, .pointer (some ⟨b, 0, none⟩)), (8, .pointer (some ⟨b', 0, none⟩)), (9, .int .i64 (i : Nat))])
    (fun i s h' t' => i ≤ m ∧ t6 ≤ t' ∧ Bkt h' b q da s ∧ Bkt h' b' q' db s ∧ Sub h h' ∧ s.fs = L.drop i ∧ ∀ j, i ≤ j → j < 20 → aGet s.D (nm j) = none) (fun i _ => 20 - i) 0 _ ⟨rfl, rfl, rfl, rfl, rfl, trivial⟩ ⟨by omega, by omega, A6, B6, hsub6, rfl, fun _ _ _ => rfl⟩ ?_
  rintro i s g h7 t7 hd7 ⟨hi, ht7, A7, B7, hsub7, hfs7, hno⟩
  have sl7 := (s0.sub hsub7).take hm20.2
  rw [hL] at sl7
  conv => whnf
  refine br (fun hb1 => ?_) (fun hb1 => ?_)
  · have hlt : i < m := by omega
    conv => whnf
    repeat (first | ((with_reducible apply Go.Vc.sl_ix); (focus with_reducible assumption); (focus exact And.intro (by omega) (by omega)); intro xI bI offI hxI hcI; conv => whnf) | ((with_reducible refine And.intro (And.intro ?_ ?_) ?_); (focus omega); (focus omega); conv => whnf) | ((with_reducible refine And.intro (And.intro ?_ (And.intro ?_ ?_)) ?_); (focus omega); (focus omega); (focus omega); conv => whnf) | ((with_reducible apply Go.Vc.ld_i); (focus ((repeat (first | with_reducible assumption | with_reducible exact Go.Vc.hset_same _ _ _ | with_reducible refine (Go.Vc.hset_ne _ _ (by omega)).trans ?_)); done)); (focus exact rfl); conv => whnf) | ((with_reducible apply Go.Vc.st_i); (focus ((repeat (first | with_reducible assumption | with_reducible exact Go.Vc.hset_same _ _ _ | with_reducible refine (Go.Vc.hset_ne _ _ (by omega)).trans ?_)); done)); (focus exact rfl); (focus exact rfl); (focus exact rfl); (focus exact rfl); conv => whnf) | ((with_reducible apply Go.Vc.cell_i); (focus assumption); conv => whnf) | (intro _ _; conv => whnf) | (refine Go.Vc.br_t ?_ ?_; (focus omega); conv => whnf) | (refine Go.Vc.br_f ?_ ?_; (focus omega); conv => whnf) | (refine Go.Vc.brn_t ?_ ?_; (focus omega); conv => whnf) | (refine Go.Vc.brn_f ?_ ?_; (focus omega); conv => whnf) | ((with_reducible refine And.intro ?_ ?_); (focus omega); conv => whnf) | ((with_reducible refine And.intro ?_ (And.intro ?_ ?_)); (focus exact rfl); (focus omega); conv => whnf))
    obtain ⟨z, rfl⟩ : ∃ z, z = xI := ⟨xI, rfl⟩
    have hz : L[i]? = some z := hxI
    clear hxI
    have hdrop : L.drop i = z :: L.drop (i + 1) := by
      rw [List.getElem?_eq_some_iff] at hz
      obtain ⟨h1, h2⟩ := hz
      rw [← h2]; exact List.drop_eq_getElem_cons h1
    refine br (fun hb2 => ?_) (fun hb2 => ?_)
    all_goals
      conv => whnf
      repeat (first | ((with_reducible apply Go.Vc.sl_ix); (focus with_reducible assumption); (focus exact And.intro (by omega) (by omega)); intro xI bI offI hxI hcI; conv => whnf) | ((with_reducible refine And.intro (And.intro ?_ ?_) ?_); (focus omega); (focus omega); conv => whnf) | ((with_reducible refine And.intro (And.intro ?_ (And.intro ?_ ?_)) ?_); (focus omega); (focus omega); (focus omega); conv => whnf) | ((with_reducible apply Go.Vc.ld_i); (focus ((repeat (first | with_reducible assumption | with_reducible exact Go.Vc.hset_same _ _ _ | with_reducible refine (Go.Vc.hset_ne _ _ (by omega)).trans ?_)); done)); (focus exact rfl); conv => whnf) | ((with_reducible apply Go.Vc.st_i); (focus ((repeat (first | with_reducible assumption | with_reducible exact Go.Vc.hset_same _ _ _ | with_reducible refine (Go.Vc.hset_ne _ _ (by omega)).trans ?_)); done)); (focus exact rfl); (focus exact rfl); (focus exact rfl); (focus exact rfl); conv => whnf) | ((with_reducible apply Go.Vc.cell_i); (focus assumption); conv => whnf) | (intro _ _; conv => whnf) | (refine Go.Vc.br_t ?_ ?_; (focus omega); conv => whnf) | (refine Go.Vc.br_f ?_ ?_; (focus omega); conv => whnf) | (refine Go.Vc.brn_t ?_ ?_; (focus omega); conv => whnf) | (refine Go.Vc.brn_f ?_ ?_; (focus omega); conv => whnf) | ((with_reducible refine And.intro ?_ ?_); (focus omega); conv => whnf) | ((with_reducible refine And.intro ?_ (And.intro ?_ ?_)); (focus exact rfl); (focus omega); conv => whnf))
      rename_i r hr
      try (have e : z = xI := Option.some.inj (hz.symm.trans hxI); subst e)
      have hs8 := hd7.sub_new hr (.cells #[Value.int IntKind.u8 (IntKind.u8.wrap (i : Int))] 5)
      have hd8 := hd7.set r (.cells #[Value.int IntKind.u8 (IntKind.u8.wrap (i : Int))] 5) (r + 1) (by omega) (by omega)
      refine Go.Vc.readB1 (by (repeat (first | with_reducible assumption | with_reducible exact Go.Vc.hset_same _ _ _ | with_reducible refine (Go.Vc.hset_ne _ _ (by omega)).trans ?_)); done) (Go.Vc.wu8_range _) ?_
      intro l hl
      have hnm : (⟨#[110]⟩ : ByteArray) ++ ⟨l.toArray⟩ = nm i := by
        rw [hl, wu8]
        have e1 : ((i : Int) % 256).toNat = i := by omega
        rw [e1]; rfl
      have hl1 : l.length = 1 := by rw [hl]; rfl
      conv => whnf
      refine And.intro (by show 1 + l.length ≤ _; omega) ?_
      conv => whnf
      repeat (first | ((with_reducible apply Go.Vc.sl_ix); (focus with_reducible assumption); (focus exact And.intro (by omega) (by omega)); intro xI bI offI hxI hcI; conv => whnf) | ((with_reducible refine And.intro (And.intro ?_ ?_) ?_); (focus omega); (focus omega); conv => whnf) | ((with_reducible refine And.intro (And.intro ?_ (And.intro ?_ ?_)) ?_); (focus omega); (focus omega); (focus omega); conv => whnf) | ((with_reducible apply Go.Vc.ld_i); (focus ((repeat (first | with_reducible assumption | with_reducible exact Go.Vc.hset_same _ _ _ | with_reducible refine (Go.Vc.hset_ne _ _ (by omega)).trans ?_)); done)); (focus exact rfl); conv => whnf) | ((with_reducible apply Go.Vc.st_i); (focus ((repeat (first | with_reducible assumption | with_reducible exact Go.Vc.hset_same _ _ _ | with_reducible refine (Go.Vc.hset_ne _ _ (by omega)).trans ?_)); done)); (focus exact rfl); (focus exact rfl); (focus exact rfl); (focus exact rfl); conv => whnf) | ((with_reducible apply Go.Vc.cell_i); (focus assumption); conv => whnf) | (intro _ _; conv => whnf) | (refine Go.Vc.br_t ?_ ?_; (focus omega); conv => whnf) | (refine Go.Vc.br_f ?_ ?_; (focus omega); conv => whnf) | (refine Go.Vc.brn_t ?_ ?_; (focus omega); conv => whnf) | (refine Go.Vc.brn_f ?_ ?_; (focus omega); conv => whnf) | ((with_reducible refine And.intro ?_ ?_); (focus omega); conv => whnf) | ((with_reducible refine And.intro ?_ (And.intro ?_ ?_)); (focus exact rfl); (focus omega); conv => whnf))
      rw [hnm]
      refine (put_spec (A7.sub hs8) (nm i) _).mono ?_
      rintro _ h9 t9 hd9 ht9 ⟨hv, A9, f9⟩
      have B9 := (B7.sub hs8).fr f9 (by omega) (by omega) (by omega) (by omega) (fun k e => by have := fr6 k e; omega)
      rw [nm_named, put_cases] at hv A9
      subst hv
      conv => whnf
      repeat (first | ((with_reducible apply Go.Vc.sl_ix); (focus with_reducible assumption); (focus exact And.intro (by omega) (by omega)); intro xI bI offI hxI hcI; conv => whnf) | ((with_reducible refine And.intro (And.intro ?_ ?_) ?_); (focus omega); (focus omega); conv => whnf) | ((with_reducible refine And.intro (And.intro ?_ (And.intro ?_ ?_)) ?_); (focus omega); (focus omega); (focus omega); conv => whnf) | ((with_reducible apply Go.Vc.ld_i); (focus ((repeat (first | with_reducible assumption | with_reducible exact Go.Vc.hset_same _ _ _ | with_reducible refine (Go.Vc.hset_ne _ _ (by omega)).trans ?_)); done)); (focus exact rfl); conv => whnf) | ((with_reducible apply Go.Vc.st_i); (focus ((repeat (first | with_reducible assumption | with_reducible exact Go.Vc.hset_same _ _ _ | with_reducible refine (Go.Vc.hset_ne _ _ (by omega)).trans ?_)); done)); (focus exact rfl); (focus exact rfl); (focus exact rfl); (focus exact rfl); conv => whnf) | ((with_reducible apply Go.Vc.cell_i); (focus assumption); conv => whnf) | (intro _ _; conv => whnf) | (refine Go.Vc.br_t ?_ ?_; (focus omega); conv => whnf) | (refine Go.Vc.br_f ?_ ?_; (focus omega); conv => whnf) | (refine Go.Vc.brn_t ?_ ?_; (focus omega); conv => whnf) | (refine Go.Vc.brn_f ?_ ?_; (focus omega); conv => whnf) | ((with_reducible refine And.intro ?_ ?_); (focus omega); conv => whnf) | ((with_reducible refine And.intro ?_ (And.intro ?_ ?_)); (focus exact rfl); (focus omega); conv => whnf))
      refine (put_spec B9 (nm i) _).mono ?_
      rintro _ h10 t10 hd10 ht10 ⟨hv, B10, f10⟩
      have A10 := A9.fr f10 (by omega) (by omega) (by omega) (by omega) (fun k e => by have := fr4 k e; omega)
      rw [nm_named, put_cases] at hv B10
      subst hv
      conv => whnf
      repeat (first | ((with_reducible apply Go.Vc.sl_ix); (focus with_reducible assumption); (focus exact And.intro (by omega) (by omega)); intro xI bI offI hxI hcI; conv => whnf) | ((with_reducible refine And.intro (And.intro ?_ ?_) ?_); (focus omega); (focus omega); conv => whnf) | ((with_reducible refine And.intro (And.intro ?_ (And.intro ?_ ?_)) ?_); (focus omega); (focus omega); (focus omega); conv => whnf) | ((with_reducible apply Go.Vc.ld_i); (focus ((repeat (first | with_reducible assumption | with_reducible exact Go.Vc.hset_same _ _ _ | with_reducible refine (Go.Vc.hset_ne _ _ (by omega)).trans ?_)); done)); (focus exact rfl); conv => whnf) | ((with_reducible apply Go.Vc.st_i); (focus ((repeat (first | with_reducible assumption | with_reducible exact Go.Vc.hset_same _ _ _ | with_reducible refine (Go.Vc.hset_ne _ _ (by omega)).trans ?_)); done)); (focus exact rfl); (focus exact rfl); (focus exact rfl); (focus exact rfl); conv => whnf) | ((with_reducible apply Go.Vc.cell_i); (focus assumption); conv => whnf) | (intro _ _; conv => whnf) | (refine Go.Vc.br_t ?_ ?_; (focus omega); conv => whnf) | (refine Go.Vc.br_f ?_ ?_; (focus omega); conv => whnf) | (refine Go.Vc.brn_t ?_ ?_; (focus omega); conv => whnf) | (refine Go.Vc.brn_f ?_ ?_; (focus omega); conv => whnf) | ((with_reducible refine And.intro ?_ ?_); (focus omega); conv => whnf) | ((with_reducible refine And.intro ?_ (And.intro ?_ ?_)); (focus exact rfl); (focus omega); conv => whnf))
      refine (peek_spec A10 (nm i)).mono ?_
      rintro _ _ _ _ _ ⟨rfl, rfl, rfl⟩
      conv => whnf
      repeat (first | ((with_reducible apply Go.Vc.sl_ix); (focus with_reducible assumption); (focus exact And.intro (by omega) (by omega)); intro xI bI offI hxI hcI; conv => whnf) | ((with_reducible refine And.intro (And.intro ?_ ?_) ?_); (focus omega); (focus omega); conv => whnf) | ((with_reducible refine And.intro (And.intro ?_ (And.intro ?_ ?_)) ?_); (focus omega); (focus omega); (focus omega); conv => whnf) | ((with_reducible apply Go.Vc.ld_i); (focus ((repeat (first | with_reducible assumption | with_reducible exact Go.Vc.hset_same _ _ _ | with_reducible refine (Go.Vc.hset_ne _ _ (by omega)).trans ?_)); done)); (focus exact rfl); conv => whnf) | ((with_reducible apply Go.Vc.st_i); (focus ((repeat (first | with_reducible assumption | with_reducible exact Go.Vc.hset_same _ _ _ | with_reducible refine (Go.Vc.hset_ne _ _ (by omega)).trans ?_)); done)); (focus exact rfl); (focus exact rfl); (focus exact rfl); (focus exact rfl); conv => whnf) | ((with_reducible apply Go.Vc.cell_i); (focus assumption); conv => whnf) | (intro _ _; conv => whnf) | (refine Go.Vc.br_t ?_ ?_; (focus omega); conv => whnf) | (refine Go.Vc.br_f ?_ ?_; (focus omega); conv => whnf) | (refine Go.Vc.brn_t ?_ ?_; (focus omega); conv => whnf) | (refine Go.Vc.brn_f ?_ ?_; (focus omega); conv => whnf) | ((with_reducible refine And.intro ?_ ?_); (focus omega); conv => whnf) | ((with_reducible refine And.intro ?_ (And.intro ?_ ?_)); (focus exact rfl); (focus omega); conv => whnf))
      refine (peek_spec B10 (nm i)).mono ?_
      rintro _ _ _ _ _ ⟨rfl, rfl, rfl⟩
      have hn0 : aGet s.D (nm i) = none := hno i (by omega) (by omega)
      have hput := aGet_put s.D (nm i) ⟨#[120]⟩
      have hFv : fateOf s.fs = max z 0 % 3 := by rw [hfs7, hdrop]; rfl
      generalize hF : fateOf s.fs = F at *
      have hD : ((if F = 1 then s.next else { s.next with D := aPut s.D (nm i) ⟨#[120]⟩ }) : BS).fs = s.fs.tail := by split <;> rfl
      have hD2 : ((if F = 1 then s.next else { s.next with D := aPut s.D (nm i) ⟨#[120]⟩ }) : BS).D = if F = 1 then s.D else aPut s.D (nm i) ⟨#[120]⟩ := by split <;> rfl
      generalize hS : ((if F = 1 then s.next else { s.next with D := aPut s.D (nm i) ⟨#[120]⟩ }) : BS) = S at *
      have hok : (aGet S.D (nm i)).isSome = decide (F ≠ 1) := by
        rw [hD2]
        by_cases h1 : F = 1
        · simp [h1, hn0]
        · simp [h1, hput]
      conv => whnf
      refine bsel_f (by rw [opq_eq, opq_eq]; first | (rw [Int.tmod_eq_emod_of_nonneg (by omega)]; have e : F = z % 3 := (by omega); rw [← e]; by_cases h0 : F = 0 <;> simp [h0]) | (have e : F = 0 := (by omega); simp [e])) ?_
      conv => whnf
      refine bsel_f (by rw [opq_eq]; simp) ?_
      conv => whnf
      refine bsel_f (by rw [opq_eq, hok]; first | (rw [Int.tmod_eq_emod_of_nonneg (by omega)]; have e : F = z % 3 := (by omega); rw [← e]; by_cases h0 : F = 1 <;> simp [h0]) | (have e : F = 0 := (by omega); simp [e])) ?_
      conv => whnf
      refine bsel_f (by simp) ?_
      conv => whnf
      refine round_end2 (i + 1) S (by omega) ⟨rfl, rfl, rfl, rfl, wi_congr (by omega) (by omega) (by omega), trivial⟩ ⟨by omega, by omega, A10, B10, ?_, ?_, ?_⟩
      · intro k o ho
        have := hd k o ho
        exact f10 k o (by omega) (by omega) (f9 k o (by omega) (by omega) (hs8 k o (hsub7 k o ho)))
      · rw [hD, hfs7, hdrop]; rfl
      · intro j hj hj2
        rw [hD2]
        split
        · exact hno j (by omega) hj2
        · rw [hput, if_neg (fun e => by have := nm_inj hj2 (by omega) e; omega)]
          exact hno j (by omega) hj2
  · conv => whnf
    repeat (first | ((with_reducible apply Go.Vc.sl_ix); (focus with_reducible assumption); (focus exact And.intro (by omega) (by omega)); intro xI bI offI hxI hcI; conv => whnf) | ((with_reducible refine And.intro (And.intro ?_ ?_) ?_); (focus omega); (focus omega); conv => whnf) | ((with_reducible refine And.intro (And.intro ?_ (And.intro ?_ ?_)) ?_); (focus omega); (focus omega); (focus omega); conv => whnf) | ((with_reducible apply Go.Vc.ld_i); (focus ((repeat (first | with_reducible assumption | with_reducible exact Go.Vc.hset_same _ _ _ | with_reducible refine (Go.Vc.hset_ne _ _ (by omega)).trans ?_)); done)); (focus exact rfl); conv => whnf) | ((with_reducible apply Go.Vc.st_i); (focus ((repeat (first | with_reducible assumption | with_reducible exact Go.Vc.hset_same _ _ _ | with_reducible refine (Go.Vc.hset_ne _ _ (by omega)).trans ?_)); done)); (focus exact rfl); (focus exact rfl); (focus exact rfl); (focus exact rfl); conv => whnf) | ((with_reducible apply Go.Vc.cell_i); (focus assumption); conv => whnf) | (intro _ _; conv => whnf) | (refine Go.Vc.br_t ?_ ?_; (focus omega); conv => whnf) | (refine Go.Vc.br_f ?_ ?_; (focus omega); conv => whnf) | (refine Go.Vc.brn_t ?_ ?_; (focus omega); conv => whnf) | (refine Go.Vc.brn_f ?_ ?_; (focus omega); conv => whnf) | ((with_reducible refine And.intro ?_ ?_); (focus omega); conv => whnf) | ((with_reducible refine And.intro ?_ (And.intro ?_ ?_)); (focus exact rfl); (focus omega); conv => whnf))
    exact ⟨rfl, hsub7⟩
end Go.Proofs.Ytjolbngckdfelaa
