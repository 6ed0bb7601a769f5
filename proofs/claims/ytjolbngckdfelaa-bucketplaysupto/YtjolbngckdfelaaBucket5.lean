/- Get, Lock. -/
import Derived.Test.YtjolbngckdfelaaBucket4
import Derived.Test.YtjolbngckdfelaaVc12
namespace Go.Proofs.Ytjolbngckdfelaa
open Go Go.Vc
set_option maxRecDepth 10000
set_option linter.unusedVariables false

def ran (s : BS) (may : Bool) : Bool := may && decide (fateOf s.fs ≠ 1)
theorem call_spec2 {h : Heap} {t b m : Nat} {d : Option Nat} {s : BS} (B : Bkt h b m d s) (may : Bool) (k : Nat) (hx0 : isExt Try.prog k = false) (caps : Array Value) (act : BS → Int × BS) (X : Heap → Heap → Prop)
    (hact : ∀ h1 t1, t ≤ t1 → Dom h1 t1 → Bkt h1 b m d s.next → (∀ k, k ≠ b → h1 k = h k) → CallSpec Try.prog k caps h1 t1 (fun v h' _ => v = .int .i64 (act s.next).1 ∧ Bkt h' b m d (act s.next).2 ∧ X h1 h')) :
    CallSpec Try.prog 20 #[.pointer (some ⟨b, 0, none⟩), .bool may, .func (.func k) #[] caps] h t
      (fun v h' _ => v = .int .i64 (callR s may act).1 ∧ Bkt h' b m d (callR s may act).2 ∧ ((ran s may = false ∧ ∀ k, k ≠ b → h' k = h k) ∨ (ran s may = true ∧ ∃ h1, (∀ k, k ≠ b → h1 k = h k) ∧ X h1 h'))) := by
  refine Go.Vc.spec_of_vc (fn := Try.f20) Try.func20 rfl (by kernel_rfl) (by kernel_rfl) (Nat.le_of_ble_eq_true rfl) ?_
  intro hd
  conv => whnf
  refine (fate_spec B).mono ?_
  rintro _ h1 t1 hd1 ht1 ⟨rfl, _, B1, hk1⟩
  conv => whnf
  refine bsel_intro (fun hb => ?_) (fun hb => ?_)
  · conv => whnf
    have hm : may = false := by simpa using hb
    subst hm
    exact ⟨rfl, B1, .inl ⟨rfl, hk1⟩⟩
  · conv => whnf
    have hm : may = true := by simpa using hb
    subst hm
    refine bsel_intro (fun h1b => ?_) (fun h1b => ?_)
    · conv => whnf
      have hne : fateOf s.fs ≠ 1 := by simpa using h1b
      have hsp := hact h1 t1 ht1 hd1 B1 hk1
      rw [forceL_eq, hx0, cond_false]
      refine CallSpec.args_eq (a := caps) (by simp) ?_
      refine hsp.mono ?_
      rintro _ h2 t2 hd2 ht2 ⟨rfl, B2, hx⟩
      have hran : ran s true = true := by simp [ran, hne]
      conv => whnf
      refine bsel_intro (fun h2b => ?_) (fun h2b => ?_)
      · conv => whnf
        have hne2 : fateOf s.fs ≠ 0 := by simpa using h2b
        exact ⟨by simp [callR, hne, hne2], by simpa [callR, hne, hne2] using B2, .inr ⟨hran, h1, hk1, hx⟩⟩
      · conv => whnf
        have hne2 : fateOf s.fs = 0 := by simpa using h2b
        exact ⟨by simp [callR, hne2], by simpa [callR, hne2] using B2, .inr ⟨hran, h1, hk1, hx⟩⟩
    · conv => whnf
      have hne : fateOf s.fs = 1 := by simpa using h1b
      refine bsel_t (by simp [hne]) ?_
      conv => whnf
      exact ⟨by simp [callR, hne], by simpa [callR, hne] using B1, .inl ⟨by simp [ran, hne], hk1⟩⟩

theorem Bkt.box {h0 h h' : Heap} {t r b m : Nat} {d : Option Nat} {s0 s : BS} (B0 : Bkt h0 b m d s0) (hd0 : Dom h0 t) (hr : t ≤ r) (B : Bkt h b m d s) (hfs : s.fs.length ≤ s0.fs.length) (hk : ∀ k, k ≠ r → h' k = h k) : Bkt h' b m d s := by
  obtain ⟨o, a, n, c, T, q1, q2, q3, q4, q5, q6, q7, q8⟩ := B
  obtain ⟨o0, a0, n0, c0, T0, y1, y2, y3, y4, y5, y6, y7, y8⟩ := B0
  have h1 := hd0 _ _ y1
  have h2 := hd0 _ _ y2
  refine ⟨o, a, n, c, T, by rw [hk _ (by omega)]; exact q1, by rw [hk _ (by omega)]; exact q2, q3, ⟨q4.1, fun hn => ?_⟩, q5, q6, q7, q8⟩
  obtain ⟨b3, off3, cs, T3, fr, e1, e2, e3⟩ := q4.2 hn
  have hl := q4.1
  have hl0 := y4.1
  obtain ⟨b4, off4, cs4, T4, fr4, f1, f2, f3⟩ := y4.2 (by omega)
  have h4 := hd0 _ _ f2
  have e : b3 = b4 := by
    have : owner a = owner a0 := by rw [q8, y8]
    rw [e1, f1] at this
    simpa [owner] using this
  exact ⟨b3, off3, cs, T3, fr, e1, by rw [hk _ (by omega)]; exact e2, e3⟩
theorem next_len (s : BS) : s.next.fs.length ≤ s.fs.length := by simp [BS.next]
theorem callR_ran {s : BS} {may : Bool} {act : BS → Int × BS} (h : (callR s may act).1 = 0) : ran s may = true := by
  unfold callR at h
  split at h
  · simp at h
  · split at h
    · simp at h
    · simp_all [ran]
def getR (name : ByteArray) (s : BS) : Int × BS := (if (aGet s.D name).isSome then 0 else 3, s)
theorem getR_next (s : BS) (may : Bool) (name : ByteArray) : (callR s may (getR name)).2 = s.next := by unfold callR getR; split <;> (try rfl); split <;> (try rfl); split <;> rfl
theorem get_spec {h : Heap} {t b m : Nat} {d : Option Nat} {s : BS} (B : Bkt h b m d s) (name : ByteArray) :
    CallSpec Try.prog 17 #[.pointer (some ⟨b, 0, none⟩), .string name] h t
      (fun v' h' _ => v' = .tuple #[.string (if (callR s (isNamed name) (getR name)).1 = 0 then (aGet s.D name).getD ByteArray.empty else ByteArray.empty), .int .i64 (callR s (isNamed name) (getR name)).1] ∧ Bkt h' b m d (callR s (isNamed name) (getR name)).2 ∧ FrB b m h h') := by
  refine Go.Vc.spec_of_vc (fn := Try.f17) Try.func17 rfl (by kernel_rfl) (by kernel_rfl) (Nat.le_of_ble_eq_true rfl) ?_
  intro hd
  conv => whnf
  intro r3 hr3
  conv => whnf
  intro r4 hr4
  conv => whnf
  intro r5 hr5
  conv => whnf
  have hs1 := hd.sub_new hr3 (.cells #[.pointer (some ⟨b, 0, none⟩)] 24)
  have hd1 := hd.set r3 (.cells #[.pointer (some ⟨b, 0, none⟩)] 24) (r3 + 1) (by omega) (by omega)
  have hs2 := hd1.sub_new hr4 (.cells #[.string name] 9)
  have hd2 := hd1.set r4 (.cells #[.string name] 9) (r4 + 1) (by omega) (by omega)
  have hs3 := hd2.sub_new hr5 (.cells #[.string ByteArray.empty] 9)
  have hsub := hs1.trans (hs2.trans hs3)
  have B1 := B.sub hsub
  obtain ⟨ob, hob⟩ := B.inb
  have hbt := hd _ _ hob
  obtain ⟨om, hom⟩ := B.inm
  have hmt := hd _ _ hom
  have g3 := hs3 _ _ (hs2 _ _ (hset_same h r3 (.cells #[.pointer (some ⟨b, 0, none⟩)] 24)))
  have g4 := hs3 _ _ (hset_same _ r4 (.cells #[.string name] 9))
  have g5 := hset_same (hset (hset h r3 (.cells #[.pointer (some ⟨b, 0, none⟩)] 24)) r4 (.cells #[.string name] 9)) r5 (.cells #[.string ByteArray.empty] 9)
  refine Go.Vc.draw_intro [⟨0, false, true, false, 0⟩, ⟨1, false, false, false, 0⟩, ⟨3, false, true, false, 0⟩, ⟨2, true, false, true, 2⟩, ⟨4, true, false, false, 15⟩, ⟨5, false, false, false, 31⟩] (hs := _) (hsub := (Sub.refl _)) (hm := by kernel_rfl) (hpl := by kernel_rfl) ?_
  conv => whnf
  refine ⟨_, ⟨_, _, _, g3, rfl, rfl⟩, ?_⟩
  conv => whnf
  refine ⟨_, ⟨_, _, _, g4, rfl, rfl⟩, ?_⟩
  conv => whnf
  refine (named_spec name _ _).mono ?_
  rintro _ _ _ _ _ ⟨rfl, rfl, rfl⟩
  conv => whnf
  refine ⟨Sub.refl _, ?_⟩
  conv => whnf
  refine (call_spec2 B1 (isNamed name) _ rfl _ (getR name) (fun h1 h' => Box h' r5 (.string ((aGet s.D name).getD ByteArray.empty)) ∧ ∀ k, k ≠ r5 → h' k = h1 k) ?_).mono ?_
  · intro h1 t1 _ hd1' B2 hk
    have e3 : Box h1 r3 (.pointer (some ⟨b, 0, none⟩)) := ⟨_, by rw [hk _ (by omega)]; exact g3⟩
    have e4 : Box h1 r4 (.string name) := ⟨_, by rw [hk _ (by omega)]; exact g4⟩
    have e5 : Box h1 r5 (.string ByteArray.empty) := ⟨_, by rw [hk _ (by omega)]; exact g5⟩
    refine (get1_spec B2 e3 e4 e5).mono ?_
    rintro _ h' t' hd' ht' ⟨rfl, hbx, hk'⟩
    exact ⟨rfl, Bkt.box B hd (by omega) B2 (next_len s) hk', hbx, hk'⟩
  · rintro _ h' t' hd' _ ⟨rfl, B3, hcase⟩
    have hsubF : FrB b m h h' ∧ (∃ v, Box h' r5 v) := by
      rcases hcase with ⟨_, hk⟩ | ⟨_, h1, hk1, hbx, hk2⟩
      · refine ⟨fun k o hkb hkm ho => by rw [hk k hkb]; exact hsub k o ho, _, _, by rw [hk _ (by omega)]; exact g5⟩
      · refine ⟨fun k o hkb hkm ho => ?_, _, hbx⟩
        have := hd _ _ ho
        rw [hk2 k (by omega), hk1 k hkb]
        exact hsub k o ho
    obtain ⟨hF, v5, T5, hb5⟩ := hsubF
    conv => whnf
    refine br (fun he => ?_) (fun he => ?_)
    · rw [if_neg he]
      conv => whnf
      refine ⟨rfl, _, _, _, hb5, Go.Vc.lt_of_blt rfl, rfl, ?_⟩
      rintro _ rfl
      conv => whnf
      conv => whnf
      repeat (first | ((with_reducible apply Go.Vc.mk_b); (focus exact And.intro (by omega) (by omega)); (focus exact rfl); (focus omega); intro rM csM hrM hcsM; (first | (replace hcsM := hcsM.trans (Go.Vc.zc (Value.int .i64) 0 _)) | (replace hcsM := hcsM.trans (Go.Vc.zc Go.Vc.bv 0 _)) | (replace hcsM := hcsM.trans (Go.Vc.zc Value.string ByteArray.empty _))); subst hcsM; conv => whnf) | ((with_reducible apply Go.Vc.own_ix); (focus exact And.intro (by omega) (by omega)); conv => whnf) | ((with_reducible apply Go.Vc.sl_ix); (focus with_reducible assumption); (focus exact And.intro (by omega) (by omega)); intro xI bI offI hxI hcI; conv => whnf) | ((with_reducible apply Go.Vc.sl2_ix); (focus with_reducible assumption); (focus exact And.intro (by omega) (by omega)); intro xI bI offI hxI hcI hcJ; conv => whnf) | ((with_reducible refine And.intro (And.intro ?_ ?_) ?_); (focus omega); (focus omega); conv => whnf) | ((with_reducible refine And.intro (And.intro ?_ (And.intro ?_ ?_)) ?_); (focus omega); (focus omega); (focus omega); conv => whnf) | ((with_reducible apply Go.Vc.ldrow); (focus ((repeat (first | with_reducible assumption | with_reducible exact Go.Vc.hset_same _ _ _ | with_reducible refine (Go.Vc.hset_ne _ _ (by omega)).trans ?_)); done)); (focus exact rfl); rintro _ rfl; conv => whnf) | ((with_reducible apply Go.Vc.strow); (focus ((repeat (first | with_reducible assumption | with_reducible exact Go.Vc.hset_same _ _ _ | with_reducible refine (Go.Vc.hset_ne _ _ (by omega)).trans ?_)); done)); (focus exact rfl); (focus exact rfl); (focus exact rfl); rintro _ rfl; conv => whnf) | ((with_reducible apply Go.Vc.agg_ld); (focus exact rfl); (focus (first | omega | (simp; done) | (simp; omega))); intro xA hxA; conv => whnf) | ((with_reducible apply Go.Vc.ld_i); (focus ((repeat (first | with_reducible assumption | with_reducible exact Go.Vc.hset_same _ _ _ | with_reducible refine (Go.Vc.hset_ne _ _ (by omega)).trans ?_)); done)); (focus exact rfl); conv => whnf) | ((with_reducible apply Go.Vc.ar_ld); (focus ((repeat (first | with_reducible assumption | with_reducible exact Go.Vc.hset_same _ _ _ | with_reducible refine (Go.Vc.hset_ne _ _ (by omega)).trans ?_)); done)); (focus exact rfl); (focus (first | omega | (simp; done) | (simp; omega))); intro xA hxA; conv => whnf) | ((with_reducible apply Go.Vc.ar_st); (focus ((repeat (first | with_reducible assumption | with_reducible exact Go.Vc.hset_same _ _ _ | with_reducible refine (Go.Vc.hset_ne _ _ (by omega)).trans ?_)); done)); (focus exact rfl); (focus exact rfl); (focus (first | omega | (simp; done) | (simp; omega))); (focus exact rfl); intro heqA; (conv => whnf); intro cA hcA; rw [heqA] at hcA; clear heqA; subst hcA; conv => whnf) | ((with_reducible apply Go.Vc.st_i); (focus ((repeat (first | with_reducible assumption | with_reducible exact Go.Vc.hset_same _ _ _ | with_reducible refine (Go.Vc.hset_ne _ _ (by omega)).trans ?_)); done)); (focus exact rfl); (focus exact rfl); (focus exact rfl); (conv => whnf); intro cA hcA; (first | (simp only [List.setIfInBounds_toArray, List.set_cons_succ, List.set_cons_zero] at hcA; subst hcA) | subst hcA); conv => whnf) | ((with_reducible apply Go.Vc.cell_i); (focus assumption); conv => whnf) | (intro _ _; conv => whnf) | ((with_reducible apply Go.Vc.wr_i64); (focus exact And.intro (by omega) (by omega)); conv => whnf) | ((with_reducible apply Go.Vc.wr_u8); (focus exact And.intro (by omega) (by omega)); conv => whnf) | ((with_reducible apply Go.Vc.wr_u16); (focus exact And.intro (by omega) (by omega)); conv => whnf) | ((with_reducible apply Go.Vc.wr_u32); (focus exact And.intro (by omega) (by omega)); conv => whnf) | ((with_reducible apply Go.Vc.wr_u64); (focus exact And.intro (by omega) (by omega)); conv => whnf) | ((with_reducible apply Go.Vc.wr_i32); (focus exact And.intro (by omega) (by omega)); conv => whnf) | ((with_reducible apply Go.Vc.shl1_i64); (focus exact And.intro (by omega) (by omega)); conv => whnf) | ((with_reducible apply Go.Vc.one_shl); (focus exact And.intro (by omega) (by omega)); intro zP hzP hzP0 hzP1; conv => whnf) | ((with_reducible apply Go.Vc.and1_i64); (focus exact And.intro (by omega) (by omega)); conv => whnf) | ((with_reducible apply Go.Vc.or1_i64); (focus exact And.intro (by omega) (by omega)); (focus exact And.intro (by omega) (by omega)); conv => whnf) | ((with_reducible apply Go.Vc.shr_u8); (focus exact And.intro (by omega) (by omega)); intro zS hzS hzS0 hzS1; conv => whnf) | ((with_reducible apply Go.Vc.shr_i64); (focus exact And.intro (by omega) (by omega)); intro zS hzS hzS0 hzS1; conv => whnf) | ((with_reducible apply Go.Vc.shr_u64); (focus exact And.intro (by omega) (by omega)); intro zS hzS hzS0 hzS1; conv => whnf) | ((with_reducible apply Go.Vc.quo_i64); (focus exact And.intro (by omega) (And.intro (by omega) (by omega))); conv => whnf) | ((with_reducible apply Go.Vc.rem_i); (focus omega); conv => whnf) | (refine Go.Vc.br_t ?_ ?_; (focus omega); conv => whnf) | (refine Go.Vc.br_f ?_ ?_; (focus omega); conv => whnf) | (refine Go.Vc.brn_t ?_ ?_; (focus omega); conv => whnf) | (refine Go.Vc.brn_f ?_ ?_; (focus omega); conv => whnf) | ((with_reducible refine And.intro (Go.Vc.Sub.refl _) ?_); conv => whnf) | ((with_reducible apply Go.Vc.and_leI); (focus omega); conv => whnf) | ((with_reducible apply Go.Vc.and_leN); (focus (first | omega | (simp only [ByteArray.size, List.size_toArray, List.length_cons, List.length_nil] at *; omega))); conv => whnf) | ((with_reducible refine And.intro ?_ (And.intro ?_ ?_)); (focus exact rfl); (focus omega); conv => whnf))
      exact ⟨rfl, Bkt.box B hd (by omega) B3 (by rw [getR_next]; exact next_len s) (fun k hk => hset_ne _ _ hk), fun k o hkb hkm ho => by rw [hset_ne _ _ (by have := hd _ _ ho; omega)]; exact hF k o hkb hkm ho⟩
    · have he0 : (callR s (isNamed name) (getR name)).1 = 0 := Decidable.not_not.1 he
      rw [if_pos he0]
      rcases hcase with ⟨hr, _⟩ | ⟨_, h1, hk1, ⟨Tb, hbx⟩, hk2⟩
      · have := callR_ran he0
        rw [hr] at this; cases this
      · have := hb5.symm.trans hbx
        conv => whnf
        repeat (first | ((with_reducible apply Go.Vc.mk_b); (focus exact And.intro (by omega) (by omega)); (focus exact rfl); (focus omega); intro rM csM hrM hcsM; (first | (replace hcsM := hcsM.trans (Go.Vc.zc (Value.int .i64) 0 _)) | (replace hcsM := hcsM.trans (Go.Vc.zc Go.Vc.bv 0 _)) | (replace hcsM := hcsM.trans (Go.Vc.zc Value.string ByteArray.empty _))); subst hcsM; conv => whnf) | ((with_reducible apply Go.Vc.own_ix); (focus exact And.intro (by omega) (by omega)); conv => whnf) | ((with_reducible apply Go.Vc.sl_ix); (focus with_reducible assumption); (focus exact And.intro (by omega) (by omega)); intro xI bI offI hxI hcI; conv => whnf) | ((with_reducible apply Go.Vc.sl2_ix); (focus with_reducible assumption); (focus exact And.intro (by omega) (by omega)); intro xI bI offI hxI hcI hcJ; conv => whnf) | ((with_reducible refine And.intro (And.intro ?_ ?_) ?_); (focus omega); (focus omega); conv => whnf) | ((with_reducible refine And.intro (And.intro ?_ (And.intro ?_ ?_)) ?_); (focus omega); (focus omega); (focus omega); conv => whnf) | ((with_reducible apply Go.Vc.ldrow); (focus ((repeat (first | with_reducible assumption | with_reducible exact Go.Vc.hset_same _ _ _ | with_reducible refine (Go.Vc.hset_ne _ _ (by omega)).trans ?_)); done)); (focus exact rfl); rintro _ rfl; conv => whnf) | ((with_reducible apply Go.Vc.strow); (focus ((repeat (first | with_reducible assumption | with_reducible exact Go.Vc.hset_same _ _ _ | with_reducible refine (Go.Vc.hset_ne _ _ (by omega)).trans ?_)); done)); (focus exact rfl); (focus exact rfl); (focus exact rfl); rintro _ rfl; conv => whnf) | ((with_reducible apply Go.Vc.agg_ld); (focus exact rfl); (focus (first | omega | (simp; done) | (simp; omega))); intro xA hxA; conv => whnf) | ((with_reducible apply Go.Vc.ld_i); (focus ((repeat (first | with_reducible assumption | with_reducible exact Go.Vc.hset_same _ _ _ | with_reducible refine (Go.Vc.hset_ne _ _ (by omega)).trans ?_)); done)); (focus exact rfl); conv => whnf) | ((with_reducible apply Go.Vc.ar_ld); (focus ((repeat (first | with_reducible assumption | with_reducible exact Go.Vc.hset_same _ _ _ | with_reducible refine (Go.Vc.hset_ne _ _ (by omega)).trans ?_)); done)); (focus exact rfl); (focus (first | omega | (simp; done) | (simp; omega))); intro xA hxA; conv => whnf) | ((with_reducible apply Go.Vc.ar_st); (focus ((repeat (first | with_reducible assumption | with_reducible exact Go.Vc.hset_same _ _ _ | with_reducible refine (Go.Vc.hset_ne _ _ (by omega)).trans ?_)); done)); (focus exact rfl); (focus exact rfl); (focus (first | omega | (simp; done) | (simp; omega))); (focus exact rfl); intro heqA; (conv => whnf); intro cA hcA; rw [heqA] at hcA; clear heqA; subst hcA; conv => whnf) | ((with_reducible apply Go.Vc.st_i); (focus ((repeat (first | with_reducible assumption | with_reducible exact Go.Vc.hset_same _ _ _ | with_reducible refine (Go.Vc.hset_ne _ _ (by omega)).trans ?_)); done)); (focus exact rfl); (focus exact rfl); (focus exact rfl); (conv => whnf); intro cA hcA; (first | (simp only [List.setIfInBounds_toArray, List.set_cons_succ, List.set_cons_zero] at hcA; subst hcA) | subst hcA); conv => whnf) | ((with_reducible apply Go.Vc.cell_i); (focus assumption); conv => whnf) | (intro _ _; conv => whnf) | ((with_reducible apply Go.Vc.wr_i64); (focus exact And.intro (by omega) (by omega)); conv => whnf) | ((with_reducible apply Go.Vc.wr_u8); (focus exact And.intro (by omega) (by omega)); conv => whnf) | ((with_reducible apply Go.Vc.wr_u16); (focus exact And.intro (by omega) (by omega)); conv => whnf) | ((with_reducible apply Go.Vc.wr_u32); (focus exact And.intro (by omega) (by omega)); conv => whnf) | ((with_reducible apply Go.Vc.wr_u64); (focus exact And.intro (by omega) (by omega)); conv => whnf) | ((with_reducible apply Go.Vc.wr_i32); (focus exact And.intro (by omega) (by omega)); conv => whnf) | ((with_reducible apply Go.Vc.shl1_i64); (focus exact And.intro (by omega) (by omega)); conv => whnf) | ((with_reducible apply Go.Vc.one_shl); (focus exact And.intro (by omega) (by omega)); intro zP hzP hzP0 hzP1; conv => whnf) | ((with_reducible apply Go.Vc.and1_i64); (focus exact And.intro (by omega) (by omega)); conv => whnf) | ((with_reducible apply Go.Vc.or1_i64); (focus exact And.intro (by omega) (by omega)); (focus exact And.intro (by omega) (by omega)); conv => whnf) | ((with_reducible apply Go.Vc.shr_u8); (focus exact And.intro (by omega) (by omega)); intro zS hzS hzS0 hzS1; conv => whnf) | ((with_reducible apply Go.Vc.shr_i64); (focus exact And.intro (by omega) (by omega)); intro zS hzS hzS0 hzS1; conv => whnf) | ((with_reducible apply Go.Vc.shr_u64); (focus exact And.intro (by omega) (by omega)); intro zS hzS hzS0 hzS1; conv => whnf) | ((with_reducible apply Go.Vc.quo_i64); (focus exact And.intro (by omega) (And.intro (by omega) (by omega))); conv => whnf) | ((with_reducible apply Go.Vc.rem_i); (focus omega); conv => whnf) | (refine Go.Vc.br_t ?_ ?_; (focus omega); conv => whnf) | (refine Go.Vc.br_f ?_ ?_; (focus omega); conv => whnf) | (refine Go.Vc.brn_t ?_ ?_; (focus omega); conv => whnf) | (refine Go.Vc.brn_f ?_ ?_; (focus omega); conv => whnf) | ((with_reducible refine And.intro (Go.Vc.Sub.refl _) ?_); conv => whnf) | ((with_reducible apply Go.Vc.and_leI); (focus omega); conv => whnf) | ((with_reducible apply Go.Vc.and_leN); (focus (first | omega | (simp only [ByteArray.size, List.size_toArray, List.length_cons, List.length_nil] at *; omega))); conv => whnf) | ((with_reducible refine And.intro ?_ (And.intro ?_ ?_)); (focus exact rfl); (focus omega); conv => whnf))
        rw [he0]
        exact ⟨rfl, Bkt.box B hd (by omega) B3 (by rw [getR_next]; exact next_len s) (fun k hk => hset_ne _ _ hk), fun k o hkb hkm ho => by rw [hset_ne _ _ (by have := hd _ _ ho; omega)]; exact hF k o hkb hkm ho⟩

def lockR (s : BS) : Int × BS := (0, s)
theorem lockR_next (s : BS) : (callR s true lockR).2 = s.next := by unfold callR lockR; split <;> (try rfl); split <;> (try rfl); split <;> rfl
theorem lock_spec {h : Heap} {t b m : Nat} {d : Option Nat} {s : BS} (B : Bkt h b m d s) :
    CallSpec Try.prog 31 #[.pointer (some ⟨b, 0, none⟩)] h t
      (fun v' h' _ => v' = .tuple #[.string (if (callR s true lockR).1 = 0 then s.lock else ByteArray.empty), .int .i64 (if (callR s true lockR).1 = 0 then s.ver else 0), .int .i64 (callR s true lockR).1] ∧ Bkt h' b m d s.next ∧ FrB b m h h') := by
  refine Go.Vc.spec_of_vc (fn := Try.f31) Try.func31 rfl (by kernel_rfl) (by kernel_rfl) (Nat.le_of_ble_eq_true rfl) ?_
  intro hd
  conv => whnf
  refine (call_spec B true _ rfl _ lockR (fun h1 h' => ∀ k, h' k = h1 k) (fun _ _ => rfl) ?_).mono ?_
  · intro h1 t1 _ hd1' B2 hk
    refine Go.Vc.spec_of_vc (fn := Try.f44) Try.func44 rfl (by kernel_rfl) (by kernel_rfl) (Nat.le_of_ble_eq_true rfl) ?_
    intro hd3
    conv => whnf
    exact ⟨rfl, B2, fun _ => rfl⟩
  · rintro _ h' t' hd' _ ⟨rfl, B3, h1, hk1, hk2⟩
    have hF : FrB b m h h' := fun k o hkb hkm ho => by rw [hk2 k, hk1 k hkb]; exact ho
    rw [lockR_next] at B3
    conv => whnf
    refine br (fun he => ?_) (fun he => ?_)
    · rw [if_neg he, if_neg he]
      conv => whnf
      exact ⟨rfl, B3, hF⟩
    · have he0 : (callR s true lockR).1 = 0 := Decidable.not_not.1 he
      rw [if_pos he0, if_pos he0, he0]
      have B4 := B3
      obtain ⟨o, a, n, c, T, q1, q2⟩ := B4
      conv => whnf
      refine Go.Vc.draw_intro [⟨0, false, false, false, 0⟩, ⟨1, false, false, false, 1⟩, ⟨2, false, false, false, 3⟩, ⟨3, false, false, false, 7⟩, ⟨4, false, false, false, 0⟩, ⟨5, false, false, false, 16⟩, ⟨6, false, false, false, 48⟩, ⟨7, false, false, false, 112⟩, ⟨8, false, false, false, 15⟩, ⟨9, false, false, false, 511⟩, ⟨10, false, false, false, 1023⟩] (hs := (fun _ => none)) (hsub := (fun _ _ h => nomatch h)) (hm := by kernel_rfl) (hpl := by kernel_rfl) ?_
      conv => whnf
      (with_reducible apply Go.Vc.ld_i); (focus ((repeat (first | with_reducible assumption | with_reducible exact Go.Vc.hset_same _ _ _ | with_reducible refine (Go.Vc.hset_ne _ _ (by omega)).trans ?_)); done)); (focus exact rfl)
      conv => whnf
      (with_reducible apply Go.Vc.ld_i); (focus ((repeat (first | with_reducible assumption | with_reducible exact Go.Vc.hset_same _ _ _ | with_reducible refine (Go.Vc.hset_ne _ _ (by omega)).trans ?_)); done)); (focus exact rfl)
      conv => whnf
      exact ⟨rfl, B3, hF⟩
end Go.Proofs.Ytjolbngckdfelaa
