/- A deed: done by both buckets. -/
import Derived.Test.YtjolbngckdfelaaBucketSim
namespace Go.Proofs.Ytjolbngckdfelaa
open Go Go.Vc
set_option linter.unusedVariables false
set_option maxHeartbeats 4000000
set_option maxRecDepth 20000

theorem Bkt.frX {h h' : Heap} {b m x : Nat} {d : Option Nat} {s : BS} (B : Bkt h b m d s) (f : FrX x h h') (hxb : x ≠ b) (hxm : x ≠ m) (hdx : d ≠ some x) : Bkt h' b m d s :=
  B.keep fun k hk o ho => f k o (by
    rcases hk with rfl | rfl | hk
    · exact fun e => hxb e.symm
    · exact fun e => hxm e.symm
    · exact fun e => hdx (e ▸ hk)) ho
theorem RBk.frB {h h' : Heap} {b m x : Nat} {d : Option Nat} {s : BS} {r : RS} (X : RBk h x r) (B : Bkt h b m d s) (f : FrB b m h h') (hxb : x ≠ b) (hxm : x ≠ m) : RBk h' x r := by
  obtain ⟨aL, cL, aF, cF, hx, hL, hF⟩ := X
  obtain ⟨o, a, n, c, T, hb, hm, ⟨es, cl, ho, _⟩, _⟩ := B
  subst ho
  refine ⟨aL, cL, aF, cF, f _ _ hxb hxm hx, Own.fr hL fun k o hk ho => f k o ?_ ?_ ho, Own.fr hF fun k o hk ho => f k o ?_ ?_ ho⟩
  · rintro rfl
    exact own_ne hL hb (by rw [T.2]; decide) hk
  · rintro rfl
    obtain ⟨cs, fr, e⟩ := own_tag hL hk
    rw [hm] at e; cases e
  · rintro rfl
    exact own_ne hF hb (by rw [T.2]; decide) hk
  · rintro rfl
    obtain ⟨cs, fr, e⟩ := own_tag hF hk
    rw [hm] at e; cases e

def Fr3 (b m x : Nat) (h h' : Heap) : Prop := ∀ k o, k ≠ b → k ≠ m → k ≠ x → h k = some o → h' k = some o
def After (h h' : Heap) (b m x : Nat) (r : RS) (g : Nat) : Prop :=
  ∃ d' s' r', Bkt h' b m d' s' ∧ RBk h' x r' ∧ Rel s' r' ∧ Fr3 b m x h h' ∧ d' ≠ some x ∧ r'.L.length ≤ r.L.length + 1 ∧ 0 ≤ r'.ver ∧ r'.ver ≤ r.ver + 1 ∧ r'.F.length ≤ r.F.length + g
theorem after {h h0 h1 h2 : Heap} {b m x : Nat} {d' : Option Nat} {s' : BS} {r r' : RS} {g : Nat} (f0 : Vc.Sub h h0) (f1 : FrB b m h0 h1) (f2 : FrX x h1 h2) (B1 : Bkt h1 b m d' s') (X2 : RBk h2 x r') (R' : Rel s' r') (hxb : x ≠ b) (hxm : x ≠ m) (hdx : d' ≠ some x) (hL : r'.L.length ≤ r.L.length + 1) (hv : 0 ≤ r'.ver) (hv2 : r'.ver ≤ r.ver + 1) (hF : r'.F.length ≤ r.F.length + g) : After h h2 b m x r g :=
  ⟨d', s', r', B1.frX f2 hxb hxm hdx, X2, R', fun k o h1 h2 h3 ho => f2 k o h3 (f1 k o h1 h2 (f0 k o ho)), hdx, hL, hv, hv2, hF⟩
theorem rnext_len (r : RS) : r.next.F.length ≤ r.F.length := by simp [RS.next]
theorem rput_len {s : BS} {r : RS} (R : Rel s r) (name x : ByteArray) : (rPut name x r).2.L.length ≤ r.L.length + 1 ∧ (rPut name x r).2.ver = r.ver ∧ (rPut name x r).2.F.length ≤ r.F.length := by
  have h2 := rel_len (R.next.set name x)
  have h3 := aPut_len s.next.D name x
  have h4 : s.next.D.length = r.next.L.length := rel_len R.next
  have h2' : (aPut s.next.D name x).length = (rG name x r.next.L false).length := h2
  have h5 : r.next.L = r.L := rfl
  rw [h5] at h4 h2'
  have h6 := rnext_len r
  have h7 : r.next.L.length ≤ r.L.length + 1 ∧ r.next.ver = r.ver ∧ r.next.F.length ≤ r.F.length := ⟨by rw [h5]; omega, rfl, h6⟩
  have h8 : (rG name x r.L false).length ≤ r.L.length + 1 ∧ r.next.ver = r.ver ∧ r.next.F.length ≤ r.F.length := ⟨by omega, rfl, h6⟩
  unfold rPut
  by_cases hA : isNamed name = false
  · rw [if_pos hA]
    exact h7
  · rw [if_neg hA]
    by_cases hB : fateOf r.F ≠ 1
    · rw [if_pos hB]
      exact h8
    · rw [if_neg hB]
      exact h7
theorem rputnew_len {s : BS} {r : RS} (R : Rel s r) (name x : ByteArray) : (rPutNew name x r).2.L.length ≤ r.L.length + 1 ∧ (rPutNew name x r).2.ver = r.ver ∧ (rPutNew name x r).2.F.length ≤ r.F.length := by
  have h2 := rel_len (R.next.set name x)
  have h3 := aPut_len s.next.D name x
  have h4 : s.next.D.length = r.next.L.length := rel_len R.next
  have h2' : (aPut s.next.D name x).length = (rG name x r.next.L false).length := h2
  have h5 : r.next.L = r.L := rfl
  rw [h5] at h4 h2'
  have h6 := rnext_len r
  have h7 : r.next.L.length ≤ r.L.length + 1 ∧ r.next.ver = r.ver ∧ r.next.F.length ≤ r.F.length := ⟨by rw [h5]; omega, rfl, h6⟩
  have h8 : (rG name x r.L false).length ≤ r.L.length + 1 ∧ r.next.ver = r.ver ∧ r.next.F.length ≤ r.F.length := ⟨by omega, rfl, h6⟩
  unfold rPutNew
  by_cases hA : isNamed name = false
  · rw [if_pos hA]
    exact h7
  · rw [if_neg hA]
    by_cases hB : fateOf r.F ≠ 1 ∧ (aGet r.L name).isSome = false
    · rw [if_pos hB]
      exact h8
    · rw [if_neg hB]
      exact h7
theorem rswap_len (r : RS) (v : Int) (x : ByteArray) : (rSwap v x r).2.L = r.L ∧ (r.ver ≤ (rSwap v x r).2.ver ∧ (rSwap v x r).2.ver ≤ r.ver + 1) ∧ (rSwap v x r).2.F.length ≤ r.F.length := by
  have h6 := rnext_len r
  unfold rSwap
  by_cases hB : fateOf r.F ≠ 1 ∧ v = r.ver
  · rw [if_pos hB]
    exact ⟨rfl, ⟨by show r.ver ≤ r.ver + 1; omega, Int.le_refl _⟩, h6⟩
  · rw [if_neg hB]
    exact ⟨rfl, ⟨Int.le_refl _, by show r.ver ≤ r.ver + 1; omega⟩, h6⟩

def dval (k n : Int) (name txt : ByteArray) (a : Option Addr) (l c : Nat) : List Value := [.int .i64 k, .string name, .string txt, .int .i64 n, .slice a l c]
theorem does_spec {h : Heap} {t b m x : Nat} {d : Option Nat} {s : BS} {r : RS} (B : Bkt h b m d s) (X : RBk h x r) (R : Rel s r) {k n : Int} {name txt : ByteArray} {a : Option Addr} {l c : Nat} {F : List Int}
    (hxb : x ≠ b) (hxm : x ≠ m) (hdx : d ≠ some x) (hk : -2^63 ≤ k) (hk2 : k < 2^63) (hn : -2^63 ≤ n) (hn2 : n < 2^63) (hF : ∀ h', Fr3 b m x h h' → Sl h' a l (Value.int .i64) F) (hl : l ≤ 1048576) (hver : 0 ≤ r.ver) (hver2 : r.ver ≤ 900) (hL : r.L.length ≤ 900) (hFs : r.F.length ≤ 7000000) :
    CallSpec Try.prog 18 #[.pointer (some ⟨b, 0, none⟩), .pointer (some ⟨x, 0, none⟩), .agg #[.int .i64 k, .string name, .string txt, .int .i64 n, .slice a l c]] h t
      (fun v h' t' => v = .bool true ∧ t ≤ t' ∧ After h h' b m x r l) := by
  have hFl := (hF h (fun _ _ _ _ _ e => e)).1
  refine Go.Vc.spec_of_vc (fn := Try.f18) Try.func18 rfl (by kernel_rfl) (by kernel_rfl) (Nat.le_of_ble_eq_true rfl) ?_
  intro hd
  conv => whnf
  intro r0 hr0
  conv => whnf
  repeat (first | ((with_reducible apply Go.Vc.ld_i); (focus ((repeat (first | with_reducible assumption | with_reducible exact Go.Vc.hset_same _ _ _ | with_reducible refine (Go.Vc.hset_ne _ _ (by omega)).trans ?_)); done)); (focus exact rfl); conv => whnf))
  have g0 : RowAt (hset h r0 (.cells #[.int .i64 k, .string name, .string txt, .int .i64 n, .slice a l c] 50)) r0 0 [.int .i64 k, .string name, .string txt, .int .i64 n, .slice a l c] := by
    refine ⟨_, _, _, hset_same _ _ _, fun j hj => ?_⟩
    have : j < 5 := hj
    rcases (by omega : j = 0 ∨ j = 1 ∨ j = 2 ∨ j = 3 ∨ j = 4) with rfl | rfl | rfl | rfl | rfl <;> rfl
  have hs0 := hd.sub_new hr0 (.cells #[.int .i64 k, .string name, .string txt, .int .i64 n, .slice a l c] 50)
  have B0 := B.sub hs0
  have X0 : RBk (hset h r0 (.cells #[.int .i64 k, .string name, .string txt, .int .i64 n, .slice a l c] 50)) x r := by
    obtain ⟨aL, cL, aF, cF, hx, hL, hF⟩ := X
    exact ⟨aL, cL, aF, cF, hs0 _ _ hx, Own.fr hL fun k o _ ho => hs0 k o ho, Own.fr hF fun k o _ ho => hs0 k o ho⟩
  obtain ⟨ob, hob⟩ := B.inb
  have hbt := hd _ _ hob
  obtain ⟨om, hom⟩ := B.inm
  have hmt := hd _ _ hom
  have hxt : x < t := by
    obtain ⟨aL, cL, aF, cF, hx, _, _⟩ := X
    exact hd _ _ hx
  obtain ⟨H0, hsD, hH0, hH1⟩ : ∃ H0 : Heap, Vc.Sub H0 (hset h r0 (.cells #[.int .i64 k, .string name, .string txt, .int .i64 n, .slice a l c] 50)) ∧ H0 r0 = some (.cells #[.int .i64 k, .string name, .string txt, .int .i64 n, .slice a l c] 50) ∧ ∀ q o, H0 q = some o → q = r0 := by
    refine ⟨hset (fun _ => none) r0 (.cells #[.int .i64 k, .string name, .string txt, .int .i64 n, .slice a l c] 50), fun q o hq => ?_, hset_same _ _ _, fun q o hq => ?_⟩
    · by_cases e : q = r0
      · subst e
        rw [hset_same] at hq ⊢
        exact hq
      · rw [hset_ne _ _ e] at hq
        cases hq
    · by_cases e : q = r0
      · exact e
      · rw [hset_ne _ _ e] at hq
        cases hq
  have hH2 : ∀ {h1 : Heap}, FrB b m (hset h r0 (.cells #[.int .i64 k, .string name, .string txt, .int .i64 n, .slice a l c] 50)) h1 → Vc.Sub H0 h1 := fun f q o hq => by
    have := hH1 q o hq
    exact f q o (by omega) (by omega) (hsD q o hq)
  have hH3 : ∀ {h1 h2 : Heap}, Vc.Sub H0 h1 → FrX x h1 h2 → Vc.Sub H0 h2 := fun s f q o hq => by
    have := hH1 q o hq
    exact f q o (by omega) (s q o hq)
  refine br (fun hb => ?_) (fun hb => ?_)
  · conv => whnf
    repeat (first | ((with_reducible apply Go.Vc.wr_i64); (focus exact And.intro (by omega) (by omega)); conv => whnf) | ((with_reducible apply Go.Vc.rem_i); (focus omega); conv => whnf) | ((with_reducible refine And.intro ?_ (And.intro ?_ ?_)); (focus exact rfl); (focus omega); conv => whnf))
    have hkk : 0 ≤ 0 - (k + 1) := by omega
    generalize 0 - (k + 1) = kk at hkk ⊢
    refine br (fun h0 => ?_) (fun h0 => ?_)
    · conv => whnf
      repeat (first | (refine Go.Vc.br_t ?_ ?_; (focus omega); conv => whnf))
      refine Go.Vc.draw_intro [⟨0, false, false, false, 0⟩, ⟨1, false, false, false, 0⟩, ⟨2, false, false, false, 2⟩, ⟨3, false, false, false, 0⟩, ⟨4, false, false, false, 8⟩, ⟨6, false, true, false, 0⟩, ⟨7, false, true, false, 0⟩, ⟨8, false, true, false, 128⟩, ⟨9, false, true, false, 0⟩, ⟨10, false, true, false, 512⟩, ⟨5, true, false, true, 31⟩, ⟨11, true, false, false, 2047⟩, ⟨12, false, false, false, 4095⟩, ⟨13, false, false, false, 8191⟩] (hs := H0) (hsub := hsD) (hm := by kernel_rfl) (hpl := by kernel_rfl) ?_
      conv => whnf
      conv => whnf
      repeat (first | ((with_reducible apply Go.Vc.ld_i); (focus ((repeat (first | with_reducible assumption | with_reducible exact Go.Vc.hset_same _ _ _ | with_reducible refine (Go.Vc.hset_ne _ _ (by omega)).trans ?_)); done)); (focus exact rfl); conv => whnf))
      refine (put_spec B0 name txt).mono ?_
      rintro _ h1 t1 hd1 ht1 ⟨rfl, B1, f1⟩
      obtain ⟨e1, R1⟩ := sim_put R name txt
      have X1 := X0.frB B0 f1 hxb hxm
      have hln := rput_len R name txt
      conv => whnf
      refine ⟨hH2 f1, ?_⟩
      conv => whnf
      refine (rput_spec X1 name txt (by omega)).mono ?_
      rintro _ h2 t2 hd2 ht2 ⟨rfl, X2, f2, _⟩
      conv => whnf
      exact ⟨by rw [opq_eq, decide_eq_true e1], by omega, after hs0 f1 f2 B1 X2 R1 hxb hxm hdx (by omega) (by omega) (by omega) (by omega)⟩
    · refine br (fun h1 => ?_) (fun h1 => ?_)
      · conv => whnf
        refine Go.Vc.draw_intro [⟨0, false, false, false, 0⟩, ⟨1, false, false, false, 0⟩, ⟨2, false, false, false, 2⟩, ⟨3, false, false, false, 0⟩, ⟨4, false, false, false, 8⟩, ⟨6, false, true, false, 0⟩, ⟨7, false, true, false, 0⟩, ⟨8, false, true, false, 128⟩, ⟨9, false, true, false, 0⟩, ⟨10, false, true, false, 512⟩, ⟨5, true, false, true, 31⟩, ⟨11, true, false, false, 2047⟩, ⟨12, false, false, false, 4095⟩, ⟨13, false, false, false, 8191⟩] (hs := H0) (hsub := hsD) (hm := by kernel_rfl) (hpl := by kernel_rfl) ?_
        conv => whnf
        conv => whnf
        repeat (first | ((with_reducible apply Go.Vc.ld_i); (focus ((repeat (first | with_reducible assumption | with_reducible exact Go.Vc.hset_same _ _ _ | with_reducible refine (Go.Vc.hset_ne _ _ (by omega)).trans ?_)); done)); (focus exact rfl); conv => whnf))
        refine (put_spec B0 name txt).mono ?_
        rintro _ h1 t1 hd1 ht1 ⟨rfl, B1, f1⟩
        obtain ⟨e1, R1⟩ := sim_put R name txt
        have X1 := X0.frB B0 f1 hxb hxm
        have hln := rput_len R name txt
        conv => whnf
        refine ⟨hH2 f1, ?_⟩
        conv => whnf
        refine (rput_spec X1 name txt (by omega)).mono ?_
        rintro _ h2 t2 hd2 ht2 ⟨rfl, X2, f2, _⟩
        conv => whnf
        exact ⟨by rw [opq_eq, decide_eq_true e1], by omega, after hs0 f1 f2 B1 X2 R1 hxb hxm hdx (by omega) (by omega) (by omega) (by omega)⟩
      · conv => whnf
        refine br (fun h2 => ?_) (fun h2 => ?_)
        · conv => whnf
          refine Go.Vc.draw_intro [⟨0, false, false, false, 0⟩, ⟨1, false, false, false, 0⟩, ⟨2, false, false, false, 2⟩, ⟨3, false, false, false, 0⟩, ⟨4, false, false, false, 8⟩, ⟨6, false, true, false, 0⟩, ⟨7, false, true, false, 0⟩, ⟨8, false, true, false, 128⟩, ⟨9, false, true, false, 0⟩, ⟨10, false, true, false, 512⟩, ⟨5, true, false, true, 31⟩, ⟨11, true, false, false, 2047⟩, ⟨12, false, false, false, 4095⟩, ⟨13, false, false, false, 8191⟩] (hs := H0) (hsub := hsD) (hm := by kernel_rfl) (hpl := by kernel_rfl) ?_
          conv => whnf
          conv => whnf
          repeat (first | ((with_reducible apply Go.Vc.ld_i); (focus ((repeat (first | with_reducible assumption | with_reducible exact Go.Vc.hset_same _ _ _ | with_reducible refine (Go.Vc.hset_ne _ _ (by omega)).trans ?_)); done)); (focus exact rfl); conv => whnf))
          refine (putNew_spec B0 name txt).mono ?_
          rintro _ h1 t1 hd1 ht1 ⟨rfl, B1, f1⟩
          obtain ⟨e1, R1⟩ := sim_putNew R name txt
          have X1 := X0.frB B0 f1 hxb hxm
          have hln := rputnew_len R name txt
          conv => whnf
          refine ⟨hH2 f1, ?_⟩
          conv => whnf
          refine (rputnew_spec X1 name txt (by omega)).mono ?_
          rintro _ h2 t2 hd2 ht2 ⟨rfl, X2, f2, _⟩
          conv => whnf
          exact ⟨by rw [opq_eq, decide_eq_true e1], by omega, after hs0 f1 f2 B1 X2 R1 hxb hxm hdx (by omega) (by omega) (by omega) (by omega)⟩
        · conv => whnf
          refine br (fun h3 => ?_) (fun h3 => ?_)
          · conv => whnf
            repeat (first | ((with_reducible apply Go.Vc.ld_i); (focus ((repeat (first | with_reducible assumption | with_reducible exact Go.Vc.hset_same _ _ _ | with_reducible refine (Go.Vc.hset_ne _ _ (by omega)).trans ?_)); done)); (focus exact rfl); conv => whnf))
            refine (get_spec B0 name).mono ?_
            rintro _ h1 t1 hd1 ht1 ⟨rfl, B1, f1⟩
            obtain ⟨e1, e2, R1⟩ := sim_get R name
            have X1 := X0.frB B0 f1 hxb hxm
            have hln := rnext_len r
            have g1 := hH2 f1 _ _ hH0
            conv => whnf
            repeat (first | ((with_reducible apply Go.Vc.ld_i); (focus ((repeat (first | with_reducible assumption | with_reducible exact Go.Vc.hset_same _ _ _ | with_reducible refine (Go.Vc.hset_ne _ _ (by omega)).trans ?_)); done)); (focus exact rfl); conv => whnf))
            refine (rget_spec X1 name (by omega)).mono ?_
            rintro _ h2 t2 hd2 ht2 ⟨rfl, X2, f2, _⟩
            rw [e2, e1]
            conv => whnf
            refine br_t rfl ?_
            conv => whnf
            exact ⟨by rw [opq_eq, decide_eq_true rfl], by omega, after hs0 f1 f2 B1 X2 (getR_next s _ name ▸ R1) hxb hxm hdx (by show r.L.length ≤ _; omega) hver (by show r.ver ≤ _; omega) (by omega)⟩
          · conv => whnf
            refine br (fun h4 => ?_) (fun h4 => ?_)
            · conv => whnf
              refine (lock_spec B0).mono ?_
              rintro _ h1 t1 hd1 ht1 ⟨rfl, B1, f1⟩
              obtain ⟨e1, e2, e3, R1⟩ := sim_lock R
              have X1 := X0.frB B0 f1 hxb hxm
              have hln := rnext_len r
              conv => whnf
              refine (rlocked_spec X1).mono ?_
              rintro _ h2 t2 hd2 ht2 ⟨rfl, X2, f2, _⟩
              rw [e3, e2, e1]
              conv => whnf
              refine br_t rfl ?_
              conv => whnf
              repeat (first | (refine Go.Vc.br_t ?_ ?_; (focus omega); conv => whnf))
              exact ⟨by rw [opq_eq, decide_eq_true rfl], by omega, after hs0 f1 f2 B1 X2 R1 hxb hxm hdx (by show r.L.length ≤ _; omega) hver (by show r.ver ≤ _; omega) (by omega)⟩
            · conv => whnf
              refine br (fun h5 => ?_) (fun h5 => ?_)
              · conv => whnf
                repeat (first | (refine Go.Vc.br_t ?_ ?_; (focus omega); conv => whnf))
                obtain ⟨aL, cL, aF, cF, hx0, _, _⟩ := id X0
                have hbt1 := Int.tmod_lt_of_pos n (show (0 : Int) < 3 by decide)
                have hbt2 := Int.lt_tmod_of_pos n (show (0 : Int) < 3 by decide)
                refine Go.Vc.draw_intro [⟨0, false, false, false, 0⟩, ⟨1, false, false, false, 1⟩, ⟨2, false, false, false, 3⟩, ⟨3, false, false, false, 7⟩, ⟨4, false, false, false, 0⟩, ⟨5, false, false, false, 16⟩, ⟨6, false, false, false, 48⟩, ⟨7, false, false, false, 127⟩, ⟨8, false, false, false, 255⟩] (hs := (fun _ => none)) (hsub := (fun _ _ h => nomatch h)) (hm := by kernel_rfl) (hpl := by kernel_rfl) ?_
                conv => whnf
                refine ⟨_, ⟨_, _, _, hx0, rfl, rfl⟩, ?_⟩
                conv => whnf
                conv => whnf
                repeat (first | ((with_reducible apply Go.Vc.ld_i); (focus ((repeat (first | with_reducible assumption | with_reducible exact Go.Vc.hset_same _ _ _ | with_reducible refine (Go.Vc.hset_ne _ _ (by omega)).trans ?_)); done)); (focus exact rfl); conv => whnf) | ((with_reducible refine And.intro ?_ (And.intro ?_ ?_)); (focus exact rfl); (focus omega); conv => whnf))
                refine ⟨_, rfl, ?_⟩
                generalize n.tmod 3 = z3 at hbt1 hbt2 ⊢
                conv => whnf
                repeat (first | ((with_reducible apply Go.Vc.wr_i64); (focus exact And.intro (by omega) (by omega)); conv => whnf))
                refine Go.Vc.draw_intro [⟨0, false, false, false, 0⟩, ⟨1, false, false, false, 0⟩, ⟨2, false, false, false, 0⟩, ⟨3, false, false, false, 4⟩, ⟨5, false, true, false, 0⟩, ⟨6, false, true, false, 0⟩, ⟨7, false, true, false, 0⟩, ⟨8, false, true, false, 128⟩, ⟨4, true, false, true, 15⟩, ⟨9, true, false, false, 511⟩, ⟨10, false, false, false, 1023⟩, ⟨11, false, false, false, 2047⟩] (hs := H0) (hsub := hsD) (hm := by kernel_rfl) (hpl := by kernel_rfl) ?_
                conv => whnf
                conv => whnf
                repeat (first | ((with_reducible apply Go.Vc.ld_i); (focus ((repeat (first | with_reducible assumption | with_reducible exact Go.Vc.hset_same _ _ _ | with_reducible refine (Go.Vc.hset_ne _ _ (by omega)).trans ?_)); done)); (focus exact rfl); conv => whnf))
                refine (swap_spec B0 txt (v := r.ver + z3) (by omega) (by omega)).mono ?_
                rintro _ h1 t1 hd1 ht1 ⟨rfl, B1, f1⟩
                obtain ⟨e1, R1⟩ := sim_swap R (r.ver + z3) txt
                have X1 := X0.frB B0 f1 hxb hxm
                have hln := rswap_len r (r.ver + z3) txt
                conv => whnf
                refine ⟨hH2 f1, ?_⟩
                conv => whnf
                refine (rswap_spec X1 (r.ver + z3) txt (by omega)).mono ?_
                rintro _ h2 t2 hd2 ht2 ⟨rfl, X2, f2, _⟩
                conv => whnf
                exact ⟨by rw [opq_eq, decide_eq_true e1], by omega, after hs0 f1 f2 B1 X2 R1 hxb hxm hdx (by rw [hln.1]; omega) (by omega) (by omega) (by omega)⟩
              · refine br (fun h6 => ?_) (fun h6 => ?_)
                · conv => whnf
                  obtain ⟨aL, cL, aF, cF, hx0, _, _⟩ := id X0
                  have hbt1 := Int.tmod_lt_of_pos n (show (0 : Int) < 3 by decide)
                  have hbt2 := Int.lt_tmod_of_pos n (show (0 : Int) < 3 by decide)
                  refine Go.Vc.draw_intro [⟨0, false, false, false, 0⟩, ⟨1, false, false, false, 1⟩, ⟨2, false, false, false, 3⟩, ⟨3, false, false, false, 7⟩, ⟨4, false, false, false, 0⟩, ⟨5, false, false, false, 16⟩, ⟨6, false, false, false, 48⟩, ⟨7, false, false, false, 127⟩, ⟨8, false, false, false, 255⟩] (hs := (fun _ => none)) (hsub := (fun _ _ h => nomatch h)) (hm := by kernel_rfl) (hpl := by kernel_rfl) ?_
                  conv => whnf
                  refine ⟨_, ⟨_, _, _, hx0, rfl, rfl⟩, ?_⟩
                  conv => whnf
                  conv => whnf
                  repeat (first | ((with_reducible apply Go.Vc.ld_i); (focus ((repeat (first | with_reducible assumption | with_reducible exact Go.Vc.hset_same _ _ _ | with_reducible refine (Go.Vc.hset_ne _ _ (by omega)).trans ?_)); done)); (focus exact rfl); conv => whnf) | ((with_reducible refine And.intro ?_ (And.intro ?_ ?_)); (focus exact rfl); (focus omega); conv => whnf))
                  refine ⟨_, rfl, ?_⟩
                  generalize n.tmod 3 = z3 at hbt1 hbt2 ⊢
                  conv => whnf
                  repeat (first | ((with_reducible apply Go.Vc.wr_i64); (focus exact And.intro (by omega) (by omega)); conv => whnf))
                  refine Go.Vc.draw_intro [⟨0, false, false, false, 0⟩, ⟨1, false, false, false, 0⟩, ⟨2, false, false, false, 0⟩, ⟨3, false, false, false, 4⟩, ⟨5, false, true, false, 0⟩, ⟨6, false, true, false, 0⟩, ⟨7, false, true, false, 0⟩, ⟨8, false, true, false, 128⟩, ⟨4, true, false, true, 15⟩, ⟨9, true, false, false, 511⟩, ⟨10, false, false, false, 1023⟩, ⟨11, false, false, false, 2047⟩] (hs := H0) (hsub := hsD) (hm := by kernel_rfl) (hpl := by kernel_rfl) ?_
                  conv => whnf
                  conv => whnf
                  repeat (first | ((with_reducible apply Go.Vc.ld_i); (focus ((repeat (first | with_reducible assumption | with_reducible exact Go.Vc.hset_same _ _ _ | with_reducible refine (Go.Vc.hset_ne _ _ (by omega)).trans ?_)); done)); (focus exact rfl); conv => whnf))
                  refine (swap_spec B0 txt (v := r.ver + z3) (by omega) (by omega)).mono ?_
                  rintro _ h1 t1 hd1 ht1 ⟨rfl, B1, f1⟩
                  obtain ⟨e1, R1⟩ := sim_swap R (r.ver + z3) txt
                  have X1 := X0.frB B0 f1 hxb hxm
                  have hln := rswap_len r (r.ver + z3) txt
                  conv => whnf
                  refine ⟨hH2 f1, ?_⟩
                  conv => whnf
                  refine (rswap_spec X1 (r.ver + z3) txt (by omega)).mono ?_
                  rintro _ h2 t2 hd2 ht2 ⟨rfl, X2, f2, _⟩
                  conv => whnf
                  exact ⟨by rw [opq_eq, decide_eq_true e1], by omega, after hs0 f1 f2 B1 X2 R1 hxb hxm hdx (by rw [hln.1]; omega) (by omega) (by omega) (by omega)⟩
                · conv => whnf
                  repeat (first | ((with_reducible apply Go.Vc.ld_i); (focus ((repeat (first | with_reducible assumption | with_reducible exact Go.Vc.hset_same _ _ _ | with_reducible refine (Go.Vc.hset_ne _ _ (by omega)).trans ?_)); done)); (focus exact rfl); conv => whnf))
                  have g00 := g0
                  refine (fates_spec B0 (hF _ (fun q o _ _ _ ho => hs0 q o ho)) (by rw [R.fs]; omega)).mono ?_
                  rintro _ h1 t1 hd1 ht1 ⟨rfl, d', B1, f1, hd'⟩
                  have R1 := sim_fates R F
                  have X1 := X0.frB B0 f1 hxb hxm
                  have g1 := hH2 f1 _ _ hH0
                  conv => whnf
                  repeat (first | ((with_reducible apply Go.Vc.ld_i); (focus ((repeat (first | with_reducible assumption | with_reducible exact Go.Vc.hset_same _ _ _ | with_reducible refine (Go.Vc.hset_ne _ _ (by omega)).trans ?_)); done)); (focus exact rfl); conv => whnf))
                  refine (rfates_spec X1 (hF _ (fun q o q1 q2 _ ho => f1 q o q1 q2 (hs0 q o ho))) (by omega)).mono ?_
                  rintro _ h2 t2 hd2 ht2 ⟨rfl, X2, f2, _⟩
                  conv => whnf
                  repeat (first | ((with_reducible refine And.intro ?_ (And.intro ?_ ?_)); (focus exact rfl); (focus omega); conv => whnf))
                  exact after hs0 f1 f2 B1 X2 R1 hxb hxm (fun e => by have := hd' _ e; omega) (by show r.L.length ≤ _; omega) hver (by show r.ver ≤ _; omega) (by show (r.F ++ F).length ≤ _; rw [List.length_append, hFl]; omega)
  · conv => whnf
    repeat (first | ((with_reducible apply Go.Vc.rem_i); (focus omega); conv => whnf) | ((with_reducible refine And.intro ?_ (And.intro ?_ ?_)); (focus exact rfl); (focus omega); conv => whnf))
    refine br (fun h0 => ?_) (fun h0 => ?_)
    · conv => whnf
      repeat (first | (refine Go.Vc.br_t ?_ ?_; (focus omega); conv => whnf))
      refine Go.Vc.draw_intro [⟨0, false, false, false, 0⟩, ⟨1, false, false, false, 0⟩, ⟨2, false, false, false, 2⟩, ⟨3, false, false, false, 0⟩, ⟨4, false, false, false, 8⟩, ⟨6, false, true, false, 0⟩, ⟨7, false, true, false, 0⟩, ⟨8, false, true, false, 128⟩, ⟨9, false, true, false, 0⟩, ⟨10, false, true, false, 512⟩, ⟨5, true, false, true, 31⟩, ⟨11, true, false, false, 2047⟩, ⟨12, false, false, false, 4095⟩, ⟨13, false, false, false, 8191⟩] (hs := H0) (hsub := hsD) (hm := by kernel_rfl) (hpl := by kernel_rfl) ?_
      conv => whnf
      conv => whnf
      repeat (first | ((with_reducible apply Go.Vc.ld_i); (focus ((repeat (first | with_reducible assumption | with_reducible exact Go.Vc.hset_same _ _ _ | with_reducible refine (Go.Vc.hset_ne _ _ (by omega)).trans ?_)); done)); (focus exact rfl); conv => whnf))
      refine (put_spec B0 name txt).mono ?_
      rintro _ h1 t1 hd1 ht1 ⟨rfl, B1, f1⟩
      obtain ⟨e1, R1⟩ := sim_put R name txt
      have X1 := X0.frB B0 f1 hxb hxm
      have hln := rput_len R name txt
      conv => whnf
      refine ⟨hH2 f1, ?_⟩
      conv => whnf
      refine (rput_spec X1 name txt (by omega)).mono ?_
      rintro _ h2 t2 hd2 ht2 ⟨rfl, X2, f2, _⟩
      conv => whnf
      exact ⟨by rw [opq_eq, decide_eq_true e1], by omega, after hs0 f1 f2 B1 X2 R1 hxb hxm hdx (by omega) (by omega) (by omega) (by omega)⟩
    · refine br (fun h1 => ?_) (fun h1 => ?_)
      · conv => whnf
        refine Go.Vc.draw_intro [⟨0, false, false, false, 0⟩, ⟨1, false, false, false, 0⟩, ⟨2, false, false, false, 2⟩, ⟨3, false, false, false, 0⟩, ⟨4, false, false, false, 8⟩, ⟨6, false, true, false, 0⟩, ⟨7, false, true, false, 0⟩, ⟨8, false, true, false, 128⟩, ⟨9, false, true, false, 0⟩, ⟨10, false, true, false, 512⟩, ⟨5, true, false, true, 31⟩, ⟨11, true, false, false, 2047⟩, ⟨12, false, false, false, 4095⟩, ⟨13, false, false, false, 8191⟩] (hs := H0) (hsub := hsD) (hm := by kernel_rfl) (hpl := by kernel_rfl) ?_
        conv => whnf
        conv => whnf
        repeat (first | ((with_reducible apply Go.Vc.ld_i); (focus ((repeat (first | with_reducible assumption | with_reducible exact Go.Vc.hset_same _ _ _ | with_reducible refine (Go.Vc.hset_ne _ _ (by omega)).trans ?_)); done)); (focus exact rfl); conv => whnf))
        refine (put_spec B0 name txt).mono ?_
        rintro _ h1 t1 hd1 ht1 ⟨rfl, B1, f1⟩
        obtain ⟨e1, R1⟩ := sim_put R name txt
        have X1 := X0.frB B0 f1 hxb hxm
        have hln := rput_len R name txt
        conv => whnf
        refine ⟨hH2 f1, ?_⟩
        conv => whnf
        refine (rput_spec X1 name txt (by omega)).mono ?_
        rintro _ h2 t2 hd2 ht2 ⟨rfl, X2, f2, _⟩
        conv => whnf
        exact ⟨by rw [opq_eq, decide_eq_true e1], by omega, after hs0 f1 f2 B1 X2 R1 hxb hxm hdx (by omega) (by omega) (by omega) (by omega)⟩
      · conv => whnf
        refine br (fun h2 => ?_) (fun h2 => ?_)
        · conv => whnf
          refine Go.Vc.draw_intro [⟨0, false, false, false, 0⟩, ⟨1, false, false, false, 0⟩, ⟨2, false, false, false, 2⟩, ⟨3, false, false, false, 0⟩, ⟨4, false, false, false, 8⟩, ⟨6, false, true, false, 0⟩, ⟨7, false, true, false, 0⟩, ⟨8, false, true, false, 128⟩, ⟨9, false, true, false, 0⟩, ⟨10, false, true, false, 512⟩, ⟨5, true, false, true, 31⟩, ⟨11, true, false, false, 2047⟩, ⟨12, false, false, false, 4095⟩, ⟨13, false, false, false, 8191⟩] (hs := H0) (hsub := hsD) (hm := by kernel_rfl) (hpl := by kernel_rfl) ?_
          conv => whnf
          conv => whnf
          repeat (first | ((with_reducible apply Go.Vc.ld_i); (focus ((repeat (first | with_reducible assumption | with_reducible exact Go.Vc.hset_same _ _ _ | with_reducible refine (Go.Vc.hset_ne _ _ (by omega)).trans ?_)); done)); (focus exact rfl); conv => whnf))
          refine (putNew_spec B0 name txt).mono ?_
          rintro _ h1 t1 hd1 ht1 ⟨rfl, B1, f1⟩
          obtain ⟨e1, R1⟩ := sim_putNew R name txt
          have X1 := X0.frB B0 f1 hxb hxm
          have hln := rputnew_len R name txt
          conv => whnf
          refine ⟨hH2 f1, ?_⟩
          conv => whnf
          refine (rputnew_spec X1 name txt (by omega)).mono ?_
          rintro _ h2 t2 hd2 ht2 ⟨rfl, X2, f2, _⟩
          conv => whnf
          exact ⟨by rw [opq_eq, decide_eq_true e1], by omega, after hs0 f1 f2 B1 X2 R1 hxb hxm hdx (by omega) (by omega) (by omega) (by omega)⟩
        · conv => whnf
          refine br (fun h3 => ?_) (fun h3 => ?_)
          · conv => whnf
            repeat (first | ((with_reducible apply Go.Vc.ld_i); (focus ((repeat (first | with_reducible assumption | with_reducible exact Go.Vc.hset_same _ _ _ | with_reducible refine (Go.Vc.hset_ne _ _ (by omega)).trans ?_)); done)); (focus exact rfl); conv => whnf))
            refine (get_spec B0 name).mono ?_
            rintro _ h1 t1 hd1 ht1 ⟨rfl, B1, f1⟩
            obtain ⟨e1, e2, R1⟩ := sim_get R name
            have X1 := X0.frB B0 f1 hxb hxm
            have hln := rnext_len r
            have g1 := hH2 f1 _ _ hH0
            conv => whnf
            repeat (first | ((with_reducible apply Go.Vc.ld_i); (focus ((repeat (first | with_reducible assumption | with_reducible exact Go.Vc.hset_same _ _ _ | with_reducible refine (Go.Vc.hset_ne _ _ (by omega)).trans ?_)); done)); (focus exact rfl); conv => whnf))
            refine (rget_spec X1 name (by omega)).mono ?_
            rintro _ h2 t2 hd2 ht2 ⟨rfl, X2, f2, _⟩
            rw [e2, e1]
            conv => whnf
            refine br_t rfl ?_
            conv => whnf
            exact ⟨by rw [opq_eq, decide_eq_true rfl], by omega, after hs0 f1 f2 B1 X2 (getR_next s _ name ▸ R1) hxb hxm hdx (by show r.L.length ≤ _; omega) hver (by show r.ver ≤ _; omega) (by omega)⟩
          · conv => whnf
            refine br (fun h4 => ?_) (fun h4 => ?_)
            · conv => whnf
              refine (lock_spec B0).mono ?_
              rintro _ h1 t1 hd1 ht1 ⟨rfl, B1, f1⟩
              obtain ⟨e1, e2, e3, R1⟩ := sim_lock R
              have X1 := X0.frB B0 f1 hxb hxm
              have hln := rnext_len r
              conv => whnf
              refine (rlocked_spec X1).mono ?_
              rintro _ h2 t2 hd2 ht2 ⟨rfl, X2, f2, _⟩
              rw [e3, e2, e1]
              conv => whnf
              refine br_t rfl ?_
              conv => whnf
              repeat (first | (refine Go.Vc.br_t ?_ ?_; (focus omega); conv => whnf))
              exact ⟨by rw [opq_eq, decide_eq_true rfl], by omega, after hs0 f1 f2 B1 X2 R1 hxb hxm hdx (by show r.L.length ≤ _; omega) hver (by show r.ver ≤ _; omega) (by omega)⟩
            · conv => whnf
              refine br (fun h5 => ?_) (fun h5 => ?_)
              · conv => whnf
                repeat (first | (refine Go.Vc.br_t ?_ ?_; (focus omega); conv => whnf))
                obtain ⟨aL, cL, aF, cF, hx0, _, _⟩ := id X0
                have hbt1 := Int.tmod_lt_of_pos n (show (0 : Int) < 3 by decide)
                have hbt2 := Int.lt_tmod_of_pos n (show (0 : Int) < 3 by decide)
                refine Go.Vc.draw_intro [⟨0, false, false, false, 0⟩, ⟨1, false, false, false, 1⟩, ⟨2, false, false, false, 3⟩, ⟨3, false, false, false, 7⟩, ⟨4, false, false, false, 0⟩, ⟨5, false, false, false, 16⟩, ⟨6, false, false, false, 48⟩, ⟨7, false, false, false, 127⟩, ⟨8, false, false, false, 255⟩] (hs := (fun _ => none)) (hsub := (fun _ _ h => nomatch h)) (hm := by kernel_rfl) (hpl := by kernel_rfl) ?_
                conv => whnf
                refine ⟨_, ⟨_, _, _, hx0, rfl, rfl⟩, ?_⟩
                conv => whnf
                conv => whnf
                repeat (first | ((with_reducible apply Go.Vc.ld_i); (focus ((repeat (first | with_reducible assumption | with_reducible exact Go.Vc.hset_same _ _ _ | with_reducible refine (Go.Vc.hset_ne _ _ (by omega)).trans ?_)); done)); (focus exact rfl); conv => whnf) | ((with_reducible refine And.intro ?_ (And.intro ?_ ?_)); (focus exact rfl); (focus omega); conv => whnf))
                refine ⟨_, rfl, ?_⟩
                generalize n.tmod 3 = z3 at hbt1 hbt2 ⊢
                conv => whnf
                repeat (first | ((with_reducible apply Go.Vc.wr_i64); (focus exact And.intro (by omega) (by omega)); conv => whnf))
                refine Go.Vc.draw_intro [⟨0, false, false, false, 0⟩, ⟨1, false, false, false, 0⟩, ⟨2, false, false, false, 0⟩, ⟨3, false, false, false, 4⟩, ⟨5, false, true, false, 0⟩, ⟨6, false, true, false, 0⟩, ⟨7, false, true, false, 0⟩, ⟨8, false, true, false, 128⟩, ⟨4, true, false, true, 15⟩, ⟨9, true, false, false, 511⟩, ⟨10, false, false, false, 1023⟩, ⟨11, false, false, false, 2047⟩] (hs := H0) (hsub := hsD) (hm := by kernel_rfl) (hpl := by kernel_rfl) ?_
                conv => whnf
                conv => whnf
                repeat (first | ((with_reducible apply Go.Vc.ld_i); (focus ((repeat (first | with_reducible assumption | with_reducible exact Go.Vc.hset_same _ _ _ | with_reducible refine (Go.Vc.hset_ne _ _ (by omega)).trans ?_)); done)); (focus exact rfl); conv => whnf))
                refine (swap_spec B0 txt (v := r.ver + z3) (by omega) (by omega)).mono ?_
                rintro _ h1 t1 hd1 ht1 ⟨rfl, B1, f1⟩
                obtain ⟨e1, R1⟩ := sim_swap R (r.ver + z3) txt
                have X1 := X0.frB B0 f1 hxb hxm
                have hln := rswap_len r (r.ver + z3) txt
                conv => whnf
                refine ⟨hH2 f1, ?_⟩
                conv => whnf
                refine (rswap_spec X1 (r.ver + z3) txt (by omega)).mono ?_
                rintro _ h2 t2 hd2 ht2 ⟨rfl, X2, f2, _⟩
                conv => whnf
                exact ⟨by rw [opq_eq, decide_eq_true e1], by omega, after hs0 f1 f2 B1 X2 R1 hxb hxm hdx (by rw [hln.1]; omega) (by omega) (by omega) (by omega)⟩
              · refine br (fun h6 => ?_) (fun h6 => ?_)
                · conv => whnf
                  obtain ⟨aL, cL, aF, cF, hx0, _, _⟩ := id X0
                  have hbt1 := Int.tmod_lt_of_pos n (show (0 : Int) < 3 by decide)
                  have hbt2 := Int.lt_tmod_of_pos n (show (0 : Int) < 3 by decide)
                  refine Go.Vc.draw_intro [⟨0, false, false, false, 0⟩, ⟨1, false, false, false, 1⟩, ⟨2, false, false, false, 3⟩, ⟨3, false, false, false, 7⟩, ⟨4, false, false, false, 0⟩, ⟨5, false, false, false, 16⟩, ⟨6, false, false, false, 48⟩, ⟨7, false, false, false, 127⟩, ⟨8, false, false, false, 255⟩] (hs := (fun _ => none)) (hsub := (fun _ _ h => nomatch h)) (hm := by kernel_rfl) (hpl := by kernel_rfl) ?_
                  conv => whnf
                  refine ⟨_, ⟨_, _, _, hx0, rfl, rfl⟩, ?_⟩
                  conv => whnf
                  conv => whnf
                  repeat (first | ((with_reducible apply Go.Vc.ld_i); (focus ((repeat (first | with_reducible assumption | with_reducible exact Go.Vc.hset_same _ _ _ | with_reducible refine (Go.Vc.hset_ne _ _ (by omega)).trans ?_)); done)); (focus exact rfl); conv => whnf) | ((with_reducible refine And.intro ?_ (And.intro ?_ ?_)); (focus exact rfl); (focus omega); conv => whnf))
                  refine ⟨_, rfl, ?_⟩
                  generalize n.tmod 3 = z3 at hbt1 hbt2 ⊢
                  conv => whnf
                  repeat (first | ((with_reducible apply Go.Vc.wr_i64); (focus exact And.intro (by omega) (by omega)); conv => whnf))
                  refine Go.Vc.draw_intro [⟨0, false, false, false, 0⟩, ⟨1, false, false, false, 0⟩, ⟨2, false, false, false, 0⟩, ⟨3, false, false, false, 4⟩, ⟨5, false, true, false, 0⟩, ⟨6, false, true, false, 0⟩, ⟨7, false, true, false, 0⟩, ⟨8, false, true, false, 128⟩, ⟨4, true, false, true, 15⟩, ⟨9, true, false, false, 511⟩, ⟨10, false, false, false, 1023⟩, ⟨11, false, false, false, 2047⟩] (hs := H0) (hsub := hsD) (hm := by kernel_rfl) (hpl := by kernel_rfl) ?_
                  conv => whnf
                  conv => whnf
                  repeat (first | ((with_reducible apply Go.Vc.ld_i); (focus ((repeat (first | with_reducible assumption | with_reducible exact Go.Vc.hset_same _ _ _ | with_reducible refine (Go.Vc.hset_ne _ _ (by omega)).trans ?_)); done)); (focus exact rfl); conv => whnf))
                  refine (swap_spec B0 txt (v := r.ver + z3) (by omega) (by omega)).mono ?_
                  rintro _ h1 t1 hd1 ht1 ⟨rfl, B1, f1⟩
                  obtain ⟨e1, R1⟩ := sim_swap R (r.ver + z3) txt
                  have X1 := X0.frB B0 f1 hxb hxm
                  have hln := rswap_len r (r.ver + z3) txt
                  conv => whnf
                  refine ⟨hH2 f1, ?_⟩
                  conv => whnf
                  refine (rswap_spec X1 (r.ver + z3) txt (by omega)).mono ?_
                  rintro _ h2 t2 hd2 ht2 ⟨rfl, X2, f2, _⟩
                  conv => whnf
                  exact ⟨by rw [opq_eq, decide_eq_true e1], by omega, after hs0 f1 f2 B1 X2 R1 hxb hxm hdx (by rw [hln.1]; omega) (by omega) (by omega) (by omega)⟩
                · conv => whnf
                  repeat (first | ((with_reducible apply Go.Vc.ld_i); (focus ((repeat (first | with_reducible assumption | with_reducible exact Go.Vc.hset_same _ _ _ | with_reducible refine (Go.Vc.hset_ne _ _ (by omega)).trans ?_)); done)); (focus exact rfl); conv => whnf))
                  have g00 := g0
                  refine (fates_spec B0 (hF _ (fun q o _ _ _ ho => hs0 q o ho)) (by rw [R.fs]; omega)).mono ?_
                  rintro _ h1 t1 hd1 ht1 ⟨rfl, d', B1, f1, hd'⟩
                  have R1 := sim_fates R F
                  have X1 := X0.frB B0 f1 hxb hxm
                  have g1 := hH2 f1 _ _ hH0
                  conv => whnf
                  repeat (first | ((with_reducible apply Go.Vc.ld_i); (focus ((repeat (first | with_reducible assumption | with_reducible exact Go.Vc.hset_same _ _ _ | with_reducible refine (Go.Vc.hset_ne _ _ (by omega)).trans ?_)); done)); (focus exact rfl); conv => whnf))
                  refine (rfates_spec X1 (hF _ (fun q o q1 q2 _ ho => f1 q o q1 q2 (hs0 q o ho))) (by omega)).mono ?_
                  rintro _ h2 t2 hd2 ht2 ⟨rfl, X2, f2, _⟩
                  conv => whnf
                  repeat (first | ((with_reducible refine And.intro ?_ (And.intro ?_ ?_)); (focus exact rfl); (focus omega); conv => whnf))
                  exact after hs0 f1 f2 B1 X2 R1 hxb hxm (fun e => by have := hd' _ e; omega) (by show r.L.length ≤ _; omega) hver (by show r.ver ≤ _; omega) (by show (r.F ++ F).length ≤ _; rw [List.length_append, hFl]; omega)
end Go.Proofs.Ytjolbngckdfelaa
