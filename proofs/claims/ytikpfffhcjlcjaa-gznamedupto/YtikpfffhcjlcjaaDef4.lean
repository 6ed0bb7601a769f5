import Derived.Test.YtikpfffhcjlcjaaDef3
import Derived.Test.YtikpfffhcjlcjaaDefTok
import Derived.Test.YtikpfffhcjlcjaaVc11
set_option linter.unusedSimpArgs false
namespace Go.Proofs.Ytikpfffhcjlcjaa
open Go Go.Vc Go.Dfl
set_option maxRecDepth 20000
set_option linter.unusedVariables false
theorem back1_spec {h : Heap} {t box l : Nat} {T : TypeId} {a : Option Addr} {n c : Nat} {L : List Int} (hn : n ≤ 1000000) 
    (I : Nat → Heap → Nat → Prop) (F : Heap → Nat → Prop) (I0 : I n h t) (Isub : ∀ i h' t', I i h' t' → h' box = some (.cells #[.slice a n c] T (0, 0)) ∧ Sl h' a n (Value.int .i64) L)
    (step : ∀ i x h' t', i < n → L[i]? = some x → Dom h' t' → I (i + 1) h' t' → YieldSpec Try.prog l #[.int .i64 (i : Nat), .int .i64 x] h' t' (fun b h'' t'' => (b = .bool true ∧ I i h'' t'') ∨ (b = .bool false ∧ F h'' t''))) :
    CallSpec Try.prog 68 #[.func (.yield l) #[] #[], .pointer (some ⟨box, 0, none⟩)] h t (fun _ h' t' => I 0 h' t' ∨ F h' t') := by
  obtain ⟨hbx, hs⟩ := Isub _ _ _ I0
  refine Go.Vc.spec_of_vcI (fn := Try.f68) Try.func68 rfl (by kernel_rfl) (by kernel_rfl) (Nat.le_of_ble_eq_true rfl) ?_
  intro hd
  conv => whnf
  repeat (first | ((with_reducible apply Go.Vc.ld_i); (focus ((repeat (first | with_reducible assumption | with_reducible exact Go.Vc.hset_same _ _ _ | with_reducible refine (Go.Vc.hset_ne _ _ (by omega)).trans ?_)); done)); (focus exact rfl); conv => whnf) | ((with_reducible apply Go.Vc.wr_i64); (focus exact And.intro (by omega) (by omega)); conv => whnf))
  refine loop_introI (fun i : Nat => [(0, .func (.yield l) #[] #[]), (1, .pointer (some ⟨box, 0, none⟩)), (3, .int .i64 ((i : Nat) - 1))])
    (fun i h' t' => i ≤ n ∧ I i h' t') (fun i => i) n ⟨rfl, rfl, rfl, trivial⟩ ⟨Nat.le_refl _, I0⟩ ?_
  rintro i g h1 t1 hd1 ⟨hi, hI⟩
  obtain ⟨hbx1, hs1⟩ := Isub _ _ _ hI
  conv => whnf
  refine br (fun hb => ?_) (fun hb => ?_)
  · obtain ⟨j, rfl⟩ : ∃ j, i = j + 1 := ⟨i - 1, by omega⟩
    have e0 : (((j + 1 : Nat) : Int) - 1) = (j : Int) := by omega
    simp only [e0]
    conv => whnf
    repeat (first | ((with_reducible apply Go.Vc.sl_ix); (focus with_reducible assumption); (focus exact And.intro (by omega) (by omega)); intro xI bI offI hxI hcI; conv => whnf) | ((with_reducible apply Go.Vc.ld_i); (focus ((repeat (first | with_reducible assumption | with_reducible exact Go.Vc.hset_same _ _ _ | with_reducible refine (Go.Vc.hset_ne _ _ (by omega)).trans ?_)); done)); (focus exact rfl); conv => whnf) | ((with_reducible apply Go.Vc.cell_i); (focus assumption); conv => whnf))
    have hx : L[j]? = some xI := hxI
    refine (step j xI h1 t1 (by omega) hx hd1 hI).mono ?_
    rintro _ h2 t2 hd2 ht2 (⟨rfl, hI2⟩ | ⟨rfl, hF⟩)
    · conv => whnf
      repeat (first | ((with_reducible apply Go.Vc.wr_i64); (focus exact And.intro (by omega) (by omega)); conv => whnf))
      exact ⟨rfl, round_end j (by omega) ⟨rfl, rfl, rfl, trivial⟩ ⟨by omega, hI2⟩⟩
    · conv => whnf
      exact .inr hF
  · conv => whnf
    obtain rfl : i = 0 := by omega
    exact .inl hI
theorem back_spec {h : Heap} {t : Nat} (a : Option Addr) (n c : Nat) :
    CallSpec Try.prog 47 #[.slice a n c] h t (fun v h' t' => ∃ box, v = .func (.func 68) #[] #[.pointer (some ⟨box, 0, none⟩)] ∧ h' box = some (.cells #[.slice a n c] 31 (0, 0)) ∧ Vc.Sub h h' ∧ t ≤ box ∧ box < t') := by
  refine Go.Vc.spec_of_vc (fn := Try.f47) Try.func47 rfl (by kernel_rfl) (by kernel_rfl) (Nat.le_of_ble_eq_true rfl) ?_
  intro hd
  conv => whnf
  intro r hr
  conv => whnf
  exact ⟨r, rfl, hset_same _ _ _, hd.sub_new hr _, hr, by omega⟩
theorem match_spec {h : Heap} {t : Nat} {a : Option Addr} {n c : Nat} {P : List Nat} {s : ByteArray} {i to : Nat} (sl : Sl h a n (Value.int .i64) (P.map fun k : Nat => (k : Int))) (hn : n ≤ 1000000) (hP : ∀ k ∈ P, k < i) (hto : to ≤ s.size) (hs : s.size ≤ 100000000) (hi : i < to) :
    CallSpec Try.prog 28 #[.string s, .int .i64 (i : Nat), .int .i64 (to : Nat), .slice a n c] h t (fun v h' t' => v = .agg #[.int .i64 ((pickT s i to 0 (1, 0) P.reverse).1 : Nat), .int .i64 ((pickT s i to 0 (1, 0) P.reverse).2 : Nat)] ∧ Vc.Sub h h' ∧ t ≤ t') := by
  refine Go.Vc.spec_of_vcI (fn := Try.f28) Try.func28 rfl (by kernel_rfl) (by kernel_rfl) (Nat.le_of_ble_eq_true rfl) ?_
  intro hd
  conv => whnf
  repeat (first | ((with_reducible apply Go.Vc.strow); (focus ((repeat (first | with_reducible assumption | with_reducible exact Go.Vc.hset_same _ _ _ | with_reducible refine (Go.Vc.hset_ne _ _ (by omega)).trans ?_)); done)); (focus exact rfl); (focus exact rfl); (focus exact rfl); rintro _ rfl; conv => whnf) | ((with_reducible apply Go.Vc.st_i); (focus ((repeat (first | with_reducible assumption | with_reducible exact Go.Vc.hset_same _ _ _ | with_reducible refine (Go.Vc.hset_ne _ _ (by omega)).trans ?_)); done)); (focus exact rfl); (focus exact rfl); (focus exact rfl); (conv => whnf); intro cA hcA; (first | (simp only [List.setIfInBounds_toArray, List.set_cons_succ, List.set_cons_zero] at hcA; subst hcA) | subst hcA); conv => whnf) | (intro _ _; conv => whnf))
  rename_i r4 hr4 r5 hr5 r6 hr6 r8 hr8 r9 hr9 r10 hr10
  refine (back_spec a n c).mono ?_
  rintro _ h1 t1 hd1 ht1 ⟨box, rfl, hbx, hs1, hb1, hb2⟩
  have g4 : h1 r4 = some (.cells #[.string s] 9 (0, 0)) := hs1 _ _ (by (repeat (first | exact hset_same _ _ _ | refine (hset_ne _ _ (by omega)).trans ?_)); done)
  have g5 : h1 r5 = some (.cells #[.int .i64 (i : Nat)] 3 (0, 0)) := hs1 _ _ (by (repeat (first | exact hset_same _ _ _ | refine (hset_ne _ _ (by omega)).trans ?_)); done)
  have g6 : h1 r6 = some (.cells #[.int .i64 (to : Nat)] 3 (0, 0)) := hs1 _ _ (by (repeat (first | exact hset_same _ _ _ | refine (hset_ne _ _ (by omega)).trans ?_)); done)
  have g8 : h1 r8 = some (.cells #[.int .i64 0, .int .i64 0] 28 (0, 0)) := hs1 _ _ (by (repeat (first | exact hset_same _ _ _ | refine (hset_ne _ _ (by omega)).trans ?_)); done)
  have g9 : h1 r9 = some (.cells #[.int .i64 1, .int .i64 0] 28 (0, 0)) := hs1 _ _ (by (repeat (first | exact hset_same _ _ _ | refine (hset_ne _ _ (by omega)).trans ?_)); done)
  have g10 : h1 r10 = some (.cells #[.int .i64 0] 3 (0, 0)) := hs1 _ _ (by (repeat (first | exact hset_same _ _ _ | refine (hset_ne _ _ (by omega)).trans ?_)); done)
  have hs2 : Vc.Sub h h1 := fun b o hb => hs1 _ _ (by
    have := hd b o hb
    (repeat (first | exact hb | refine (hset_ne _ _ (by omega)).trans ?_)); done)
  clear hs1
  conv => whnf
  refine RangeVC.mk rfl ⟨_, _, _, rfl, ?_⟩
  intro Db L hDb hDL nn fn T2 LR
  generalize hR0 : Loop.mk _ _ _ _ _ _ _ _ = R0
  have hRs : R0.state = .ready := by rw [← hR0]
  have hRn : R0.pending = none := by rw [← hR0]
  have hRp := congrArg Loop.params hR0
  have hRa := congrArg Loop.assign hR0
  have hRb := congrArg Loop.body hR0
  have hRt : T2 = R0.tmps := congrArg Loop.tmps hR0
  rw [hRt] at LR
  dsimp only at hRp hRa hRb
  clear hR0
  have hPl : P.length = n := by have := sl.1; simpa using this
  have hsA := hd1.sub_new hDb (.deferred (some []))
  have hdA := hd1.set Db (.deferred (some [])) (Db + 1) (by omega) (by omega)
  have hsB := hsA.trans (hdA.sub_new (r := L) (by omega) (.loop R0))
  have hlt : ∀ {b : Nat} {o : Obj}, h1 b = some o → b < t1 := fun hb => hd1 _ _ hb
  show CallSpec Try.prog _ #[.func (.yield L) #[] #[], .pointer (some ⟨box, 0, none⟩)] _ _ _
  refine (back1_spec (l := L) (T := 31) (a := a) (n := n) (c := c) (L := P.map fun k : Nat => (k : Int)) hn
    (fun j h' t' => L < t' ∧ h' L = some (.loop R0) ∧ h' Db = some (.deferred (some [])) ∧ Vc.Sub h h' ∧ h' box = h1 box ∧ h' r4 = h1 r4 ∧ h' r5 = h1 r5 ∧ h' r6 = h1 r6 ∧ h' r8 = h1 r8 ∧ ∃ met best, h' r10 = some (.cells #[.int .i64 (met : Nat)] 3 (0, 0)) ∧ h' r9 = some (.cells #[.int .i64 (best.1 : Nat), .int .i64 (best.2 : Nat)] 28 (0, 0)) ∧ met ≤ 16 ∧ pickT s i to met best (P.take j).reverse = pickT s i to 0 (1, 0) P.reverse)
    (fun h' t' => L < t' ∧ (∃ R1, h' L = some (.loop R1) ∧ R1.state = .done ∧ R1.pending = some (.exit 0)) ∧ h' Db = some (.deferred (some [])) ∧ Vc.Sub h h' ∧ h' r8 = h1 r8 ∧ h' r9 = some (.cells #[.int .i64 ((pickT s i to 0 (1, 0) P.reverse).1 : Nat), .int .i64 ((pickT s i to 0 (1, 0) P.reverse).2 : Nat)] 28 (0, 0)))
    ?_ ?_ ?_).mono ?_
  · have e : ∀ b, b < t1 → hset (hset h1 Db (.deferred (some []))) L (.loop R0) b = h1 b := fun b hb => by rw [hset_ne _ _ (by omega), hset_ne _ _ (by omega)]
    exact ⟨by omega, hset_same _ _ _, by rw [hset_ne _ _ (by omega), hset_same], hs2.trans hsB, e _ (hlt hbx), e _ (hlt g4), e _ (hlt g5), e _ (hlt g6), e _ (hlt g8), 0, (1, 0), (e _ (hlt g10)).trans g10, (e _ (hlt g9)).trans g9, by omega, by rw [← hPl, List.take_length]⟩
  · rintro j h' t' ⟨_, _, _, hs, hb, _⟩
    exact ⟨hb.trans hbx, sl.sub hs⟩
  · rintro j x h' t' hj hx hd' ⟨hL, q1, q2, q3, q4, q5, q6, q7, q8, met, best, m1, m2, m3, m4⟩
    obtain ⟨k, hk, rfl⟩ : ∃ k, P[j]? = some k ∧ x = ((k : Nat) : Int) := by
      rw [List.getElem?_map] at hx
      cases hp : P[j]? with
      | none => rw [hp] at hx; cases hx
      | some k => rw [hp] at hx; exact ⟨k, rfl, (Option.some.inj hx).symm⟩
    have hki := hP k (List.mem_of_getElem? hk)
    have htk : (P.take (j + 1)).reverse = k :: (P.take j).reverse := by rw [List.take_add_one, hk]; simp
    rw [htk, pickT] at m4
    have hdl := hlt g4
    have hdl5 := hlt g5
    have hdl6 := hlt g6
    have hdl8 := hlt g8
    have hdl9 := hlt g9
    have hdl10 := hlt g10
    have hdlb := hlt hbx
    refine yield_i q1 hRs hRp hRa hRb LR rfl ?_
    intro hd4
    conv => whnf
    refine ⟨rfl, rfl, _, q1, hRs, ?_⟩
    rintro rb hrb
    have n4 := q5.trans g4
    have n5 := q6.trans g5
    have n6 := q7.trans g6
    have hLr : ∀ (x : Obj), hset (hset h' L (.loop rb)) r10 x L = some (.loop rb) := fun x => by rw [hset_ne _ _ (by omega), hset_same]
    conv => whnf
    repeat (first | ((with_reducible apply Go.Vc.ld_i); (focus ((repeat (first | with_reducible assumption | with_reducible exact Go.Vc.hset_same _ _ _ | with_reducible refine (Go.Vc.hset_ne _ _ (by omega)).trans ?_)); done)); (focus exact rfl); conv => whnf) | ((with_reducible apply Go.Vc.st_i); (focus ((repeat (first | with_reducible assumption | with_reducible exact Go.Vc.hset_same _ _ _ | with_reducible refine (Go.Vc.hset_ne _ _ (by omega)).trans ?_)); done)); (focus exact rfl); (focus exact rfl); (focus exact rfl); (conv => whnf); intro cA hcA; (first | (simp only [List.setIfInBounds_toArray, List.set_cons_succ, List.set_cons_zero] at hcA; subst hcA) | subst hcA); conv => whnf) | ((with_reducible apply Go.Vc.wr_i64); (focus exact And.intro (by omega) (by omega)); conv => whnf))
    refine br (fun hb3 => ?_) (fun hb3 => ?_)
    · rw [if_pos (.inl (by omega))] at m4
      conv => whnf
      refine ⟨rb, hLr _, ?_⟩
      intro r' hr'
      refine .inr ⟨rfl, by omega, ⟨r', hset_same _ _ _, by rw [hr'], by rw [hr']⟩, ?_, fun b o hb => ?_, ?_, ?_⟩
      · rw [hset_ne _ _ (by omega), hset_ne _ _ (by omega), hset_ne _ _ (by omega)]; exact q2
      · have := hd b o hb
        rw [hset_ne _ _ (by omega), hset_ne _ _ (by omega), hset_ne _ _ (by omega)]; exact q3 b o hb
      · rw [hset_ne _ _ (by omega), hset_ne _ _ (by omega), hset_ne _ _ (by omega)]; exact q8
      · rw [hset_ne _ _ (by omega), hset_ne _ _ (by omega), hset_ne _ _ (by omega), ← m4]; exact m2
    · conv => whnf
      repeat (first | ((with_reducible apply Go.Vc.ld_i); (focus ((repeat (first | with_reducible assumption | with_reducible exact Go.Vc.hset_same _ _ _ | with_reducible refine (Go.Vc.hset_ne _ _ (by omega)).trans ?_)); done)); (focus exact rfl); conv => whnf) | ((with_reducible apply Go.Vc.wr_i64); (focus exact And.intro (by omega) (by omega)); conv => whnf))
      refine br (fun hb4 => ?_) (fun hb4 => ?_)
      · rw [if_pos (.inr (by omega))] at m4
        conv => whnf
        refine ⟨rb, hLr _, ?_⟩
        intro r' hr'
        refine .inr ⟨rfl, by omega, ⟨r', hset_same _ _ _, by rw [hr'], by rw [hr']⟩, ?_, fun b o hb => ?_, ?_, ?_⟩
        · rw [hset_ne _ _ (by omega), hset_ne _ _ (by omega), hset_ne _ _ (by omega)]; exact q2
        · have := hd b o hb
          rw [hset_ne _ _ (by omega), hset_ne _ _ (by omega), hset_ne _ _ (by omega)]; exact q3 b o hb
        · rw [hset_ne _ _ (by omega), hset_ne _ _ (by omega), hset_ne _ _ (by omega)]; exact q8
        · rw [hset_ne _ _ (by omega), hset_ne _ _ (by omega), hset_ne _ _ (by omega), ← m4]; exact m2
      · rw [if_neg (by omega)] at m4
        conv => whnf
        have w4 : hset (hset h' L (.loop rb)) r10 (.cells #[.int .i64 ((met : Nat) + 1)] 3 (0, 0)) r4 = _ := (hset_ne _ _ (by omega)).trans ((hset_ne _ _ (by omega)).trans n4)
        have w5 : hset (hset h' L (.loop rb)) r10 (.cells #[.int .i64 ((met : Nat) + 1)] 3 (0, 0)) r5 = _ := (hset_ne _ _ (by omega)).trans ((hset_ne _ _ (by omega)).trans n5)
        have w6 : hset (hset h' L (.loop rb)) r10 (.cells #[.int .i64 ((met : Nat) + 1)] 3 (0, 0)) r6 = _ := (hset_ne _ _ (by omega)).trans ((hset_ne _ _ (by omega)).trans n6)
        have w9 : hset (hset h' L (.loop rb)) r10 (.cells #[.int .i64 ((met : Nat) + 1)] 3 (0, 0)) r9 = _ := (hset_ne _ _ (by omega)).trans ((hset_ne _ _ (by omega)).trans m2)
        have hLr2 := hLr (.cells #[.int .i64 ((met : Nat) + 1)] 3 (0, 0))
        have w10 := hset_same (hset h' L (.loop rb)) r10 (.cells #[.int .i64 ((met : Nat) + 1)] 3 (0, 0))
        have wo : ∀ b, b ≠ L → b ≠ r10 → hset (hset h' L (.loop rb)) r10 (.cells #[.int .i64 ((met : Nat) + 1)] 3 (0, 0)) b = h' b := fun b h1 h2 => by rw [hset_ne _ _ h2, hset_ne _ _ h1]
        generalize hset (hset h' L (.loop rb)) r10 (.cells #[.int .i64 ((met : Nat) + 1)] 3 (0, 0)) = G at w4 w5 w6 w9 w10 wo hLr2 ⊢
        refine loop_introI (fun q : Nat => [(4, .pointer (some ⟨r4, 0, none⟩)), (5, .pointer (some ⟨r5, 0, none⟩)), (6, .pointer (some ⟨r6, 0, none⟩)), (9, .pointer (some ⟨r9, 0, none⟩)), (12, .int .i64 (k : Nat)), (13, .int .i64 (q : Nat))])
          (fun q h'' t'' => G = h'' ∧ t' = t'' ∧ q ≤ 258 ∧ i + q ≤ to ∧ ∀ m, m < q → sameP s k i to m = true) (fun q => 258 - q) 0 ⟨rfl, rfl, rfl, rfl, rfl, rfl, trivial⟩ ⟨rfl, rfl, by omega, by omega, fun m hm => by omega⟩ ?_
        rintro q e2 _ _ hd5 ⟨rfl, rfl, hq, hqt, hqs⟩
        conv => whnf
        refine Go.Vc.draw_intro [⟨0, false, false, false, 0⟩, ⟨1, false, false, false, 1⟩, ⟨2, false, false, false, 3⟩, ⟨3, false, false, false, 7⟩, ⟨4, false, false, false, 7⟩, ⟨5, false, false, false, 31⟩, ⟨6, false, false, false, 7⟩, ⟨7, false, false, false, 127⟩, ⟨8, false, false, false, 255⟩, ⟨9, false, false, false, 511⟩, ⟨10, false, false, false, 1023⟩, ⟨11, false, false, false, 1023⟩, ⟨12, false, false, false, 1023⟩, ⟨13, false, false, false, 7167⟩, ⟨14, false, false, false, 16383⟩, ⟨15, false, false, false, 1023⟩, ⟨16, false, false, false, 1023⟩, ⟨17, false, false, false, 1023⟩, ⟨18, false, false, false, 197631⟩, ⟨19, false, false, false, 492543⟩, ⟨20, false, false, false, 1048575⟩, ⟨21, false, false, false, 2097151⟩] (hs := (fun _ => none)) (hsub := (fun _ _ h => nomatch h)) (hm := by kernel_rfl) (hpl := by kernel_rfl) ?_
        conv => whnf
        conv => whnf
        refine br (fun hb5 => ?_) (fun hb5 => ?_)
        · conv => whnf
          repeat (first | ((with_reducible apply Go.Vc.ld_i); (focus ((repeat (first | with_reducible assumption | with_reducible exact Go.Vc.hset_same _ _ _ | with_reducible refine (Go.Vc.hset_ne _ _ (by omega)).trans ?_)); done)); (focus exact rfl); conv => whnf) | ((with_reducible apply Go.Vc.wr_i64); (focus exact And.intro (by omega) (by omega)); conv => whnf))
          refine br (fun hb6 => ?_) (fun hb6 => ?_)
          · conv => whnf
            repeat (first | ((with_reducible refine And.intro (And.intro ?_ ?_) ?_); (focus omega); (focus omega); conv => whnf) | ((with_reducible apply Go.Vc.ld_i); (focus ((repeat (first | with_reducible assumption | with_reducible exact Go.Vc.hset_same _ _ _ | with_reducible refine (Go.Vc.hset_ne _ _ (by omega)).trans ?_)); done)); (focus exact rfl); conv => whnf) | (intro _ _; conv => whnf) | ((with_reducible apply Go.Vc.wr_i64); (focus exact And.intro (by omega) (by omega)); conv => whnf))
            have e1 : ((k : Int) + (q : Int)).toNat = k + q := by omega
            have e2 : ((i : Int) + (q : Int)).toNat = i + q := by omega
            rw [e1, e2]
            refine br (fun hb7 => ?_) (fun hb7 => ?_)
            · conv => whnf
              repeat (first | ((with_reducible apply Go.Vc.wr_i64); (focus exact And.intro (by omega) (by omega)); conv => whnf))
              refine ⟨rfl, round_end (q + 1) (by omega) ⟨rfl, rfl, rfl, rfl, rfl, rfl, trivial⟩ ⟨rfl, rfl, by omega, by omega, fun m hm => ?_⟩⟩
              rcases Nat.lt_or_ge m q with h2 | h2
              · exact hqs m h2
              · rw [show m = q by omega]
                exact decide_eq_true ⟨by omega, hb7⟩
            · have hstop : q = 258 ∨ sameP s k i to q = false := .inr (by unfold sameP; rw [decide_eq_false]; exact fun h => hb7 h.2)
              have hsm : same s k i to = q := upTo_eq hqs hq hstop
              rw [hsm] at m4
              conv => whnf
              repeat (first | ((with_reducible apply Go.Vc.ld_i); (focus ((repeat (first | with_reducible assumption | with_reducible exact Go.Vc.hset_same _ _ _ | with_reducible refine (Go.Vc.hset_ne _ _ (by omega)).trans ?_)); done)); (focus exact rfl); conv => whnf))
              refine br (fun hb8 => ?_) (fun hb8 => ?_)
              · rw [if_pos (by omega)] at m4
                conv => whnf
                repeat (first | ((with_reducible apply Go.Vc.strow); (focus ((repeat (first | with_reducible assumption | with_reducible exact Go.Vc.hset_same _ _ _ | with_reducible refine (Go.Vc.hset_ne _ _ (by omega)).trans ?_)); done)); (focus exact rfl); (focus exact rfl); (focus exact rfl); rintro _ rfl; conv => whnf) | ((with_reducible apply Go.Vc.ld_i); (focus ((repeat (first | with_reducible assumption | with_reducible exact Go.Vc.hset_same _ _ _ | with_reducible refine (Go.Vc.hset_ne _ _ (by omega)).trans ?_)); done)); (focus exact rfl); conv => whnf) | ((with_reducible apply Go.Vc.wr_i64); (focus exact And.intro (by omega) (by omega)); conv => whnf))
                rw [show ((i : Int) - (k : Int)) = ((i - k : Nat) : Int) by omega]
                refine ⟨rb, (hset_ne _ _ (by omega)).trans hLr2, ?_⟩
                intro r' hr'
                have er : r' = R0 := by rw [hr', hrb, ← hRs, ← hRn]
                subst er
                have wz : ∀ (x : Obj) (b : Nat), b ≠ L → b ≠ r9 → b ≠ r10 → hset (hset G r9 x) L (.loop r') b = h' b := fun x b h1 h2 h3 => by rw [hset_ne _ _ h1, hset_ne _ _ h2]; exact wo b h1 h3
                refine .inl ⟨rfl, by omega, hset_same _ _ _, ?_, fun b o hb => ?_, ?_, ?_, ?_, ?_, ?_, met + 1, (q, i - k), ?_, ?_, by omega, m4⟩
                · rw [wz _ _ (by omega) (by omega) (by omega)]; exact q2
                · have := hd b o hb
                  rw [wz _ _ (by omega) (by omega) (by omega)]; exact q3 b o hb
                · rw [wz _ _ (by omega) (by omega) (by omega)]; exact q4
                · rw [wz _ _ (by omega) (by omega) (by omega)]; exact q5
                · rw [wz _ _ (by omega) (by omega) (by omega)]; exact q6
                · rw [wz _ _ (by omega) (by omega) (by omega)]; exact q7
                · rw [wz _ _ (by omega) (by omega) (by omega)]; exact q8
                · rw [hset_ne _ _ (by omega), hset_ne _ _ (by omega)]; exact w10
                · rw [hset_ne _ _ (by omega), hset_same]; rfl
              · rw [if_neg (by omega)] at m4
                conv => whnf
                refine ⟨rb, hLr2, ?_⟩
                intro r' hr'
                have er : r' = R0 := by rw [hr', hrb, ← hRs, ← hRn]
                subst er
                have wz : ∀ (b : Nat), b ≠ L → b ≠ r10 → hset G L (.loop r') b = h' b := fun b h1 h3 => by rw [hset_ne _ _ h1]; exact wo b h1 h3
                refine .inl ⟨rfl, by omega, hset_same _ _ _, ?_, fun b o hb => ?_, ?_, ?_, ?_, ?_, ?_, met + 1, best, ?_, ?_, by omega, m4⟩
                · rw [wz _ (by omega) (by omega)]; exact q2
                · have := hd b o hb
                  rw [wz _ (by omega) (by omega)]; exact q3 b o hb
                · rw [wz _ (by omega) (by omega)]; exact q4
                · rw [wz _ (by omega) (by omega)]; exact q5
                · rw [wz _ (by omega) (by omega)]; exact q6
                · rw [wz _ (by omega) (by omega)]; exact q7
                · rw [wz _ (by omega) (by omega)]; exact q8
                · rw [hset_ne _ _ (by omega)]; exact w10
                · rw [hset_ne _ _ (by omega)]; exact w9
          · have hstop : q = 258 ∨ sameP s k i to q = false := .inr (by unfold sameP; rw [decide_eq_false]; omega)
            have hsm : same s k i to = q := upTo_eq hqs hq hstop
            rw [hsm] at m4
            conv => whnf
            repeat (first | ((with_reducible apply Go.Vc.ld_i); (focus ((repeat (first | with_reducible assumption | with_reducible exact Go.Vc.hset_same _ _ _ | with_reducible refine (Go.Vc.hset_ne _ _ (by omega)).trans ?_)); done)); (focus exact rfl); conv => whnf))
            refine br (fun hb8 => ?_) (fun hb8 => ?_)
            · rw [if_pos (by omega)] at m4
              conv => whnf
              repeat (first | ((with_reducible apply Go.Vc.strow); (focus ((repeat (first | with_reducible assumption | with_reducible exact Go.Vc.hset_same _ _ _ | with_reducible refine (Go.Vc.hset_ne _ _ (by omega)).trans ?_)); done)); (focus exact rfl); (focus exact rfl); (focus exact rfl); rintro _ rfl; conv => whnf) | ((with_reducible apply Go.Vc.ld_i); (focus ((repeat (first | with_reducible assumption | with_reducible exact Go.Vc.hset_same _ _ _ | with_reducible refine (Go.Vc.hset_ne _ _ (by omega)).trans ?_)); done)); (focus exact rfl); conv => whnf) | ((with_reducible apply Go.Vc.wr_i64); (focus exact And.intro (by omega) (by omega)); conv => whnf))
              rw [show ((i : Int) - (k : Int)) = ((i - k : Nat) : Int) by omega]
              refine ⟨rb, (hset_ne _ _ (by omega)).trans hLr2, ?_⟩
              intro r' hr'
              have er : r' = R0 := by rw [hr', hrb, ← hRs, ← hRn]
              subst er
              have wz : ∀ (x : Obj) (b : Nat), b ≠ L → b ≠ r9 → b ≠ r10 → hset (hset G r9 x) L (.loop r') b = h' b := fun x b h1 h2 h3 => by rw [hset_ne _ _ h1, hset_ne _ _ h2]; exact wo b h1 h3
              refine .inl ⟨rfl, by omega, hset_same _ _ _, ?_, fun b o hb => ?_, ?_, ?_, ?_, ?_, ?_, met + 1, (q, i - k), ?_, ?_, by omega, m4⟩
              · rw [wz _ _ (by omega) (by omega) (by omega)]; exact q2
              · have := hd b o hb
                rw [wz _ _ (by omega) (by omega) (by omega)]; exact q3 b o hb
              · rw [wz _ _ (by omega) (by omega) (by omega)]; exact q4
              · rw [wz _ _ (by omega) (by omega) (by omega)]; exact q5
              · rw [wz _ _ (by omega) (by omega) (by omega)]; exact q6
              · rw [wz _ _ (by omega) (by omega) (by omega)]; exact q7
              · rw [wz _ _ (by omega) (by omega) (by omega)]; exact q8
              · rw [hset_ne _ _ (by omega), hset_ne _ _ (by omega)]; exact w10
              · rw [hset_ne _ _ (by omega), hset_same]; rfl
            · rw [if_neg (by omega)] at m4
              conv => whnf
              refine ⟨rb, hLr2, ?_⟩
              intro r' hr'
              have er : r' = R0 := by rw [hr', hrb, ← hRs, ← hRn]
              subst er
              have wz : ∀ (b : Nat), b ≠ L → b ≠ r10 → hset G L (.loop r') b = h' b := fun b h1 h3 => by rw [hset_ne _ _ h1]; exact wo b h1 h3
              refine .inl ⟨rfl, by omega, hset_same _ _ _, ?_, fun b o hb => ?_, ?_, ?_, ?_, ?_, ?_, met + 1, best, ?_, ?_, by omega, m4⟩
              · rw [wz _ (by omega) (by omega)]; exact q2
              · have := hd b o hb
                rw [wz _ (by omega) (by omega)]; exact q3 b o hb
              · rw [wz _ (by omega) (by omega)]; exact q4
              · rw [wz _ (by omega) (by omega)]; exact q5
              · rw [wz _ (by omega) (by omega)]; exact q6
              · rw [wz _ (by omega) (by omega)]; exact q7
              · rw [wz _ (by omega) (by omega)]; exact q8
              · rw [hset_ne _ _ (by omega)]; exact w10
              · rw [hset_ne _ _ (by omega)]; exact w9
        · have hstop : q = 258 ∨ sameP s k i to q = false := .inl (by omega)
          have hsm : same s k i to = q := upTo_eq hqs hq hstop
          rw [hsm] at m4
          conv => whnf
          repeat (first | ((with_reducible apply Go.Vc.ld_i); (focus ((repeat (first | with_reducible assumption | with_reducible exact Go.Vc.hset_same _ _ _ | with_reducible refine (Go.Vc.hset_ne _ _ (by omega)).trans ?_)); done)); (focus exact rfl); conv => whnf))
          refine br (fun hb8 => ?_) (fun hb8 => ?_)
          · rw [if_pos (by omega)] at m4
            conv => whnf
            repeat (first | ((with_reducible apply Go.Vc.strow); (focus ((repeat (first | with_reducible assumption | with_reducible exact Go.Vc.hset_same _ _ _ | with_reducible refine (Go.Vc.hset_ne _ _ (by omega)).trans ?_)); done)); (focus exact rfl); (focus exact rfl); (focus exact rfl); rintro _ rfl; conv => whnf) | ((with_reducible apply Go.Vc.ld_i); (focus ((repeat (first | with_reducible assumption | with_reducible exact Go.Vc.hset_same _ _ _ | with_reducible refine (Go.Vc.hset_ne _ _ (by omega)).trans ?_)); done)); (focus exact rfl); conv => whnf) | ((with_reducible apply Go.Vc.wr_i64); (focus exact And.intro (by omega) (by omega)); conv => whnf))
            rw [show ((i : Int) - (k : Int)) = ((i - k : Nat) : Int) by omega]
            refine ⟨rb, (hset_ne _ _ (by omega)).trans hLr2, ?_⟩
            intro r' hr'
            have er : r' = R0 := by rw [hr', hrb, ← hRs, ← hRn]
            subst er
            have wz : ∀ (x : Obj) (b : Nat), b ≠ L → b ≠ r9 → b ≠ r10 → hset (hset G r9 x) L (.loop r') b = h' b := fun x b h1 h2 h3 => by rw [hset_ne _ _ h1, hset_ne _ _ h2]; exact wo b h1 h3
            refine .inl ⟨rfl, by omega, hset_same _ _ _, ?_, fun b o hb => ?_, ?_, ?_, ?_, ?_, ?_, met + 1, (q, i - k), ?_, ?_, by omega, m4⟩
            · rw [wz _ _ (by omega) (by omega) (by omega)]; exact q2
            · have := hd b o hb
              rw [wz _ _ (by omega) (by omega) (by omega)]; exact q3 b o hb
            · rw [wz _ _ (by omega) (by omega) (by omega)]; exact q4
            · rw [wz _ _ (by omega) (by omega) (by omega)]; exact q5
            · rw [wz _ _ (by omega) (by omega) (by omega)]; exact q6
            · rw [wz _ _ (by omega) (by omega) (by omega)]; exact q7
            · rw [wz _ _ (by omega) (by omega) (by omega)]; exact q8
            · rw [hset_ne _ _ (by omega), hset_ne _ _ (by omega)]; exact w10
            · rw [hset_ne _ _ (by omega), hset_same]; rfl
          · rw [if_neg (by omega)] at m4
            conv => whnf
            refine ⟨rb, hLr2, ?_⟩
            intro r' hr'
            have er : r' = R0 := by rw [hr', hrb, ← hRs, ← hRn]
            subst er
            have wz : ∀ (b : Nat), b ≠ L → b ≠ r10 → hset G L (.loop r') b = h' b := fun b h1 h3 => by rw [hset_ne _ _ h1]; exact wo b h1 h3
            refine .inl ⟨rfl, by omega, hset_same _ _ _, ?_, fun b o hb => ?_, ?_, ?_, ?_, ?_, ?_, met + 1, best, ?_, ?_, by omega, m4⟩
            · rw [wz _ (by omega) (by omega)]; exact q2
            · have := hd b o hb
              rw [wz _ (by omega) (by omega)]; exact q3 b o hb
            · rw [wz _ (by omega) (by omega)]; exact q4
            · rw [wz _ (by omega) (by omega)]; exact q5
            · rw [wz _ (by omega) (by omega)]; exact q6
            · rw [wz _ (by omega) (by omega)]; exact q7
            · rw [wz _ (by omega) (by omega)]; exact q8
            · rw [hset_ne _ _ (by omega)]; exact w10
            · rw [hset_ne _ _ (by omega)]; exact w9
  · have hl8 := hlt g8
    have hl9 := hlt g9
    rintro _ h' t' hd' ht' (⟨hL, q1, q2, q3, q4, q5, q6, q7, q8, met, best, m1, m2, m3, m4⟩ | ⟨hL, ⟨R1, q1, hst, hpend⟩, q2, q3, q8, q9⟩)
    · have q9 := m2
      rw [show (P.take 0).reverse = [] by simp, pickT] at m4
      rw [m4] at q9
      have hpend := hRn
      refine ⟨R0, q1, by rw [hRs]; decide, ?_⟩
      intro rb hrb
      have k8 : hset h' L (.loop rb) r8 = some (.cells #[.int .i64 0, .int .i64 0] 28 (0, 0)) := (hset_ne _ _ (by omega)).trans (q8.trans g8)
      have k9 : hset h' L (.loop rb) r9 = some (.cells #[.int .i64 ((pickT s i to 0 (1, 0) P.reverse).1 : Nat), .int .i64 ((pickT s i to 0 (1, 0) P.reverse).2 : Nat)] 28 (0, 0)) := (hset_ne _ _ (by omega)).trans q9
      rw [hpend]
      conv => whnf
      repeat (first | ((with_reducible apply Go.Vc.ldrow); (focus ((repeat (first | with_reducible assumption | with_reducible exact Go.Vc.hset_same _ _ _ | with_reducible refine (Go.Vc.hset_ne _ _ (by omega)).trans ?_)); done)); (focus exact rfl); rintro _ rfl; conv => whnf) | ((with_reducible apply Go.Vc.strow); (focus ((repeat (first | with_reducible assumption | with_reducible exact Go.Vc.hset_same _ _ _ | with_reducible refine (Go.Vc.hset_ne _ _ (by omega)).trans ?_)); done)); (focus exact rfl); (focus exact rfl); (focus exact rfl); rintro _ rfl; conv => whnf))
      refine ⟨(hset_ne _ _ (by omega)).trans ((hset_ne _ _ (by omega)).trans q2), ?_⟩
      conv => whnf
      repeat (first | ((with_reducible apply Go.Vc.ldrow); (focus ((repeat (first | with_reducible assumption | with_reducible exact Go.Vc.hset_same _ _ _ | with_reducible refine (Go.Vc.hset_ne _ _ (by omega)).trans ?_)); done)); (focus exact rfl); rintro _ rfl; conv => whnf))
      refine ⟨rfl, fun b o hb => ?_, by omega⟩
      have := hd b o hb
      rw [hset_ne _ _ (by omega), hset_ne _ _ (by omega), hset_ne _ _ (by omega)]
      exact q3 b o hb
    · refine ⟨R1, q1, by rw [hst]; decide, ?_⟩
      intro rb hrb
      have k8 : hset h' L (.loop rb) r8 = some (.cells #[.int .i64 0, .int .i64 0] 28 (0, 0)) := (hset_ne _ _ (by omega)).trans (q8.trans g8)
      have k9 : hset h' L (.loop rb) r9 = some (.cells #[.int .i64 ((pickT s i to 0 (1, 0) P.reverse).1 : Nat), .int .i64 ((pickT s i to 0 (1, 0) P.reverse).2 : Nat)] 28 (0, 0)) := (hset_ne _ _ (by omega)).trans q9
      rw [hpend]
      conv => whnf
      repeat (first | ((with_reducible apply Go.Vc.ldrow); (focus ((repeat (first | with_reducible assumption | with_reducible exact Go.Vc.hset_same _ _ _ | with_reducible refine (Go.Vc.hset_ne _ _ (by omega)).trans ?_)); done)); (focus exact rfl); rintro _ rfl; conv => whnf) | ((with_reducible apply Go.Vc.strow); (focus ((repeat (first | with_reducible assumption | with_reducible exact Go.Vc.hset_same _ _ _ | with_reducible refine (Go.Vc.hset_ne _ _ (by omega)).trans ?_)); done)); (focus exact rfl); (focus exact rfl); (focus exact rfl); rintro _ rfl; conv => whnf))
      refine ⟨(hset_ne _ _ (by omega)).trans ((hset_ne _ _ (by omega)).trans q2), ?_⟩
      conv => whnf
      repeat (first | ((with_reducible apply Go.Vc.ldrow); (focus ((repeat (first | with_reducible assumption | with_reducible exact Go.Vc.hset_same _ _ _ | with_reducible refine (Go.Vc.hset_ne _ _ (by omega)).trans ?_)); done)); (focus exact rfl); rintro _ rfl; conv => whnf))
      refine ⟨rfl, fun b o hb => ?_, by omega⟩
      have := hd b o hb
      rw [hset_ne _ _ (by omega), hset_ne _ _ (by omega), hset_ne _ _ (by omega)]
      exact q3 b o hb
end Go.Proofs.Ytikpfffhcjlcjaa
