import Derived.Test.YtikpfffhcjlcjaaGreatDef9
set_option linter.unusedSimpArgs false
namespace Go.Proofs.YtikpfffhcjlcjaaGreat
open Go Go.Vc Go.Dfl
set_option maxRecDepth 20000
set_option linter.unusedVariables false
theorem rsame_spec {h : Heap} {t : Nat} {s : ByteArray} {k i to : Nat} (hto : to ≤ s.size) (hs : s.size ≤ 100000000) (hi : i < to) (hk : k < i) :
    CallSpec Tryz.prog 51 #[.string s, .int .i64 (k : Nat), .int .i64 (i : Nat), .int .i64 (to : Nat)] h t (fun v h' t' => v = .int .i64 (same s k i to : Nat) ∧ h = h' ∧ t = t') := by
  refine Go.Vc.spec_of_vc (fn := Tryz.f51) Tryz.func51 rfl (by kernel_rfl) (by kernel_rfl) (Nat.le_of_ble_eq_true rfl) ?_
  intro hd
  conv => whnf
  refine loop_intro (fun q : Nat => [(0, .string s), (1, .int .i64 (k : Nat)), (2, .int .i64 (i : Nat)), (3, .int .i64 (to : Nat)), (9, .int .i64 (q : Nat))])
    (fun q h' t' => h = h' ∧ t = t' ∧ q ≤ 258 ∧ i + q ≤ to ∧ ∀ m, m < q → sameP s k i to m = true) (fun q => 258 - q) 0 ⟨rfl, rfl, rfl, rfl, rfl, trivial⟩ ⟨rfl, rfl, by omega, by omega, fun m hm => by omega⟩ ?_
  rintro q e _ _ hd1 ⟨rfl, rfl, hq, hqt, hqs⟩
  conv => whnf
  refine Go.Vc.draw_intro [⟨0, false, false, false, 0⟩, ⟨1, false, false, false, 1⟩, ⟨2, false, false, false, 3⟩, ⟨3, false, false, false, 7⟩, ⟨4, false, false, false, 7⟩, ⟨5, false, false, false, 31⟩, ⟨6, false, false, false, 7⟩, ⟨7, false, false, false, 127⟩, ⟨8, false, false, false, 255⟩, ⟨9, false, false, false, 511⟩, ⟨10, false, false, false, 1023⟩, ⟨11, false, false, false, 1023⟩, ⟨12, false, false, false, 1023⟩, ⟨13, false, false, false, 7167⟩, ⟨14, false, false, false, 16383⟩, ⟨15, false, false, false, 1023⟩, ⟨16, false, false, false, 1023⟩, ⟨17, false, false, false, 1023⟩, ⟨18, false, false, false, 197631⟩, ⟨19, false, false, false, 492543⟩, ⟨20, false, false, false, 1048575⟩, ⟨21, false, false, false, 2097151⟩] (hs := (fun _ => none)) (hsub := (fun _ _ h => nomatch h)) (hm := by kernel_rfl) (hpl := by kernel_rfl) ?_
  conv => whnf
  conv => whnf
  refine br (fun hb5 => ?_) (fun hb5 => ?_)
  · conv => whnf
    repeat (first | ((with_reducible apply Go.Vc.wr_i64); (focus exact And.intro (by omega) (by omega)); conv => whnf))
    refine br (fun hb6 => ?_) (fun hb6 => ?_)
    · conv => whnf
      repeat (first | ((with_reducible refine And.intro (And.intro ?_ ?_) ?_); (focus omega); (focus omega); conv => whnf) | (intro _ _; conv => whnf) | ((with_reducible apply Go.Vc.wr_i64); (focus exact And.intro (by omega) (by omega)); conv => whnf))
      have e1 : ((k : Int) + (q : Int)).toNat = k + q := by omega
      have e2 : ((i : Int) + (q : Int)).toNat = i + q := by omega
      rw [e1, e2]
      refine br (fun hb7 => ?_) (fun hb7 => ?_)
      · conv => whnf
        repeat (first | ((with_reducible apply Go.Vc.wr_i64); (focus exact And.intro (by omega) (by omega)); conv => whnf))
        refine round_end (q + 1) (by omega) ⟨rfl, rfl, rfl, rfl, rfl, trivial⟩ ⟨rfl, rfl, by omega, by omega, fun m hm => ?_⟩
        rcases Nat.lt_or_ge m q with h2 | h2
        · exact hqs m h2
        · rw [show m = q by omega]
          exact decide_eq_true ⟨by omega, hb7⟩
      · have hstop : q = 258 ∨ sameP s k i to q = false := .inr (by unfold sameP; rw [decide_eq_false]; exact fun h => hb7 h.2)
        have hsm : same s k i to = q := upTo_eq hqs hq hstop
        rw [hsm]
        conv => whnf
        exact ⟨rfl, rfl, rfl⟩
    · have hstop : q = 258 ∨ sameP s k i to q = false := .inr (by unfold sameP; rw [decide_eq_false]; omega)
      have hsm : same s k i to = q := upTo_eq hqs hq hstop
      rw [hsm]
      conv => whnf
      exact ⟨rfl, rfl, rfl⟩
  · have hstop : q = 258 ∨ sameP s k i to q = false := .inl (by omega)
    have hsm : same s k i to = q := upTo_eq hqs hq hstop
    rw [hsm]
    conv => whnf
    exact ⟨rfl, rfl, rfl⟩
theorem app_tkr {ty : TypeId} {h : Heap} {t : Nat} {a : Option Addr} {n c : Nat} {l l2 : List Value} {xa : Option Addr} {xc m : Nat}
    (ho : Vc.Own h 95 a (n * 2) (c * 2) id l) (hx : Sl h xa (m * 2) id l2) (hf : l2.all oneC = true) (hb : n + m ≤ 200000000) (hdm : Dom h t) {K : Value → Heap → Nat → Prop}
    (hK : ∀ a' c' h' t', Vc.Own h' 95 a' ((n + m) * 2) (c' * 2) id (l ++ l2) → t ≤ t' → Dom h' t' → (∀ k, k < t → owner a ≠ some k → h' k = h k) → (owner a' = owner a ∨ ∃ r, owner a' = some r ∧ t ≤ r) → K (.slice a' (n + m) c') h' t') :
    AppVC Tryz.prog #[60, 60] ty (.slice a n c) (.slice xa m xc) K h t :=
  app_vcW (E := 95) (inf := Tryz.types[95]) (z := .agg #[.int .i64 0, .int .i64 0]) (W := 2) Tryz.underlying60 Tryz.underlying60 rfl (by kernel_rfl) (by kernel_rfl) (by decide) (by kernel_rfl) rfl ho hx hf (by
    show (n + m) * 16 ≤ 2 ^ 40
    omega) (by omega) (by show 16 ≤ 1000; decide) hdm hK
def pickM (s : ByteArray) (i to m met : Nat) (best : Nat × Nat) : Nat × Nat := pickT s i to met best ((List.range m).filter fun k => decide (k + 3 ≤ s.size ∧ gram s k = gram s i)).reverse
theorem pickM_zero (s : ByteArray) (i to met : Nat) (best : Nat × Nat) : pickM s i to 0 met best = best := by
  unfold pickM; simp [pickT]
theorem pickM_stop {s : ByteArray} {i to m met : Nat} {best : Nat × Nat} (h : 16 ≤ met ∨ m + 32768 ≤ i) : pickM s i to m met best = best := by
  unfold pickM
  rcases hL : ((List.range m).filter fun k => decide (k + 3 ≤ s.size ∧ gram s k = gram s i)).reverse with _ | ⟨k, ks⟩
  · rw [pickT]
  · have hk : k ∈ (List.range m).filter fun k => decide (k + 3 ≤ s.size ∧ gram s k = gram s i) := by
      rw [← List.mem_reverse, hL]; simp
    have := List.mem_range.1 (List.mem_filter.1 hk).1
    rw [pickT, if_pos (by omega)]
theorem pickM_skip {s : ByteArray} {i to m met : Nat} {best : Nat × Nat} (h : ¬ (m + 3 ≤ s.size ∧ gram s m = gram s i)) : pickM s i to (m + 1) met best = pickM s i to m met best := by
  unfold pickM
  rw [List.range_succ, List.filter_append, List.filter_cons_of_neg (by simpa using h), List.filter_nil, List.append_nil]
theorem pickM_take {s : ByteArray} {i to m met : Nat} {best : Nat × Nat} (h : m + 3 ≤ s.size) (hg : gram s m = gram s i) (hm : met < 16) (hi : i ≤ m + 32768) :
    pickM s i to (m + 1) met best = pickM s i to m (met + 1) (if best.1 < same s m i to then (same s m i to, i - m) else best) := by
  unfold pickM
  rw [List.range_succ, List.filter_append, List.filter_cons_of_pos (by simpa using ⟨h, hg⟩), List.filter_nil, List.reverse_append]
  show pickT s i to met best (m :: _) = _
  rw [pickT, if_neg (by omega)]
  rfl
theorem reftoks_spec {h : Heap} {t : Nat} (s : ByteArray) {from_ to : Int} (hs : s.size ≤ 1000000) (hf : -2^63 ≤ from_ ∧ from_ < 2^63) (ht : -2^63 ≤ to ∧ to < 2^63) :
    CallSpec Tryz.prog 27 #[.string s, .int .i64 from_, .int .i64 to] h t (fun v h' t' => ∃ a c, v = .slice a (tokensF s from_ to).length c ∧ Vc.Own h' 95 a ((tokensF s from_ to).length * 2) (c * 2) id ((tokensF s from_ to).flatMap tk) ∧ (∀ b, owner a = some b → t ≤ b) ∧ Vc.Sub h h' ∧ t ≤ t') := by
  refine Go.Vc.spec_of_vc (fn := Tryz.f27) Tryz.func27 rfl (by kernel_rfl) (by kernel_rfl) (Nat.le_of_ble_eq_true rfl) ?_
  intro hd
  conv => whnf
  refine br (fun h1 => ?_) (fun h1 => ?_)
  · conv => whnf
    unfold tokensF
    rw [if_pos (by omega)]
    exact ⟨none, 0, rfl, Own.nil _ _ _, (fun b hb => by cases hb), Sub.refl _, Nat.le_refl _⟩
  · conv => whnf
    refine br (fun h2 => ?_) (fun h2 => ?_)
    · conv => whnf
      unfold tokensF
      rw [if_pos (by omega)]
      exact ⟨none, 0, rfl, Own.nil _ _ _, (fun b hb => by cases hb), Sub.refl _, Nat.le_refl _⟩
    · conv => whnf
      refine br (fun h3 => ?_) (fun h3 => ?_)
      · conv => whnf
        unfold tokensF
        rw [if_pos (by omega)]
        exact ⟨none, 0, rfl, Own.nil _ _ _, (fun b hb => by cases hb), Sub.refl _, Nat.le_refl _⟩
      · have htf : tokensF s from_ to = toks s from_.toNat to.toNat := by unfold tokensF; rw [if_neg (by omega)]
        rw [htf]
        obtain ⟨f, hfe⟩ := Int.eq_ofNat_of_zero_le (show 0 ≤ from_ by omega)
        obtain ⟨e, hee⟩ := Int.eq_ofNat_of_zero_le (show 0 ≤ to by omega)
        subst hfe
        subst hee
        rw [Int.toNat_natCast, Int.toNat_natCast]
        conv => whnf
        refine loop_intro4 (fun (i : Nat) (O : List (Nat × Nat)) (a : Option Addr) (c : Nat) => [(0, .string s), (2, .int .i64 (e : Nat)), (7, .slice a O.length c), (8, .int .i64 (i : Nat))])
          (fun i O a c h' t' => i ≤ e ∧ O.length ≤ i ∧ O ++ toks s i e = toks s f e ∧ Vc.Own h' 95 a (O.length * 2) (c * 2) id (O.flatMap tk) ∧ (∀ b, owner a = some b → t ≤ b) ∧ Vc.Sub h h' ∧ t ≤ t') (fun i _ _ _ => e - i) f [] none 0 ⟨rfl, rfl, rfl, rfl, trivial⟩
          ⟨by omega, by simp, rfl, Own.nil _ _ _, (fun b hb => by cases hb), Sub.refl _, by omega⟩ ?_
        rintro i O a c e1 g t1 hd1 ⟨hi, hOl, hO, ho, hw, hs1, ht1⟩
        conv => whnf
        refine br (fun hb => ?_) (fun hb => ?_)
        · conv => whnf
          repeat (first | ((with_reducible apply Go.Vc.strow); (focus ((repeat (first | with_reducible assumption | with_reducible exact Go.Vc.hset_same _ _ _ | with_reducible refine (Go.Vc.hset_ne _ _ (by omega)).trans ?_)); done)); (focus exact rfl); (focus exact rfl); (focus exact rfl); rintro _ rfl; conv => whnf) | (intro _ _; conv => whnf) | ((with_reducible apply Go.Vc.wr_i64); (focus exact And.intro (by omega) (by omega)); conv => whnf))
          rename_i rb hrb
          have hbx0 := hset_same (hset g rb (.cells #[.int .i64 0, .int .i64 0] 95)) rb (.cells #[.int .i64 1, .int .i64 0] 95 (0, 0))
          have hsg0 : Vc.Sub g (hset (hset g rb (.cells #[.int .i64 0, .int .i64 0] 95)) rb (.cells #[.int .i64 1, .int .i64 0] 95 (0, 0))) := fun k o hk => by
            have := hd1 _ _ hk
            rw [hset_ne _ _ (by omega), hset_ne _ _ (by omega)]
            exact hk
          refine loop_intro3 (fun (m met : Nat) (best : Nat × Nat) => [(0, .string s), (2, .int .i64 (e : Nat)), (7, .slice a O.length c), (8, .int .i64 (i : Nat)), (9, .pointer (some ⟨rb, 0, none⟩)), (10, .int .i64 (met : Nat)), (11, .int .i64 ((m : Nat) - 1))])
            (fun m met best h' t' => m ≤ i ∧ met ≤ 16 ∧ (if i + 3 ≤ e then pickM s i e m met best else best) = bestT s i e ∧ h' rb = some (.cells #[.int .i64 (best.1 : Nat), .int .i64 (best.2 : Nat)] 95 (0, 0)) ∧ Vc.Sub g h' ∧ rb < t') (fun m _ _ => m) i 0 (1, 0) ⟨rfl, rfl, rfl, rfl, rfl, rfl, rfl, trivial⟩
            ⟨by omega, by omega, rfl, hbx0, hsg0, by omega⟩ ?_
          rintro m met best e2 g2 t2 hd2 ⟨hm, hmet, hpick, hbx, hsg, htb⟩
          conv => whnf
          refine br (fun hb2 => ?_) (fun hb2 => ?_)
          · obtain ⟨k, rfl⟩ : ∃ k, m = k + 1 := ⟨m - 1, by omega⟩
            rw [show (((k + 1 : Nat) : Int) - 1) = (k : Int) by omega] at *
            conv => whnf
            repeat (first | ((with_reducible apply Go.Vc.wr_i64); (focus exact And.intro (by omega) (by omega)); conv => whnf))
            refine br (fun hb3 => ?_) (fun hb3 => ?_)
            · conv => whnf
              refine br (fun hb4 => ?_) (fun hb4 => ?_)
              · conv => whnf
                repeat (first | ((with_reducible apply Go.Vc.wr_i64); (focus exact And.intro (by omega) (by omega)); conv => whnf))
                refine br (fun hb5 => ?_) (fun hb5 => ?_)
                · rw [if_pos (by omega)] at hpick
                  refine Go.Vc.draw_intro [⟨0, false, false, false, 0⟩, ⟨1, false, false, false, 0⟩, ⟨2, false, false, false, 0⟩, ⟨3, false, false, false, 4⟩, ⟨4, false, false, false, 15⟩, ⟨5, false, false, false, 0⟩, ⟨6, false, false, false, 0⟩, ⟨7, false, false, false, 0⟩, ⟨8, false, false, false, 128⟩, ⟨9, false, false, false, 480⟩, ⟨10, false, false, false, 1023⟩] (hs := (fun _ => none)) (hsub := (fun _ _ h => nomatch h)) (hm := by kernel_rfl) (hpl := by kernel_rfl) ?_
                  conv => whnf
                  conv => whnf
                  repeat (first | ((with_reducible refine And.intro (And.intro ?_ ?_) ?_); (focus omega); (focus omega); conv => whnf) | ((with_reducible apply Go.Vc.wr_i64); (focus exact And.intro (by omega) (by omega)); conv => whnf))
                  have eg1 : s.extract (k : Int).toNat ((k : Int) + 3).toNat = gram s k := by unfold gram; rw [show (k : Int).toNat = k by omega, show ((k : Int) + 3).toNat = k + 3 by omega]
                  have eg2 : s.extract (i : Int).toNat ((i : Int) + 3).toNat = gram s i := by unfold gram; rw [show (i : Int).toNat = i by omega, show ((i : Int) + 3).toNat = i + 3 by omega]
                  rw [eg1, eg2]
                  refine br (fun hg => ?_) (fun hg => ?_)
                  · rw [pickM_skip (fun h => hg h.2)] at hpick
                    conv => whnf
                    repeat (first | ((with_reducible apply Go.Vc.wr_i64); (focus exact And.intro (by omega) (by omega)); conv => whnf))
                    exact round_end3 k met best (by omega) ⟨rfl, rfl, rfl, rfl, rfl, rfl, rfl, trivial⟩ ⟨by omega, hmet, by rw [if_pos (by omega)]; exact hpick, hbx, hsg, htb⟩
                  · rw [pickM_take (by omega) (Classical.not_not.1 hg) (by omega) (by omega)] at hpick
                    conv => whnf
                    repeat (first | ((with_reducible apply Go.Vc.wr_i64); (focus exact And.intro (by omega) (by omega)); conv => whnf))
                    refine (rsame_spec (by omega) (by omega) (by omega) (by omega)).mono ?_
                    rintro _ h9 t9 hd9 ht9 ⟨rfl, rfl, rfl⟩
                    conv => whnf
                    repeat (first | ((with_reducible apply Go.Vc.ld_i); (focus ((repeat (first | with_reducible assumption | with_reducible exact Go.Vc.hset_same _ _ _ | with_reducible refine (Go.Vc.hset_ne _ _ (by omega)).trans ?_)); done)); (focus exact rfl); conv => whnf))
                    refine br (fun hb6 => ?_) (fun hb6 => ?_)
                    · rw [if_pos (by omega)] at hpick
                      conv => whnf
                      repeat (first | ((with_reducible apply Go.Vc.strow); (focus ((repeat (first | with_reducible assumption | with_reducible exact Go.Vc.hset_same _ _ _ | with_reducible refine (Go.Vc.hset_ne _ _ (by omega)).trans ?_)); done)); (focus exact rfl); (focus exact rfl); (focus exact rfl); rintro _ rfl; conv => whnf) | ((with_reducible apply Go.Vc.wr_i64); (focus exact And.intro (by omega) (by omega)); conv => whnf))
                      have htk : rb < t2 := htb
                      rw [show ((i : Int) - (k : Int)) = ((i - k : Nat) : Int) by omega]
                      refine round_end3 k (met + 1) (same s k i e, i - k) (by omega) ⟨rfl, rfl, rfl, rfl, rfl, rfl, rfl, trivial⟩ ⟨by omega, by omega, by rw [if_pos (by omega)]; exact hpick, hset_same _ _ _, fun b o hb => ?_, htb⟩
                      have := hd1 _ _ hb
                      rw [hset_ne _ _ (by omega)]
                      exact hsg _ _ hb
                    · rw [if_neg (by omega)] at hpick
                      conv => whnf
                      repeat (first | ((with_reducible apply Go.Vc.wr_i64); (focus exact And.intro (by omega) (by omega)); conv => whnf))
                      exact round_end3 k (met + 1) best (by omega) ⟨rfl, rfl, rfl, rfl, rfl, rfl, rfl, trivial⟩ ⟨by omega, by omega, by rw [if_pos (by omega)]; exact hpick, hbx, hsg, htb⟩
                · have hbest : best = bestT s i e := by rw [← hpick, if_neg (by omega)]
                  have hble := bestT_le s (i := i) (to := e) (by omega)
                  have hbpo := bestT_pos s i e
                  rw [toks_step (by omega)] at hO
                  subst hbest
                  conv => whnf
                  refine ldrow hbx rfl ?_
                  rintro _ rfl
                  conv => whnf
                  repeat (first | (intro _ _; conv => whnf))
                  rename_i r hr
                  have hdr := hd2.set r (.cells (tk (bestT s i e)).toArray 95) (r + 1) (by omega) (by omega)
                  have hsr := hd2.sub_new hr (.cells (tk (bestT s i e)).toArray 95)
                  refine app_tkr (m := 1) (l2 := tk (bestT s i e)) (Own.fr ho fun b x _ hx => hsr b x (hsg b x hx)) (vl_sl (hset_same _ _ _) rfl) rfl (by omega) hdr ?_
                  intro a' c' g3 t3 ho3 ht3 hd3 hk3 hown3
                  have hbx3 : g3 rb = some (.cells #[.int .i64 ((bestT s i e).1 : Nat), .int .i64 ((bestT s i e).2 : Nat)] 95 (0, 0)) := by
                    rw [hk3 rb (by omega) (fun hc => by
                      obtain ⟨_, _, hh⟩ := own_tag ho hc
                      have := hd1 _ _ hh
                      omega), hset_ne _ _ (by omega)]
                    exact hbx
                  conv => whnf
                  repeat (first | ((with_reducible apply Go.Vc.ld_i); (focus ((repeat (first | with_reducible assumption | with_reducible exact Go.Vc.hset_same _ _ _ | with_reducible refine (Go.Vc.hset_ne _ _ (by omega)).trans ?_)); done)); (focus exact rfl); conv => whnf) | ((with_reducible apply Go.Vc.wr_i64); (focus exact And.intro (by omega) (by omega)); conv => whnf))
                  refine round_end4 (i + (bestT s i e).1) (O ++ [bestT s i e]) a' c' (by omega) ⟨rfl, rfl, by rw [List.length_append]; rfl, rfl, trivial⟩
                    ⟨hble, by rw [List.length_append, List.length_singleton]; omega, by rw [List.append_assoc, List.singleton_append]; exact hO, by rw [List.length_append, List.flatMap_append, List.length_singleton, List.flatMap_singleton]; exact ho3, fun b hb => ?_, fun b o hb => ?_, ?_⟩
                  · rcases hown3 with h1 | ⟨q, h1, hq⟩
                    · exact hw b (by rw [← h1]; exact hb)
                    · rw [h1] at hb; cases hb; omega
                  · have h1 := hd b o hb
                    have h2 := hs1 b o hb
                    have h3 := hd1 _ _ h2
                    rw [hk3 b (by omega) (fun hc => by have := hw b hc; omega), hset_ne _ _ (by omega)]
                    exact hsg _ _ h2
                  · omega
              · have hbest : best = bestT s i e := by rw [← hpick]; split <;> first | rfl | rw [pickM_stop (by omega)]
                have hble := bestT_le s (i := i) (to := e) (by omega)
                have hbpo := bestT_pos s i e
                rw [toks_step (by omega)] at hO
                subst hbest
                conv => whnf
                refine ldrow hbx rfl ?_
                rintro _ rfl
                conv => whnf
                repeat (first | (intro _ _; conv => whnf))
                rename_i r hr
                have hdr := hd2.set r (.cells (tk (bestT s i e)).toArray 95) (r + 1) (by omega) (by omega)
                have hsr := hd2.sub_new hr (.cells (tk (bestT s i e)).toArray 95)
                refine app_tkr (m := 1) (l2 := tk (bestT s i e)) (Own.fr ho fun b x _ hx => hsr b x (hsg b x hx)) (vl_sl (hset_same _ _ _) rfl) rfl (by omega) hdr ?_
                intro a' c' g3 t3 ho3 ht3 hd3 hk3 hown3
                have hbx3 : g3 rb = some (.cells #[.int .i64 ((bestT s i e).1 : Nat), .int .i64 ((bestT s i e).2 : Nat)] 95 (0, 0)) := by
                  rw [hk3 rb (by omega) (fun hc => by
                    obtain ⟨_, _, hh⟩ := own_tag ho hc
                    have := hd1 _ _ hh
                    omega), hset_ne _ _ (by omega)]
                  exact hbx
                conv => whnf
                repeat (first | ((with_reducible apply Go.Vc.ld_i); (focus ((repeat (first | with_reducible assumption | with_reducible exact Go.Vc.hset_same _ _ _ | with_reducible refine (Go.Vc.hset_ne _ _ (by omega)).trans ?_)); done)); (focus exact rfl); conv => whnf) | ((with_reducible apply Go.Vc.wr_i64); (focus exact And.intro (by omega) (by omega)); conv => whnf))
                refine round_end4 (i + (bestT s i e).1) (O ++ [bestT s i e]) a' c' (by omega) ⟨rfl, rfl, by rw [List.length_append]; rfl, rfl, trivial⟩
                  ⟨hble, by rw [List.length_append, List.length_singleton]; omega, by rw [List.append_assoc, List.singleton_append]; exact hO, by rw [List.length_append, List.flatMap_append, List.length_singleton, List.flatMap_singleton]; exact ho3, fun b hb => ?_, fun b o hb => ?_, ?_⟩
                · rcases hown3 with h1 | ⟨q, h1, hq⟩
                  · exact hw b (by rw [← h1]; exact hb)
                  · rw [h1] at hb; cases hb; omega
                · have h1 := hd b o hb
                  have h2 := hs1 b o hb
                  have h3 := hd1 _ _ h2
                  rw [hk3 b (by omega) (fun hc => by have := hw b hc; omega), hset_ne _ _ (by omega)]
                  exact hsg _ _ h2
                · omega
            · have hbest : best = bestT s i e := by rw [← hpick]; split <;> first | rfl | rw [pickM_stop (by omega)]
              have hble := bestT_le s (i := i) (to := e) (by omega)
              have hbpo := bestT_pos s i e
              rw [toks_step (by omega)] at hO
              subst hbest
              conv => whnf
              refine ldrow hbx rfl ?_
              rintro _ rfl
              conv => whnf
              repeat (first | (intro _ _; conv => whnf))
              rename_i r hr
              have hdr := hd2.set r (.cells (tk (bestT s i e)).toArray 95) (r + 1) (by omega) (by omega)
              have hsr := hd2.sub_new hr (.cells (tk (bestT s i e)).toArray 95)
              refine app_tkr (m := 1) (l2 := tk (bestT s i e)) (Own.fr ho fun b x _ hx => hsr b x (hsg b x hx)) (vl_sl (hset_same _ _ _) rfl) rfl (by omega) hdr ?_
              intro a' c' g3 t3 ho3 ht3 hd3 hk3 hown3
              have hbx3 : g3 rb = some (.cells #[.int .i64 ((bestT s i e).1 : Nat), .int .i64 ((bestT s i e).2 : Nat)] 95 (0, 0)) := by
                rw [hk3 rb (by omega) (fun hc => by
                  obtain ⟨_, _, hh⟩ := own_tag ho hc
                  have := hd1 _ _ hh
                  omega), hset_ne _ _ (by omega)]
                exact hbx
              conv => whnf
              repeat (first | ((with_reducible apply Go.Vc.ld_i); (focus ((repeat (first | with_reducible assumption | with_reducible exact Go.Vc.hset_same _ _ _ | with_reducible refine (Go.Vc.hset_ne _ _ (by omega)).trans ?_)); done)); (focus exact rfl); conv => whnf) | ((with_reducible apply Go.Vc.wr_i64); (focus exact And.intro (by omega) (by omega)); conv => whnf))
              refine round_end4 (i + (bestT s i e).1) (O ++ [bestT s i e]) a' c' (by omega) ⟨rfl, rfl, by rw [List.length_append]; rfl, rfl, trivial⟩
                ⟨hble, by rw [List.length_append, List.length_singleton]; omega, by rw [List.append_assoc, List.singleton_append]; exact hO, by rw [List.length_append, List.flatMap_append, List.length_singleton, List.flatMap_singleton]; exact ho3, fun b hb => ?_, fun b o hb => ?_, ?_⟩
              · rcases hown3 with h1 | ⟨q, h1, hq⟩
                · exact hw b (by rw [← h1]; exact hb)
                · rw [h1] at hb; cases hb; omega
              · have h1 := hd b o hb
                have h2 := hs1 b o hb
                have h3 := hd1 _ _ h2
                rw [hk3 b (by omega) (fun hc => by have := hw b hc; omega), hset_ne _ _ (by omega)]
                exact hsg _ _ h2
              · omega
          · obtain rfl : m = 0 := by omega
            have hbest : best = bestT s i e := by rw [← hpick, pickM_zero]; split <;> rfl
            have hble := bestT_le s (i := i) (to := e) (by omega)
            have hbpo := bestT_pos s i e
            rw [toks_step (by omega)] at hO
            subst hbest
            conv => whnf
            refine ldrow hbx rfl ?_
            rintro _ rfl
            conv => whnf
            repeat (first | (intro _ _; conv => whnf))
            rename_i r hr
            have hdr := hd2.set r (.cells (tk (bestT s i e)).toArray 95) (r + 1) (by omega) (by omega)
            have hsr := hd2.sub_new hr (.cells (tk (bestT s i e)).toArray 95)
            refine app_tkr (m := 1) (l2 := tk (bestT s i e)) (Own.fr ho fun b x _ hx => hsr b x (hsg b x hx)) (vl_sl (hset_same _ _ _) rfl) rfl (by omega) hdr ?_
            intro a' c' g3 t3 ho3 ht3 hd3 hk3 hown3
            have hbx3 : g3 rb = some (.cells #[.int .i64 ((bestT s i e).1 : Nat), .int .i64 ((bestT s i e).2 : Nat)] 95 (0, 0)) := by
              rw [hk3 rb (by omega) (fun hc => by
                obtain ⟨_, _, hh⟩ := own_tag ho hc
                have := hd1 _ _ hh
                omega), hset_ne _ _ (by omega)]
              exact hbx
            conv => whnf
            repeat (first | ((with_reducible apply Go.Vc.ld_i); (focus ((repeat (first | with_reducible assumption | with_reducible exact Go.Vc.hset_same _ _ _ | with_reducible refine (Go.Vc.hset_ne _ _ (by omega)).trans ?_)); done)); (focus exact rfl); conv => whnf) | ((with_reducible apply Go.Vc.wr_i64); (focus exact And.intro (by omega) (by omega)); conv => whnf))
            refine round_end4 (i + (bestT s i e).1) (O ++ [bestT s i e]) a' c' (by omega) ⟨rfl, rfl, by rw [List.length_append]; rfl, rfl, trivial⟩
              ⟨hble, by rw [List.length_append, List.length_singleton]; omega, by rw [List.append_assoc, List.singleton_append]; exact hO, by rw [List.length_append, List.flatMap_append, List.length_singleton, List.flatMap_singleton]; exact ho3, fun b hb => ?_, fun b o hb => ?_, ?_⟩
            · rcases hown3 with h1 | ⟨q, h1, hq⟩
              · exact hw b (by rw [← h1]; exact hb)
              · rw [h1] at hb; cases hb; omega
            · have h1 := hd b o hb
              have h2 := hs1 b o hb
              have h3 := hd1 _ _ h2
              rw [hk3 b (by omega) (fun hc => by have := hw b hc; omega), hset_ne _ _ (by omega)]
              exact hsg _ _ h2
            · omega
        · conv => whnf
          rw [toks_end (by omega), List.append_nil] at hO
          rw [← hO]
          exact ⟨a, c, rfl, ho, hw, hs1, ht1⟩
end Go.Proofs.YtikpfffhcjlcjaaGreat
