import Derived.Test.YtikpfffhcjlcjaaHuff3
import Derived.Test.YtikpfffhcjlcjaaHuffPlain
import Derived.Test.YtikpfffhcjlcjaaVcC
set_option linter.unusedSimpArgs false
namespace Go.Proofs.Ytikpfffhcjlcjaa
open Go Go.Vc Go.Huf
set_option maxRecDepth 10000
set_option linter.unusedVariables false
def nd (x : Nd) : List Value := [.int .i64 x.1, .int .i64 ((x.2 : Nat) : Int), .slice none 0 0]
theorem nd_len (x : Nd) : (nd x).length = 3 := rfl
theorem nd_one (l : List Nd) : (l.flatMap nd).all oneC = true := by
  rw [List.all_eq_true]
  intro v hv
  obtain ⟨x, _, hx⟩ := List.mem_flatMap.1 hv
  simp [nd] at hx
  rcases hx with rfl | rfl | rfl <;> rfl
def cmpN (x y : Nd) : Int := if x.1 = y.1 then (x.2 : Int) - (y.2 : Int) else x.1 - y.1
theorem cmp_ahead {x y : Nd} : cmpN x y < 0 ↔ Huf.ahead x y := by
  unfold cmpN Huf.ahead
  split <;> omega
def okN (x : Nd) : Prop := 0 ≤ x.1 ∧ x.1 ≤ 2 ^ 60 ∧ x.2 ≤ 2 ^ 60
theorem cmp_spec {h : Heap} {t : Nat} {x y : Nd} (hx : okN x) (hy : okN y) :
    CallSpec Try.prog 105 #[.agg (nd x).toArray, .agg (nd y).toArray] h t (fun v h' t' => v = .int .i64 (cmpN x y) ∧ Sub h h' ∧ t ≤ t') := by
  obtain ⟨hx0, hx1, hx2⟩ := hx
  obtain ⟨hy0, hy1, hy2⟩ := hy
  unfold nd
  refine Go.Vc.spec_of_vc (fn := Try.f105) Try.func105 rfl (by kernel_rfl) (by kernel_rfl) (Nat.le_of_ble_eq_true rfl) ?_
  intro hd
  conv => whnf
  repeat (first | ((with_reducible apply Go.Vc.ld_i); (focus ((repeat (first | with_reducible assumption | with_reducible exact Go.Vc.hset_same _ _ _ | with_reducible refine (Go.Vc.hset_ne _ _ (by omega)).trans ?_)); done)); (focus exact rfl); conv => whnf) | (intro _ _; conv => whnf))
  rename_i r1 h1 r2 h2
  have hsub : ∀ o1 o2, Sub h (hset (hset h r1 o1) r2 o2) := by
    intro o1 o2 b o hb
    have := hd b o hb
    rw [hset_ne _ _ (by omega), hset_ne _ _ (by omega)]; exact hb
  refine br (fun hb => ?_) (fun hb => ?_)
  · conv => whnf
    repeat (first | ((with_reducible apply Go.Vc.ld_i); (focus ((repeat (first | with_reducible assumption | with_reducible exact Go.Vc.hset_same _ _ _ | with_reducible refine (Go.Vc.hset_ne _ _ (by omega)).trans ?_)); done)); (focus exact rfl); conv => whnf) | ((with_reducible apply Go.Vc.wr_i64); (focus exact And.intro (by omega) (by omega)); conv => whnf))
    exact ⟨by unfold cmpN; rw [if_neg hb], hsub _ _, by omega⟩
  · conv => whnf
    repeat (first | ((with_reducible apply Go.Vc.ld_i); (focus ((repeat (first | with_reducible assumption | with_reducible exact Go.Vc.hset_same _ _ _ | with_reducible refine (Go.Vc.hset_ne _ _ (by omega)).trans ?_)); done)); (focus exact rfl); conv => whnf) | ((with_reducible apply Go.Vc.wr_i64); (focus exact And.intro (by omega) (by omega)); conv => whnf))
    exact ⟨by unfold cmpN; rw [if_pos (by omega)], hsub _ _, by omega⟩
theorem overlaps_i {h : Heap} {t : Nat} {b1 b2 o1 o2 n1 n2 c1 c2 : Nat} {C1 C2 : Array Value} {T1 T2 : TypeId} {f2 : Nat × Nat} (hb1 : h b1 = some (.cells C1 T1 (0, 0))) (hb2 : h b2 = some (.cells C2 T2 f2)) (hne : b1 ≠ b2) (hC2 : 0 < C2.size) (hn : 0 < n1 ∧ 0 < n2) {K : Value → Heap → Nat → Prop} (hK : K (.bool false) h t) :
    ExtVC Try.prog 114 #[.slice (some ⟨b1, o1, none⟩) n1 c1, .slice (some ⟨b2, o2, none⟩) n2 c2] K h t := by
  refine ext_intro (fn := Try.f114) Try.func114 (by kernel_rfl) (by kernel_rfl) (by kernel_rfl) (e := Extern.SlicesOverlaps.overlaps #[158, 158] #[4]) (by kernel_rfl) ?_
  have hty : Try.prog.info? 160 = some Try.types[160] := by kernel_rfl
  have hsz : (Try.types[160]).size = 3 := by kernel_rfl
  have hne' : (b1 != b2) = true := by simpa using hne
  have hne2 : (b1 == b2) = false := by simpa using hne
  conv => whnf
  simp only [gen, gen_bind, gen_p, gen_b, hty, hsz]
  refine gen_neg (by omega) ?_
  simp only [gen_b, frozen, gen, hb1, hne', Bool.true_and, if_true]
  refine ⟨_, rfl, _, hb2, ?_⟩
  refine gen_neg (by simp [frozenO]) ?_
  simp only [gen_b, noView, viewAt, shape, gen, hb1, gen_p, shapeO]
  refine ⟨_, rfl, ?_⟩
  refine gen_pos rfl ?_
  refine gen_neg (by simp) ?_
  rw [gen_p]
  refine ⟨_, hb2, ?_⟩
  refine gen_pos rfl ?_
  refine gen_neg (by simp) ?_
  simp only [gen_b, gen_p, mayBeOne, stringish, frozen, gen, shape, hb1]
  refine ⟨_, rfl, ?_⟩
  refine gen_neg (by simp [frozenO]) ?_
  simp only [gen_b, gen]
  refine ⟨_, hb1, ?_⟩
  simp only [shapeO, gen]
  refine ⟨_, hb1, ?_⟩
  have hfz : frozenO (Obj.cells C1 T1 (0, 0)) C1.size = false := by simp [frozenO]
  simp only [hfz]
  refine ⟨_, hb2, ?_⟩
  obtain ⟨m, hm⟩ : ∃ m, C2.size = m + 1 := ⟨C2.size - 1, by omega⟩
  by_cases hq : frozenO (Obj.cells C2 T2 f2) o2 = true
  · refine gen_pos hq ?_
    rw [gen_p]
    refine ⟨_, hb1, _, hb2, gen_neg (by simp [hm]) ?_⟩
    rw [gen_p, hne2]; exact hK
  · refine gen_neg hq ?_
    simp only [gen_b, gen]
    refine ⟨_, hb2, ?_⟩
    refine ⟨_, hb2, ?_⟩
    refine ⟨_, hb1, _, hb2, gen_neg (by simp [hm]) ?_⟩
    rw [gen_p, hne2]; exact hK
theorem app_nd {ty : TypeId} {h : Heap} {t : Nat} {a : Option Addr} {n c : Nat} {l l2 : List Value} {xa : Option Addr} {xc m : Nat}
    (ho : Vc.Own h 160 a (n * 3) (c * 3) id l) (hx : Sl h xa (m * 3) id l2) (hf : l2.all oneC = true) (hb : n + m ≤ 1000000) (hdm : Dom h t) {K : Value → Heap → Nat → Prop}
    (hK : ∀ a' c' h' t', Vc.Own h' 160 a' ((n + m) * 3) (c' * 3) id (l ++ l2) → t ≤ t' → Dom h' t' → (∀ k, k < t → owner a ≠ some k → h' k = h k) → (owner a' = owner a ∨ ∃ r, owner a' = some r ∧ t ≤ r) → K (.slice a' (n + m) c') h' t') :
    AppVC Try.prog #[158, 158] ty (.slice a n c) (.slice xa m xc) K h t :=
  app_vcW (E := 160) (inf := Try.types[160]) (z := .agg #[.int .i64 0, .int .i64 0, .slice none 0 0]) (W := 3) Try.underlying158 Try.underlying158 rfl (by kernel_rfl) (by kernel_rfl) (by decide) (by kernel_rfl) rfl ho hx hf (by
    show (n + m) * 40 ≤ 2 ^ 40
    omega) (by omega) (by show 40 ≤ 1000; decide) hdm hK
theorem copy_nd {ty : TypeId} {h : Heap} {t : Nat} {a a' xa : Option Addr} {N C j n' c' m xc k : Nat} {L l2 : List Value}
    (ho : Vc.Own h 160 a (N * 3) (C * 3) id L) (ha' : a' = cutA a j 3 C) (hx : Sl h xa (m * 3) id l2) (hk : k = min m n') (hj : j + k ≤ N) (hf : (l2.take (k * 3)).all oneC = true) (hdm : Dom h t) {K : Value → Heap → Nat → Prop}
    (hK : ∀ h', Vc.Own h' 160 a (N * 3) (C * 3) id (L.take (j * 3) ++ l2.take (k * 3) ++ L.drop ((j + k) * 3)) → Dom h' t → (∀ b, owner a ≠ some b → h' b = h b) → K (.int .i64 (k : Nat)) h' t) :
    CopyVC Try.prog #[158, 158] ty (.slice a' n' c') (.slice xa m xc) K h t :=
  copy_own (inf := Try.types[160]) (W := 3) Try.underlying158 (by kernel_rfl) (by kernel_rfl) (by decide) ho ha' hx hk hj hf hdm hK
theorem clone_spec {h : Heap} {t b off n c : Nat} {l : List Nd} (s : Sl h (some ⟨b, off, none⟩) (n * 3) id (l.flatMap nd)) (hn : n ≤ 100000) :
    CallSpec Try.prog 109 #[.slice (some ⟨b, off, none⟩) n c] h t (fun v h' t' => ∃ a' c', v = .slice a' n c' ∧ Vc.Own h' 160 a' (n * 3) (c' * 3) id (l.flatMap nd) ∧ t ≤ t' ∧ (∀ k, k < t → h' k = h k) ∧ (∃ r, owner a' = some r ∧ t ≤ r)) := by
  refine Go.Vc.spec_of_vc (fn := Try.f109) Try.func109 rfl (by kernel_rfl) (by kernel_rfl) (Nat.le_of_ble_eq_true rfl) ?_
  intro hd
  conv => whnf
  repeat (first | (intro _ _; conv => whnf))
  rename_i r hr
  have hd2 : Dom (hset h r (.cells ([] : List Value).toArray 160)) (r + 1) := hd.set r _ _ (by omega) (by omega)
  refine app_nd (n := 0) (m := n) (l := []) (l2 := l.flatMap nd) ⟨rfl, .inr ⟨r, 0, _, (0, 0), rfl, by omega, hset_same _ _ _, by simp, fun i _ => by simp [fz], fun i hi => by simp at hi⟩⟩ (s.sub (hd.sub_new hr _)) (nd_one l) (by omega) hd2 ?_
  intro a' c' h' t' ho ht' hd' hk hown
  conv => whnf
  rw [Nat.zero_add, List.nil_append] at ho
  rw [Nat.zero_add]
  refine ⟨a', c', rfl, ho, by omega, fun k hk2 => ?_, ?_⟩
  · rw [hk k (by omega) (by simp [owner]; omega)]
    exact hset_ne _ _ (by omega)
  · rcases hown with e | ⟨r', e, hr'⟩
    · exact ⟨r, by rw [e]; rfl, hr⟩
    · exact ⟨r', e, by omega⟩
theorem place_new {L zs X : List Value} {k n : Nat} (hL : L.length = n * 3) (hX : X.length = 3) (hz : zs.length = (n + 1 - k) * 3) (hk : k < n) :
    ((L.take (k * 3) ++ zs).take (k * 3) ++ X.take (1 * 3) ++ (L.take (k * 3) ++ zs).drop ((k + 1) * 3)).take ((k + 1) * 3) ++ (L.drop (k * 3)).take ((n - k) * 3) ++ ((L.take (k * 3) ++ zs).take (k * 3) ++ X.take (1 * 3) ++ (L.take (k * 3) ++ zs).drop ((k + 1) * 3)).drop ((k + 1 + (n - k)) * 3) = L.take (k * 3) ++ X ++ L.drop (k * 3) := by
  have hA : (L.take (k * 3)).length = k * 3 := by rw [List.length_take]; omega
  have e1 : (L.take (k * 3) ++ zs).take (k * 3) = L.take (k * 3) := List.take_left' hA
  have e2 : X.take (1 * 3) = X := List.take_of_length_le (by omega)
  rw [e1, e2]
  have hR : ((L.take (k * 3) ++ zs).drop ((k + 1) * 3)).length = (n - k) * 3 := by rw [List.length_drop, List.length_append, hA, hz]; omega
  generalize (L.take (k * 3) ++ zs).drop ((k + 1) * 3) = R at *
  rw [List.take_left' (by rw [List.length_append, hA, hX]; omega), List.drop_of_length_le (l := L.take (k * 3) ++ X ++ R) (by rw [List.length_append, List.length_append, hA, hX, hR]; omega), List.append_nil, List.take_of_length_le (l := L.drop (k * 3)) (by rw [List.length_drop]; omega)]
theorem place_in {L zs X : List Value} {k n : Nat} (hL : L.length = n * 3) (hX : X.length = 3) (hz : zs.length = (n + 1) * 3 - n * 3) (hk : k < n) :
    ((L ++ zs).take ((k + 1) * 3) ++ ((L ++ zs).drop (k * 3)).take ((n - k) * 3) ++ (L ++ zs).drop ((k + 1 + (n - k)) * 3)).take (k * 3) ++ X.take (1 * 3) ++ ((L ++ zs).take ((k + 1) * 3) ++ ((L ++ zs).drop (k * 3)).take ((n - k) * 3) ++ (L ++ zs).drop ((k + 1 + (n - k)) * 3)).drop ((k + 1) * 3) = L.take (k * 3) ++ X ++ L.drop (k * 3) := by
  have hall : (L ++ zs).length = (n + 1) * 3 := by rw [List.length_append]; omega
  have e0 : (L ++ zs).drop ((k + 1 + (n - k)) * 3) = [] := List.drop_of_length_le (by omega)
  have e1 : ((L ++ zs).drop (k * 3)).take ((n - k) * 3) = L.drop (k * 3) := by
    rw [List.drop_append_of_le_length (by omega)]
    exact List.take_left' (by rw [List.length_drop]; omega)
  have e2 : X.take (1 * 3) = X := List.take_of_length_le (by omega)
  have hA : ((L ++ zs).take ((k + 1) * 3)).length = (k + 1) * 3 := by rw [List.length_take]; omega
  rw [e0, e1, e2, List.append_nil, List.drop_left' hA, List.take_append_of_le_length (by omega), List.take_take, List.take_append_of_le_length (by omega)]
  rw [show min (k * 3) ((k + 1) * 3) = k * 3 from by omega]
theorem insert_spec {h : Heap} {t b off n c k rv : Nat} {l : List Nd} {x : Nd} (ho : Vc.Own h 160 (some ⟨b, off, none⟩) (n * 3) (c * 3) id (l.flatMap nd)) (hn : n ≤ 100000) (hk : k ≤ n) (hrv : h rv = some (.cells (nd x).toArray 160 (0, 0))) (hne : b ≠ rv) :
    CallSpec Try.prog 108 #[.slice (some ⟨b, off, none⟩) n c, .int .i64 (k : Nat), .slice (some ⟨rv, 0, none⟩) 1 1] h t
      (fun v h' t' => ∃ a' c', v = .slice a' (n + 1) c' ∧ Vc.Own h' 160 a' ((n + 1) * 3) (c' * 3) id ((l.take k ++ x :: l.drop k).flatMap nd) ∧ t ≤ t' ∧ (∀ q, q < t → b ≠ q → h' q = h q) ∧ (owner a' = some b ∨ ∃ r, owner a' = some r ∧ t ≤ r)) := by
  have hll : l.length = n := by
    have := ho.1
    rw [flat_len nd_len] at this
    omega
  have hc := ho.cap
  have hsv : Sl h (some ⟨rv, 0, none⟩) (1 * 3) id (nd x) := vl_sl hrv rfl
  have hfx : (nd x).all oneC = true := rfl
  have hflat : (l.take k ++ x :: l.drop k).flatMap nd = (l.flatMap nd).take (k * 3) ++ nd x ++ (l.flatMap nd).drop (k * 3) := by
    rw [List.flatMap_append, List.flatMap_cons, flat_take nd_len, flat_drop nd_len, List.append_assoc]
  rw [hflat]
  have hL : (l.flatMap nd).length = n * 3 := ho.1
  have hLo := nd_one l
  generalize l.flatMap nd = L at *
  refine Go.Vc.spec_of_vc (fn := Try.f108) Try.func108 rfl (by kernel_rfl) (by kernel_rfl) (Nat.le_of_ble_eq_true rfl) ?_
  intro hd
  conv => whnf
  repeat (first | ((with_reducible refine And.intro (And.intro ?_ ?_) ?_); (focus omega); (focus omega); conv => whnf) | (intro _ _; conv => whnf) | (refine Go.Vc.br_f ?_ ?_; (focus omega); conv => whnf))
  refine br (fun hb => ?_) (fun hb => ?_)
  · conv => whnf
    have hkn : k = n := by omega
    refine app_nd ho hsv hfx (by omega) hd ?_
    intro a' c' h' t' ho' ht' hd' hk' hown
    conv => whnf
    refine ⟨a', c', rfl, ?_, by omega, fun q hq hne => hk' q hq (by simpa [owner] using hne), hown⟩
    rw [hkn, List.take_of_length_le (by omega), List.drop_of_length_le (by omega), List.append_nil]
    exact ho'
  · conv => whnf
    repeat (first | ((with_reducible apply Go.Vc.wr_i64); (focus exact And.intro (by omega) (by omega)); conv => whnf))
    refine br (fun hb2 => ?_) (fun hb2 => ?_)
    · conv => whnf
      repeat (first | ((with_reducible refine And.intro (And.intro ?_ ?_) ?_); (focus omega); (focus omega); conv => whnf) | ((with_reducible apply Go.Vc.wr_i64); (focus exact And.intro (by omega) (by omega)); conv => whnf))
      refine app_zW (E := 160) (inf := Try.types[160]) (z := .agg #[.int .i64 0, .int .i64 0, .slice none 0 0]) (W := 3) (n := k) (c := c) (l := L.take (k * 3)) Try.underlying158 Try.underlying3 (by kernel_rfl) (by kernel_rfl) (by decide) (by kernel_rfl) rfl (Vc.Own.take ho (by omega)) (by omega) (by
        show (k + _) * 40 ≤ 2 ^ 40
        omega) (by omega) (by show 40 ≤ 1000; decide) (by omega) hd ?_
      intro a2 c2 h2 t2 zs hzs ho2 ht2 hd2 hk2 hown2
      rw [show k + ((n : Int) + ((1 : Nat) : Int) - (k : Int)).toNat = n + 1 from by omega] at *
      conv => whnf
      repeat (first | ((with_reducible refine And.intro (And.intro ?_ ?_) ?_); (focus omega); (focus omega); conv => whnf) | (intro _ _; conv => whnf))
      rename_i a3 ha3
      refine copy_nd (j := k) (m := 1) (k := 1) ho2 ha3 (hsv.sub (fun q o hq => by rw [hk2 q (hd q o hq)]; exact hq)) (by omega) (by omega) hfx hd2 ?_
      intro h3 ho3 hd3 hk3
      conv => whnf
      refine Go.Vc.draw_intro [⟨0, false, false, false, 0⟩, ⟨1, false, false, false, 0⟩, ⟨2, false, false, false, 0⟩, ⟨3, false, false, false, 6⟩, ⟨4, false, false, false, 15⟩, ⟨5, false, false, false, 0⟩, ⟨6, false, false, false, 0⟩, ⟨7, false, false, false, 96⟩, ⟨8, true, false, false, 255⟩] (hs := h3) (hsub := (Sub.refl h3)) (hm := by kernel_rfl) (hpl := by kernel_rfl) ?_
      conv => whnf
      conv => whnf
      repeat (first | ((with_reducible refine And.intro (And.intro ?_ ?_) ?_); (focus omega); (focus omega); conv => whnf) | (intro _ _; conv => whnf) | ((with_reducible apply Go.Vc.wr_i64); (focus exact And.intro (by omega) (by omega)); conv => whnf))
      rename_i a4 ha4 a5 ha5
      have hlt : k < n := by omega
      have ho6 := Own.dropW (W := 3) (m := k) ho (by decide) (by omega) ha5
      obtain ⟨r2, hr2, hr2t⟩ := hown2
      have ho7 := Own.keep ho6 (h' := h3) (fun q hq => by
        have hqb : q = b := by
          rw [ha5, owner_cut'] at hq
          simpa [owner] using hq.symm
        have := ho.2
        rcases this with ⟨h0, _⟩ | ⟨b0, off0, cs0, fr0, e0, _, hb0, _⟩
        · cases h0
        · cases e0
          have := hd b _ hb0
          rw [hk3 q (by rw [hr2]; intro e; have := Option.some.inj e; omega), hk2 q (by omega)])
      refine copy_nd (j := k + 1) (m := n - k) (k := n - k) ho3 ha4 ho7.sl (by omega) (by omega) (List.all_eq_true.2 fun v hv => List.all_eq_true.1 hLo v (List.mem_of_mem_drop (List.mem_of_mem_take hv))) hd3 ?_
      intro h4 ho4 hd4 hk4
      conv => whnf
      rw [place_new hL rfl (by rw [hzs]; omega) hlt] at ho4
      refine ⟨a2, c2, rfl, ho4, ht2, fun q hq hne2 => ?_, .inr ⟨r2, hr2, hr2t⟩⟩
      have hq2 : owner a2 ≠ some q := by rw [hr2]; intro e; have := Option.some.inj e; omega
      rw [hk4 q hq2, hk3 q hq2, hk2 q hq]
    · conv => whnf
      repeat (first | ((with_reducible refine And.intro (And.intro ?_ ?_) ?_); (focus omega); (focus omega); conv => whnf) | (intro _ _; conv => whnf) | ((with_reducible apply Go.Vc.wr_i64); (focus exact And.intro (by omega) (by omega)); conv => whnf))
      rename_i a3 ha3
      have hlt : k < n := by omega
      have hcn : n + 1 ≤ c := by omega
      have e1 : (((n : Nat) : Int) + ((1 : Nat) : Int)).toNat = n + 1 := by omega
      have e2 : (((k : Nat) : Int) + ((1 : Nat) : Int)).toNat = k + 1 := by omega
      have e3 : a3 = some ⟨b, off + (k + 1) * 3, none⟩ := by
        rw [ha3, e2]
        unfold cutA
        rw [if_neg (by omega), Option.map_some, addr_add]
        rfl
      subst e3
      rw [e1, e2]
      obtain ⟨zs, hzs, hom⟩ := Own.more (m := (n + 1) * 3) ho (by omega) (by omega)
      rcases ho.2 with ⟨h0, _⟩ | ⟨b0, off0, cs0, fr0, e0, _, hb0, hsz0, _⟩
      · cases h0
      cases e0
      refine overlaps_i hrv hb0 hne.symm (by omega) (by omega) ?_
      conv => whnf
      refine Go.Vc.draw_intro [⟨0, false, false, false, 0⟩, ⟨1, false, false, false, 0⟩, ⟨2, false, false, false, 0⟩, ⟨3, false, false, false, 6⟩, ⟨4, false, false, false, 15⟩, ⟨5, false, false, false, 0⟩, ⟨6, false, false, false, 0⟩, ⟨7, false, false, false, 96⟩, ⟨8, true, false, false, 255⟩] (hs := h) (hsub := (Sub.refl h)) (hm := by kernel_rfl) (hpl := by kernel_rfl) ?_
      conv => whnf
      conv => whnf
      repeat (first | ((with_reducible refine And.intro (And.intro ?_ ?_) ?_); (focus omega); (focus omega); conv => whnf) | (intro _ _; conv => whnf) | ((with_reducible apply Go.Vc.wr_i64); (focus exact And.intro (by omega) (by omega)); conv => whnf))
      rename_i a4 ha4 a5 ha5
      have hom2 := Own.dropW (W := 3) (m := k) hom (by decide) (by omega) ha5
      have hcut : ((L ++ zs).drop (k * 3)).take ((n - k) * 3) = L.drop (k * 3) := by
        rw [List.drop_append_of_le_length (by omega)]
        exact List.take_left' (by rw [List.length_drop]; omega)
      refine copy_nd (j := k + 1) (m := n + 1 - k) (k := n - k) hom ha4 hom2.sl (by omega) (by omega) (by rw [hcut]; exact List.all_eq_true.2 fun v hv => List.all_eq_true.1 hLo v (List.mem_of_mem_drop hv)) hd ?_
      intro h3 ho3 hd3 hk3
      conv => whnf
      repeat (first | ((with_reducible refine And.intro (And.intro ?_ ?_) ?_); (focus omega); (focus omega); conv => whnf) | (intro _ _; conv => whnf))
      rename_i a6 ha6
      have hrv3 : h3 rv = some (.cells (nd x).toArray 160 (0, 0)) := by rw [hk3 rv (by simpa [owner] using hne)]; exact hrv
      refine copy_nd (j := k) (m := 1) (k := 1) ho3 ha6 (vl_sl hrv3 rfl) (by omega) (by omega) hfx hd3 ?_
      intro h4 ho4 hd4 hk4
      conv => whnf
      rw [place_in hL rfl hzs hlt] at ho4
      exact ⟨_, c, rfl, ho4, Nat.le_refl _, fun q hq hne2 => by rw [hk4 q (by simpa [owner] using hne2), hk3 q (by simpa [owner] using hne2)], .inl rfl⟩
theorem ins_at {x : Nd} : ∀ {l : List Nd} {k : Nat}, k ≤ l.length → (∀ y ∈ l, y.2 ≠ x.2) → (∀ i y, i < k → l[i]? = some y → Huf.ahead y x) → (∀ i y, k ≤ i → l[i]? = some y → ¬ Huf.ahead y x) → l.take k ++ x :: l.drop k = ins x l
  | [], k, hk, _, _, _ => by simp [ins]
  | y :: l, 0, hk, hn, h1, h2 => by
    have h3 := h2 0 y (Nat.le_refl _) rfl
    simp [ins, h3]
  | y :: l, k + 1, hk, hn, h1, h2 => by
    have h3 := h1 0 y (by omega) rfl
    have := ins_at (x := x) (l := l) (k := k) (by simpa using hk) (fun z hz => hn z (by simp [hz])) (fun i z hi hz => h1 (i + 1) z (by omega) (by simpa using hz)) (fun i z hi hz => h2 (i + 1) z (by omega) (by simpa using hz))
    simp [ins, h3, this]
theorem srt_get {l : List Nd} (hs : Srt l) {i j : Nat} {x y : Nd} (hij : i < j) (hx : l[i]? = some x) (hy : l[j]? = some y) : Huf.ahead x y := by
  obtain ⟨h1, rfl⟩ := List.getElem?_eq_some_iff.1 hx
  obtain ⟨h2, rfl⟩ := List.getElem?_eq_some_iff.1 hy
  exact List.pairwise_iff_getElem.1 hs i j h1 h2 hij
theorem search_spec {h : Heap} {t n c : Nat} {a : Option Addr} {l : List Nd} {x : Nd} (s : Sl h a (n * 3) id (l.flatMap nd)) (hn : n ≤ 100000) (hs : Srt l) (hx : okN x) (hl : ∀ y ∈ l, okN y) (hnum : ∀ y ∈ l, y.2 ≠ x.2) :
    CallSpec Try.prog 107 #[.slice a n c, .agg (nd x).toArray, .func (.func 105) #[] #[]] h t
      (fun v h' t' => ∃ (k : Nat) (q : Bool), v = .tuple #[.int .i64 (k : Nat), .bool q] ∧ k ≤ n ∧ l.take k ++ x :: l.drop k = ins x l ∧ Sub h h' ∧ t ≤ t') := by
  have hll : l.length = n := by
    have := s.1
    rw [flat_len nd_len] at this
    omega
  refine Go.Vc.spec_of_vc (fn := Try.f107) Try.func107 rfl (by kernel_rfl) (by kernel_rfl) (Nat.le_of_ble_eq_true rfl) ?_
  intro hd
  conv => whnf
  repeat (first | (intro _ _; conv => whnf))
  rename_i r hr
  have hgo : ∀ i y, l[i]? = some y → i < n ∧ okN y := fun i y hy => by
    obtain ⟨h1, rfl⟩ := List.getElem?_eq_some_iff.1 hy
    exact ⟨by omega, hl _ (List.getElem_mem h1)⟩
  refine loop_intro2 (fun i j : Nat => [(0, .slice a n c), (2, .func (.func 105) #[] #[]), (4, .pointer (some ⟨r, 0, none⟩)), (8, .int .i64 (n : Nat)), (9, .int .i64 (i : Nat)), (10, .int .i64 (j : Nat))])
    (fun i j h' t' => Sub h h' ∧ t ≤ t' ∧ h' r = some (.cells (nd x).toArray 160 (0, 0)) ∧ i ≤ j ∧ j ≤ n ∧ (∀ q y, q < i → l[q]? = some y → Huf.ahead y x) ∧ (∀ q y, j ≤ q → l[q]? = some y → ¬ Huf.ahead y x)) (fun i j => j - i) 0 n ⟨rfl, rfl, rfl, rfl, rfl, rfl, trivial⟩
    ⟨hd.sub_new hr _, by omega, hset_same _ _ _, by omega, Nat.le_refl _, fun q y hq => by omega, fun q y hq hy => by have := (hgo q y hy).1; omega⟩ ?_
  rintro i j g h1 t1 hd1 ⟨hsub, ht1, hb1, hij, hjn, hlo, hhi⟩
  conv => whnf
  refine br (fun hb => ?_) (fun hb => ?_)
  · conv => whnf
    repeat (first | ((with_reducible apply Go.Vc.wr_i64); (focus exact And.intro (by omega) (by omega)); conv => whnf) | ((with_reducible apply Go.Vc.wr_u64); (focus exact And.intro (by omega) (by omega)); conv => whnf) | ((with_reducible apply Go.Vc.shr_u64); (focus exact And.intro (by omega) (by omega)); intro zS hzS hzS0 hzS1; conv => whnf) | ((with_reducible apply Go.Vc.and_leI); (focus omega); conv => whnf))
    refine Go.Vc.draw_intro [⟨0, false, false, false, 0⟩, ⟨1, false, false, false, 0⟩, ⟨2, false, false, false, 0⟩, ⟨3, false, false, false, 6⟩, ⟨4, false, false, false, 14⟩, ⟨5, false, false, false, 0⟩, ⟨6, true, false, false, 63⟩, ⟨7, false, false, false, 127⟩] (hs := h1) (hsub := (Sub.refl h1)) (hm := by kernel_rfl) (hpl := by kernel_rfl) ?_
    conv => whnf
    conv => whnf
    have hz2 : zS = ((i : Int) + (j : Int)) / 2 := by rw [hzS]; rfl
    obtain ⟨m, rfl⟩ : ∃ m : Nat, zS = m := ⟨zS.toNat, by omega⟩
    have hm : i ≤ m ∧ m < j := by omega
    refine slW_ix (s.sub hsub) nd_len (by decide) (by omega) ?_
    intro y b off hy ha hrow
    conv => whnf
    refine hrow.row (W := 3) rfl (by decide) ?_
    conv => whnf
    repeat (first | ((with_reducible apply Go.Vc.ldrow); (focus ((repeat (first | with_reducible assumption | with_reducible exact Go.Vc.hset_same _ _ _ | with_reducible refine (Go.Vc.hset_ne _ _ (by omega)).trans ?_)); done)); (focus exact rfl); rintro _ rfl; conv => whnf))
    have hym : l[m]? = some y := hy
    refine (cmp_spec (hgo m y hym).2 hx).mono ?_
    rintro _ h2 t2 hd2 ht2 ⟨rfl, hsub2, _⟩
    conv => whnf
    refine br (fun hc => ?_) (fun hc => ?_)
    · conv => whnf
      repeat (first | ((with_reducible apply Go.Vc.wr_i64); (focus exact And.intro (by omega) (by omega)); conv => whnf))
      have hal := cmp_ahead.1 hc
      refine round_end2 (m + 1) j (by omega) ⟨rfl, rfl, rfl, rfl, rfl, rfl, trivial⟩ ⟨hsub.trans hsub2, by omega, hsub2 _ _ hb1, by omega, hjn, ?_, hhi⟩
      intro q z hq hz
      by_cases e : q = m
      · subst e
        rw [hym] at hz; cases hz
        exact hal
      · exact ahead_trans (srt_get hs (by omega) hz hym) hal
    · conv => whnf
      have hal := fun h => hc (cmp_ahead.2 h)
      refine round_end2 i m (by omega) ⟨rfl, rfl, rfl, rfl, rfl, rfl, trivial⟩ ⟨hsub.trans hsub2, by omega, hsub2 _ _ hb1, by omega, by omega, hlo, ?_⟩
      intro q z hq hz hal2
      by_cases e : q = m
      · subst e
        rw [hym] at hz; cases hz
        exact hal hal2
      · exact hal (ahead_trans (srt_get hs (by omega) hym hz) hal2)
  · conv => whnf
    have hij2 : i = j := by omega
    subst hij2
    have hfin := ins_at (x := x) (l := l) (k := i) (by omega) hnum hlo hhi
    refine Go.Vc.draw_intro [⟨0, false, true, false, 0⟩, ⟨1, false, false, false, 0⟩, ⟨2, false, false, false, 0⟩, ⟨3, false, false, false, 6⟩, ⟨4, false, false, false, 14⟩, ⟨5, false, false, false, 30⟩, ⟨6, false, false, false, 30⟩, ⟨7, false, false, false, 30⟩, ⟨8, false, false, false, 222⟩, ⟨9, false, false, false, 478⟩, ⟨10, false, false, false, 30⟩, ⟨11, true, false, true, 2046⟩, ⟨12, false, false, false, 4094⟩, ⟨13, false, false, false, 8190⟩, ⟨14, false, false, false, 4095⟩, ⟨15, false, false, false, 32767⟩] (hs := h1) (hsub := (Sub.refl h1)) (hm := by kernel_rfl) (hpl := by kernel_rfl) ?_
    conv => whnf
    conv => whnf
    refine br (fun hb3 => ?_) (fun hb3 => ?_)
    · conv => whnf
      repeat (first | ((with_reducible refine And.intro (And.intro ?_ ?_) ?_); (focus omega); (focus omega); conv => whnf))
      refine (slW_ix (W := 3) (n := n) (i := (i : Nat)) (s.sub hsub) nd_len (by decide) (by omega) ?_).2
      intro y b off hy ha hrow
      conv => whnf
      refine hrow.row (W := 3) rfl (by decide) ?_
      conv => whnf
      repeat (first | ((with_reducible apply Go.Vc.ldrow); (focus ((repeat (first | with_reducible assumption | with_reducible exact Go.Vc.hset_same _ _ _ | with_reducible refine (Go.Vc.hset_ne _ _ (by omega)).trans ?_)); done)); (focus exact rfl); rintro _ rfl; conv => whnf))
      have hym : l[i]? = some y := hy
      refine (cmp_spec (hgo i y hym).2 hx).mono ?_
      rintro _ h2 t2 hd2 ht2 ⟨rfl, hsub2, _⟩
      conv => whnf
      refine ⟨hsub2, ?_⟩
      conv => whnf
      exact ⟨i, _, rfl, by omega, hfin, hsub.trans hsub2, by omega⟩
    · conv => whnf
      exact ⟨i, _, rfl, by omega, hfin, hsub, by omega⟩
end Go.Proofs.Ytikpfffhcjlcjaa
