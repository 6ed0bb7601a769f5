import Derived.Test.YtikpfffhcjlcjaaHuff8
set_option linter.unusedSimpArgs false
namespace Go.Proofs.Ytikpfffhcjlcjaa
open Go Go.Vc Go.Huf
set_option maxRecDepth 10000
set_option linter.unusedVariables false
def bad (x : Int) : Prop := x < 0 ∨ x > 2 ^ 40
theorem wrong_spec {h : Heap} {t : Nat} (x : Int) : CallSpec Try.prog 91 #[.int .i64 x] h t (fun v h' t' => ∃ q : Bool, v = .bool q ∧ (q = true ↔ bad x) ∧ h' = h ∧ t' = t) := by
  unfold bad
  refine Go.Vc.spec_of_vc (fn := Try.f91) Try.func91 rfl (by kernel_rfl) (by kernel_rfl) (Nat.le_of_ble_eq_true rfl) ?_
  intro hd
  conv => whnf
  refine br (fun hb => ?_) (fun hb => ?_)
  · conv => whnf
    exact ⟨true, rfl, by simp [hb], rfl, rfl⟩
  · conv => whnf
    exact ⟨_, rfl, by rw [opq_eq, decide_eq_true_eq]; omega, rfl, rfl⟩
theorem index_spec {h : Heap} {t n c : Nat} {a : Option Addr} {l : List Int} (s : Sl h a n (Value.int .i64) l) (hn : n ≤ 1000000) :
    CallSpec Try.prog 104 #[.slice a n c, .func (.func 91) #[] #[]] h t (fun v h' t' => ∃ i : Int, v = .int .i64 i ∧ (0 ≤ i ↔ ∃ x ∈ l, bad x) ∧ h' = h ∧ t' = t) := by
  have hll := s.1
  refine Go.Vc.spec_of_vc (fn := Try.f104) Try.func104 rfl (by kernel_rfl) (by kernel_rfl) (Nat.le_of_ble_eq_true rfl) ?_
  intro hd
  conv => whnf
  refine loop_intro (fun i : Nat => [(0, .slice a n c), (1, .func (.func 91) #[] #[]), (7, .int .i64 (n : Nat)), (8, .int .i64 (i : Nat))]) (fun i h' t' => h' = h ∧ t' = t ∧ i ≤ n ∧ ∀ j x, j < i → l[j]? = some x → ¬ bad x) (fun i => n - i) 0 ⟨rfl, rfl, rfl, rfl, trivial⟩ ⟨rfl, rfl, by omega, fun j x hj => by omega⟩ ?_
  rintro i g _ _ _ ⟨rfl, rfl, hin, hno⟩
  conv => whnf
  refine br (fun hb => ?_) (fun hb => ?_)
  · conv => whnf
    repeat (first | ((with_reducible apply Go.Vc.sl_ix); (focus with_reducible assumption); (focus exact And.intro (by omega) (by omega)); intro xI bI offI hxI hcI; conv => whnf) | ((with_reducible apply Go.Vc.cell_i); (focus assumption); conv => whnf))
    have hxi : l[i]? = some xI := hxI
    refine (wrong_spec xI).mono ?_
    rintro _ h' t' hd' ht' ⟨q, rfl, hq, rfl, rfl⟩
    conv => whnf
    refine bsel_intro (fun hb2 => ?_) (fun hb2 => ?_)
    · conv => whnf
      exact ⟨i, rfl, ⟨fun _ => ⟨xI, List.mem_of_getElem? hxi, hq.1 hb2⟩, fun _ => by omega⟩, rfl, rfl⟩
    · conv => whnf
      repeat (first | ((with_reducible apply Go.Vc.wr_i64); (focus exact And.intro (by omega) (by omega)); conv => whnf))
      refine round_end (i + 1) (by omega) ⟨rfl, rfl, rfl, rfl, trivial⟩ ⟨rfl, rfl, by omega, fun j x hj hx hbx => ?_⟩
      by_cases e : j = i
      · subst e
        rw [hxi] at hx; cases hx
        have := hq.2 hbx
        rw [hb2] at this; cases this
      · exact hno j x (by omega) hx hbx
  · conv => whnf
    refine ⟨-1, rfl, ⟨fun h => by omega, ?_⟩, rfl, rfl⟩
    rintro ⟨x, hx, hbx⟩
    obtain ⟨j, hj, e⟩ := List.getElem_of_mem hx
    exact absurd hbx (hno j x (by omega) (by rw [← e]; exact List.getElem?_eq_getElem hj))
theorem contains_spec {h : Heap} {t n c : Nat} {a : Option Addr} {l : List Int} (s : Sl h a n (Value.int .i64) l) (hn : n ≤ 1000000) :
    CallSpec Try.prog 92 #[.slice a n c, .func (.func 91) #[] #[]] h t (fun v h' t' => ∃ q : Bool, v = .bool q ∧ (q = true ↔ ∃ x ∈ l, bad x) ∧ h' = h ∧ t' = t) := by
  refine Go.Vc.spec_of_vc (fn := Try.f92) Try.func92 rfl (by kernel_rfl) (by kernel_rfl) (Nat.le_of_ble_eq_true rfl) ?_
  intro hd
  conv => whnf
  refine (index_spec s hn).mono ?_
  rintro _ h' t' hd' ht' ⟨i, rfl, hi, rfl, rfl⟩
  conv => whnf
  exact ⟨_, rfl, by rw [opq_eq, decide_eq_true_eq]; exact hi, rfl, rfl⟩
theorem cloneint_spec {h : Heap} {t n c : Nat} {a : Option Addr} {l : List Int} (s : Sl h a n (Value.int .i64) l) (hn : n ≤ 1000000) :
    CallSpec Try.prog 93 #[.slice a n c] h t (fun v h' t' => ∃ a' c', v = .slice a' n c' ∧ Vc.Own h' 3 a' n c' (Value.int .i64) l ∧ t ≤ t' ∧ Vc.Sub h h' ∧ ∀ b, owner a' = some b → t ≤ b) := by
  have hll := s.1
  cases a with
  | none =>
    have hn0 : n = 0 := by
      rcases Nat.eq_zero_or_pos n with h | h
      · exact h
      · obtain ⟨_, _, _, _, _, e, _⟩ := s.2 h; cases e
    subst hn0
    have hl0 : l = [] := List.length_eq_zero_iff.1 hll
    subst hl0
    refine Go.Vc.spec_of_vc (fn := Try.f93) Try.func93 rfl (by kernel_rfl) (by kernel_rfl) (Nat.le_of_ble_eq_true rfl) ?_
    intro hd
    conv => whnf
    exact ⟨none, 0, rfl, Own.nil _ _ _, Nat.le_refl _, Sub.refl _, fun b hb => by cases hb⟩
  | some p =>
    refine Go.Vc.spec_of_vc (fn := Try.f93) Try.func93 rfl (by kernel_rfl) (by kernel_rfl) (Nat.le_of_ble_eq_true rfl) ?_
    intro hd
    conv => whnf
    repeat (first | (intro _ _; conv => whnf))
    rename_i r hr
    have hd2 : Dom (hset h r (.cells ([] : List Value).toArray 3 (0, 0))) (r + 1) := hd.set r _ _ (by omega) (by omega)
    refine app_int (n := 0) (m := n) (l := []) (l2 := l) ⟨rfl, .inr ⟨r, 0, _, (0, 0), rfl, by omega, hset_same _ _ _, by simp, fun i _ => by simp [fz], fun i hi => by simp at hi⟩⟩ (s.sub (hd.sub_new hr _)) (by omega) hd2 ?_
    intro a' c' h' t' ho ht' hd' hk hown
    conv => whnf
    rw [Nat.zero_add, List.nil_append] at ho
    rw [Nat.zero_add]
    refine ⟨a', c', rfl, ho, by omega, fun k o hk2 => ?_, ?_⟩
    · have := hd k o hk2
      rw [hk k (by omega) (by simp [owner]; omega), hset_ne _ _ (by omega)]
      exact hk2
    · intro b hb
      rcases hown with e | ⟨r', e, hr'⟩
      · rw [e] at hb; cases hb; exact hr
      · rw [e] at hb; cases hb; omega
theorem max_spec {h : Heap} {t n c : Nat} {a : Option Addr} {l : List Int} (s : Sl h a n (Value.int .i64) l) (hn : n ≤ 1000000) (h0 : 0 < n) :
    CallSpec Try.prog 95 #[.slice a n c] h t (fun v h' t' => ∃ m, v = .int .i64 m ∧ (∀ q, m ≤ q ↔ ∀ x ∈ l, x ≤ q) ∧ h' = h ∧ t' = t) := by
  have hll := s.1
  refine Go.Vc.spec_of_vc (fn := Try.f95) Try.func95 rfl (by kernel_rfl) (by kernel_rfl) (Nat.le_of_ble_eq_true rfl) ?_
  intro hd
  conv => whnf
  repeat (first | ((with_reducible apply Go.Vc.sl_ix); (focus with_reducible assumption); (focus exact And.intro (by omega) (by omega)); intro xI bI offI hxI hcI; conv => whnf) | ((with_reducible apply Go.Vc.cell_i); (focus assumption); conv => whnf) | (refine Go.Vc.br_f ?_ ?_; (focus omega); conv => whnf))
  have hx0 : l[0]? = some xI := hxI
  refine loop_intro2 (fun (m : Int) (i : Nat) => [(0, .slice a n c), (3, .int .i64 m), (4, .int .i64 (i : Nat))]) (fun m i h' t' => h' = h ∧ t' = t ∧ i ≤ n ∧ ∀ q, m ≤ q ↔ ∀ x ∈ l.take i, x ≤ q) (fun _ i => n - i) xI 1 ⟨rfl, rfl, rfl, trivial⟩ ⟨rfl, rfl, by omega, fun q => ?_⟩ ?_
  · rw [show l.take 1 = [xI] from by rw [List.take_add_one, hx0]; rfl]
    simp
  rintro m i g _ _ _ ⟨rfl, rfl, hin, hm⟩
  conv => whnf
  refine br (fun hb => ?_) (fun hb => ?_)
  · conv => whnf
    repeat (first | ((with_reducible apply Go.Vc.sl_ix); (focus with_reducible assumption); (focus exact And.intro (by omega) (by omega)); intro xI bI offI hxI hcI; conv => whnf) | ((with_reducible apply Go.Vc.cell_i); (focus assumption); conv => whnf) | ((with_reducible apply Go.Vc.wr_i64); (focus exact And.intro (by omega) (by omega)); conv => whnf))
    rename_i z1 z2 z3 hz4 hz5
    refine round_end2 _ (i + 1) (by omega) ⟨rfl, rfl, rfl, trivial⟩ ⟨rfl, rfl, by omega, fun q => ?_⟩
    have hxi : l[i]? = some xI := hxI
    rw [List.take_add_one, hxi]
    have := hm q
    simp only [List.mem_append, Option.toList_some, List.mem_singleton]
    constructor
    · intro h1 x hx
      rcases hx with hx | rfl
      · exact this.1 (by split at h1 <;> omega) x hx
      · split at h1 <;> omega
    · intro h1
      have h2 := this.2 (fun x hx => h1 x (.inl hx))
      have h3 := h1 xI (.inr rfl)
      split <;> omega
  · conv => whnf
    refine ⟨m, rfl, fun q => ?_, rfl, rfl⟩
    have := hm q
    rwa [List.take_of_length_le (by omega)] at this
def may (l : List Int) (m : Int) : Prop := l.length ≤ 300 ∧ ((9 ≤ m ∧ m ≤ 15) ∨ (m = 7 ∧ l.length ≤ 19)) ∧ ∀ x ∈ l, ¬ bad x
open Classical in
noncomputable def lengthsF (l : List Int) (m : Int) : List Int × Bool := if may l m then (lenF 40 l m, true) else ([], false)
theorem half_set {cur : List Int} {i : Nat} {w : Int} (hw : cur[i]? = some w) : ((half cur).take i ++ cur.drop i).set i ((w + 1) / 2) = (half cur).take (i + 1) ++ cur.drop (i + 1) := by
  obtain ⟨hi, rfl⟩ := List.getElem?_eq_some_iff.1 hw
  have hh := half_len cur
  rw [List.set_append_right _ _ (by rw [List.length_take]; omega), List.length_take, show i - min i (half cur).length = 0 from by omega, List.drop_eq_getElem_cons hi, List.set_cons_zero, List.take_add_one, List.getElem?_eq_getElem (by omega)]
  simp [half]
theorem lengths_specO {h : Heap} {t n c : Nat} {a : Option Addr} {l : List Int} {m : Int} (s : Sl h a n (Value.int .i64) l) (hn : n ≤ 1000000) :
    CallSpec Try.prog 71 #[.slice a n c, .int .i64 m] h t (fun v h' t' => ∃ a' n' c', v = .tuple #[.slice a' n' c', .bool (lengthsF l m).2] ∧ Sl h' a' n' (Value.int .i64) (lengthsF l m).1 ∧ n' ≤ c' ∧ t ≤ t' ∧ Vc.Sub h h' ∧ ∀ b, owner a' = some b → t ≤ b) := by
  have hll := s.1
  refine Go.Vc.spec_of_vc (fn := Try.f71) Try.func71 rfl (by kernel_rfl) (by kernel_rfl) (Nat.le_of_ble_eq_true rfl) ?_
  intro hd
  have fail : ¬ may l m → lengthsF l m = ([], false) := fun h => by unfold lengthsF; rw [if_neg h]
  have done : may l m → lengthsF l m = (lenF 40 l m, true) := fun h => by unfold lengthsF; rw [if_pos h]
  have nope : ∀ h' t', t ≤ t' → Vc.Sub h h' → ¬ may l m → ∃ a' n' c', (Value.tuple #[.slice none 0 0, .bool false] : Value) = .tuple #[.slice a' n' c', .bool (lengthsF l m).2] ∧ Sl h' a' n' (Value.int .i64) (lengthsF l m).1 ∧ n' ≤ c' ∧ t ≤ t' ∧ Vc.Sub h h' ∧ ∀ b, owner a' = some b → t ≤ b := fun h' t' ht hs hm => by
    rw [fail hm]; exact ⟨none, 0, 0, rfl, Sl.nil _ _ _, Nat.le_refl _, ht, hs, (fun b hb => by cases hb)⟩
  have hm4 : (9 ≤ m ∧ m ≤ 15) ∨ (m = 7 ∧ n ≤ 19) ∨ (m < 9 ∧ m ≠ 7) ∨ (m = 7 ∧ 19 < n) ∨ 15 < m := by omega
  by_cases hbig : n > 300
  · have hno : ¬ may l m := fun hm => by unfold may at hm; omega
    rcases hm4 with h1 | h1 | h1 | h1 | h1
    · conv => whnf
      repeat (first | (refine Go.Vc.br_t ?_ ?_; (focus omega); conv => whnf))
      exact nope _ _ (Nat.le_refl _) (Sub.refl _) hno
    · omega
    · conv => whnf
      repeat (first | (refine Go.Vc.br_t ?_ ?_; (focus omega); conv => whnf) | (refine Go.Vc.br_f ?_ ?_; (focus omega); conv => whnf))
      exact nope _ _ (Nat.le_refl _) (Sub.refl _) hno
    · conv => whnf
      repeat (first | (refine Go.Vc.br_t ?_ ?_; (focus omega); conv => whnf) | (refine Go.Vc.br_f ?_ ?_; (focus omega); conv => whnf))
      exact nope _ _ (Nat.le_refl _) (Sub.refl _) hno
    · conv => whnf
      repeat (first | (refine Go.Vc.br_t ?_ ?_; (focus omega); conv => whnf) | (refine Go.Vc.br_f ?_ ?_; (focus omega); conv => whnf))
      exact nope _ _ (Nat.le_refl _) (Sub.refl _) hno
  · rcases hm4 with h1 | h1 | h1 | h1 | h1
    · conv => whnf
      repeat (first | (refine Go.Vc.br_t ?_ ?_; (focus omega); conv => whnf) | (refine Go.Vc.br_f ?_ ?_; (focus omega); conv => whnf))
      refine (contains_spec s hn).mono ?_
      rintro _ h t hd _ ⟨q, rfl, hq, rfl, rfl⟩
      conv => whnf
      refine bsel_intro (fun hb => ?_) (fun hb => ?_)
      · have hno : ¬ may l m := fun hm => by
          obtain ⟨x, hx, hbx⟩ := hq.1 hb
          exact hm.2.2 x hx hbx
        conv => whnf
        exact nope _ _ (Nat.le_refl _) (Sub.refl _) hno
      · have hgood : ∀ x ∈ l, ¬ bad x := fun x hx hbx => by
          have := hq.2 ⟨x, hx, hbx⟩
          rw [hb] at this; cases this
        have hmay : may l m := ⟨by omega, by omega, hgood⟩
        obtain ⟨e, he1, he2, he3⟩ : ∃ e : Nat, 1 ≤ e ∧ l.length ≤ 2 ^ e ∧ (e : Int) ≤ m := by
          rcases hmay.2.1 with h | h
          · exact ⟨9, by omega, by omega, by omega⟩
          · exact ⟨5, by omega, by omega, by omega⟩
        rw [done hmay]
        clear fail done nope
        conv => whnf
        refine (cloneint_spec s hn).mono ?_
        rintro _ h1 t1 hd1 ht1 ⟨a8, c8, rfl, ho8, _, hs1, hown8⟩
        conv => whnf
        refine loop_intro2 (fun (j : Nat) (cur : List Int) => [(1, .int .i64 m), (8, .slice a8 n c8)])
          (fun j cur h' t' => Vc.Own h' 3 a8 n c8 (Value.int .i64) cur ∧ (∀ x ∈ cur, 0 ≤ x ∧ x ≤ 2 ^ j) ∧ j ≤ 40 ∧ lenF j cur m = lenF 40 l m ∧ Vc.Sub h h' ∧ t ≤ t') (fun j _ => j) 40 l ⟨rfl, rfl, trivial⟩
          ⟨ho8, fun x hx => by have := hgood x hx; unfold bad at this; omega, Nat.le_refl _, rfl, hs1, ht1⟩ ?_
        rintro j cur g2 h2 t2 hd2 ⟨ho2, hcur, hj, hlf, hs2, ht2⟩
        have hcl := ho2.1
        have hcb : ∀ x ∈ cur, 0 ≤ x ∧ x ≤ 2 ^ 40 := fun x hx => by
          have h3 := hcur x hx
          have h4 : (2 : Int) ^ j ≤ 2 ^ 40 := by
            have : (2 : Nat) ^ j ≤ 2 ^ 40 := Nat.pow_le_pow_right (by decide) hj
            exact_mod_cast this
          omega
        conv => whnf
        refine (tree_spec (n := n) ho2.sl (by omega) hcb).mono ?_
        rintro _ h3 t3 hd3 ht3 ⟨b, rfl, hbt, _, hob, hs3⟩
        have ho3 := Own.fr ho2 (h' := h3) (fun b o _ hb => hs3 b o hb)
        have hll2 : (lens cur).length = n := by rw [lens_len]; exact hcl
        have hret : (∀ x ∈ lens cur, x ≤ m) → ∃ a' n' c', (Value.tuple #[.slice (some ⟨b, 0, none⟩) n n, .bool true] : Value) = .tuple #[.slice a' n' c', .bool (lenF 40 l m, true).2] ∧ Sl h3 a' n' (Value.int .i64) (lenF 40 l m, true).1 ∧ n' ≤ c' ∧ t ≤ t3 ∧ Vc.Sub h h3 ∧ ∀ b, owner a' = some b → t ≤ b := fun hle => by
          refine ⟨_, n, n, rfl, ?_, Nat.le_refl _, by omega, hs2.trans hs3, (fun b' hb' => by have e : some b = some b' := hb'; cases e; omega)⟩
          rw [← hlf, lenF_first hle]
          exact hob.sl
        by_cases hn0 : n = 0
        · conv => whnf
          repeat (first | (refine Go.Vc.br_t ?_ ?_; (focus omega); conv => whnf))
          exact hret (fun x hx => by rw [List.length_eq_zero_iff.1 (hll2.trans hn0)] at hx; cases hx)
        · conv => whnf
          repeat (first | (refine Go.Vc.br_f ?_ ?_; (focus omega); conv => whnf))
          refine (max_spec hob.sl hn (by omega)).mono ?_
          rintro _ h3 t3 hd3 _ ⟨mx, rfl, hmx, rfl, rfl⟩
          conv => whnf
          refine br (fun hb5 => ?_) (fun hb5 => ?_)
          · conv => whnf
            exact hret ((hmx m).1 hb5)
          · have hnot : ¬ ∀ x ∈ lens cur, x ≤ m := fun h => hb5 ((hmx m).2 h)
            obtain ⟨j, rfl⟩ : ∃ j', j = j' + 1 := by
              cases j with
              | succ j => exact ⟨j, rfl⟩
              | zero =>
                exfalso
                apply hnot
                have h5 := lens_ones (l := cur) (fun x hx => by have := hcur x hx; omega) (e := e) (by omega) he1
                exact fun x hx => by have := h5 x hx; omega
            have hlf2 : lenF j (half cur) m = lenF 40 l m := by
              rw [← hlf]
              conv => rhs; unfold lenF
              rw [if_neg hnot]
            obtain ⟨b8, off8, e8⟩ := Own.at ho3 (by omega)
            subst e8
            clear hob hret hmx ho2
            conv => whnf
            refine loop_intro (fun i : Nat => [(1, .int .i64 m), (8, .slice (some ⟨b8, off8, none⟩) n c8), (53, .int .i64 (n : Nat)), (54, .int .i64 (i : Nat))])
              (fun i h' t' => i ≤ n ∧ Vc.Own h' 3 (some ⟨b8, off8, none⟩) n c8 (Value.int .i64) ((half cur).take i ++ cur.drop i) ∧ Vc.Sub h h' ∧ t ≤ t') (fun i => n - i) 0 ⟨rfl, rfl, rfl, rfl, trivial⟩ ⟨by omega, by simpa using ho3, hs2.trans hs3, by omega⟩ ?_
            have hhl := half_len cur
            rintro i g5 h5 t5 hd5 ⟨hi, ho5, hs5, ht5⟩
            conv => whnf
            refine br (fun hb6 => ?_) (fun hb6 => ?_)
            · obtain ⟨w, hw⟩ : ∃ w, cur[i]? = some w := ⟨_, List.getElem?_eq_getElem (by omega)⟩
              have hwb := hcb w (List.mem_of_getElem? hw)
              have hDw : ((half cur).take i ++ cur.drop i)[i]? = some w := by
                rw [List.getElem?_append_right (by rw [List.length_take]; omega), List.length_take, List.getElem?_drop, show i + (i - min i (half cur).length) = i from by omega]
                exact hw
              have hcw := Own.cell ho5 hDw
              conv => whnf
              repeat (first | ((with_reducible apply Go.Vc.own_ix); (focus exact And.intro (by omega) (by omega)); conv => whnf) | ((with_reducible apply Go.Vc.cell_i); (focus assumption); conv => whnf) | ((with_reducible apply Go.Vc.wr_i64); (focus exact And.intro (by omega) (by omega)); conv => whnf) | ((with_reducible apply Go.Vc.quo_i64); (focus exact And.intro (by omega) (And.intro (by omega) (by omega))); conv => whnf) | ((with_reducible refine And.intro ?_ (And.intro ?_ ?_)); (focus exact rfl); (focus omega); conv => whnf))
              obtain ⟨cs, fr, hbq, hlt, hfz, hput⟩ := Own.put ho5 (j := i) (by omega) ((w + 1) / 2)
              refine ⟨rfl, cs, _, fr, hbq, hlt, hfz, ?_⟩
              rintro _ rfl
              conv => whnf
              repeat (first | ((with_reducible apply Go.Vc.wr_i64); (focus exact And.intro (by omega) (by omega)); conv => whnf))
              have htb := hown8 b8 rfl
              refine round_end (i + 1) (by omega) ⟨rfl, rfl, rfl, rfl, trivial⟩ ⟨by omega, ?_, fun b o hb => ?_, by omega⟩
              · rw [half_set hw] at hput
                exact hput
              · rw [hset_ne _ _ (by have := hd b o hb; omega)]
                exact hs5 b o hb
            · have hin : i = n := by omega
              subst hin
              rw [List.take_of_length_le (by omega), List.drop_of_length_le (by omega), List.append_nil] at ho5
              conv => whnf
              refine round_end2 j (half cur) (by omega) ⟨rfl, rfl, trivial⟩ ⟨ho5, fun x hx => ?_, by omega, hlf2, hs5, ht5⟩
              obtain ⟨y, hy, rfl⟩ := half_mem hx
              have h6 := hcur y hy
              have h7 : (2 : Int) ^ (j + 1) = 2 ^ j * 2 := Int.pow_succ 2 j
              omega
    · conv => whnf
      repeat (first | (refine Go.Vc.br_t ?_ ?_; (focus omega); conv => whnf) | (refine Go.Vc.br_f ?_ ?_; (focus omega); conv => whnf) | (refine Go.Vc.brn_f ?_ ?_; (focus omega); conv => whnf))
      refine (contains_spec s hn).mono ?_
      rintro _ h t hd _ ⟨q, rfl, hq, rfl, rfl⟩
      conv => whnf
      refine bsel_intro (fun hb => ?_) (fun hb => ?_)
      · have hno : ¬ may l m := fun hm => by
          obtain ⟨x, hx, hbx⟩ := hq.1 hb
          exact hm.2.2 x hx hbx
        conv => whnf
        exact nope _ _ (Nat.le_refl _) (Sub.refl _) hno
      · have hgood : ∀ x ∈ l, ¬ bad x := fun x hx hbx => by
          have := hq.2 ⟨x, hx, hbx⟩
          rw [hb] at this; cases this
        have hmay : may l m := ⟨by omega, by omega, hgood⟩
        obtain ⟨e, he1, he2, he3⟩ : ∃ e : Nat, 1 ≤ e ∧ l.length ≤ 2 ^ e ∧ (e : Int) ≤ m := by
          rcases hmay.2.1 with h | h
          · exact ⟨9, by omega, by omega, by omega⟩
          · exact ⟨5, by omega, by omega, by omega⟩
        rw [done hmay]
        clear fail done nope
        conv => whnf
        refine (cloneint_spec s hn).mono ?_
        rintro _ h1 t1 hd1 ht1 ⟨a8, c8, rfl, ho8, _, hs1, hown8⟩
        conv => whnf
        refine loop_intro2 (fun (j : Nat) (cur : List Int) => [(1, .int .i64 m), (8, .slice a8 n c8)])
          (fun j cur h' t' => Vc.Own h' 3 a8 n c8 (Value.int .i64) cur ∧ (∀ x ∈ cur, 0 ≤ x ∧ x ≤ 2 ^ j) ∧ j ≤ 40 ∧ lenF j cur m = lenF 40 l m ∧ Vc.Sub h h' ∧ t ≤ t') (fun j _ => j) 40 l ⟨rfl, rfl, trivial⟩
          ⟨ho8, fun x hx => by have := hgood x hx; unfold bad at this; omega, Nat.le_refl _, rfl, hs1, ht1⟩ ?_
        rintro j cur g2 h2 t2 hd2 ⟨ho2, hcur, hj, hlf, hs2, ht2⟩
        have hcl := ho2.1
        have hcb : ∀ x ∈ cur, 0 ≤ x ∧ x ≤ 2 ^ 40 := fun x hx => by
          have h3 := hcur x hx
          have h4 : (2 : Int) ^ j ≤ 2 ^ 40 := by
            have : (2 : Nat) ^ j ≤ 2 ^ 40 := Nat.pow_le_pow_right (by decide) hj
            exact_mod_cast this
          omega
        conv => whnf
        refine (tree_spec (n := n) ho2.sl (by omega) hcb).mono ?_
        rintro _ h3 t3 hd3 ht3 ⟨b, rfl, hbt, _, hob, hs3⟩
        have ho3 := Own.fr ho2 (h' := h3) (fun b o _ hb => hs3 b o hb)
        have hll2 : (lens cur).length = n := by rw [lens_len]; exact hcl
        have hret : (∀ x ∈ lens cur, x ≤ m) → ∃ a' n' c', (Value.tuple #[.slice (some ⟨b, 0, none⟩) n n, .bool true] : Value) = .tuple #[.slice a' n' c', .bool (lenF 40 l m, true).2] ∧ Sl h3 a' n' (Value.int .i64) (lenF 40 l m, true).1 ∧ n' ≤ c' ∧ t ≤ t3 ∧ Vc.Sub h h3 ∧ ∀ b, owner a' = some b → t ≤ b := fun hle => by
          refine ⟨_, n, n, rfl, ?_, Nat.le_refl _, by omega, hs2.trans hs3, (fun b' hb' => by have e : some b = some b' := hb'; cases e; omega)⟩
          rw [← hlf, lenF_first hle]
          exact hob.sl
        by_cases hn0 : n = 0
        · conv => whnf
          repeat (first | (refine Go.Vc.br_t ?_ ?_; (focus omega); conv => whnf))
          exact hret (fun x hx => by rw [List.length_eq_zero_iff.1 (hll2.trans hn0)] at hx; cases hx)
        · conv => whnf
          repeat (first | (refine Go.Vc.br_f ?_ ?_; (focus omega); conv => whnf))
          refine (max_spec hob.sl hn (by omega)).mono ?_
          rintro _ h3 t3 hd3 _ ⟨mx, rfl, hmx, rfl, rfl⟩
          conv => whnf
          refine br (fun hb5 => ?_) (fun hb5 => ?_)
          · conv => whnf
            exact hret ((hmx m).1 hb5)
          · have hnot : ¬ ∀ x ∈ lens cur, x ≤ m := fun h => hb5 ((hmx m).2 h)
            obtain ⟨j, rfl⟩ : ∃ j', j = j' + 1 := by
              cases j with
              | succ j => exact ⟨j, rfl⟩
              | zero =>
                exfalso
                apply hnot
                have h5 := lens_ones (l := cur) (fun x hx => by have := hcur x hx; omega) (e := e) (by omega) he1
                exact fun x hx => by have := h5 x hx; omega
            have hlf2 : lenF j (half cur) m = lenF 40 l m := by
              rw [← hlf]
              conv => rhs; unfold lenF
              rw [if_neg hnot]
            obtain ⟨b8, off8, e8⟩ := Own.at ho3 (by omega)
            subst e8
            clear hob hret hmx ho2
            conv => whnf
            refine loop_intro (fun i : Nat => [(1, .int .i64 m), (8, .slice (some ⟨b8, off8, none⟩) n c8), (53, .int .i64 (n : Nat)), (54, .int .i64 (i : Nat))])
              (fun i h' t' => i ≤ n ∧ Vc.Own h' 3 (some ⟨b8, off8, none⟩) n c8 (Value.int .i64) ((half cur).take i ++ cur.drop i) ∧ Vc.Sub h h' ∧ t ≤ t') (fun i => n - i) 0 ⟨rfl, rfl, rfl, rfl, trivial⟩ ⟨by omega, by simpa using ho3, hs2.trans hs3, by omega⟩ ?_
            have hhl := half_len cur
            rintro i g5 h5 t5 hd5 ⟨hi, ho5, hs5, ht5⟩
            conv => whnf
            refine br (fun hb6 => ?_) (fun hb6 => ?_)
            · obtain ⟨w, hw⟩ : ∃ w, cur[i]? = some w := ⟨_, List.getElem?_eq_getElem (by omega)⟩
              have hwb := hcb w (List.mem_of_getElem? hw)
              have hDw : ((half cur).take i ++ cur.drop i)[i]? = some w := by
                rw [List.getElem?_append_right (by rw [List.length_take]; omega), List.length_take, List.getElem?_drop, show i + (i - min i (half cur).length) = i from by omega]
                exact hw
              have hcw := Own.cell ho5 hDw
              conv => whnf
              repeat (first | ((with_reducible apply Go.Vc.own_ix); (focus exact And.intro (by omega) (by omega)); conv => whnf) | ((with_reducible apply Go.Vc.cell_i); (focus assumption); conv => whnf) | ((with_reducible apply Go.Vc.wr_i64); (focus exact And.intro (by omega) (by omega)); conv => whnf) | ((with_reducible apply Go.Vc.quo_i64); (focus exact And.intro (by omega) (And.intro (by omega) (by omega))); conv => whnf) | ((with_reducible refine And.intro ?_ (And.intro ?_ ?_)); (focus exact rfl); (focus omega); conv => whnf))
              obtain ⟨cs, fr, hbq, hlt, hfz, hput⟩ := Own.put ho5 (j := i) (by omega) ((w + 1) / 2)
              refine ⟨rfl, cs, _, fr, hbq, hlt, hfz, ?_⟩
              rintro _ rfl
              conv => whnf
              repeat (first | ((with_reducible apply Go.Vc.wr_i64); (focus exact And.intro (by omega) (by omega)); conv => whnf))
              have htb := hown8 b8 rfl
              refine round_end (i + 1) (by omega) ⟨rfl, rfl, rfl, rfl, trivial⟩ ⟨by omega, ?_, fun b o hb => ?_, by omega⟩
              · rw [half_set hw] at hput
                exact hput
              · rw [hset_ne _ _ (by have := hd b o hb; omega)]
                exact hs5 b o hb
            · have hin : i = n := by omega
              subst hin
              rw [List.take_of_length_le (by omega), List.drop_of_length_le (by omega), List.append_nil] at ho5
              conv => whnf
              refine round_end2 j (half cur) (by omega) ⟨rfl, rfl, trivial⟩ ⟨ho5, fun x hx => ?_, by omega, hlf2, hs5, ht5⟩
              obtain ⟨y, hy, rfl⟩ := half_mem hx
              have h6 := hcur y hy
              have h7 : (2 : Int) ^ (j + 1) = 2 ^ j * 2 := Int.pow_succ 2 j
              omega
    · have hno : ¬ may l m := fun hm => by unfold may at hm; omega
      conv => whnf
      repeat (first | (refine Go.Vc.br_f ?_ ?_; (focus omega); conv => whnf))
      exact nope _ _ (Nat.le_refl _) (Sub.refl _) hno
    · have hno : ¬ may l m := fun hm => by unfold may at hm; omega
      conv => whnf
      repeat (first | (refine Go.Vc.br_t ?_ ?_; (focus omega); conv => whnf) | (refine Go.Vc.br_f ?_ ?_; (focus omega); conv => whnf) | (refine Go.Vc.brn_t ?_ ?_; (focus omega); conv => whnf))
      exact nope _ _ (Nat.le_refl _) (Sub.refl _) hno
    · have hno : ¬ may l m := fun hm => by unfold may at hm; omega
      conv => whnf
      repeat (first | (refine Go.Vc.br_t ?_ ?_; (focus omega); conv => whnf) | (refine Go.Vc.br_f ?_ ?_; (focus omega); conv => whnf))
      exact nope _ _ (Nat.le_refl _) (Sub.refl _) hno
end Go.Proofs.Ytikpfffhcjlcjaa
