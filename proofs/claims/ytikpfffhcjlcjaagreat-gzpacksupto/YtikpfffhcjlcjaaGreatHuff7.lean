import Derived.Test.YtikpfffhcjlcjaaGreatHuff6
set_option linter.unusedSimpArgs false
namespace Go.Proofs.YtikpfffhcjlcjaaGreat
open Go Go.Vc Go.Huf
set_option maxRecDepth 10000
set_option linter.unusedVariables false
structure NR where
  x : Nd
  a : Option Addr
  n : Nat
  c : Nat
  l : List Nat
def nr (m : NR) : List Value := [.int .i64 m.x.1, .int .i64 ((m.x.2 : Nat) : Int), .slice m.a m.n m.c]
theorem nr_len (m : NR) : (nr m).length = 3 := rfl
theorem nr_one (l : List NR) : (l.flatMap nr).all oneC = true := by
  rw [List.all_eq_true]
  intro v hv
  obtain ⟨x, _, hx⟩ := List.mem_flatMap.1 hv
  simp [nr] at hx
  rcases hx with rfl | rfl | rfl <;> rfl
theorem app_nr {ty : TypeId} {h : Heap} {t : Nat} {a : Option Addr} {n c : Nat} {l l2 : List Value} {xa : Option Addr} {xc m : Nat}
    (ho : Vc.Own h 179 a (n * 3) (c * 3) id l) (hx : Sl h xa (m * 3) id l2) (hf : l2.all oneC = true) (hb : n + m ≤ 1000000) (hdm : Dom h t) {K : Value → Heap → Nat → Prop}
    (hK : ∀ a' c' h' t', Vc.Own h' 179 a' ((n + m) * 3) (c' * 3) id (l ++ l2) → t ≤ t' → Dom h' t' → (∀ k, k < t → owner a ≠ some k → h' k = h k) → (owner a' = owner a ∨ ∃ r, owner a' = some r ∧ t ≤ r) → K (.slice a' (n + m) c') h' t') :
    AppVC Tryz.prog #[177, 177] ty (.slice a n c) (.slice xa m xc) K h t :=
  app_vcW (E := 179) (inf := Tryz.types[179]) (z := .agg #[.int .i64 0, .int .i64 0, .slice none 0 0]) (W := 3) Tryz.underlying177 Tryz.underlying177 rfl (by kernel_rfl) (by kernel_rfl) (by decide) (by kernel_rfl) rfl ho hx hf (by
    show (n + m) * 40 ≤ 2 ^ 40
    omega) (by omega) (by show 40 ≤ 1000; decide) hdm hK
def leastAt (l : List NR) (i : Nat) : Prop := ∃ m, l[i]? = some m ∧ ∀ j m', l[j]? = some m' → j ≠ i → Huf.ahead m.x m'.x
theorem least_spec {h : Heap} {t n c : Nat} {a : Option Addr} {l : List NR} (s : Sl h a (n * 3) id (l.flatMap nr)) (hn : 1 ≤ n ∧ n ≤ 1000) (hnum : (l.map (·.x.2)).Nodup) :
    CallSpec Tryz.prog 119 #[.slice a n c] h t (fun v h' t' => ∃ i : Nat, v = .int .i64 (i : Nat) ∧ i < n ∧ leastAt l i ∧ h' = h ∧ t' = t) := by
  have hll : l.length = n := by
    have := s.1
    rw [flat_len nr_len] at this
    omega
  refine Go.Vc.spec_of_vc (fn := Tryz.f119) Tryz.func119 rfl (by kernel_rfl) (by kernel_rfl) (Nat.le_of_ble_eq_true rfl) ?_
  intro hd
  conv => whnf
  refine loop_intro2 (fun i j : Nat => [(0, .slice a n c), (3, .int .i64 (i : Nat)), (4, .int .i64 (j : Nat))])
    (fun i j h' t' => h' = h ∧ t' = t ∧ i < j ∧ j ≤ n ∧ ∃ m, l[i]? = some m ∧ ∀ q m', l[q]? = some m' → q < j → q ≠ i → Huf.ahead m.x m'.x) (fun i j => n - j) 0 1 ⟨rfl, rfl, rfl, trivial⟩
    ⟨rfl, rfl, by omega, by omega, _, List.getElem?_eq_getElem (by omega), fun q m' _ h1 h2 => by omega⟩ ?_
  rintro i j g _ _ _ ⟨rfl, rfl, hij, hjn, m, hm, hmin⟩
  conv => whnf
  refine br (fun hb => ?_) (fun hb => ?_)
  · obtain ⟨mj, b, off, hmj, ha, hrj⟩ := slW_row (i := j) nr_len s (by decide) (by omega)
    obtain ⟨mi, b', off', hmi, ha', hri⟩ := slW_row (i := i) nr_len s (by decide) (by omega)
    subst ha
    cases ha'
    have hmim : m = mi := Option.some.inj (hm.symm.trans hmi)
    subst hmim
    have hnn : m.x.2 ≠ mj.x.2 := by
      obtain ⟨h1, h2⟩ := List.getElem?_eq_some_iff.1 hmi
      obtain ⟨h3, h4⟩ := List.getElem?_eq_some_iff.1 hmj
      have := List.pairwise_iff_getElem.1 hnum i j (by simpa using h1) (by simpa using h3) hij
      simpa [h2, h4] using this
    have hmin2 : Huf.ahead mj.x m.x → ∀ q m', l[q]? = some m' → q < j + 1 → q ≠ j → Huf.ahead mj.x m'.x := fun hal q m' h1 h2 h3 => by
      by_cases e : q = i
      · subst e
        rw [hmi] at h1; cases h1
        exact hal
      · exact ahead_trans hal (hmin q m' h1 (by omega) e)
    have hmin3 : ¬ Huf.ahead mj.x m.x → ∀ q m', l[q]? = some m' → q < j + 1 → q ≠ i → Huf.ahead m.x m'.x := fun hal q m' h1 h2 h3 => by
      by_cases e : q = j
      · subst e
        rw [hmj] at h1; cases h1
        rcases ahead_total hnn with h | h
        · exact h
        · exact absurd h hal
      · exact hmin q m' h1 (by omega) h3
    conv => whnf
    refine Go.Vc.draw_intro [⟨0, false, false, false, 0⟩, ⟨1, false, false, false, 0⟩, ⟨2, false, false, false, 3⟩, ⟨3, false, false, false, 7⟩, ⟨4, false, false, false, 15⟩, ⟨5, false, false, false, 0⟩, ⟨6, false, false, false, 0⟩, ⟨7, false, false, false, 96⟩, ⟨8, false, false, false, 224⟩, ⟨9, false, false, false, 480⟩, ⟨10, false, false, false, 1023⟩, ⟨11, false, false, false, 2047⟩, ⟨12, false, false, false, 4095⟩, ⟨13, false, false, false, 4095⟩, ⟨14, false, false, false, 16383⟩, ⟨15, false, false, false, 32767⟩, ⟨16, false, false, false, 65535⟩, ⟨17, false, false, false, 4095⟩, ⟨18, false, false, false, 4095⟩, ⟨19, false, false, false, 397311⟩, ⟨20, false, false, false, 921599⟩, ⟨21, false, false, false, 1970175⟩, ⟨22, false, false, false, 4194303⟩, ⟨23, false, false, false, 8388607⟩, ⟨24, false, false, false, 16777215⟩, ⟨25, false, false, false, 16777215⟩, ⟨26, false, false, false, 67108863⟩, ⟨27, false, false, false, 134217727⟩, ⟨28, false, false, false, 268435455⟩, ⟨29, false, false, false, 16777215⟩, ⟨30, false, false, false, 16777215⟩, ⟨31, false, false, false, 1627389951⟩, ⟨32, false, false, false, 3774873599⟩, ⟨33, false, false, false, 8069840895⟩, ⟨34, false, false, false, 17179869183⟩, ⟨35, false, false, false, 34359738367⟩, ⟨36, false, false, false, 68719476735⟩] (hs := (fun _ => none)) (hsub := (fun _ _ h => nomatch h)) (hm := by kernel_rfl) (hpl := by kernel_rfl) ?_
    conv => whnf
    conv => whnf
    repeat (first | ((with_reducible apply Go.Vc.own_ix); (focus exact And.intro (by omega) (by omega)); conv => whnf))
    refine ⟨_, hrj.cell0 rfl, ?_⟩
    conv => whnf
    repeat (first | ((with_reducible apply Go.Vc.own_ix); (focus exact And.intro (by omega) (by omega)); conv => whnf))
    refine ⟨_, hri.cell0 rfl, ?_⟩
    conv => whnf
    have fin1 : Huf.ahead mj.x m.x → ∃ m, l[j]? = some m ∧ ∀ (q : Nat) (m' : NR), l[q]? = some m' → q < j + 1 → q ≠ j → Huf.ahead m.x m'.x := fun h => ⟨mj, hmj, hmin2 h⟩
    have fin2 : ¬ Huf.ahead mj.x m.x → ∃ m, l[i]? = some m ∧ ∀ (q : Nat) (m' : NR), l[q]? = some m' → q < j + 1 → q ≠ i → Huf.ahead m.x m'.x := fun h => ⟨m, hmi, hmin3 h⟩
    refine br (fun hb1 => ?_) (fun hb1 => ?_)
    · conv => whnf
      repeat (first | ((with_reducible apply Go.Vc.wr_i64); (focus exact And.intro (by omega) (by omega)); conv => whnf))
      exact round_end2 j (j + 1) (by omega) ⟨rfl, rfl, rfl, trivial⟩ ⟨rfl, rfl, by omega, by omega, fin1 (.inl hb1)⟩
    · conv => whnf
      repeat (first | ((with_reducible apply Go.Vc.own_ix); (focus exact And.intro (by omega) (by omega)); conv => whnf))
      refine ⟨_, hrj.cell0 rfl, ?_⟩
      conv => whnf
      repeat (first | ((with_reducible apply Go.Vc.own_ix); (focus exact And.intro (by omega) (by omega)); conv => whnf))
      refine ⟨_, hri.cell0 rfl, ?_⟩
      conv => whnf
      refine br (fun hb2 => ?_) (fun hb2 => ?_)
      · conv => whnf
        repeat (first | ((with_reducible apply Go.Vc.own_ix); (focus exact And.intro (by omega) (by omega)); conv => whnf))
        refine ⟨_, hrj.cell (j := 1) rfl, ?_⟩
        conv => whnf
        repeat (first | ((with_reducible apply Go.Vc.own_ix); (focus exact And.intro (by omega) (by omega)); conv => whnf))
        refine ⟨_, hri.cell (j := 1) rfl, ?_⟩
        conv => whnf
        refine br (fun hb3 => ?_) (fun hb3 => ?_)
        · conv => whnf
          repeat (first | ((with_reducible apply Go.Vc.wr_i64); (focus exact And.intro (by omega) (by omega)); conv => whnf))
          exact round_end2 j (j + 1) (by omega) ⟨rfl, rfl, rfl, trivial⟩ ⟨rfl, rfl, by omega, by omega, fin1 (.inr ⟨hb2, by omega⟩)⟩
        · conv => whnf
          repeat (first | ((with_reducible apply Go.Vc.wr_i64); (focus exact And.intro (by omega) (by omega)); conv => whnf))
          exact round_end2 i (j + 1) (by omega) ⟨rfl, rfl, rfl, trivial⟩ ⟨rfl, rfl, by omega, by omega, fin2 (by unfold Huf.ahead; omega)⟩
      · conv => whnf
        repeat (first | ((with_reducible apply Go.Vc.wr_i64); (focus exact And.intro (by omega) (by omega)); conv => whnf))
        exact round_end2 i (j + 1) (by omega) ⟨rfl, rfl, rfl, trivial⟩ ⟨rfl, rfl, by omega, by omega, fin2 (by unfold Huf.ahead; omega)⟩
  · conv => whnf
    exact ⟨i, rfl, by omega, ⟨m, hm, fun q m' h1 h2 => hmin q m' h1 (by have := (List.getElem?_eq_some_iff.1 h1).1; omega) h2⟩, rfl, rfl⟩
theorem without_spec {h : Heap} {t b off n c i : Nat} {l : List NR} (s : Sl h (some ⟨b, off, none⟩) (n * 3) id (l.flatMap nr)) (hi : i < n) (hn : n ≤ 1000) (hc : n ≤ c) :
    CallSpec Tryz.prog 120 #[.slice (some ⟨b, off, none⟩) n c, .int .i64 (i : Nat)] h t (fun v h' t' => ∃ a' c', v = .slice a' (n - 1) c' ∧ Vc.Own h' 179 a' ((n - 1) * 3) (c' * 3) id ((l.take i ++ l.drop (i + 1)).flatMap nr) ∧ Sub h h' ∧ (∀ q, owner a' = some q → t ≤ q) ∧ t ≤ t') := by
  have hll : l.length = n := by
    have := s.1
    rw [flat_len nr_len] at this
    omega
  refine Go.Vc.spec_of_vc (fn := Tryz.f120) Tryz.func120 rfl (by kernel_rfl) (by kernel_rfl) (Nat.le_of_ble_eq_true rfl) ?_
  intro hd
  conv => whnf
  repeat (first | ((with_reducible refine And.intro (And.intro ?_ ?_) ?_); (focus omega); (focus omega); conv => whnf))
  have s1 : Sl h (some ⟨b, off, none⟩) (i * 3) id ((l.take i).flatMap nr) := by
    have := s.take (m := i * 3) (by omega)
    rwa [flat_take nr_len] at this
  refine app_nr (a := none) (n := 0) (c := 0) (m := i) (l := []) ⟨rfl, .inl ⟨rfl, rfl, rfl⟩⟩ s1 (nr_one _) (by omega) hd ?_
  intro a2 c2 h2 t2 ho2 ht2 hd2 hk2 hown2
  conv => whnf
  repeat (first | ((with_reducible refine And.intro (And.intro ?_ ?_) ?_); (focus omega); (focus omega); conv => whnf) | (intro _ _; conv => whnf) | ((with_reducible apply Go.Vc.wr_i64); (focus exact And.intro (by omega) (by omega)); conv => whnf))
  rename_i a3 ha3
  have e1 : (((i : Nat) : Int) + 1).toNat = i + 1 := by omega
  rw [e1] at ha3 ⊢
  have hs2 : Vc.Sub h h2 := fun q o hq => by rw [hk2 q (hd q o hq) (by simp [owner])]; exact hq
  have s2 : Sl h2 a3 ((n - (i + 1)) * 3) id ((l.drop (i + 1)).flatMap nr) := by
    have := Sl.drop (s.sub hs2) (m := (i + 1) * 3) (c := c * 3) (by omega) (by omega) (ha3.trans (cutA_W (by decide)))
    rw [flat_drop nr_len] at this
    rwa [Nat.sub_mul]
  refine app_nr (n := 0 + i) (m := n - (i + 1)) ho2 s2 (nr_one _) (by omega) hd2 ?_
  intro a4 c4 h4 t4 ho4 ht4 hd4 hk4 hown4
  conv => whnf
  have en : 0 + i + (n - (i + 1)) = n - 1 := by omega
  rw [en] at ho4 ⊢
  rw [List.nil_append, ← List.flatMap_append] at ho4
  have hown2' : ∀ q, owner a2 = some q → t ≤ q := fun q hq => by
    rcases hown2 with e | ⟨r, e, hr⟩
    · rw [e] at hq; cases hq
    · rw [e] at hq; cases hq; exact hr
  refine ⟨a4, c4, rfl, ho4, fun q o hq => ?_, fun q hq => ?_, by omega⟩
  · have := hd q o hq
    rw [hk4 q (by omega) (fun e => by have := hown2' q e; omega)]
    exact hs2 q o hq
  · rcases hown4 with e | ⟨r, e, hr⟩
    · exact hown2' q (by rw [← e]; exact hq)
    · rw [e] at hq; cases hq; omega
end Go.Proofs.YtikpfffhcjlcjaaGreat
