/- The reference's calls. -/
import Derived.Test.YtjolbngckdfelaaBucket8
namespace Go.Proofs.Ytjolbngckdfelaa
open Go Go.Vc
set_option maxRecDepth 10000
set_option linter.unusedVariables false

def FrX (x : Nat) (h h' : Heap) : Prop := ∀ k o, k ≠ x → h k = some o → h' k = some o
theorem FrX.refl (x : Nat) (h : Heap) : FrX x h h := fun _ _ _ hb => hb
theorem FrX.trans {x : Nat} {a b c : Heap} (u : FrX x a b) (v : FrX x b c) : FrX x a c := fun k o hk hb => v k o hk (u k o hk hb)
theorem rnamed_spec (name : ByteArray) (h : Heap) (t : Nat) :
    CallSpec Try.prog 41 #[.string name] h t (fun v h' t' => v = .bool (isNamed name) ∧ h' = h ∧ t' = t) := by
  have hz : name = ⟨#[]⟩ ↔ name.size = 0 := by
    constructor
    · rintro rfl; rfl
    · intro h; exact ByteArray.ext (Array.size_eq_zero_iff.1 h)
  refine Go.Vc.spec_of_vc (fn := Try.f41) Try.func41 rfl (by kernel_rfl) (by kernel_rfl) (Nat.le_of_ble_eq_true rfl) ?_
  intro hd
  conv => whnf
  refine br (fun hb => ?_) (fun hb => ?_)
  · conv => whnf
    refine ⟨?_, rfl, rfl⟩
    rw [opq_eq]
    unfold isNamed
    congr 1
    apply decide_eq_decide.2
    rw [Ne, hz]
    omega
  · conv => whnf
    refine ⟨?_, rfl, rfl⟩
    unfold isNamed
    rw [show decide (name ≠ ⟨#[]⟩ ∧ name.size ≤ 100) = false from decide_eq_false (fun h => h.1 (hz.2 (by omega)))]
theorem rpeek_spec {h : Heap} {t x : Nat} {s : RS} (B : RBk h x s) (name : ByteArray) (hn : s.L.length ≤ 1000) :
    CallSpec Try.prog 43 #[.pointer (some ⟨x, 0, none⟩), .string name] h t (fun v h' t' => v = .tuple #[.string ((aGet s.L name).getD ByteArray.empty), .bool (aGet s.L name).isSome] ∧ h' = h ∧ t' = t) := by
  obtain ⟨aL, cL, aF, cF, hx, hL, hF⟩ := B
  refine Go.Vc.spec_of_vc (fn := Try.f43) Try.func43 rfl (by kernel_rfl) (by kernel_rfl) (Nat.le_of_ble_eq_true rfl) ?_
  intro hd
  conv => whnf
  refine loop_intro (fun i : Nat => [(0, .pointer (some ⟨x, 0, none⟩)), (1, .string name), (6, .int .i64 (i : Nat))]) (fun i h' t' => h = h' ∧ t = t' ∧ i ≤ s.L.length ∧ aGet s.L name = aGet (s.L.drop i) name) (fun i => s.L.length - i) 0 ⟨rfl, rfl, rfl, trivial⟩ ⟨rfl, rfl, by omega, rfl⟩ ?_
  rintro i g _ _ _ ⟨rfl, rfl, hi, he⟩
  conv => whnf
  repeat (first | ((with_reducible apply Go.Vc.ld_i); (focus ((repeat (first | with_reducible assumption | with_reducible exact Go.Vc.hset_same _ _ _ | with_reducible refine (Go.Vc.hset_ne _ _ (by omega)).trans ?_)); done)); (focus exact rfl); conv => whnf))
  refine br (fun hb => ?_) (fun hb => ?_)
  · obtain ⟨p, bL, offL, hp, haL, hrow⟩ := slW_row (i := i) ob_len hL.sl (by decide) (by omega)
    subst haL
    have hdrop : s.L.drop i = p :: s.L.drop (i + 1) := by
      obtain ⟨hlt, rfl⟩ := List.getElem?_eq_some_iff.1 hp
      exact List.drop_eq_getElem_cons hlt
    have hc1 := hrow.cell0 (v := .string p.1) rfl
    have hc2 := hrow.cell (j := 1) (v := .string p.2) rfl
    rw [hdrop] at he
    conv => whnf
    repeat (first | ((with_reducible apply Go.Vc.own_ix); (focus exact And.intro (by omega) (by omega)); conv => whnf) | ((with_reducible apply Go.Vc.ld_i); (focus ((repeat (first | with_reducible assumption | with_reducible exact Go.Vc.hset_same _ _ _ | with_reducible refine (Go.Vc.hset_ne _ _ (by omega)).trans ?_)); done)); (focus exact rfl); conv => whnf) | ((with_reducible apply Go.Vc.cell_i); (focus assumption); conv => whnf))
    refine br (fun hb2 => ?_) (fun hb2 => ?_)
    · conv => whnf
      repeat (first | ((with_reducible apply Go.Vc.own_ix); (focus exact And.intro (by omega) (by omega)); conv => whnf) | ((with_reducible apply Go.Vc.ld_i); (focus ((repeat (first | with_reducible assumption | with_reducible exact Go.Vc.hset_same _ _ _ | with_reducible refine (Go.Vc.hset_ne _ _ (by omega)).trans ?_)); done)); (focus exact rfl); conv => whnf) | ((with_reducible apply Go.Vc.cell_i); (focus assumption); conv => whnf))
      refine ⟨?_, rfl, rfl⟩
      rw [he]
      simp [aGet, hb2]
    · conv => whnf
      repeat (first | ((with_reducible apply Go.Vc.wr_i64); (focus exact And.intro (by omega) (by omega)); conv => whnf))
      refine round_end (i + 1) (by omega) ⟨rfl, rfl, rfl, trivial⟩ ⟨rfl, rfl, by omega, ?_⟩
      rw [he]
      simp [aGet, hb2]
  · conv => whnf
    refine ⟨?_, rfl, rfl⟩
    rw [he, List.drop_of_length_le (by omega)]
    rfl
def RS.next (s : RS) : RS := { s with F := s.F.tail }
def rPut (name txt : ByteArray) (s : RS) : Int × RS := if isNamed name = false then (1, s.next) else (if 0 < fateOf s.F then 7 else 0, if fateOf s.F ≠ 1 then { s.next with L := rG name txt s.L false } else s.next)
theorem rput_spec {h : Heap} {t x : Nat} {s : RS} (B : RBk h x s) (name txt : ByteArray) (hn : s.L.length ≤ 1000) :
    CallSpec Try.prog 28 #[.pointer (some ⟨x, 0, none⟩), .string name, .string txt] h t (fun v h' t' => v = .int .i64 (rPut name txt s).1 ∧ RBk h' x (rPut name txt s).2 ∧ FrX x h h' ∧ t ≤ t') := by
  have hf := fate_range s.F
  refine Go.Vc.spec_of_vc (fn := Try.f28) Try.func28 rfl (by kernel_rfl) (by kernel_rfl) (Nat.le_of_ble_eq_true rfl) ?_
  intro hd
  conv => whnf
  refine (rnext_spec B).mono ?_
  rintro _ h1 t1 hd1 ht1 ⟨rfl, B1, rfl, hk1⟩
  have hf1 : FrX x h h1 := fun k o hk hb => by rw [hk1 k hk]; exact hb
  conv => whnf
  refine (rnamed_spec name h1 _).mono ?_
  rintro _ h1 t1 hd1 _ ⟨rfl, rfl, rfl⟩
  conv => whnf
  unfold rPut
  cases hnm : isNamed name with
  | false =>
    conv => whnf
    exact ⟨rfl, B1, hf1, Nat.le_refl _⟩
  | true =>
    conv => whnf
    refine br (fun hb => ?_) (fun hb => ?_)
    · conv => whnf
      refine (rset_spec B1 name txt hn).mono ?_
      rintro _ h2 t2 hd2 ht2 ⟨rfl, B2, _, hk2⟩
      have hf2 : FrX x h h2 := hf1.trans hk2
      conv => whnf
      refine br (fun hb2 => ?_) (fun hb2 => ?_)
      · conv => whnf
        exact ⟨by simp; omega, by simpa [hb, RS.next] using B2, hf2, by omega⟩
      · conv => whnf
        exact ⟨by simp; omega, by simpa [hb, RS.next] using B2, hf2, by omega⟩
    · have hb1 : fateOf s.F = 1 := by omega
      conv => whnf
      repeat (first | (refine Go.Vc.br_t ?_ ?_; (focus omega); conv => whnf))
      exact ⟨by simp [hb1], by simpa [hb1, RS.next] using B1, hf1, Nat.le_refl _⟩
def rPutNew (name txt : ByteArray) (s : RS) : Int × RS :=
  if isNamed name = false then (1, s.next) else (if 0 < fateOf s.F then 7 else if (aGet s.L name).isSome then 5 else 0, if fateOf s.F ≠ 1 ∧ (aGet s.L name).isSome = false then { s.next with L := rG name txt s.L false } else s.next)
theorem rputnew_spec {h : Heap} {t x : Nat} {s : RS} (B : RBk h x s) (name txt : ByteArray) (hn : s.L.length ≤ 1000) :
    CallSpec Try.prog 29 #[.pointer (some ⟨x, 0, none⟩), .string name, .string txt] h t (fun v h' t' => v = .int .i64 (rPutNew name txt s).1 ∧ RBk h' x (rPutNew name txt s).2 ∧ FrX x h h' ∧ t ≤ t') := by
  have hf := fate_range s.F
  refine Go.Vc.spec_of_vc (fn := Try.f29) Try.func29 rfl (by kernel_rfl) (by kernel_rfl) (Nat.le_of_ble_eq_true rfl) ?_
  intro hd
  conv => whnf
  refine (rnext_spec B).mono ?_
  rintro _ h1 t1 hd1 ht1 ⟨rfl, B1, rfl, hk1⟩
  have hf1 : FrX x h h1 := fun k o hk hb => by rw [hk1 k hk]; exact hb
  conv => whnf
  refine (rnamed_spec name h1 _).mono ?_
  rintro _ h1 t1 hd1 _ ⟨rfl, rfl, rfl⟩
  conv => whnf
  unfold rPutNew
  cases hnm : isNamed name with
  | false =>
    conv => whnf
    exact ⟨rfl, B1, hf1, Nat.le_refl _⟩
  | true =>
    rw [if_neg (by decide)]
    conv => whnf
    refine (rpeek_spec B1 name hn).mono ?_
    rintro _ h1 t1 hd1 _ ⟨rfl, rfl, rfl⟩
    replace B1 : RBk h1 x s.next := B1
    have e1 : aGet s.next.L name = aGet s.L name := rfl
    rw [show aGet ({ s with F := s.F.tail } : RS).L name = aGet s.L name from rfl]
    conv => whnf
    cases hth : (aGet s.L name).isSome with
    | true =>
      conv => whnf
      refine br (fun hb => ?_) (fun hb => ?_)
      · conv => whnf
        refine br (fun hb2 => ?_) (fun hb2 => ?_)
        · conv => whnf
          exact ⟨by simp; omega, by simpa using B1, hf1, Nat.le_refl _⟩
        · conv => whnf
          exact ⟨by simp; omega, by simpa using B1, hf1, Nat.le_refl _⟩
      · have hb1 : fateOf s.F = 1 := by omega
        conv => whnf
        repeat (first | (refine Go.Vc.br_t ?_ ?_; (focus omega); conv => whnf))
        exact ⟨by simp [hb1], by simpa [hb1] using B1, hf1, Nat.le_refl _⟩
    | false =>
      conv => whnf
      refine br (fun hb => ?_) (fun hb => ?_)
      · conv => whnf
        refine (rset_spec B1 name txt hn).mono ?_
        rintro _ h2 t2 hd2 ht2 ⟨rfl, B2, _, hk2⟩
        have hf2 : FrX x h h2 := hf1.trans hk2
        conv => whnf
        refine br (fun hb2 => ?_) (fun hb2 => ?_)
        · conv => whnf
          exact ⟨by simp; omega, by simpa [hb, RS.next] using B2, hf2, by omega⟩
        · conv => whnf
          exact ⟨by simp; omega, by simpa [hb, RS.next] using B2, hf2, by omega⟩
      · have hb1 : fateOf s.F = 1 := by omega
        conv => whnf
        repeat (first | (refine Go.Vc.br_t ?_ ?_; (focus omega); conv => whnf))
        exact ⟨by simp [hb1], by simpa [hb1] using B1, hf1, Nat.le_refl _⟩
def rGet (name : ByteArray) (s : RS) : ByteArray × Int :=
  if isNamed name = false then (ByteArray.empty, 1) else if 0 < fateOf s.F then (ByteArray.empty, 7) else if (aGet s.L name).isSome then ((aGet s.L name).getD ByteArray.empty, 0) else (ByteArray.empty, 3)
theorem rget_spec {h : Heap} {t x : Nat} {s : RS} (B : RBk h x s) (name : ByteArray) (hn : s.L.length ≤ 1000) :
    CallSpec Try.prog 30 #[.pointer (some ⟨x, 0, none⟩), .string name] h t (fun v h' t' => v = .tuple #[.string (rGet name s).1, .int .i64 (rGet name s).2] ∧ RBk h' x s.next ∧ FrX x h h' ∧ t ≤ t') := by
  have hf := fate_range s.F
  refine Go.Vc.spec_of_vc (fn := Try.f30) Try.func30 rfl (by kernel_rfl) (by kernel_rfl) (Nat.le_of_ble_eq_true rfl) ?_
  intro hd
  conv => whnf
  refine (rnext_spec B).mono ?_
  rintro _ h1 t1 hd1 ht1 ⟨rfl, B1, rfl, hk1⟩
  have hf1 : FrX x h h1 := fun k o hk hb => by rw [hk1 k hk]; exact hb
  replace B1 : RBk h1 x s.next := B1
  conv => whnf
  refine (rpeek_spec B1 name hn).mono ?_
  rintro _ h1 t1 hd1 _ ⟨rfl, rfl, rfl⟩
  rw [show aGet s.next.L name = aGet s.L name from rfl]
  conv => whnf
  refine (rnamed_spec name h1 _).mono ?_
  rintro _ h1 t1 hd1 _ ⟨rfl, rfl, rfl⟩
  conv => whnf
  unfold rGet
  cases hnm : isNamed name with
  | false =>
    conv => whnf
    repeat (first | ((with_reducible refine And.intro ?_ (And.intro ?_ ?_)); (focus exact rfl); (focus omega); conv => whnf))
    first | exact ⟨rfl, B1, hf1, Nat.le_refl _⟩ | exact ⟨hf1, Nat.le_refl _⟩
  | true =>
    rw [if_neg (by decide)]
    conv => whnf
    refine br (fun hb => ?_) (fun hb => ?_)
    · rw [if_pos (by omega)]
      conv => whnf
      repeat (first | ((with_reducible refine And.intro ?_ (And.intro ?_ ?_)); (focus exact rfl); (focus omega); conv => whnf))
      first | exact ⟨rfl, B1, hf1, Nat.le_refl _⟩ | exact ⟨hf1, Nat.le_refl _⟩
    · rw [if_neg (by omega)]
      cases hth : (aGet s.L name).isSome with
      | true =>
        conv => whnf
        repeat (first | ((with_reducible refine And.intro ?_ (And.intro ?_ ?_)); (focus exact rfl); (focus omega); conv => whnf))
        first | exact ⟨by simp, B1, hf1, Nat.le_refl _⟩ | exact ⟨hf1, Nat.le_refl _⟩
      | false =>
        conv => whnf
        repeat (first | ((with_reducible refine And.intro ?_ (And.intro ?_ ?_)); (focus exact rfl); (focus omega); conv => whnf))
        first | exact ⟨by simp; rfl, B1, hf1, Nat.le_refl _⟩ | exact ⟨by simp, B1, hf1, Nat.le_refl _⟩ | exact ⟨hf1, Nat.le_refl _⟩
def rLocked (s : RS) : ByteArray × Int × Int := if 0 < fateOf s.F then (ByteArray.empty, 0, 7) else (s.lock, s.ver, 0)
theorem rlocked_spec {h : Heap} {t x : Nat} {s : RS} (B : RBk h x s) :
    CallSpec Try.prog 32 #[.pointer (some ⟨x, 0, none⟩)] h t (fun v h' t' => v = .tuple #[.string (rLocked s).1, .int .i64 (rLocked s).2.1, .int .i64 (rLocked s).2.2] ∧ RBk h' x s.next ∧ FrX x h h' ∧ t ≤ t') := by
  refine Go.Vc.spec_of_vc (fn := Try.f32) Try.func32 rfl (by kernel_rfl) (by kernel_rfl) (Nat.le_of_ble_eq_true rfl) ?_
  intro hd
  conv => whnf
  refine (rnext_spec B).mono ?_
  rintro _ h1 t1 hd1 ht1 ⟨rfl, B1, rfl, hk1⟩
  have hf1 : FrX x h h1 := fun k o hk hb => by rw [hk1 k hk]; exact hb
  replace B1 : RBk h1 x s.next := B1
  conv => whnf
  unfold rLocked
  refine br (fun hb => ?_) (fun hb => ?_)
  · rw [if_pos (by omega)]
    conv => whnf
    repeat (first | ((with_reducible refine And.intro ?_ (And.intro ?_ ?_)); (focus exact rfl); (focus omega); conv => whnf))
    first | exact ⟨rfl, B1, hf1, Nat.le_refl _⟩ | exact ⟨hf1, Nat.le_refl _⟩
  · rw [if_neg (by omega)]
    have B2 := B1
    obtain ⟨aL, cL, aF, cF, hx, hL, hF⟩ := B2
    conv => whnf
    refine Go.Vc.draw_intro [⟨0, false, false, false, 0⟩, ⟨1, false, false, false, 1⟩, ⟨2, false, false, false, 3⟩, ⟨3, false, false, false, 7⟩, ⟨4, false, false, false, 0⟩, ⟨5, false, false, false, 16⟩, ⟨6, false, false, false, 48⟩, ⟨7, false, false, false, 112⟩, ⟨8, false, false, false, 15⟩, ⟨9, false, false, false, 511⟩, ⟨10, false, false, false, 1023⟩] (hs := (fun _ => none)) (hsub := (fun _ _ h => nomatch h)) (hm := by kernel_rfl) (hpl := by kernel_rfl) ?_
    conv => whnf
    conv => whnf
    repeat (first | ((with_reducible apply Go.Vc.ld_i); (focus ((repeat (first | with_reducible assumption | with_reducible exact Go.Vc.hset_same _ _ _ | with_reducible refine (Go.Vc.hset_ne _ _ (by omega)).trans ?_)); done)); (focus exact rfl); conv => whnf) | ((with_reducible refine And.intro ?_ (And.intro ?_ ?_)); (focus exact rfl); (focus omega); conv => whnf))
    first | exact ⟨rfl, B1, hf1, Nat.le_refl _⟩ | exact ⟨hf1, Nat.le_refl _⟩
def rSwap (v : Int) (txt : ByteArray) (s : RS) : Int × RS := (if 0 < fateOf s.F then 7 else if v = s.ver then 0 else 6, if fateOf s.F ≠ 1 ∧ v = s.ver then { s.next with lock := txt, ver := s.ver + 1 } else s.next)
theorem rswap_spec {h : Heap} {t x : Nat} {s : RS} (B : RBk h x s) (v : Int) (txt : ByteArray) (hv : 0 ≤ s.ver ∧ s.ver ≤ 1000) :
    CallSpec Try.prog 33 #[.pointer (some ⟨x, 0, none⟩), .int .i64 v, .string txt] h t (fun r h' t' => r = .int .i64 (rSwap v txt s).1 ∧ RBk h' x (rSwap v txt s).2 ∧ FrX x h h' ∧ t ≤ t') := by
  have hf := fate_range s.F
  refine Go.Vc.spec_of_vc (fn := Try.f33) Try.func33 rfl (by kernel_rfl) (by kernel_rfl) (Nat.le_of_ble_eq_true rfl) ?_
  intro hd
  conv => whnf
  refine (rnext_spec B).mono ?_
  rintro _ h1 t1 hd1 ht1 ⟨rfl, B1, rfl, hk1⟩
  have hf1 : FrX x h h1 := fun k o hk hb => by rw [hk1 k hk]; exact hb
  replace B1 : RBk h1 x s.next := B1
  have B2 := B1
  obtain ⟨aL, cL, aF, cF, hx, hL, hF⟩ := B2
  have hne1 : owner aL ≠ some x := own_ne hL hx (by decide)
  have hne2 : owner aF ≠ some x := own_ne hF hx (by decide)
  have hx : h1 x = some (.cells #[.slice aL s.L.length cL, .string s.lock, .int .i64 s.ver, .slice aF s.next.F.length cF] 47 (0, 0)) := hx
  have hend : ∀ (h2 : Heap), h2 x = some (.cells #[.slice aL s.L.length cL, .string txt, .int .i64 (s.ver + 1), .slice aF s.next.F.length cF] 47 (0, 0)) → (∀ k, k ≠ x → h2 k = h1 k) → RBk h2 x { s.next with lock := txt, ver := s.ver + 1 } ∧ FrX x h h2 := fun h2 e1 e2 =>
    ⟨⟨aL, cL, aF, cF, e1, hL.keep (fun b hb => e2 b (fun e => hne1 (by rw [hb, e]))), hF.keep (fun b hb => e2 b (fun e => hne2 (by rw [hb, e])))⟩, fun k o hk hb => by rw [e2 k hk]; exact hf1 k o hk hb⟩
  unfold rSwap
  by_cases hfit : v = s.ver
  · subst hfit
    conv => whnf
    repeat (first | ((with_reducible apply Go.Vc.ld_i); (focus ((repeat (first | with_reducible assumption | with_reducible exact Go.Vc.hset_same _ _ _ | with_reducible refine (Go.Vc.hset_ne _ _ (by omega)).trans ?_)); done)); (focus exact rfl); conv => whnf))
    refine br (fun hb => ?_) (fun hb => ?_)
    · conv => whnf
      repeat (first | ((with_reducible apply Go.Vc.ld_i); (focus ((repeat (first | with_reducible assumption | with_reducible exact Go.Vc.hset_same _ _ _ | with_reducible refine (Go.Vc.hset_ne _ _ (by omega)).trans ?_)); done)); (focus exact rfl); conv => whnf) | ((with_reducible apply Go.Vc.st_i); (focus ((repeat (first | with_reducible assumption | with_reducible exact Go.Vc.hset_same _ _ _ | with_reducible refine (Go.Vc.hset_ne _ _ (by omega)).trans ?_)); done)); (focus exact rfl); (focus exact rfl); (focus exact rfl); (conv => whnf); intro cA hcA; (first | (simp only [List.setIfInBounds_toArray, List.set_cons_succ, List.set_cons_zero] at hcA; subst hcA) | subst hcA); conv => whnf) | ((with_reducible apply Go.Vc.wr_i64); (focus exact And.intro (by omega) (by omega)); conv => whnf) | (refine Go.Vc.br_t ?_ ?_; (focus omega); conv => whnf))
      obtain ⟨g1, g2⟩ := hend (hset (hset h1 x (.cells #[.slice aL s.L.length cL, .string txt, .int .i64 s.ver, .slice aF s.next.F.length cF] 47 (0, 0))) x (.cells #[.slice aL s.L.length cL, .string txt, .int .i64 (s.ver + 1), .slice aF s.next.F.length cF] 47 (0, 0))) (hset_same _ _ _) (fun k hk => by rw [hset_ne _ _ hk, hset_ne _ _ hk])
      refine br (fun hb2 => ?_) (fun hb2 => ?_)
      · conv => whnf
        rw [if_pos (show fateOf s.F ≠ 1 ∧ s.ver = s.ver from ⟨hb, rfl⟩)]
        refine ⟨by congr 1; split <;> (try split) <;> omega, g1, g2, Nat.le_refl _⟩
      · conv => whnf
        repeat (first | (refine Go.Vc.brn_f ?_ ?_; (focus omega); conv => whnf))
        rw [if_pos (show fateOf s.F ≠ 1 ∧ s.ver = s.ver from ⟨hb, rfl⟩)]
        refine ⟨by congr 1; split <;> (try split) <;> omega, g1, g2, Nat.le_refl _⟩
    · have hb1 : fateOf s.F = 1 := by omega
      conv => whnf
      repeat (first | (refine Go.Vc.br_t ?_ ?_; (focus omega); conv => whnf))
      first | exact ⟨by simp [hb1], by simpa [hb1] using B1, hf1, Nat.le_refl _⟩ | exact ⟨by simpa [hb1] using B1, hf1, Nat.le_refl _⟩
  · conv => whnf
    repeat (first | ((with_reducible apply Go.Vc.ld_i); (focus ((repeat (first | with_reducible assumption | with_reducible exact Go.Vc.hset_same _ _ _ | with_reducible refine (Go.Vc.hset_ne _ _ (by omega)).trans ?_)); done)); (focus exact rfl); conv => whnf))
    refine br (fun hb => ?_) (fun hb => ?_)
    · conv => whnf
      repeat (first | (refine Go.Vc.br_f ?_ ?_; (focus omega); conv => whnf))
      refine br (fun hb2 => ?_) (fun hb2 => ?_)
      · conv => whnf
        exact ⟨by simp; omega, by simpa [hfit] using B1, hf1, Nat.le_refl _⟩
      · conv => whnf
        repeat (first | (refine Go.Vc.brn_t ?_ ?_; (focus omega); conv => whnf))
        exact ⟨by simp [hfit]; omega, by simpa [hfit] using B1, hf1, Nat.le_refl _⟩
    · have hb1 : fateOf s.F = 1 := by omega
      conv => whnf
      repeat (first | (refine Go.Vc.br_t ?_ ?_; (focus omega); conv => whnf))
      exact ⟨by simp [hb1], by simpa [hb1] using B1, hf1, Nat.le_refl _⟩
theorem rfates_spec {h : Heap} {t x : Nat} {s : RS} {a : Option Addr} {n c : Nat} {l : List Int} (B : RBk h x s) (sl : Sl h a n (Value.int .i64) l) (hn : s.F.length + n ≤ 10000000) :
    CallSpec Try.prog 34 #[.pointer (some ⟨x, 0, none⟩), .slice a n c] h t (fun v h' t' => v = .tuple #[] ∧ RBk h' x { s with F := s.F ++ l } ∧ FrX x h h' ∧ t ≤ t') := by
  obtain ⟨aL, cL, aF, cF, hx, hL, hF⟩ := B
  have hsl := sl.1
  refine Go.Vc.spec_of_vc (fn := Try.f34) Try.func34 rfl (by kernel_rfl) (by kernel_rfl) (Nat.le_of_ble_eq_true rfl) ?_
  intro hd
  conv => whnf
  repeat (first | ((with_reducible apply Go.Vc.ld_i); (focus ((repeat (first | with_reducible assumption | with_reducible exact Go.Vc.hset_same _ _ _ | with_reducible refine (Go.Vc.hset_ne _ _ (by omega)).trans ?_)); done)); (focus exact rfl); conv => whnf))
  refine app_vc (f := Value.int .i64) (n := 0) (m := s.F.length) (l := []) (l2 := s.F) (inf := Try.types[3]) (z := .int .i64 0) (E := 3) Try.underlying22 Try.underlying22 rfl (by kernel_rfl) (by kernel_rfl) (by kernel_rfl) rfl (Own.nil _ _ _) ⟨_, _, rfl, hF.sl⟩ (fun y => rfl) (by
    show (0 + s.F.length) * 8 ≤ 2 ^ 40
    omega) (by omega) (by show 8 ≤ 1000; decide) hd ?_
  intro a1 c1 h1 t1 ho1 ht1 hd1 hk1 hown1
  rw [Nat.zero_add, List.nil_append] at ho1
  rw [show 0 + s.F.length = s.F.length from Nat.zero_add _]
  have hs1 : Vc.Sub h h1 := fun b o hb => by rw [hk1 b (hd b o hb) (by simp [owner])]; exact hb
  have hx1 := hs1 _ _ hx
  have hown1' : ∀ b, owner a1 = some b → t ≤ b := fun b hb => by
    rcases hown1 with e | ⟨r, e, hr⟩
    · rw [e] at hb; cases hb
    · rw [e] at hb; cases hb; exact hr
  conv => whnf
  refine app_vc (f := Value.int .i64) (n := s.F.length) (m := n) (l2 := l) (inf := Try.types[3]) (z := .int .i64 0) (E := 3) Try.underlying22 Try.underlying22 rfl (by kernel_rfl) (by kernel_rfl) (by kernel_rfl) rfl ho1 ⟨_, _, rfl, sl.sub hs1⟩ (fun y => rfl) (by
    show (s.F.length + n) * 8 ≤ 2 ^ 40
    omega) (by omega) (by show 8 ≤ 1000; decide) hd1 ?_
  intro a2 c2 h2 t2 ho2 ht2 hd2 hk2 hown2
  have hs2 : Vc.Sub h h2 := fun b o hb => by
    have := hd b o hb
    rw [hk2 b (by omega) (fun e => by have := hown1' b e; omega)]
    exact hs1 b o hb
  have hx2 := hs2 _ _ hx
  conv => whnf
  repeat (first | ((with_reducible apply Go.Vc.st_i); (focus ((repeat (first | with_reducible assumption | with_reducible exact Go.Vc.hset_same _ _ _ | with_reducible refine (Go.Vc.hset_ne _ _ (by omega)).trans ?_)); done)); (focus exact rfl); (focus exact rfl); (focus exact rfl); (conv => whnf); intro cA hcA; (first | (simp only [List.setIfInBounds_toArray, List.set_cons_succ, List.set_cons_zero] at hcA; subst hcA) | subst hcA); conv => whnf))
  have hlen : (s.F ++ l).length = s.F.length + n := by rw [List.length_append, hsl]
  have hL2 := Own.fr hL (h' := h2) (fun b o _ hb => hs2 b o hb)
  have ho3 : Vc.Own h2 3 a2 (s.F ++ l).length c2 (Value.int .i64) (s.F ++ l) := by rw [hlen]; exact ho2
  refine ⟨rfl, ⟨aL, cL, a2, c2, by rw [hset_same, hlen], hL2.keep (fun b hb => hset_ne _ _ (fun e => own_ne hL2 hx2 (by decide) (by rw [hb, e]))), ho3.keep (fun b hb => hset_ne _ _ (fun e => own_ne ho3 hx2 (by decide) (by rw [hb, e])))⟩, fun k o hk hb => by rw [hset_ne _ _ hk]; exact hs2 k o hb, by omega⟩
end Go.Proofs.Ytjolbngckdfelaa
