/- Grown: the closures that share its variables. -/
import Derived.Test.YtmlcdkckedjdjaaMerkle5
namespace Go.Proofs.Ytmlcdkckedjdjaa
open Go Go.Vc Go.Sha Go.Mk
set_option maxRecDepth 10000
set_option linter.unusedVariables false

def climbV (F R B N C : Nat) : Value := .func (.func 40) #[] #[.pointer (some ⟨F, 0, none⟩), .pointer (some ⟨R, 0, none⟩), .pointer (some ⟨B, 0, none⟩), .pointer (some ⟨N, 0, none⟩), .pointer (some ⟨C, 0, none⟩)]
/-- The shared variables. -/
structure Cl (h0 h : Heap) (t0 B N R F C : Nat) (s : CS) : Prop where
  ord : t0 ≤ B ∧ B < N ∧ N < R ∧ R < F ∧ F < C
  hF : h F = some (.cells #[.bool s.fits] 4 (0, 0))
  hR : ∃ a n c, h R = some (.cells #[.slice a n c] 24 (0, 0)) ∧ Sl h0 a n Value.string s.rest ∧ n ≤ c
  hB : h B = some (.cells #[.string s.before] 9 (0, 0))
  hN : h N = some (.cells #[.string s.now] 9 (0, 0))
  hC : h C = some (.cells #[climbV F R B N C] 55 (0, 0))
  dom : Dom h0 t0
  sub : Sub h0 h
  sB : s.before.size ≤ 274877906944
  sN : s.now.size ≤ 274877906944
  sR : s.rest.length ≤ 1000000000 ∧ ∀ x ∈ s.rest, x.size ≤ 274877906944

theorem Cl.mono {h0 h h' : Heap} {t0 B N R F C : Nat} {s : CS} (x : Cl h0 h t0 B N R F C s) (hs : Sub h h') : Cl h0 h' t0 B N R F C s := by
  obtain ⟨ord, hF, ⟨a, n, c, hR, sl, hnc⟩, hB, hN, hC, dom, sub, sB, sN, sR⟩ := x
  exact ⟨ord, hs _ _ hF, ⟨a, n, c, hs _ _ hR, sl, hnc⟩, hs _ _ hB, hs _ _ hN, hs _ _ hC, dom, sub.trans hs, sB, sN, sR⟩
theorem Cl.setF {h0 h : Heap} {t0 B N R F C : Nat} {s : CS} (x : Cl h0 h t0 B N R F C s) (f : Bool) : Cl h0 (hset h F (.cells #[.bool f] 4 (0, 0))) t0 B N R F C { s with fits := f } := by
  obtain ⟨ord, hF, ⟨a, n, c, hR, sl, hnc⟩, hB, hN, hC, dom, sub, sB, sN, sR⟩ := x
  exact ⟨ord, hset_same _ _ _, ⟨a, n, c, (hset_ne _ _ (by omega)).trans hR, sl, hnc⟩, (hset_ne _ _ (by omega)).trans hB, (hset_ne _ _ (by omega)).trans hN, (hset_ne _ _ (by omega)).trans hC, dom, (fun k o hk => (hset_ne _ _ (by have := dom k o hk; omega)).trans (sub k o hk)), sB, sN, sR⟩
theorem Cl.setB {h0 h : Heap} {t0 B N R F C : Nat} {s : CS} (x : Cl h0 h t0 B N R F C s) (v : ByteArray) (hv : v.size ≤ 274877906944) : Cl h0 (hset h B (.cells #[.string v] 9 (0, 0))) t0 B N R F C { s with before := v } := by
  obtain ⟨ord, hF, ⟨a, n, c, hR, sl, hnc⟩, hB, hN, hC, dom, sub, sB, sN, sR⟩ := x
  exact ⟨ord, (hset_ne _ _ (by omega)).trans hF, ⟨a, n, c, (hset_ne _ _ (by omega)).trans hR, sl, hnc⟩, hset_same _ _ _, (hset_ne _ _ (by omega)).trans hN, (hset_ne _ _ (by omega)).trans hC, dom, (fun k o hk => (hset_ne _ _ (by have := dom k o hk; omega)).trans (sub k o hk)), hv, sN, sR⟩
theorem Cl.setN {h0 h : Heap} {t0 B N R F C : Nat} {s : CS} (x : Cl h0 h t0 B N R F C s) (v : ByteArray) (hv : v.size ≤ 274877906944) : Cl h0 (hset h N (.cells #[.string v] 9 (0, 0))) t0 B N R F C { s with now := v } := by
  obtain ⟨ord, hF, ⟨a, n, c, hR, sl, hnc⟩, hB, hN, hC, dom, sub, sB, sN, sR⟩ := x
  exact ⟨ord, (hset_ne _ _ (by omega)).trans hF, ⟨a, n, c, (hset_ne _ _ (by omega)).trans hR, sl, hnc⟩, (hset_ne _ _ (by omega)).trans hB, hset_same _ _ _, (hset_ne _ _ (by omega)).trans hC, dom, (fun k o hk => (hset_ne _ _ (by have := dom k o hk; omega)).trans (sub k o hk)), sB, hv, sR⟩
theorem Cl.setR {h0 h : Heap} {t0 B N R F C : Nat} {s : CS} (x : Cl h0 h t0 B N R F C s) {a1 : Option Addr} {n1 c1 : Nat} {r : List ByteArray} (sl1 : Sl h0 a1 n1 Value.string r) (hnc1 : n1 ≤ c1) (hr : r.length ≤ 1000000000 ∧ ∀ x ∈ r, x.size ≤ 274877906944) : Cl h0 (hset h R (.cells #[.slice a1 n1 c1] 24 (0, 0))) t0 B N R F C { s with rest := r } := by
  obtain ⟨ord, hF, ⟨a, n, c, hR, sl, hnc⟩, hB, hN, hC, dom, sub, sB, sN, sR⟩ := x
  exact ⟨ord, (hset_ne _ _ (by omega)).trans hF, ⟨a1, n1, c1, hset_same _ _ _, sl1, hnc1⟩, (hset_ne _ _ (by omega)).trans hB, (hset_ne _ _ (by omega)).trans hN, (hset_ne _ _ (by omega)).trans hC, dom, (fun k o hk => (hset_ne _ _ (by have := dom k o hk; omega)).trans (sub k o hk)), sB, sN, hr⟩
theorem take_spec {h0 h : Heap} {t t0 B N R F C : Nat} {s : CS} (x : Cl h0 h t0 B N R F C s) :
    CallSpec Try.prog 41 #[.pointer (some ⟨F, 0, none⟩), .pointer (some ⟨R, 0, none⟩)] h t (fun v h' t' => v = .string (takeS s).1 ∧ Cl h0 h' t0 B N R F C (takeS s).2) := by
  obtain ⟨bef, now, rest, fits⟩ := s
  have X := x
  obtain ⟨ord, hF, ⟨a, n, c, hR, sl, hnc⟩, hB, hN, hC, dom, sub, sB, sN, sR⟩ := x
  simp only at hF hR hB hN sl sB sN sR
  have hsl := sl.1
  have hsl' := sl.sub sub
  refine Go.Vc.spec_of_vc (fn := Try.f41) Try.func41 rfl (by kernel_rfl) (by kernel_rfl) (Nat.le_of_ble_eq_true rfl) ?_
  intro hd
  cases fits with
  | false =>
    conv => whnf
    repeat (first | ((with_reducible apply Go.Vc.ld_i); (focus ((repeat (first | with_reducible assumption | with_reducible exact Go.Vc.hset_same _ _ _ | with_reducible refine (Go.Vc.hset_ne _ _ (by omega)).trans ?_)); done)); (focus exact rfl); conv => whnf) | ((with_reducible apply Go.Vc.st_i); (focus ((repeat (first | with_reducible assumption | with_reducible exact Go.Vc.hset_same _ _ _ | with_reducible refine (Go.Vc.hset_ne _ _ (by omega)).trans ?_)); done)); (focus exact rfl); (focus exact rfl); (focus exact rfl); (conv => whnf); intro cA hcA; (first | (simp only [List.setIfInBounds_toArray, List.set_cons_succ, List.set_cons_zero] at hcA; subst hcA) | subst hcA); conv => whnf))
    exact ⟨rfl, X.setF false⟩
  | true =>
    conv => whnf
    repeat (first | ((with_reducible apply Go.Vc.ld_i); (focus ((repeat (first | with_reducible assumption | with_reducible exact Go.Vc.hset_same _ _ _ | with_reducible refine (Go.Vc.hset_ne _ _ (by omega)).trans ?_)); done)); (focus exact rfl); conv => whnf) | ((with_reducible apply Go.Vc.st_i); (focus ((repeat (first | with_reducible assumption | with_reducible exact Go.Vc.hset_same _ _ _ | with_reducible refine (Go.Vc.hset_ne _ _ (by omega)).trans ?_)); done)); (focus exact rfl); (focus exact rfl); (focus exact rfl); (conv => whnf); intro cA hcA; (first | (simp only [List.setIfInBounds_toArray, List.set_cons_succ, List.set_cons_zero] at hcA; subst hcA) | subst hcA); conv => whnf))
    refine br (fun hb1 => ?_) (fun hb1 => ?_)
    · obtain ⟨p, r, rfl⟩ : ∃ p r, rest = p :: r := by
        cases rest with
        | nil => simp at hsl; omega
        | cons p r => exact ⟨p, r, rfl⟩
      have eo : opq (decide ((n : Int) > 0)) = true := by rw [opq_eq, decide_eq_true hb1]
      rw [eo]
      have X2 := X.setF true
      have hsl2 := sl.sub X2.sub
      have hlr : r.length + 1 = n := hsl
      refine Go.Vc.draw_intro [⟨0, false, false, false, 0⟩, ⟨1, false, false, false, 1⟩, ⟨2, false, false, false, 3⟩, ⟨3, false, false, false, 0⟩, ⟨4, false, false, false, 8⟩, ⟨5, false, false, false, 7⟩, ⟨6, true, false, false, 63⟩] (hs := (fun _ => none)) (hsub := (fun _ _ h => nomatch h)) (hm := by kernel_rfl) (hpl := by kernel_rfl) ?_
      conv => whnf
      conv => whnf
      repeat (first | ((with_reducible apply Go.Vc.sl_ix); (focus with_reducible assumption); (focus exact And.intro (by omega) (by omega)); intro xI bI offI hxI hcI; conv => whnf) | ((with_reducible refine And.intro (And.intro ?_ ?_) ?_); (focus omega); (focus omega); conv => whnf) | ((with_reducible apply Go.Vc.ld_i); (focus ((repeat (first | with_reducible assumption | with_reducible exact Go.Vc.hset_same _ _ _ | with_reducible refine (Go.Vc.hset_ne _ _ (by omega)).trans ?_)); done)); (focus exact rfl); conv => whnf) | ((with_reducible apply Go.Vc.st_i); (focus ((repeat (first | with_reducible assumption | with_reducible exact Go.Vc.hset_same _ _ _ | with_reducible refine (Go.Vc.hset_ne _ _ (by omega)).trans ?_)); done)); (focus exact rfl); (focus exact rfl); (focus exact rfl); (conv => whnf); intro cA hcA; (first | (simp only [List.setIfInBounds_toArray, List.set_cons_succ, List.set_cons_zero] at hcA; subst hcA) | subst hcA); conv => whnf) | ((with_reducible apply Go.Vc.cell_i); (focus assumption); conv => whnf) | (intro _ _; conv => whnf))
      have e : p = xI := by simpa using hxI
      subst e
      rename_i a6 ha6
      exact ⟨rfl, X2.setR (sl.drop (m := 1) (by omega) hnc ha6) (by omega) ⟨by have := sR.1; simp at this; omega, fun y hy => sR.2 y (List.mem_cons_of_mem _ hy)⟩⟩
    · have hr : rest = [] := List.length_eq_zero_iff.1 (by omega)
      subst hr
      have eo : opq (decide ((n : Int) > 0)) = false := by rw [opq_eq, decide_eq_false hb1]
      rw [eo]
      conv => whnf
      exact ⟨rfl, X.setF false⟩

def oneH (b : Nat) (o : Obj) : Heap := fun k => if k = b then some o else none
theorem oneH_sub {b : Nat} {o : Obj} {h : Heap} (hb : h b = some o) : Sub (oneH b o) h := by
  intro k x hk
  unfold oneH at hk
  split at hk
  · rename_i e; subst e; cases hk; exact hb
  · cases hk
theorem oneH_at (b : Nat) (o : Obj) : oneH b o b = some o := by unfold oneH; rw [if_pos rfl]
theorem climb_spec {h0 : Heap} {t0 B N R F C : Nat} : ∀ (n m : Nat) (w : Bool) (s : CS) (h : Heap) (t : Nat), n ≤ 65536 → 1 ≤ m → m ≤ n → Cl h0 h t0 B N R F C s →
    CallSpec Try.prog 40 #[.int .i64 (n : Nat), .int .i64 (m : Nat), .bool w, .pointer (some ⟨F, 0, none⟩), .pointer (some ⟨R, 0, none⟩), .pointer (some ⟨B, 0, none⟩), .pointer (some ⟨N, 0, none⟩), .pointer (some ⟨C, 0, none⟩)] h t
      (fun v h' t' => v = .tuple #[] ∧ Cl h0 h' t0 B N R F C (climb ndB n m w s)) := by
  intro n
  induction n using Nat.strongRecOn with
  | ind n ih =>
    intro m w s h t hn hm hmn X
    refine Go.Vc.spec_of_vc (fn := Try.f40) Try.func40 rfl (by kernel_rfl) (by kernel_rfl) (Nat.le_of_ble_eq_true rfl) ?_
    intro hd
    have hN := X.hN
    have hB := X.hB
    have hC := X.hC
    have ord := X.ord
    conv => whnf
    refine br (fun hb1 => ?_) (fun hb1 => ?_)
    · rw [climb_ge ndB (by omega)]
      cases w with
      | true =>
        conv => whnf
        exact ⟨rfl, X⟩
      | false =>
        conv => whnf
        refine (take_spec X).mono ?_
        rintro _ h1 t1 hd1 ht1 ⟨rfl, X1⟩
        have hp := takeS_size X.sR.2
        have hB1 := X1.hB
        have hN1 := X1.hN
        conv => whnf
        repeat (first | ((with_reducible apply Go.Vc.ld_i); (focus ((repeat (first | with_reducible assumption | with_reducible exact Go.Vc.hset_same _ _ _ | with_reducible refine (Go.Vc.hset_ne _ _ (by omega)).trans ?_)); done)); (focus exact rfl); conv => whnf) | ((with_reducible apply Go.Vc.st_i); (focus ((repeat (first | with_reducible assumption | with_reducible exact Go.Vc.hset_same _ _ _ | with_reducible refine (Go.Vc.hset_ne _ _ (by omega)).trans ?_)); done)); (focus exact rfl); (focus exact rfl); (focus exact rfl); (conv => whnf); intro cA hcA; (first | (simp only [List.setIfInBounds_toArray, List.set_cons_succ, List.set_cons_zero] at hcA; subst hcA) | subst hcA); conv => whnf))
        exact ⟨rfl, (X1.setB _ hp).setN _ hp⟩
    · conv => whnf
      refine (split_spec n (by omega) (by omega) _ _).mono ?_
      rintro _ _ _ _ _ ⟨rfl, rfl, rfl⟩
      have hp := sp_pos n
      have hlt := sp_lt (n := n) (by omega)
      have cl := climb_lo ndB (n := n) (m := m) (w := w) (s := s) (by omega) (by omega)
      have ch := climb_hi ndB (n := n) (m := m) (w := w) (s := s) (by omega) (by omega)
      generalize hk : sp n = k at *
      conv => whnf
      refine br (fun hb2 => ?_) (fun hb2 => ?_)
      · rw [cl (by omega)]
        conv => whnf
        repeat (first | ((with_reducible apply Go.Vc.ld_i); (focus ((repeat (first | with_reducible assumption | with_reducible exact Go.Vc.hset_same _ _ _ | with_reducible refine (Go.Vc.hset_ne _ _ (by omega)).trans ?_)); done)); (focus exact rfl); conv => whnf))
        refine (ih k (by omega) m w s _ _ (by omega) hm (by omega) X).mono ?_
        rintro _ h1 t1 hd1 ht1 ⟨rfl, X1⟩
        have hN1 := X1.hN
        have hone := oneH_at N (.cells #[.string (climb ndB k m w s).now] 9 (0, 0))
        refine Go.Vc.draw_intro [⟨0, false, true, false, 0⟩, ⟨1, false, false, false, 0⟩, ⟨2, true, false, true, 2⟩, ⟨3, true, false, false, 7⟩, ⟨4, true, false, false, 15⟩] (hs := (oneH N (.cells #[.string (climb ndB k m w s).now] 9 (0, 0)))) (hsub := (oneH_sub hN1)) (hm := by kernel_rfl) (hpl := by kernel_rfl) ?_
        conv => whnf
        conv => whnf
        repeat (first | ((with_reducible apply Go.Vc.ld_i); (focus ((repeat (first | with_reducible assumption | with_reducible exact Go.Vc.hset_same _ _ _ | with_reducible refine (Go.Vc.hset_ne _ _ (by omega)).trans ?_)); done)); (focus exact rfl); conv => whnf))
        refine (take_spec X1).mono ?_
        rintro _ h2 t2 hd2 ht2 ⟨rfl, X2⟩
        have hN2 := X2.hN
        rw [takeS_now] at hN2
        have hp2 := takeS_size X1.sR.2
        conv => whnf
        refine ⟨oneH_sub hN2, ?_⟩
        conv => whnf
        refine (node_spec _ _ X1.sN hp2 _ _).mono ?_
        rintro _ h3 t3 hd3 ht3 ⟨rfl, hs3⟩
        have X3 := X2.mono hs3
        have hN3 := X3.hN
        conv => whnf
        repeat (first | ((with_reducible apply Go.Vc.st_i); (focus ((repeat (first | with_reducible assumption | with_reducible exact Go.Vc.hset_same _ _ _ | with_reducible refine (Go.Vc.hset_ne _ _ (by omega)).trans ?_)); done)); (focus exact rfl); (focus exact rfl); (focus exact rfl); (conv => whnf); intro cA hcA; (first | (simp only [List.setIfInBounds_toArray, List.set_cons_succ, List.set_cons_zero] at hcA; subst hcA) | subst hcA); conv => whnf))
        exact ⟨rfl, X3.setN _ (nd_le _ (by decide) _ _)⟩
      · rw [ch (by omega)]
        conv => whnf
        repeat (first | ((with_reducible apply Go.Vc.ld_i); (focus ((repeat (first | with_reducible assumption | with_reducible exact Go.Vc.hset_same _ _ _ | with_reducible refine (Go.Vc.hset_ne _ _ (by omega)).trans ?_)); done)); (focus exact rfl); conv => whnf) | ((with_reducible apply Go.Vc.wr_i64); (focus exact And.intro (by omega) (by omega)); conv => whnf))
        have e1 : ((n : Int) - (k : Nat)) = ((n - k : Nat) : Int) := by omega
        have e2 : ((m : Int) - (k : Nat)) = ((m - k : Nat) : Int) := by omega
        rw [e1, e2]
        refine (ih (n - k) (by omega) (m - k) false s _ _ (by omega) (by omega) (by omega) X).mono ?_
        rintro _ h1 t1 hd1 ht1 ⟨rfl, X1⟩
        conv => whnf
        refine (take_spec X1).mono ?_
        rintro _ h2 t2 hd2 ht2 ⟨rfl, X2⟩
        have hN2 := X2.hN
        have hB2 := X2.hB
        rw [takeS_now] at hN2
        rw [takeS_before] at hB2
        have hp2 := takeS_size X1.sR.2
        conv => whnf
        refine Go.Vc.draw_intro [⟨0, false, false, false, 0⟩, ⟨1, false, false, false, 0⟩, ⟨3, false, true, false, 0⟩, ⟨4, false, true, false, 0⟩, ⟨2, true, false, true, 3⟩, ⟨5, true, false, false, 31⟩, ⟨6, true, false, false, 63⟩, ⟨7, true, false, false, 127⟩] (hs := h2) (hsub := (Sub.refl _)) (hm := by kernel_rfl) (hpl := by kernel_rfl) ?_
        conv => whnf
        conv => whnf
        repeat (first | ((with_reducible apply Go.Vc.ld_i); (focus ((repeat (first | with_reducible assumption | with_reducible exact Go.Vc.hset_same _ _ _ | with_reducible refine (Go.Vc.hset_ne _ _ (by omega)).trans ?_)); done)); (focus exact rfl); conv => whnf))
        refine (node_spec _ _ hp2 X1.sB _ _).mono ?_
        rintro _ h3 t3 hd3 ht3 ⟨rfl, hs3⟩
        conv => whnf
        refine ⟨hs3, ?_⟩
        conv => whnf
        refine (node_spec _ _ hp2 X1.sN _ _).mono ?_
        rintro _ h4 t4 hd4 ht4 ⟨rfl, hs4⟩
        have X4 := (X2.mono hs3).mono hs4
        have hN4 := X4.hN
        have hB4 := X4.hB
        conv => whnf
        repeat (first | ((with_reducible apply Go.Vc.st_i); (focus ((repeat (first | with_reducible assumption | with_reducible exact Go.Vc.hset_same _ _ _ | with_reducible refine (Go.Vc.hset_ne _ _ (by omega)).trans ?_)); done)); (focus exact rfl); (focus exact rfl); (focus exact rfl); (conv => whnf); intro cA hcA; (first | (simp only [List.setIfInBounds_toArray, List.set_cons_succ, List.set_cons_zero] at hcA; subst hcA) | subst hcA); conv => whnf))
        trace_state
        exact ⟨rfl, (X4.setB _ (nd_le _ (by decide) _ _)).setN _ (nd_le _ (by decide) _ _)⟩
end Go.Proofs.Ytmlcdkckedjdjaa
