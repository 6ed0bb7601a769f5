import Derived.Test.YtikpfffhcjlcjaaDef6
set_option linter.unusedSimpArgs false
namespace Go.Proofs.Ytikpfffhcjlcjaa
open Go Go.Vc Go.Dfl
set_option maxRecDepth 20000
set_option linter.unusedVariables false
def cutN (l : List Int) (least : Nat) : Nat → Nat
  | 0 => 0
  | n + 1 => if least < n + 1 ∧ l.getD n 0 = 0 then cutN l least n else n + 1
def cutF (l : List Int) (least : Nat) : List Int := l.take (cutN l least l.length)
theorem cutN_le (l : List Int) (least n : Nat) : cutN l least n ≤ n := by
  induction n with
  | zero => simp [cutN]
  | succ n ih => rw [cutN]; split <;> omega
theorem cutN_ge (l : List Int) (least n : Nat) (h : least ≤ n) : least ≤ cutN l least n := by
  induction n with
  | zero => simp [cutN]; omega
  | succ n ih => rw [cutN]; split <;> omega
theorem cutF_len (l : List Int) (least : Nat) : (cutF l least).length = cutN l least l.length := by
  have := cutN_le l least l.length
  rw [cutF, List.length_take]
  omega
theorem cut_spec {h : Heap} {t : Nat} {a : Option Addr} {n c : Nat} {l : List Int} (s : Sl h a n (Value.int .i64) l) (hn : n ≤ 1000000) (hc : n ≤ c) {least : Nat} (hl : least ≤ 1000000) :
    CallSpec Try.prog 72 #[.slice a n c, .int .i64 (least : Nat)] h t (fun v h' t' => v = .slice a (cutF l least).length c ∧ h = h' ∧ t = t') := by
  have hll := s.1
  have hcl := cutF_len l least
  refine Go.Vc.spec_of_vc (fn := Try.f72) Try.func72 rfl (by kernel_rfl) (by kernel_rfl) (Nat.le_of_ble_eq_true rfl) ?_
  intro hd
  conv => whnf
  refine loop_intro (fun i : Nat => [(0, .slice a i c), (1, .int .i64 (least : Nat))])
    (fun i h' t' => h = h' ∧ t = t' ∧ i ≤ n ∧ cutN l least i = cutN l least n) (fun i => i) n ⟨rfl, rfl, trivial⟩ ⟨rfl, rfl, by omega, rfl⟩ ?_
  rintro i e g t1 hd1 ⟨rfl, rfl, hi, hcu⟩
  have si := s.take (show i ≤ n by omega)
  conv => whnf
  refine br (fun hb => ?_) (fun hb => ?_)
  · obtain ⟨j, rfl⟩ : ∃ j, i = j + 1 := ⟨i - 1, by omega⟩
    rw [cutN] at hcu
    conv => whnf
    repeat (first | ((with_reducible apply Go.Vc.sl_ix); (focus with_reducible assumption); (focus exact And.intro (by omega) (by omega)); intro xI bI offI hxI hcI; conv => whnf) | ((with_reducible apply Go.Vc.cell_i); (focus assumption); conv => whnf) | ((with_reducible apply Go.Vc.wr_i64); (focus exact And.intro (by omega) (by omega)); conv => whnf))
    have hx : l[j]? = some xI := by
      have e := hxI
      rw [show (((j + 1 : Nat) : Int) - 1).toNat = j by omega, List.getElem?_take_of_lt (by omega)] at e
      exact e
    have hgd : l.getD j 0 = xI := by rw [List.getD_eq_getElem?_getD, hx]; rfl
    refine br (fun hb2 => ?_) (fun hb2 => ?_)
    · rw [if_pos ⟨by omega, by rw [hgd, hb2]⟩] at hcu
      conv => whnf
      repeat (first | ((with_reducible refine And.intro (And.intro ?_ ?_) ?_); (focus omega); (focus omega); conv => whnf) | ((with_reducible apply Go.Vc.wr_i64); (focus exact And.intro (by omega) (by omega)); conv => whnf))
      refine round_end j (by omega) ⟨by rw [show (((j + 1 : Nat) : Int) - 1).toNat = j by omega]; rfl, rfl, trivial⟩ ⟨rfl, rfl, by omega, hcu⟩
    · rw [if_neg (fun h => hb2 (by rw [← hgd]; exact h.2))] at hcu
      conv => whnf
      exact ⟨by rw [hcl, hll, ← hcu], rfl, rfl⟩
  · have hz : cutN l least i = i := by
      cases i with
      | zero => rfl
      | succ j => rw [cutN, if_neg (by omega)]
    conv => whnf
    exact ⟨by rw [hcl, hll, ← hcu, hz], rfl, rfl⟩
def fixedL : List Int := List.replicate 144 8 ++ List.replicate 112 9 ++ List.replicate 24 7 ++ List.replicate 8 8
def fixedB : List Int := List.replicate 32 5
theorem fixedL_err : Huf.err fixedL = 0 := by decide +kernel
theorem fixedB_err : Huf.err fixedB = 0 := by decide +kernel
theorem bfixed_spec {h : Heap} {t w : Nat} {d : Option Nat} {bs : List Bool} (W : Wr 63 h w d bs) (hbl : bs.length ≤ 10000000) {s : ByteArray} {pa : Option Addr} {pn pc : Nat} {ps : List Prt}
    (hps : Sl h pa (pn * 7) id (ps.flatMap pcells)) (hpn : pn ≤ 100000) (hok : ∀ p ∈ ps, PrtOk fixedL fixedB p) (f0 : 0 < pn → ∀ b, owner pa = some b → b ≠ w ∧ d ≠ some b) :
    CallSpec Try.prog 51 #[.agg #[.string s, .slice pa pn pc], .pointer (some ⟨w, 0, none⟩)] h t (fun v h' t' => v = .tuple #[] ∧ WrTo 63 w h t d (bs ++ tellF fixedL fixedB ps) h' t') := by
  refine Go.Vc.spec_of_vc (fn := Try.f51) Try.func51 rfl (by kernel_rfl) (by kernel_rfl) (Nat.le_of_ble_eq_true rfl) ?_
  intro hd
  conv => whnf
  intro r2 hr2
  have hs2 := hd.sub_new hr2 (.cells #[.string s, .slice pa pn pc] 66)
  have hd2 := hd.set r2 (.cells #[.string s, .slice pa pn pc] 66) (r2 + 1) (by omega) (by omega)
  conv => whnf
  repeat (first | (intro _ _; conv => whnf))
  rename_i q1 hq1
  refine (repeat_spec (k := 144) (x := 8) (sl1 (hset_same _ _ _)) (by omega)).mono ?_
  rintro _ g1 u1 hg1 hu1 ⟨a1, rfl, o1, s1, w1, _⟩
  conv => whnf
  repeat (first | (intro _ _; conv => whnf))
  rename_i q2 hq2
  refine (repeat_spec (k := 112) (x := 9) (sl1 (hset_same _ _ _)) (by omega)).mono ?_
  rintro _ g2 u2 hg2 hu2 ⟨a2, rfl, o2, s2, w2, _⟩
  conv => whnf
  repeat (first | (intro _ _; conv => whnf))
  rename_i q3 hq3
  refine (repeat_spec (k := 24) (x := 7) (sl1 (hset_same _ _ _)) (by omega)).mono ?_
  rintro _ g3 u3 hg3 hu3 ⟨a3, rfl, o3, s3, w3, _⟩
  conv => whnf
  repeat (first | (intro _ _; conv => whnf))
  rename_i q4 hq4
  refine (repeat_spec (k := 8) (x := 8) (sl1 (hset_same _ _ _)) (by omega)).mono ?_
  rintro _ g4 u4 hg4 hu4 ⟨a4, rfl, o4, s4, w4, _⟩
  conv => whnf
  repeat (first | (intro _ _; conv => whnf))
  rename_i rc hrc
  have k12 : Vc.Sub g1 g2 := (hg1.sub_new hq2 (.cells #[.int .i64 9] 3)).trans s2
  have k23 : Vc.Sub g2 g3 := (hg2.sub_new hq3 (.cells #[.int .i64 7] 3)).trans s3
  have k34 : Vc.Sub g3 g4 := (hg3.sub_new hq4 (.cells #[.int .i64 8] 3)).trans s4
  have k4c := hg4.sub_new hrc (.cells #[.slice a1 144 144, .slice a2 112 112, .slice a3 24 24, .slice a4 8 8] 31)
  have k01 : Vc.Sub (hset h r2 (.cells #[.string s, .slice pa pn pc] 66)) g1 := (hd2.sub_new hq1 (.cells #[.int .i64 8] 3)).trans s1
  have k0c := k01.trans (k12.trans (k23.trans (k34.trans k4c)))
  refine (concat_spec (qs := [⟨a1, 144, 144, List.replicate 144 8⟩, ⟨a2, 112, 112, List.replicate 112 9⟩, ⟨a3, 24, 24, List.replicate 24 7⟩, ⟨a4, 8, 8, List.replicate 8 8⟩]) (a0 := some ⟨rc, 0, none⟩) (n0 := 4) (c0 := 4) ?_ ?_ (by simp [sizes]) (by decide)).mono ?_
  · refine ⟨rfl, fun _ => ⟨rc, 0, _, _, _, rfl, hset_same _ _ _, ?_⟩⟩
    intro i hi
    simp at hi
    have : i = 0 ∨ i = 1 ∨ i = 2 ∨ i = 3 := by omega
    rcases this with rfl | rfl | rfl | rfl <;> rfl
  · intro q hq
    simp only [List.mem_cons, List.not_mem_nil, or_false] at hq
    rcases hq with rfl | rfl | rfl | rfl
    · exact o1.sl.sub (k12.trans (k23.trans (k34.trans k4c)))
    · exact o2.sl.sub (k23.trans (k34.trans k4c))
    · exact o3.sl.sub (k34.trans k4c)
    · exact o4.sl.sub k4c
  rintro _ g5 u5 hg5 hu5 ⟨a5, n5, c5, rfl, o5, s5, w5⟩
  have e5 : [(⟨a1, 144, 144, List.replicate 144 8⟩ : SV), ⟨a2, 112, 112, List.replicate 112 9⟩, ⟨a3, 24, 24, List.replicate 24 7⟩, ⟨a4, 8, 8, List.replicate 8 8⟩].flatMap (·.l) = fixedL := by
    simp [fixedL]
  rw [e5] at o5
  have hsg : Vc.Sub h g5 := hs2.trans (k0c.trans s5)
  have b5 : g5 r2 = some (.cells #[.string s, .slice pa pn pc] 66 (0, 0)) := s5 _ _ (k0c _ _ (hset_same _ _ _))
  have hwt := W.lt hd
  have hdt := W.dlt hd
  obtain ⟨H0, hH1, hH2⟩ : ∃ H0 : Heap, H0 r2 = g5 r2 ∧ ∀ h' : Heap, h' r2 = g5 r2 → Vc.Sub H0 h' := by
    refine ⟨fun k => if k = r2 then g5 k else none, by simp, fun h' e1 k o hk => ?_⟩
    replace hk : (if k = r2 then g5 k else none) = some o := hk
    by_cases e : k = r2
    · rw [if_pos e] at hk
      subst e
      rw [e1]; exact hk
    · rw [if_neg e] at hk
      cases hk
  have b0 := hH1.trans b5
  conv => whnf
  refine Go.Vc.draw_intro [⟨0, false, true, false, 0⟩, ⟨1, false, true, false, 0⟩, ⟨2, false, true, false, 0⟩, ⟨3, true, false, true, 0⟩, ⟨4, true, false, true, 8⟩, ⟨5, true, false, false, 31⟩] (hs := H0) (hsub := (hH2 g5 rfl)) (hm := by kernel_rfl) (hpl := by kernel_rfl) ?_
  conv => whnf
  conv => whnf
  repeat (first | ((with_reducible apply Go.Vc.ldrow); (focus ((repeat (first | with_reducible assumption | with_reducible exact Go.Vc.hset_same _ _ _ | with_reducible refine (Go.Vc.hset_ne _ _ (by omega)).trans ?_)); done)); (focus exact rfl); rintro _ rfl; conv => whnf) | (intro _ _; conv => whnf))
  rename_i q6 hq6
  have hr2g := hg5 _ _ b5
  have k56 := hg5.sub_new hq6 (.cells #[.int .i64 5] 3)
  refine ⟨hH2 _ (hset_ne _ _ (by omega)), ?_⟩
  conv => whnf
  refine (repeat_spec (k := 32) (x := 5) (sl1 (hset_same _ _ _)) (by omega)).mono ?_
  rintro _ g6 u6 hg6 hu6 ⟨a6, rfl, o6, s6, w6, _⟩
  have b6 : g6 r2 = g5 r2 := (s6 _ _ (k56 _ _ b5)).trans b5.symm
  conv => whnf
  refine ⟨hH2 _ b6, ?_⟩
  have k06 : Vc.Sub h g6 := hsg.trans (k56.trans s6)
  have hlk : ∀ (b : Nat), u4 ≤ b → b ≠ w ∧ d ≠ some b := fun b hb => ⟨by omega, fun e => by have := hdt b e; omega⟩
  have hok2 := hok
  conv => whnf
  refine (btell_spec (W.sub k06) hbl (hps.sub k06) hpn (L := fixedL) (B := fixedB) (o5.sl.sub (k56.trans s6)) o6.sl fixedL_err fixedB_err (by decide) hok f0 (fun b hb => hlk b (by have := w5 b hb; omega)) (fun b hb => hlk b (by have := w6 b hb; omega))).mono ?_
  rintro _ g7 u7 hg7 hu7 ⟨rfl, V⟩
  conv => whnf
  exact ⟨rfl, WrTo.step hd (FrW.of_sub k06) (.inl rfl) (by omega) V⟩
end Go.Proofs.Ytikpfffhcjlcjaa
