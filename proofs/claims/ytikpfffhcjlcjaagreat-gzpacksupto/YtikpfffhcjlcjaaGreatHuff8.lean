import Derived.Test.YtikpfffhcjlcjaaGreatHuff7
import Derived.Test.YtikpfffhcjlcjaaGreatHuffPlain
set_option linter.unusedSimpArgs false
namespace Go.Proofs.YtikpfffhcjlcjaaGreat
open Go Go.Vc Go.Huf
set_option maxRecDepth 10000
set_option linter.unusedVariables false
def iv (v : Nat) : Value := .int .i64 (v : Nat)
def two (m : NR) : Nd × List Nat := (m.x, m.l)
theorem cell_ne {h : Heap} {a : Addr} {v : Value} {b : Nat} {o : Obj} (c : Cell h a v) (hne : a.block ≠ b) : Cell (hset h b o) a v := by
  obtain ⟨cs, T, f, h1, h2, h3⟩ := c
  exact ⟨cs, T, f, by rw [hset_ne _ _ hne]; exact h1, h2, h3⟩
def LS (h : Heap) (m : NR) : Prop := Sl h m.a m.n iv m.l ∧ ∀ q, owner m.a = some q → ∃ cs fr, h q = some (.cells cs 3 fr)
theorem LS.keep {h h' : Heap} {m : NR} (s : LS h m) (hk : ∀ q cs fr, owner m.a = some q → h q = some (.cells cs 3 fr) → h' q = some (.cells cs 3 fr)) : LS h' m := by
  refine ⟨⟨s.1.1, fun h0 => ?_⟩, fun q hq => ?_⟩
  · obtain ⟨b, off, cs, T, fr, e1, e2, e3⟩ := s.1.2 h0
    obtain ⟨cs2, fr2, e4⟩ := s.2 b (by rw [e1]; rfl)
    rw [e2] at e4
    cases e4
    exact ⟨b, off, cs, _, fr, e1, hk b cs fr (by rw [e1]; rfl) e2, e3⟩
  · obtain ⟨cs, fr, e⟩ := s.2 q hq
    exact ⟨cs, fr, hk q cs fr hq e⟩
def RefI (l : List Int) (n rO t : Nat) (h : Heap) (M : List NR) (aM : Option Addr) (cM : Nat) (D : List Int) (mx : Int) (nx : Nat) (h' : Heap) (t' : Nat) : Prop :=
  rO < t' ∧ h' rO = some (.cells (D.map (Value.int .i64)).toArray 3 (0, 0)) ∧ Vc.Own h' 179 aM (M.length * 3) (cM * 3) id (M.flatMap nr) ∧ (∀ m ∈ M, LS h' m ∧ owner m.a ≠ some rO) ∧ Vc.Sub h h' ∧ (∀ b, owner aM = some b → t ≤ b) ∧ nx ≤ 700 ∧ nx + M.length ≤ 601 ∧
  Mx D mx ∧ ((M.length = 0 ∧ D = lens l) ∨ ∃ W k, RInv l (M.map two) W nx k D)
theorem reflengths_spec {h : Heap} {t n c : Nat} {a : Option Addr} {l : List Int} (s : Sl h a n (Value.int .i64) l) (hn : n ≤ 300) (hl : ∀ x ∈ l, 0 ≤ x ∧ x ≤ 2 ^ 40) :
    CallSpec Tryz.prog 106 #[.slice a n c] h t (fun v h' t' => ∃ (b : Nat) (m : Int), v = .tuple #[.slice (some ⟨b, 0, none⟩) n n, .int .i64 m] ∧ t ≤ b ∧ t ≤ t' ∧ h' b = some (.cells ((lens l).map (Value.int .i64)).toArray 3 (0, 0)) ∧ Vc.Sub h h' ∧ ∀ q, 7 ≤ q → (m ≤ q ↔ ∀ x ∈ lens l, x ≤ q)) := by
  have hll : l.length = n := s.1
  refine Go.Vc.spec_of_vc (fn := Tryz.f106) Tryz.func106 rfl (by kernel_rfl) (by kernel_rfl) (Nat.le_of_ble_eq_true rfl) ?_
  intro hd
  conv => whnf
  have hl1 : ∀ i x, l[i]? = some x → i < n ∧ 0 ≤ x ∧ x ≤ 2 ^ 40 := fun i x hx => by
    obtain ⟨h1, rfl⟩ := List.getElem?_eq_some_iff.1 hx
    exact ⟨by omega, hl _ (List.getElem_mem h1)⟩
  have hgD : ∀ i x, l[i]? = some x → l.getD i 0 = x := fun i x hx => by rw [List.getD_eq_getElem?_getD, hx]; rfl
  refine loop_intro4 (fun (i : Nat) (aM : Option Addr) (cM : Nat) (M : List NR) => [(0, .slice a n c), (4, .slice aM M.length cM), (5, .int .i64 (i : Nat))])
    (fun i aM cM M h' t' => i ≤ n ∧ t ≤ t' ∧ M.map two = (baseK l i).map (fun x => (x, [x.2])) ∧ Vc.Own h' 179 aM (M.length * 3) (cM * 3) id (M.flatMap nr) ∧ (∀ m ∈ M, LS h' m) ∧ Vc.Sub h h' ∧ ∀ b, owner aM = some b → t ≤ b) (fun i _ _ _ => n - i) 0 none 0 [] ⟨rfl, rfl, rfl, trivial⟩
    ⟨by omega, Nat.le_refl _, rfl, ⟨rfl, .inl ⟨rfl, rfl, rfl⟩⟩, fun m hm => by simp at hm, Sub.refl _, fun b hb => by cases hb⟩ ?_
  rintro i aM cM M g h1 t1 hd1 ⟨hin, ht1, hM, hoM, hml, hs1, hown⟩
  have s1 := s.sub hs1
  have hMl : M.length = (baseK l i).length := by
    have := congrArg List.length hM
    simpa using this
  have hbl := baseK_len l i
  conv => whnf
  refine br (fun hb => ?_) (fun hb => ?_)
  · conv => whnf
    repeat (first | ((with_reducible apply Go.Vc.sl_ix); (focus with_reducible assumption); (focus exact And.intro (by omega) (by omega)); intro xI bI offI hxI hcI; conv => whnf) | ((with_reducible apply Go.Vc.cell_i); (focus assumption); conv => whnf))
    have hxi : l[i]? = some xI := hxI
    have hx2 := hl1 i xI hxi
    have hbs := baseK_succ l i
    rw [hgD i xI hxi] at hbs
    refine br (fun hb2 => ?_) (fun hb2 => ?_)
    · obtain ⟨z, hz⟩ : ∃ z, z = xI := ⟨_, rfl⟩
      subst hz
      rw [if_pos hb2] at hbs
      conv => whnf
      repeat (first | ((with_reducible apply Go.Vc.sl_ix); (focus with_reducible assumption); (focus exact And.intro (by omega) (by omega)); intro xI bI offI hxI hcI; conv => whnf) | ((with_reducible apply Go.Vc.cell_i); (focus assumption); conv => whnf) | (intro _ _; conv => whnf))
      rename_i r1 hr1 r2 hr2
      have hxe : z = xI := Option.some.inj (hxi.symm.trans hxI)
      subst hxe
      have hd2 := hd1.set r1 (.cells #[.int .i64 (i : Nat)] 3 (0, 0)) (r1 + 1) (by omega) (by omega)
      have hd3 := hd2.set r2 (.cells (nr ⟨(z, i), some ⟨r1, 0, none⟩, 1, 1, [i]⟩).toArray 179 (0, 0)) (r2 + 1) (by omega) (by omega)
      refine app_nr (n := M.length) (m := 1) (l2 := nr ⟨(z, i), some ⟨r1, 0, none⟩, 1, 1, [i]⟩) (Own.fr hoM (fun b o _ hb => by have := hd1 b o hb; rw [hset_ne _ _ (by omega), hset_ne _ _ (by omega)]; exact hb)) (vl_sl (hset_same _ _ _) rfl) rfl (by omega) hd3 ?_
      intro a' c' h' t' ho' ht' hd' hk' hown'
      have hMlt : ∀ b, owner aM = some b → b < t1 := fun b hb => by
        obtain ⟨cs, fr, e⟩ := own_tag hoM hb
        exact hd1 b _ e
      have hkeep : ∀ b, b < t1 → owner aM ≠ some b → h' b = h1 b := fun b hb hne => by
        rw [hk' b (by omega) hne, hset_ne _ _ (by omega), hset_ne _ _ (by omega)]
      conv => whnf
      repeat (first | ((with_reducible apply Go.Vc.wr_i64); (focus exact And.intro (by omega) (by omega)); conv => whnf))
      refine round_end4 (i + 1) a' c' (M ++ [⟨(z, i), some ⟨r1, 0, none⟩, 1, 1, [i]⟩]) (by omega) ⟨rfl, by rw [List.length_append]; rfl, rfl, trivial⟩ ⟨by omega, by omega, ?_, ?_, ?_, ?_, ?_⟩
      · rw [List.map_append, hM, hbs, List.map_append]; rfl
      · rw [List.length_append, List.flatMap_append]
        exact ho'
      · intro m hm
        rcases List.mem_append.1 hm with hm | hm
        · refine (hml m hm).keep fun q cs fr hq e => ?_
          rw [hkeep q (hd1 q _ e) (own_ne hoM e (by decide))]
          exact e
        · have hm := List.mem_singleton.1 hm
          subst hm
          have e1 : h' r1 = some (.cells #[.int .i64 (i : Nat)] 3 (0, 0)) := (hk' r1 (by omega) (fun e => by have := hMlt _ e; omega)).trans (by rw [hset_ne _ _ (by omega)]; exact hset_same _ _ _)
          refine ⟨⟨rfl, fun _ => ⟨r1, 0, _, _, _, rfl, e1, fun q hq => ?_⟩⟩, fun q hq => ?_⟩
          · have hq : q < 1 := hq
            have : q = 0 := by omega
            subst this; rfl
          · cases hq; exact ⟨_, _, e1⟩
      · intro b o hb
        have := hd b o hb
        rw [hkeep b (by omega) (fun e => by have := hown b e; omega)]
        exact hs1 b o hb
      · intro b hb
        rcases hown' with e | ⟨r, e, hr⟩
        · exact hown b (by rw [← e]; exact hb)
        · rw [e] at hb; cases hb; omega
    · conv => whnf
      repeat (first | ((with_reducible apply Go.Vc.wr_i64); (focus exact And.intro (by omega) (by omega)); conv => whnf))
      rw [if_neg hb2, List.append_nil] at hbs
      exact round_end4 (i + 1) aM cM M (by omega) ⟨rfl, rfl, rfl, trivial⟩ ⟨by omega, by omega, by rw [hbs]; exact hM, hoM, hml, hs1, hown⟩
  · have hie : i = n := by omega
    subst hie
    have hbase : baseK l i = base l := by rw [← hll]; exact baseK_all l
    rw [hbase] at hM hMl hbl
    have hbM := base_le l
    conv => whnf
    repeat (first | ((with_reducible apply Go.Vc.mk_b); (focus exact And.intro (by omega) (by omega)); (focus exact rfl); (focus omega); intro rM csM hrM hcsM; (first | (replace hcsM := hcsM.trans (Go.Vc.zc (Value.int .i64) 0 _)) | (replace hcsM := hcsM.trans (Go.Vc.zc Go.Vc.bv 0 _)) | (replace hcsM := hcsM.trans (Go.Vc.zc Value.string ByteArray.empty _))); subst hcsM; conv => whnf))
    refine br (fun hb2 => ?_) (fun hb2 => ?_)
    · obtain ⟨x, hx⟩ : ∃ x, base l = [x] := List.length_eq_one_iff.1 (by omega)
      have hxb := base_mem.1 (show x ∈ base l by rw [hx]; simp)
      have hone := lens_one hx
      obtain ⟨m, hm⟩ : ∃ m, M = [m] := List.length_eq_one_iff.1 (by omega)
      subst hm
      have hmx : m.x = x := by rw [hx] at hM; simp [two] at hM; exact hM.1
      conv => whnf
      repeat (first | ((with_reducible refine And.intro (And.intro ?_ ?_) ?_); (focus omega); (focus omega); conv => whnf))
      refine (slW_ix (W := 3) (n := 1) (i := 0) (Sl.sub hoM.sl (hd1.sub_new hrM (.cells ((List.replicate i 0).map (Value.int .i64)).toArray 3 (0, 0)))) nr_len (by decide) (by omega) ?_).2
      intro y b off hy ha hrow
      have hy2 : m = y := by simpa using hy
      subst hy2
      conv => whnf
      refine ⟨_, hrow.cell (j := 1) rfl, ?_⟩
      rw [hmx]
      conv => whnf
      repeat (first | ((with_reducible apply Go.Vc.own_ix); (focus exact And.intro (by omega) (by omega)); conv => whnf) | ((with_reducible apply Go.Vc.ar_st); (focus ((repeat (first | with_reducible assumption | with_reducible exact Go.Vc.hset_same _ _ _ | with_reducible refine (Go.Vc.hset_ne _ _ (by omega)).trans ?_)); done)); (focus exact rfl); (focus exact rfl); (focus (first | omega | (simp; done) | (simp; omega))); (focus exact rfl); intro heqA; (conv => whnf); intro cA hcA; rw [heqA] at hcA; clear heqA; subst hcA; conv => whnf))
      refine loop_intro (fun _ : Unit => [(4, .slice aM 1 cM), (6, .slice (some ⟨rM, 0, none⟩) i i), (8, .int .i64 0)]) (fun _ h' t' => t1 ≤ t' ∧ h' rM = some (.cells ((lens l).map (Value.int .i64)).toArray 3 (0, 0)) ∧ Vc.Sub h h') (fun _ => 0) () ⟨rfl, rfl, rfl, trivial⟩ ⟨by omega, ?_, ?_⟩ ?_
      · rw [hset_same, hone, hll]; rfl
      · intro b o hb
        have := hd1 b o (hs1 b o hb)
        repeat rw [hset_ne _ _ (by omega)]
        exact hs1 b o hb
      rintro _ g6 h6 t6 hd6 ⟨ht6, hD6, hs6⟩
      conv => whnf
      repeat (first | (refine Go.Vc.br_f ?_ ?_; (focus omega); conv => whnf))
      refine ⟨rM, 0, rfl, by omega, by omega, hD6, hs6, fun q hq => ⟨fun _ y hy => ?_, fun _ => by omega⟩⟩
      rw [hone] at hy
      rcases List.mem_or_eq_of_mem_set hy with hy | rfl
      · rw [(List.mem_replicate.1 hy).2]; omega
      · omega
    · have hrm : M.length = 0 ∨ 2 ≤ M.length := by omega
      conv => whnf
      have hMlt : ∀ m ∈ M, owner m.a ≠ some rM := fun m hm e => by
        obtain ⟨cs, fr, e2⟩ := (hml m hm).2 rM e
        have := hd1 rM _ e2
        omega
      refine loop_intro6 (fun (M : List NR) (aM : Option Addr) (cM : Nat) (D : List Int) (mx : Int) (nx : Nat) => [(0, .slice a i c), (4, .slice aM M.length cM), (6, .slice (some ⟨rM, 0, none⟩) i i), (7, .int .i64 (nx : Nat)), (8, .int .i64 mx)])
        (fun M aM cM D mx nx h' t' => RefI l i rM t h M aM cM D mx nx h' t') (fun M _ _ _ _ _ => M.length) M aM cM (List.replicate i 0) 0 i ⟨rfl, rfl, rfl, rfl, rfl, trivial⟩ ?_ ?_
      · refine ⟨by omega, hset_same _ _ _, Own.fr hoM (fun b o _ hb => hd1.sub_new hrM _ b o hb), fun m hm => ⟨(hml m hm).keep fun q cs fr _ e => hd1.sub_new hrM _ _ _ e, hMlt m hm⟩, hs1.trans (hd1.sub_new hrM _), hown, by omega, by omega, ⟨fun x hx => by rw [(List.mem_replicate.1 hx).2]; omega, by omega, .inl rfl⟩, ?_⟩
        rcases hrm with h0 | h2
        · have hb0 : base l = [] := List.length_eq_zero_iff.1 (by omega)
          exact .inl ⟨h0, by rw [lens_none hb0, hll]⟩
        · refine .inr ⟨srt0 l, (base l).length - 1, ?_⟩
          have := rinv_start hM (by omega) (fun x hx => (hl x hx).2) (by omega)
          rwa [hll] at this
      have hb2' : (base l).length ≠ 1 := by omega
      clear hs1 hown hml hoM hMl hM hb2 hrm hMlt hd1 hbM hbl s1
      rintro M aM cM D mx nx g2 h2 t2 hd2 ⟨hr2, hD, hoM, hml, hs2, hown, hnx, hnm, hMx, hinv⟩
      conv => whnf
      refine br (fun hb2 => ?_) (fun hb2 => ?_)
      · have hge : 2 ≤ M.length := by omega
        obtain ⟨W, k, hI⟩ : ∃ W k, RInv l (M.map two) W nx k D := by
          rcases hinv with ⟨h0, _⟩ | h0
          · omega
          · exact h0
        clear hinv
        have hwl : M.length = k + 1 := by
          have h1 := hI.perm.length_eq
          have h2 := hI.len
          simp only [List.length_map] at h1
          omega
        obtain ⟨k, rfl⟩ : ∃ k', k = k' + 1 := ⟨k - 1, by omega⟩
        have hpx : (M.map (·.x)).Perm W := by
          have := hI.perm
          rwa [List.map_map] at this
        have hnumM : (M.map (·.x.2)).Nodup := by
          have h1 := (hpx.map (fun x : Nd => x.2)).nodup_iff.2 hI.wi.nums
          rwa [List.map_map] at h1
        have hle : ∀ m ∈ M, 0 < m.x.1 ∧ m.x.1 ≤ 2 ^ 50 ∧ m.x.2 < nx := fun m hm => hI.wi.le m.x (hpx.mem_iff.1 (List.mem_map.2 ⟨m, hm, rfl⟩))
        have hcM := hoM.cap
        conv => whnf
        refine (least_spec (n := M.length) hoM.sl (by omega) hnumM).mono ?_
        rintro _ h2 t2 hd2 ht2 ⟨i1, rfl, hi1, ⟨ma, hma, hmin1⟩, rfl, rfl⟩
        obtain ⟨y, b, off, hy, ha, hrow⟩ := slW_row (i := i1) nr_len hoM.sl (by decide) hi1
        have hye : ma = y := Option.some.inj (hma.symm.trans hy)
        subst hye
        subst ha
        conv => whnf
        repeat (first | ((with_reducible apply Go.Vc.own_ix); (focus exact And.intro (by omega) (by omega)); conv => whnf))
        refine hrow.row (W := 3) rfl (by decide) ?_
        conv => whnf
        repeat (first | ((with_reducible apply Go.Vc.strow); (focus ((repeat (first | with_reducible assumption | with_reducible exact Go.Vc.hset_same _ _ _ | with_reducible refine (Go.Vc.hset_ne _ _ (by omega)).trans ?_)); done)); (focus exact rfl); (focus exact rfl); (focus exact rfl); rintro _ rfl; conv => whnf) | (intro _ _; conv => whnf))
        rename_i ra hra
        generalize hh3 : hset (hset h2 ra _) ra _ = h3
        have hb3 : h3 ra = some (.cells (nr ma).toArray 179 (0, 0)) := by rw [← hh3, hset_same]; rfl
        have hk3 : ∀ k, k ≠ ra → h3 k = h2 k := fun k hk => by rw [← hh3, hset_ne _ _ hk, hset_ne _ _ hk]
        have hd3 : Dom h3 (ra + 1) := by rw [← hh3]; exact (hd2.set ra _ (ra + 1) (by omega) (by omega)).set ra _ (ra + 1) (by omega) (by omega)
        clear hh3
        have hs23 : Vc.Sub h2 h3 := fun b o hb => by rw [hk3 b (by have := hd2 b o hb; omega)]; exact hb
        refine (without_spec (n := M.length) (i := i1) (hoM.sl.sub hs23) hi1 (by omega) (by omega)).mono ?_
        rintro _ h4 t4 hd4 ht4 ⟨a4, c4, rfl, ho4, hs34, hown4, _⟩
        have hM1 : ∃ M1, M1 = M.take i1 ++ M.drop (i1 + 1) := ⟨_, rfl⟩
        obtain ⟨M1, hM1⟩ := hM1
        rw [← hM1] at ho4
        have pM1 : M.Perm (ma :: M1) := by rw [hM1]; exact cut_perm hma
        have hM1l : M1.length = M.length - 1 := by have := pM1.length_eq; simp at this; omega
        rw [← hM1l] at ho4 ⊢
        have hnumM1 : (M1.map (·.x.2)).Nodup := by
          have h1 := (pM1.map (fun m : NR => m.x.2)).nodup_iff.1 hnumM
          exact (List.nodup_cons.1 h1).2
        have hc4 := ho4.cap
        conv => whnf
        refine (least_spec (n := M1.length) ho4.sl (by omega) hnumM1).mono ?_
        rintro _ h4 t4 hd4 ht4 ⟨i2, rfl, hi2, ⟨mb, hmb, hmin2⟩, rfl, rfl⟩
        obtain ⟨y, b4, off4, hy, ha4, hrow4⟩ := slW_row (i := i2) nr_len ho4.sl (by decide) hi2
        have hye : mb = y := Option.some.inj (hmb.symm.trans hy)
        subst hye
        subst ha4
        conv => whnf
        repeat (first | ((with_reducible apply Go.Vc.own_ix); (focus exact And.intro (by omega) (by omega)); conv => whnf))
        refine hrow4.row (W := 3) rfl (by decide) ?_
        conv => whnf
        repeat (first | ((with_reducible apply Go.Vc.strow); (focus ((repeat (first | with_reducible assumption | with_reducible exact Go.Vc.hset_same _ _ _ | with_reducible refine (Go.Vc.hset_ne _ _ (by omega)).trans ?_)); done)); (focus exact rfl); (focus exact rfl); (focus exact rfl); rintro _ rfl; conv => whnf) | (intro _ _; conv => whnf))
        rename_i rb hrb
        generalize hh5 : hset (hset h4 rb _) rb _ = h5
        have hb5 : h5 rb = some (.cells (nr mb).toArray 179 (0, 0)) := by rw [← hh5, hset_same]; rfl
        have hk5 : ∀ k, k ≠ rb → h5 k = h4 k := fun k hk => by rw [← hh5, hset_ne _ _ hk, hset_ne _ _ hk]
        have hd5 : Dom h5 (rb + 1) := by rw [← hh5]; exact (hd4.set rb _ (rb + 1) (by omega) (by omega)).set rb _ (rb + 1) (by omega) (by omega)
        clear hh5
        have hs45 : Vc.Sub h4 h5 := fun b o hb => by rw [hk5 b (by have := hd4 b o hb; omega)]; exact hb
        refine (without_spec (n := M1.length) (i := i2) (ho4.sl.sub hs45) hi2 (by omega) (by omega)).mono ?_
        rintro _ h6 t6 hd6 ht6 ⟨a6, c6, rfl, ho6, hs56, hown6, _⟩
        obtain ⟨M2, hM2⟩ : ∃ M2, M2 = M1.take i2 ++ M1.drop (i2 + 1) := ⟨_, rfl⟩
        rw [← hM2] at ho6
        have pM2 : M1.Perm (mb :: M2) := by rw [hM2]; exact cut_perm hmb
        have hM2l : M2.length = M1.length - 1 := by have := pM2.length_eq; simp at this; omega
        rw [← hM2l] at ho6 ⊢
        have hs26 : Vc.Sub h2 h6 := hs23.trans (hs34.trans (hs45.trans hs56))
        have hb6a : h6 ra = some (.cells (nr ma).toArray 179 (0, 0)) := hs56 _ _ (hs45 _ _ (hs34 _ _ hb3))
        have hb6b : h6 rb = some (.cells (nr mb).toArray 179 (0, 0)) := hs56 _ _ hb5
        have hmaM : ma ∈ M := pM1.mem_iff.2 (by simp)
        have hmbM : mb ∈ M := pM1.mem_iff.2 (List.mem_cons_of_mem _ (pM2.mem_iff.2 (by simp)))
        conv => whnf
        refine Go.Vc.draw_intro [⟨0, false, false, false, 0⟩, ⟨1, false, false, false, 1⟩, ⟨3, false, true, false, 0⟩, ⟨4, false, true, false, 8⟩, ⟨2, true, false, true, 3⟩, ⟨5, true, false, false, 31⟩, ⟨6, false, false, false, 63⟩] (hs := h6) (hsub := (Sub.refl h6)) (hm := by kernel_rfl) (hpl := by kernel_rfl) ?_
        conv => whnf
        conv => whnf
        repeat (first | ((with_reducible apply Go.Vc.ld_i); (focus ((repeat (first | with_reducible assumption | with_reducible exact Go.Vc.hset_same _ _ _ | with_reducible refine (Go.Vc.hset_ne _ _ (by omega)).trans ?_)); done)); (focus exact rfl); conv => whnf))
        have hpair := hI.pair (a := two ma) (b := two mb) (M2 := M2.map two) (by
          have := (pM1.trans (pM2.cons ma)).map two
          simpa using this)
        have hab : (ma.l ++ mb.l).Nodup := hpair.1
        have hlt : ∀ v ∈ ma.l ++ mb.l, v < l.length := hpair.2.1
        have hlab : (ma.l ++ mb.l).length ≤ l.length := hpair.2.2
        rw [List.length_append] at hlab
        clear hpair
        have hLa := ((hml ma hmaM).1.1).sub hs26
        have hLb := ((hml mb hmbM).1.1).sub hs26
        have hna := hLa.1
        have hnb := hLb.1
        refine app_vc (f := iv) (n := 0) (m := ma.n) (l := []) (l2 := ma.l) (inf := Tryz.types[3]) (z := .int .i64 0) (E := 3) Tryz.underlying79 Tryz.underlying79 rfl (by kernel_rfl) (by kernel_rfl) (by kernel_rfl) rfl (Own.nil _ _ _) ⟨_, _, rfl, hLa⟩ (fun y => rfl) (by
          show (0 + ma.n) * 8 ≤ 2 ^ 40
          omega) (by omega) (by show 8 ≤ 1000; decide) hd6 ?_
        intro a7 c7 h7 t7 ho7 ht7 hd7 hk7 hown7
        have hs67 : Vc.Sub h6 h7 := fun b o hb => by rw [hk7 b (hd6 b o hb) (by simp [owner])]; exact hb
        refine ⟨hs67, ?_⟩
        have hb7b := hs67 _ _ hb6b
        conv => whnf
        refine app_vc (f := iv) (n := 0 + ma.n) (m := mb.n) (l2 := mb.l) (inf := Tryz.types[3]) (z := .int .i64 0) (E := 3) Tryz.underlying79 Tryz.underlying79 rfl (by kernel_rfl) (by kernel_rfl) (by kernel_rfl) rfl ho7 ⟨_, _, rfl, hLb.sub hs67⟩ (fun y => rfl) (by
          show (0 + ma.n + mb.n) * 8 ≤ 2 ^ 40
          omega) (by omega) (by show 8 ≤ 1000; decide) hd7 ?_
        intro a8 c8 h8 t8 ho8 ht8 hd8 hk8 hown8
        rw [List.nil_append] at ho8
        have hown7' : ∀ q, owner a7 = some q → t6 ≤ q := fun q hq => by
          rcases hown7 with e | ⟨r, e, hr⟩
          · rw [e] at hq; cases hq
          · rw [e] at hq; cases hq; exact hr
        have hown8' : ∀ q, owner a8 = some q → t6 ≤ q := fun q hq => by
          rcases hown8 with e | ⟨r, e, hr⟩
          · exact hown7' q (by rw [← e]; exact hq)
          · rw [e] at hq; cases hq; omega
        have hs68 : Vc.Sub h6 h8 := fun b o hb => by
          have := hd6 b o hb
          rw [hk8 b (by omega) (fun e => by have := hown7' b e; omega)]
          exact hs67 b o hb
        have hs28 := hs26.trans hs68
        have hboth : ∃ vs, vs = ma.l ++ mb.l := ⟨_, rfl⟩
        obtain ⟨vs, hvs⟩ := hboth
        have hvl : vs.length = ma.n + mb.n := by rw [hvs, List.length_append, hna, hnb]
        rw [← hvs] at hab hlt ho8
        rw [show 0 + ma.n + mb.n = vs.length from by omega] at ho8 ⊢
        have hrM8 : rM < t6 := by have := hd6 _ _ (hs26 _ _ hD); omega
        have hDl : D.length = i := by rw [hI.dlen, hll]
        have hbnd := incr_bound (D := D) hab (fun v hv => by rw [hI.dlen]; exact hlt v hv) hI.bound
        conv => whnf
        refine loop_intro2 (fun (k : Nat) (mx : Int) => [(0, .slice a i c), (4, .slice a6 M2.length c6), (6, .slice (some ⟨rM, 0, none⟩) i i), (7, .int .i64 (nx : Nat)), (8, .int .i64 mx), (10, .pointer (some ⟨ra, 0, none⟩)), (11, .pointer (some ⟨rb, 0, none⟩)), (12, .slice a8 vs.length c8), (13, .int .i64 (k : Nat))])
          (fun k mx h' t' => k ≤ vs.length ∧ t8 ≤ t' ∧ h' rM = some (.cells ((incr D (vs.take k)).map (Value.int .i64)).toArray 3 (0, 0)) ∧ Mx (incr D (vs.take k)) mx ∧ ∀ q, q ≠ rM → h' q = h8 q) (fun k _ => vs.length - k) 0 mx ⟨rfl, rfl, rfl, rfl, rfl, rfl, rfl, rfl, rfl, trivial⟩
          ⟨by omega, Nat.le_refl _, hs28 _ _ hD, hMx, fun _ _ => rfl⟩ ?_
        rintro q mx g9 h9 t9 hd9 ⟨hq, ht9, hD9, hMx9, hk9⟩
        have ho9 := ho8.keep (h' := h9) (fun b hb => hk9 b (by have := hown8' b hb; omega))
        have hq9l : (incr D (vs.take q)).length = i := by rw [incr_len]; exact hDl
        have hrb9 : h9 ra = some (.cells (nr ma).toArray 179 (0, 0)) := by
          have : ra ≠ rM := fun e => by have := hd2 _ _ hD; omega
          rw [hk9 ra this]; exact hs68 _ _ hb6a
        have hrb9b : h9 rb = some (.cells (nr mb).toArray 179 (0, 0)) := by
          have : rb ≠ rM := fun e => by have := hd4 _ _ (hs34 _ _ (hs23 _ _ hD)); omega
          rw [hk9 rb this]; exact hs68 _ _ hb6b
        have hso9 := ho9.sl
        have hbnd9 := hbnd q
        have hmxb : 0 ≤ mx ∧ mx ≤ 301 := by
          refine ⟨hMx9.2.1, ?_⟩
          rcases hMx9.2.2 with e | e
          · omega
          · have := hbnd9 mx e; omega
        conv => whnf
        refine br (fun hb9 => ?_) (fun hb9 => ?_)
        · obtain ⟨b8, off8, e8⟩ := Own.at ho9 (by omega)
          subst e8
          have hb8 := hown8' b8 rfl
          obtain ⟨w, hw⟩ : ∃ w, vs[q]? = some w := ⟨_, List.getElem?_eq_getElem (by omega)⟩
          have hxi := hlt w (List.mem_of_getElem? hw)
          rw [hll] at hxi
          have hcw := Own.cell ho9 hw
          have hcw2 : ∀ o, Cell (hset h9 rM o) ⟨b8, off8 + q * 1, none⟩ (iv w) := fun o => cell_ne hcw (by show b8 ≠ rM; omega)
          conv => whnf
          repeat (first | ((with_reducible apply Go.Vc.own_ix); (focus exact And.intro (by omega) (by omega)); conv => whnf) | ((with_reducible apply Go.Vc.ar_ld); (focus ((repeat (first | with_reducible assumption | with_reducible exact Go.Vc.hset_same _ _ _ | with_reducible refine (Go.Vc.hset_ne _ _ (by omega)).trans ?_)); done)); (focus exact rfl); (focus (first | omega | (simp; done) | (simp; omega))); intro xA hxA; conv => whnf) | ((with_reducible apply Go.Vc.cell_i); (focus assumption); conv => whnf))
          have hxv : (incr D (vs.take q))[w]? = some xA := hxA
          have hxb := hbnd9 xA (List.mem_of_getElem? hxv)
          obtain ⟨d, hd1⟩ : ∃ d, d = xA := ⟨_, rfl⟩
          subst hd1
          conv => whnf
          repeat (first | ((with_reducible apply Go.Vc.own_ix); (focus exact And.intro (by omega) (by omega)); conv => whnf) | ((with_reducible apply Go.Vc.ar_st); (focus ((repeat (first | with_reducible assumption | with_reducible exact Go.Vc.hset_same _ _ _ | with_reducible refine (Go.Vc.hset_ne _ _ (by omega)).trans ?_)); done)); (focus exact rfl); (focus exact rfl); (focus (first | omega | (simp; done) | (simp; omega))); (focus exact rfl); intro heqA; (conv => whnf); intro cA hcA; rw [heqA] at hcA; clear heqA; subst hcA; conv => whnf) | ((with_reducible apply Go.Vc.wr_i64); (focus exact And.intro (by omega) (by omega)); conv => whnf))
          refine ⟨_, hcw2 _, ?_⟩
          conv => whnf
          repeat (first | ((with_reducible apply Go.Vc.own_ix); (focus exact And.intro (by omega) (by omega)); conv => whnf) | ((with_reducible apply Go.Vc.ar_ld); (focus ((repeat (first | with_reducible assumption | with_reducible exact Go.Vc.hset_same _ _ _ | with_reducible refine (Go.Vc.hset_ne _ _ (by omega)).trans ?_)); done)); (focus exact rfl); (focus (first | omega | (simp; done) | (simp; omega))); intro xA hxA; conv => whnf) | ((with_reducible apply Go.Vc.wr_i64); (focus exact And.intro (by omega) (by omega)); conv => whnf))
          have hxe : d + 1 = xA := by
            have e1 : ((incr D (vs.take q)).set w (d + 1))[w]? = some xA := hxA
            rw [List.getElem?_set_self (by omega)] at e1
            exact Option.some.inj e1
          subst hxe
          have hins : incr D (vs.take (q + 1)) = (incr D (vs.take q)).set w (d + 1) := by
            rw [incr_take hw, List.getD_eq_getElem?_getD, hxv]; rfl
          refine round_end2 (q + 1) _ (by omega) ⟨rfl, rfl, rfl, rfl, rfl, rfl, rfl, rfl, rfl, trivial⟩ ⟨by omega, by omega, by rw [hins]; exact hset_same _ _ _, ?_, fun k hk => by rw [hset_ne _ _ hk]; exact hk9 k hk⟩
          rw [hins, show (if d + 1 > mx then d + 1 else mx) = max mx (d + 1) from by split <;> omega]
          exact hMx9.step hxv hxb.1
        · have hq1 : q = vs.length := by omega
          have hla := hle ma hmaM
          have hlb := hle mb hmbM
          conv => whnf
          repeat (first | ((with_reducible apply Go.Vc.ld_i); (focus ((repeat (first | with_reducible assumption | with_reducible exact Go.Vc.hset_same _ _ _ | with_reducible refine (Go.Vc.hset_ne _ _ (by omega)).trans ?_)); done)); (focus exact rfl); conv => whnf) | (intro _ _; conv => whnf) | ((with_reducible apply Go.Vc.wr_i64); (focus exact And.intro (by omega) (by omega)); conv => whnf))
          rename_i rn hrn
          have hd10 := hd9.set rn (.cells (nr ⟨(ma.x.1 + mb.x.1, nx), a8, vs.length, c8, vs⟩).toArray 179 (0, 0)) (rn + 1) (by omega) (by omega)
          have h6lt : ∀ b o, h6 b = some o → b < t6 := hd6
          have hk69 : ∀ b o, h6 b = some o → b ≠ rM → h9 b = some o := fun b o hb hne => by rw [hk9 b hne]; exact hs68 b o hb
          have h6M : ∃ cs fr, h6 rM = some (.cells cs 3 fr) := ⟨_, _, hs26 _ _ hD⟩
          have hM6 : owner a6 ≠ some rM := by
            obtain ⟨cs, fr, e⟩ := h6M
            exact own_ne ho6 e (by decide)
          have ho10 := Own.fr ho6 (h' := hset h9 rn (.cells (nr ⟨(ma.x.1 + mb.x.1, nx), a8, vs.length, c8, vs⟩).toArray 179 (0, 0))) (fun b o hb1 hb => by
            have := h6lt b o hb
            rw [hset_ne _ _ (by omega)]
            exact hk69 b o hb (fun e => hM6 (by rw [hb1, e])))
          refine app_nr (n := M2.length) (m := 1) (l2 := nr ⟨(ma.x.1 + mb.x.1, nx), a8, vs.length, c8, vs⟩) ho10 (vl_sl (hset_same _ _ _) rfl) rfl (by omega) hd10 ?_
          intro aF cF hF tF hoF htF hdF hkF hownF
          have h6olt : ∀ b, owner a6 = some b → b < t6 ∧ t ≤ b := fun b hb => by
            obtain ⟨cs, fr, e⟩ := own_tag ho6 hb
            exact ⟨h6lt b _ e, by have := hown6 b hb; have := hd2; omega⟩
          have hkF2 : ∀ b, b < t9 → owner a6 ≠ some b → hF b = h9 b := fun b hb hne => by rw [hkF b (by omega) hne, hset_ne _ _ (by omega)]
          have hk6F : ∀ b o, h6 b = some o → b ≠ rM → owner a6 ≠ some b → hF b = some o := fun b o hb h1 h2 => by
            rw [hkF2 b (by have := h6lt b o hb; omega) h2]; exact hk69 b o hb h1
          have htt : t ≤ rM := by omega
          conv => whnf
          repeat (first | ((with_reducible apply Go.Vc.wr_i64); (focus exact And.intro (by omega) (by omega)); conv => whnf))
          have hll2 : (M2 ++ [(⟨(ma.x.1 + mb.x.1, nx), a8, vs.length, c8, vs⟩ : NR)]).length = M2.length + 1 := by rw [List.length_append]; rfl
          refine round_end6 (M2 ++ [⟨(ma.x.1 + mb.x.1, nx), a8, vs.length, c8, vs⟩]) aF cF (incr D vs) mx (nx + 1) (by omega) ⟨rfl, by rw [hll2]; rfl, rfl, rfl, rfl, trivial⟩ ⟨by omega, ?_, ?_, ?_, ?_, ?_, by omega, by omega, ?_, .inr ?_⟩
          · rw [hkF2 rM (by omega) hM6, hD9, hq1, List.take_length]
          · rw [hll2, List.flatMap_append]
            exact hoF
          · intro m hm
            rcases List.mem_append.1 hm with hm | hm
            · have hmM : m ∈ M := pM1.mem_iff.2 (List.mem_cons_of_mem _ (pM2.mem_iff.2 (List.mem_cons_of_mem _ hm)))
              obtain ⟨hm1, hm2⟩ := hml m hmM
              refine ⟨hm1.keep fun q cs fr hq e => ?_, hm2⟩
              have e6 := hs26 _ _ e
              exact hk6F q _ e6 (fun e => hm2 (by rw [hq, e])) (own_ne ho6 e6 (by decide))
            · have hm := List.mem_singleton.1 hm
              subst hm
              have hne8 : owner a8 ≠ some rM := fun e => by have := hown8' rM e; omega
              have ho11 : Vc.Own hF 3 a8 vs.length c8 iv vs := ho9.keep (fun b hb => by
                obtain ⟨cs, fr, e⟩ := own_tag ho9 hb
                refine hkF2 b (hd9 b _ e) (fun e2 => ?_)
                obtain ⟨cs2, fr2, e3⟩ := own_tag ho6 e2
                have e4 := hk69 b _ e3 (fun e5 => hne8 (by rw [hb, e5]))
                rw [e] at e4; cases e4)
              exact ⟨⟨ho11.sl, fun q hq => own_tag ho11 hq⟩, hne8⟩
          · intro b o hb
            have := hd b o hb
            have e6 := hs26 _ _ (hs2 b o hb)
            exact hk6F b o e6 (by omega) (fun e => by have := hown6 b e; omega)
          · intro b hb
            rcases hownF with e | ⟨r, e, hr⟩
            · exact (h6olt b (by rw [← e]; exact hb)).2
            · rw [e] at hb; cases hb; omega
          · have := hMx9
            rwa [hq1, List.take_length] at this
          · obtain ⟨W2, hW2⟩ := hI.step (i := i1) (j := i2) (a := two ma) (b := two mb) (by rw [List.getElem?_map, hma]; rfl) (fun q m hm hne => by
              rw [List.getElem?_map] at hm
              cases e : M[q]? with
              | none => rw [e] at hm; cases hm
              | some m' => rw [e] at hm; cases hm; exact hmin1 q m' e hne) (M1 := M1.map two) (by rw [hM1, List.map_append, List.map_take, List.map_drop]) (by rw [List.getElem?_map, hmb]; rfl) (fun q m hm hne => by
              rw [List.getElem?_map] at hm
              cases e : M1[q]? with
              | none => rw [e] at hm; cases hm
              | some m' => rw [e] at hm; cases hm; exact hmin2 q m' e hne)
            refine ⟨W2, k, ?_⟩
            rw [hvs, List.map_append, hM2, List.map_append, List.map_take, List.map_drop]
            exact hW2
      · have hDe : D = lens l := by
          rcases hinv with ⟨_, e⟩ | ⟨W, k, hI⟩
          · exact e
          · have h1 := hI.perm.length_eq
            have h2 := hI.len
            simp only [List.length_map] at h1
            have hk0 : k = 0 := by omega
            subst hk0
            exact hI.end_ hb2'
        conv => whnf
        exact ⟨rM, mx, rfl, by omega, by omega, by rw [← hDe]; exact hD, hs2, fun q hq => by rw [← hDe]; exact mx_le hMx (by omega)⟩
end Go.Proofs.YtikpfffhcjlcjaaGreat
