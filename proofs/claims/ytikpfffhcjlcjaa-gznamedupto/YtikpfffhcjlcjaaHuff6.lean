import Derived.Test.YtikpfffhcjlcjaaHuff5
import Derived.Test.YtikpfffhcjlcjaaVcC
import Derived.Test.YtikpfffhcjlcjaaHuffPlain
set_option linter.unusedSimpArgs false
namespace Go.Proofs.Ytikpfffhcjlcjaa
open Go Go.Vc Go.Huf
set_option maxRecDepth 10000
set_option linter.unusedVariables false
theorem own_tag {α : Type} {h : Heap} {E : TypeId} {a : Option Addr} {n c b : Nat} {f : α → Value} {l : List α} (o : Vc.Own h E a n c f l) (hb : owner a = some b) : ∃ cs fr, h b = some (.cells cs E fr) := by
  rcases o.2 with ⟨rfl, _⟩ | ⟨b0, off, cs, fr, rfl, _, h1, _⟩
  · cases hb
  · cases hb; exact ⟨cs, fr, h1⟩
theorem own_ne {α : Type} {h : Heap} {E : TypeId} {a : Option Addr} {n c b : Nat} {f : α → Value} {l : List α} (o : Vc.Own h E a n c f l) {cs : Array Value} {T : TypeId} {fr : Nat × Nat} (hb : h b = some (.cells cs T fr)) (hT : T ≠ E) : owner a ≠ some b := by
  intro e
  obtain ⟨cs2, fr2, h2⟩ := own_tag o e
  rw [hb] at h2
  cases h2
  exact hT rfl
def kd : Option (Nat × Nat × Nat) → Value
  | none => .slice none 0 0
  | some p => .slice (some ⟨p.1, 0, none⟩) 2 2
def pr (p : Nat × Nat) : Array Value := #[.int .i64 (p.1 : Nat), .int .i64 (p.2 : Nat)]
def W0len (l : List Int) : Nat := (srt0 l).length
def TreeI (l : List Int) (i rM t t2 : Nat) (h : Heap) (W : List Nd) (KB : List (Nat × Nat × Nat)) (aw : Option Addr) (cw : Nat) (ak : Option Addr) (ck : Nat) (h' : Heap) (t' : Nat) : Prop :=
  t2 ≤ t' ∧ WI W (i + KB.length) ∧ KB.map (·.2) ++ merge (W.length - 1) W (i + KB.length) = merge (W0len l - 1) (srt0 l) i ∧ W.length + KB.length = W0len l ∧ (W.length = 1 → ∀ x ∈ W, i ≤ x.2) ∧ (1 ≤ W0len l → 1 ≤ W.length) ∧
          h' rM = some (.cells ((List.replicate i 0).map (Value.int .i64)).toArray 3 (0, 0)) ∧ Vc.Own h' 31 ak (i + KB.length) ck kd (List.replicate i none ++ KB.map some) ∧ Vc.Own h' 160 aw (W.length * 3) (cw * 3) id (W.flatMap nd) ∧
          (∀ p ∈ KB, h' p.1 = some (.cells (pr p.2) 3 (0, 0))) ∧ Vc.Sub h h' ∧ (∀ b, owner aw = some b → t ≤ b) ∧ (∀ b, owner ak = some b → t ≤ b)
def dq (D : List Int) (p : Nat × Nat) (x : Int) : Nat → List Int
  | 0 => D
  | 1 => D.set p.1 x
  | _ => (D.set p.1 x).set p.2 x
theorem dq_len (D : List Int) (p : Nat × Nat) (x : Int) (q : Nat) : (dq D p x q).length = D.length := by
  match q with
  | 0 => rfl
  | 1 => simp [dq]
  | q + 2 => simp [dq]
theorem dq_get {D : List Int} {p : Nat × Nat} {x d : Int} {q n : Nat} (h : D[n]? = some d) (h1 : p.1 < n) (h2 : p.2 < n) : (dq D p x q)[n]? = some d := by
  match q with
  | 0 => exact h
  | 1 => simp only [dq]; rw [List.getElem?_set_ne (by omega)]; exact h
  | q + 2 => simp only [dq]; rw [List.getElem?_set_ne (by omega), List.getElem?_set_ne (by omega)]; exact h
theorem tree_spec {h : Heap} {t n c : Nat} {a : Option Addr} {l : List Int} (s : Sl h a n (Value.int .i64) l) (hn : n ≤ 300) (hl : ∀ x ∈ l, 0 ≤ x ∧ x ≤ 2 ^ 40) :
    CallSpec Try.prog 94 #[.slice a n c] h t (fun v h' t' => ∃ b, v = .slice (some ⟨b, 0, none⟩) n n ∧ t ≤ b ∧ t ≤ t' ∧ Vc.Own h' 3 (some ⟨b, 0, none⟩) n n (Value.int .i64) (lens l) ∧ Vc.Sub h h') := by
  have hll : l.length = n := s.1
  refine Go.Vc.spec_of_vc (fn := Try.f94) Try.func94 rfl (by kernel_rfl) (by kernel_rfl) (Nat.le_of_ble_eq_true rfl) ?_
  intro hd
  conv => whnf
  repeat (first | ((with_reducible apply Go.Vc.mk_b); (focus exact And.intro (by omega) (by omega)); (focus exact rfl); (focus omega); intro rM csM hrM hcsM; (first | (replace hcsM := hcsM.trans (Go.Vc.zc (Value.int .i64) 0 _)) | (replace hcsM := hcsM.trans (Go.Vc.zc Go.Vc.bv 0 _)) | (replace hcsM := hcsM.trans (Go.Vc.zc Value.string ByteArray.empty _))); subst hcsM; conv => whnf))
  refine mk_b (b := 24) ⟨by omega, by omega⟩ (by decide) (by omega) ?_
  intro rk cs hrk hcs
  replace hcs : cs = ((List.replicate n none).map kd).toArray := hcs.trans (zc kd none n)
  subst hcs
  conv => whnf
  have hl1 : ∀ i x, l[i]? = some x → i < n ∧ 0 ≤ x ∧ x ≤ 2 ^ 40 := fun i x hx => by
    obtain ⟨h1, rfl⟩ := List.getElem?_eq_some_iff.1 hx
    exact ⟨by omega, hl _ (List.getElem_mem h1)⟩
  have hgD : ∀ i x, l[i]? = some x → l.getD i 0 = x := fun i x hx => by rw [List.getD_eq_getElem?_getD, hx]; rfl
  refine loop_intro3 (fun (i : Nat) (aw : Option Addr) (cw : Nat) => [(0, .slice a n c), (3, .slice (some ⟨rM, 0, none⟩) n n), (4, .slice aw (baseK l i).length cw), (5, .slice (some ⟨rk, 0, none⟩) n n), (24, .slice a n c), (25, .int .i64 (n : Nat)), (26, .int .i64 (i : Nat))])
    (fun i aw cw h' t' => i ≤ n ∧ rk < t' ∧ h' rM = some (.cells ((List.replicate n 0).map (Value.int .i64)).toArray 3 (0, 0)) ∧ h' rk = some (.cells ((List.replicate n none).map kd).toArray 31 (0, 0)) ∧ Vc.Own h' 160 aw ((baseK l i).length * 3) (cw * 3) id ((baseK l i).flatMap nd) ∧ (∀ k, k < t → h' k = h k) ∧ ∀ b, owner aw = some b → t ≤ b) (fun i _ _ => n - i) 0 none 0 ⟨rfl, rfl, rfl, rfl, rfl, rfl, rfl, trivial⟩
    ⟨by omega, by omega, by rw [hset_ne _ _ (by omega)]; exact hset_same _ _ _, hset_same _ _ _, ⟨rfl, .inl ⟨rfl, rfl, rfl⟩⟩, fun k hk => by rw [hset_ne _ _ (by omega), hset_ne _ _ (by omega)], fun b hb => by cases hb⟩ ?_
  rintro i aw cw g h1 t1 hd1 ⟨hin, ht1, hbM, hbk, hoW, hfr, hown⟩
  have hs1 : Vc.Sub h h1 := fun b o hb => by rw [hfr b (hd b o hb)]; exact hb
  have s1 := s.sub hs1
  conv => whnf
  refine br (fun hb => ?_) (fun hb => ?_)
  · conv => whnf
    repeat (first | ((with_reducible apply Go.Vc.sl_ix); (focus with_reducible assumption); (focus exact And.intro (by omega) (by omega)); intro xI bI offI hxI hcI; conv => whnf) | ((with_reducible apply Go.Vc.cell_i); (focus assumption); conv => whnf))
    have hxi : l[i]? = some xI := hxI
    have hx2 := hl1 i xI hxi
    have hbs := baseK_succ l i
    rw [hgD i xI hxi] at hbs
    have hbl := baseK_len l i
    refine br (fun hb2 => ?_) (fun hb2 => ?_)
    · conv => whnf
      repeat (first | (intro _ _; conv => whnf))
      rename_i rb hrb
      rw [if_pos hb2] at hbs
      have hd2 := hd1.set rb (.cells (nd (xI, i)).toArray 160 (0, 0)) (rb + 1) (by omega) (by omega)
      refine app_nd (n := (baseK l i).length) (m := 1) (hoW.keep (fun b hb => hset_ne _ _ (by obtain ⟨cs, fr, e⟩ := own_tag hoW hb; have := hd1 b _ e; omega))) (vl_sl (L := nd (xI, i)) (hset_same _ _ _) rfl) rfl (by omega) hd2 ?_
      intro a' c' h' t' ho' ht' hd' hk' hown'
      have hnl : (baseK l (i + 1)).length = (baseK l i).length + 1 := by rw [hbs, List.length_append]; rfl
      have hkeep : ∀ b o, h1 b = some o → (∀ cs fr, o ≠ .cells cs 160 fr) → h' b = some o := fun b o hb hne => by
        have h3 := hd1 b _ hb
        rw [hk' b (by omega) (fun e => by obtain ⟨cs, fr, e2⟩ := own_tag hoW e; rw [hb] at e2; exact hne cs fr (Option.some.inj e2)), hset_ne _ _ (by omega)]
        exact hb
      conv => whnf
      repeat (first | ((with_reducible apply Go.Vc.wr_i64); (focus exact And.intro (by omega) (by omega)); conv => whnf))
      refine round_end3 (i + 1) a' c' (by omega) ⟨rfl, rfl, by rw [hnl]; rfl, rfl, rfl, rfl, rfl, trivial⟩ ⟨by omega, by omega, hkeep _ _ hbM (fun _ _ e => by cases e), hkeep _ _ hbk (fun _ _ e => by cases e), ?_, fun k hk => ?_, fun b hb => ?_⟩
      · rw [hnl, hbs, List.flatMap_append]
        exact ho'
      · have hq := hfr k hk
        rw [← hq, hk' k (by omega) (fun e => by have := hown _ e; omega), hset_ne _ _ (by omega)]
      · rcases hown' with e | ⟨r, e, hr⟩
        · exact hown b (by rw [← e]; exact hb)
        · rw [e] at hb; cases hb; omega
    · conv => whnf
      repeat (first | ((with_reducible apply Go.Vc.wr_i64); (focus exact And.intro (by omega) (by omega)); conv => whnf))
      rw [if_neg hb2, List.append_nil] at hbs
      exact round_end3 (i + 1) aw cw (by omega) ⟨rfl, rfl, by rw [hbs]; rfl, rfl, rfl, rfl, rfl, trivial⟩ ⟨by omega, by omega, hbM, hbk, by rw [hbs]; exact hoW, hfr, hown⟩
  · conv => whnf
    have hie : i = n := by omega
    subst hie
    have hbase : baseK l i = base l := by rw [← hll]; exact baseK_all l
    rw [hbase] at hoW
    rw [hbase]
    refine br (fun hb2 => ?_) (fun hb2 => ?_)
    · obtain ⟨x, hx⟩ : ∃ x, base l = [x] := List.length_eq_one_iff.1 (by omega)
      have hxb := base_mem.1 (show x ∈ base l by rw [hx]; simp)
      have hone := lens_one hx
      rw [hx] at hoW
      have e1 : (base l).length = 1 := by omega
      simp only [e1, hx]
      conv => whnf
      refine slW_ix (W := 3) (n := 1) (i := 0) hoW.sl nd_len (by decide) (by omega) ?_
      intro y b off hy ha hrow
      have hy2 : x = y := by simpa using hy
      subst hy2
      conv => whnf
      refine ⟨_, hrow.cell (j := 1) rfl, ?_⟩
      conv => whnf
      repeat (first | ((with_reducible apply Go.Vc.own_ix); (focus exact And.intro (by omega) (by omega)); conv => whnf) | ((with_reducible apply Go.Vc.ar_st); (focus ((repeat (first | with_reducible assumption | with_reducible exact Go.Vc.hset_same _ _ _ | with_reducible refine (Go.Vc.hset_ne _ _ (by omega)).trans ?_)); done)); (focus exact rfl); (focus exact rfl); (focus (first | omega | (simp; done) | (simp; omega))); (focus exact rfl); intro heqA; (conv => whnf); intro cA hcA; rw [heqA] at hcA; clear heqA; subst hcA; conv => whnf))
      exact ⟨rM, rfl, hrM, by omega, ar_own (by rw [hset_same, hone, hll]; rfl) (by rw [lens_len]; exact hll), fun b o hb => by have := hd b o hb; rw [hset_ne _ _ (by omega)]; exact hs1 b o hb⟩
    · conv => whnf
      have hWI := srt0_wi (l := l) (fun x hx => (hl x hx).2) (by omega)
      have hbl : (base l).length ≤ i := by have := base_le l; omega
      refine (sorta_spec hoW (fun x hx => ?_) (base_nums l) (by omega)).mono ?_
      · have h3 := hWI.le x ((srt0_perm l).mem_iff.2 hx)
        exact ⟨by omega, by omega, by omega⟩
      rintro _ h2 t2 hd2 ht2 ⟨rfl, hoS, rfl, hk2⟩
      have hbM2 : h2 rM = some (.cells ((List.replicate i 0).map (Value.int .i64)).toArray 3 (0, 0)) := by
        rw [hk2 rM (own_ne hoW hbM (by decide))]; exact hbM
      have hbk2 : h2 rk = some (.cells ((List.replicate i none).map kd).toArray 31 (0, 0)) := by
        rw [hk2 rk (own_ne hoW hbk (by decide))]; exact hbk
      have hfr2 : ∀ k, k < t → h2 k = h k := fun k hk => by
        rw [hk2 k (fun e => by have := hown _ e; omega)]; exact hfr k hk
      have hsl : (srt0 l).length = (base l).length := (srt0_perm l).length_eq
      rw [show (base l).foldr ins [] = srt0 l from rfl] at hoS
      have hb2' : W0len l ≠ 1 := by unfold W0len; omega
      have hm0 : (base l).length = W0len l := hsl.symm
      rw [hm0] at hoS ⊢
      have hoK : Vc.Own h2 31 (some ⟨rk, 0, none⟩) i i kd (List.replicate i none) := ar_own hbk2 (by simp)
      conv => whnf
      refine loop_intro6 (fun (W : List Nd) (KB : List (Nat × Nat × Nat)) (aw : Option Addr) (cw : Nat) (ak : Option Addr) (ck : Nat) => [(0, .slice a i c), (3, .slice (some ⟨rM, 0, none⟩) i i), (4, .slice aw W.length cw), (5, .slice ak (i + KB.length) ck), (8, .func (.func 105) #[] #[])])
        (fun W KB aw cw ak ck h' t' => TreeI l i rM t t2 h W KB aw cw ak ck h' t') (fun W _ _ _ _ _ => W.length) (srt0 l) [] aw cw (some ⟨rk, 0, none⟩) i ⟨rfl, rfl, rfl, rfl, rfl, trivial⟩
        ⟨Nat.le_refl _, by rw [← hll]; exact hWI, rfl, rfl, fun e => absurd e hb2', fun e => e, hbM2, by simpa using hoK, hoS, fun p hp => by simp at hp, fun b o hb => by rw [hfr2 b (hd b o hb)]; exact hb, hown, fun b hb => (show rk = b by simpa [owner] using hb) ▸ (by omega : t ≤ rk)⟩ ?_
      clear hoS hoW hbk2 hbM2 hfr2 hbk hbM hfr hown hoK hd2 hd1 hk2 s1 hs1
      rintro W KB aw cw ak ck g h3 t3 hd3 ⟨ht3, hwi, hmg, hlen, hroot, hnz, hbM, hoK, hoW, hKB, hfr, hownW, hownK⟩
      conv => whnf
      refine br (fun hb3 => ?_) (fun hb3 => ?_)
      · obtain ⟨x, y, r, rfl⟩ : ∃ x y r, W = x :: y :: r := by
          match W, hb3 with
          | x :: y :: r, _ => exact ⟨x, y, r, rfl⟩
          | [x], h => simp at h
          | [], h => simp at h
        conv => whnf
        have hx := hwi.le x (by simp)
        have hy := hwi.le y (by simp)
        have hls : (x :: y :: r).length = r.length + 2 := rfl
        have hr2 : W0len l ≤ 300 := by omega
        refine Go.Vc.draw_intro [⟨0, false, true, false, 0⟩, ⟨1, false, true, false, 1⟩, ⟨2, false, true, false, 3⟩, ⟨3, false, true, false, 7⟩, ⟨4, false, true, false, 0⟩, ⟨5, false, true, false, 16⟩, ⟨6, false, true, false, 48⟩, ⟨7, false, true, false, 112⟩, ⟨8, false, true, false, 255⟩, ⟨9, false, true, false, 0⟩, ⟨10, false, true, false, 512⟩, ⟨11, false, true, false, 2047⟩, ⟨12, true, false, true, 0⟩, ⟨13, true, false, false, 8191⟩] (hs := h3) (hsub := (Sub.refl h3)) (hm := by kernel_rfl) (hpl := by kernel_rfl) ?_
        conv => whnf
        conv => whnf
        repeat (first | ((with_reducible refine And.intro (And.intro ?_ ?_) ?_); (focus omega); (focus omega); conv => whnf))
        refine (slW_ix (W := 3) (n := (x :: y :: r).length) (i := 0) hoW.sl nd_len (by decide) (by omega) ?_).2
        intro z b0 off0 hz ha0 hrow0
        have hz2 : x = z := by simpa using hz
        subst hz2
        conv => whnf
        refine ⟨_, hrow0.cell0 rfl, ?_⟩
        conv => whnf
        repeat (first | ((with_reducible refine And.intro (And.intro ?_ ?_) ?_); (focus omega); (focus omega); conv => whnf))
        refine (slW_ix (W := 3) (n := (x :: y :: r).length) (i := 1) hoW.sl nd_len (by decide) (by omega) ?_).2
        intro z b1 off1 hz ha1 hrow1
        have hz2 : y = z := by simpa using hz
        subst hz2
        conv => whnf
        refine ⟨_, hrow1.cell0 rfl, ?_⟩
        conv => whnf
        repeat (first | (intro _ _; conv => whnf) | ((with_reducible apply Go.Vc.wr_i64); (focus exact And.intro (by omega) (by omega)); conv => whnf))
        rename_i rb hrb
        refine ⟨hd3.sub_new (by omega) _, ?_⟩
        conv => whnf
        repeat (first | ((with_reducible apply Go.Vc.strow); (focus ((repeat (first | with_reducible assumption | with_reducible exact Go.Vc.hset_same _ _ _ | with_reducible refine (Go.Vc.hset_ne _ _ (by omega)).trans ?_)); done)); (focus exact rfl); (focus exact rfl); (focus exact rfl); rintro _ rfl; conv => whnf))
        generalize hh4 : hset (hset h3 rb _) rb _ = h4
        have hb4 : h4 rb = some (.cells (nd (x.1 + y.1, i + KB.length)).toArray 160 (0, 0)) := by rw [← hh4, hset_same]; rfl
        have hk4 : ∀ k, k ≠ rb → h4 k = h3 k := fun k hk => by rw [← hh4, hset_ne _ _ hk, hset_ne _ _ hk]
        have hd4 : Dom h4 (rb + 1) := by rw [← hh4]; exact (hd3.set rb _ (rb + 1) (by omega) (by omega)).set rb _ (rb + 1) (by omega) (by omega)
        clear hh4
        have hs34 : Vc.Sub h3 h4 := fun b o hb => by rw [hk4 b (by have := hd3 b o hb; omega)]; exact hb
        have hoW4 := Own.fr hoW (h' := h4) (fun b o _ hb => hs34 b o hb)
        have hoK4 := Own.fr hoK (h' := h4) (fun b o _ hb => hs34 b o hb)
        refine Go.Vc.draw_intro [⟨0, false, true, false, 0⟩, ⟨1, false, false, false, 0⟩, ⟨2, false, false, false, 2⟩, ⟨3, false, false, false, 6⟩, ⟨4, false, false, false, 14⟩, ⟨5, false, false, false, 0⟩, ⟨6, false, false, false, 32⟩, ⟨7, false, false, false, 96⟩, ⟨8, false, false, false, 224⟩, ⟨9, true, false, true, 510⟩, ⟨10, true, false, true, 1022⟩, ⟨11, true, false, false, 2047⟩, ⟨12, false, false, false, 4095⟩] (hs := h4) (hsub := (Sub.refl h4)) (hm := by kernel_rfl) (hpl := by kernel_rfl) ?_
        conv => whnf
        conv => whnf
        repeat (first | ((with_reducible refine And.intro (And.intro ?_ ?_) ?_); (focus omega); (focus omega); conv => whnf))
        refine (slW_ix (W := 3) (n := (x :: y :: r).length) (i := 0) hoW4.sl nd_len (by decide) (by omega) ?_).2
        intro z b0 off0 hz ha0 hrow0
        have hz2 : x = z := by simpa using hz
        subst hz2
        conv => whnf
        refine ⟨_, hrow0.cell (j := 1) rfl, ?_⟩
        conv => whnf
        repeat (first | ((with_reducible refine And.intro (And.intro ?_ ?_) ?_); (focus omega); (focus omega); conv => whnf))
        refine (slW_ix (W := 3) (n := (x :: y :: r).length) (i := 1) hoW4.sl nd_len (by decide) (by omega) ?_).2
        intro z b1 off1 hz ha1 hrow1
        have hz2 : y = z := by simpa using hz
        subst hz2
        conv => whnf
        refine ⟨_, hrow1.cell (j := 1) rfl, ?_⟩
        conv => whnf
        repeat (first | (intro _ _; conv => whnf))
        rename_i rp hrp
        refine ⟨hd4.sub_new (by omega) _, ?_⟩
        conv => whnf
        repeat (first | (intro _ _; conv => whnf))
        rename_i rq hrq
        have hd5 := hd4.set rp (.cells (pr (x.2, y.2)) 3 (0, 0)) (rp + 1) (by omega) (by omega)
        refine ⟨(hd4.sub_new (by omega) _).trans (hd5.sub_new (by omega) _), ?_⟩
        have hd6 := hd5.set rq (.cells (([some (rp, x.2, y.2)].map kd).toArray) 31 (0, 0)) (rq + 1) (by omega) (by omega)
        conv => whnf
        have hs46 : Vc.Sub h4 (hset (hset h4 rp (.cells (pr (x.2, y.2)) 3 (0, 0))) rq (.cells (([some (rp, x.2, y.2)].map kd).toArray) 31 (0, 0))) := (hd4.sub_new (by omega) _).trans (hd5.sub_new (by omega) _)
        refine app_vc (f := kd) (n := i + KB.length) (m := 1) (l2 := [some (rp, x.2, y.2)]) (inf := Try.types[31]) (z := .slice none 0 0) (E := 31) Try.underlying128 Try.underlying128 rfl (by kernel_rfl) (by kernel_rfl) (by kernel_rfl) rfl (Own.fr hoK4 (fun b o _ hb => hs46 b o hb)) ⟨_, _, rfl, ar_sl (hset_same _ _ _) rfl⟩ (fun y => by cases y <;> rfl) (by
          show (i + KB.length + 1) * 24 ≤ 2 ^ 40
          omega) (by omega) (by show 24 ≤ 1000; decide) hd6 ?_
        intro ak5 ck5 h5 t5 hoK5 ht5 hd7 hk5 hown5
        have hKlt : ∀ b, owner ak = some b → b < t3 := fun b hb => by
          obtain ⟨cs, fr, e⟩ := own_tag hoK hb
          exact hd3 b _ e
        have hk35 : ∀ k, k < t3 → owner ak ≠ some k → h5 k = h3 k := fun k hk hne => by
          rw [hk5 k (by omega) hne, hset_ne _ _ (by omega), hset_ne _ _ (by omega), hk4 k (by omega)]
        have hb5 : h5 rb = some (.cells (nd (x.1 + y.1, i + KB.length)).toArray 160 (0, 0)) := by
          rw [hk5 rb (by omega) (fun e => by have := hKlt _ e; omega), hset_ne _ _ (by omega), hset_ne _ _ (by omega), hb4]
        have hp5 : h5 rp = some (.cells (pr (x.2, y.2)) 3 (0, 0)) := by
          rw [hk5 rp (by omega) (fun e => by have := hKlt _ e; omega), hset_ne _ _ (by omega), hset_same]
        have hWne : ∀ b, owner aw = some b → b < t3 ∧ owner ak ≠ some b := fun b hb => by
          obtain ⟨cs, fr, e⟩ := own_tag hoW hb
          exact ⟨hd3 b _ e, own_ne hoK e (by decide)⟩
        have hoW5 := hoW.keep (h' := h5) (fun b hb => hk35 b (hWne b hb).1 (hWne b hb).2)
        have hM5 : h5 rM = some (.cells ((List.replicate i 0).map (Value.int .i64)).toArray 3 (0, 0)) := by
          rw [hk35 rM (hd3 _ _ hbM) (own_ne hoK hbM (by decide))]; exact hbM
        have hKB5 : ∀ p ∈ KB, h5 p.1 = some (.cells (pr p.2) 3 (0, 0)) := fun p hp => by
          rw [hk35 p.1 (hd3 _ _ (hKB p hp)) (own_ne hoK (hKB p hp) (by decide))]; exact hKB p hp
        have hfr5 : Vc.Sub h h5 := fun k o hk => by
          have := hd k o hk
          rw [hk35 k (hd3 k o (hfr k o hk)) (fun e => by have := hownK _ e; omega)]; exact hfr k o hk
        have hownK5 : ∀ b, owner ak5 = some b → t ≤ b := fun b hb => by
          rcases hown5 with e | ⟨r, e, hr⟩
          · exact hownK b (by rw [← e]; exact hb)
          · rw [e] at hb; cases hb; omega
        clear hk5 hown5 hs46 hd6 hd5 hoK4 hoW4 hs34 hd4 hk4 hb4 hrow0 hrow1 hz
        conv => whnf
        repeat (first | ((with_reducible refine And.intro (And.intro ?_ ?_) ?_); (focus omega); (focus omega); conv => whnf) | ((with_reducible apply Go.Vc.ldrow); (focus ((repeat (first | with_reducible assumption | with_reducible exact Go.Vc.hset_same _ _ _ | with_reducible refine (Go.Vc.hset_ne _ _ (by omega)).trans ?_)); done)); (focus exact rfl); rintro _ rfl; conv => whnf) | (intro _ _; conv => whnf))
        rename_i a2 ha2
        have ho2 := Own.dropW (W := 3) (n := (x :: y :: r).length) (m := 2) hoW5 (by decide) (by omega) ha2
        rw [flat_drop nd_len] at ho2
        replace ho2 : Vc.Own h5 160 a2 (r.length * 3) ((cw - 2) * 3) id (r.flatMap nd) := ho2
        have ha3 : ∃ b2 off2, a2 = some ⟨b2, off2, none⟩ := by
          rw [ha2, ha0]
          unfold cutA
          split
          · exact ⟨_, _, rfl⟩
          · exact ⟨_, _, by rw [Option.map_some, addr_add]⟩
        obtain ⟨b2, off2, rfl⟩ := ha3
        have htwo := hwi.ok.two
        have hz3 : okN (x.1 + y.1, i + KB.length) := ⟨by show 0 ≤ x.1 + y.1; omega, by show x.1 + y.1 ≤ _; omega, by show i + KB.length ≤ _; omega⟩
        have hrk2 : ∀ z ∈ r, okN z ∧ z.2 ≠ i + KB.length := fun z hz => by
          have := hwi.le z (by simp [hz])
          exact ⟨⟨by omega, by omega, by omega⟩, by omega⟩
        refine (search_spec (n := r.length) (x := (x.1 + y.1, i + KB.length)) ho2.sl (by omega) htwo.2.2.2 hz3 (fun z hz => (hrk2 z hz).1) (fun z hz => (hrk2 z hz).2)).mono ?_
        rintro _ h6 t6 hd6 ht6 ⟨k, q, rfl, hkr, hins, hs56, _⟩
        have hb6 := hs56 _ _ hb5
        have hfin : ∀ (h9 : Heap) (t9 : Nat) (a9 : Option Addr) (c9 : Nat), t6 ≤ t9 → Dom h9 t9 → (∀ k, k < t6 → h9 k = h6 k) → Vc.Own h9 160 a9 ((r.length + 1) * 3) (c9 * 3) id ((r.take k ++ (x.1 + y.1, i + KB.length) :: r.drop k).flatMap nd) → (∀ b, owner a9 = some b → t ≤ b) →
            TreeI l i rM t t2 h (ins (x.1 + y.1, i + KB.length) r) (KB ++ [(rp, x.2, y.2)]) a9 c9 ak5 ck5 h9 t9 := by
          intro h9 t9 a9 c9 ht9 hd9 hk9 ho9 hown9
          have hs59 : Vc.Sub h5 h9 := fun b o hb => by
            rw [hk9 b (by have := hd7 b o hb; omega)]; exact hs56 b o hb
          have hKBl : i + (KB ++ [(rp, x.2, y.2)]).length = i + KB.length + 1 := by rw [List.length_append]; rfl
          have hil := ins_len (x.1 + y.1, i + KB.length) r
          refine ⟨by omega, by rw [hKBl]; exact hwi.step, ?_, ?_, ?_, fun _ => by rw [hil]; omega, hs59 _ _ hM5, ?_, by rw [hil, ← hins]; exact ho9, ?_, ?_, hown9, hownK5⟩
          · rw [hKBl, hil, List.map_append, List.append_assoc, ← hmg]
            show _ ++ ((x.2, y.2) :: merge (r.length + 1 - 1) _ _) = _ ++ merge ((x :: y :: r).length - 1) (x :: y :: r) _
            rw [hls, show r.length + 2 - 1 = r.length + 1 from rfl, show r.length + 1 - 1 = r.length from rfl, merge]
          · rw [hil, List.length_append]; simp only [List.length_cons, List.length_nil] at *; omega
          · intro hone z hz
            have hr0 : r = [] := List.length_eq_zero_iff.1 (by omega)
            subst hr0
            simp only [ins, List.mem_singleton] at hz
            subst hz
            show i ≤ i + KB.length
            omega
          · rw [hKBl, List.map_append, ← List.append_assoc]
            exact Own.fr hoK5 (fun b o _ hb => hs59 b o hb)
          · intro p hp
            rcases List.mem_append.1 hp with hp | hp
            · exact hs59 _ _ (hKB5 p hp)
            · rw [List.mem_singleton.1 hp]; exact hs59 _ _ hp5
          · exact hfr5.trans hs59
        conv => whnf
        refine Go.Vc.draw_split 1 4 [⟨0, false, false, false, 0⟩, ⟨2, false, true, false, 0⟩, ⟨3, false, true, false, 0⟩, ⟨1, true, false, true, 1⟩, ⟨4, true, false, true, 11⟩, ⟨5, true, false, false, 31⟩, ⟨6, false, false, false, 63⟩] [⟨0, false, true, false, 0⟩, ⟨2, false, true, false, 0⟩, ⟨3, false, false, false, 0⟩, ⟨4, true, false, true, 8⟩, ⟨1, true, false, true, 25⟩, ⟨5, true, false, false, 31⟩, ⟨6, false, false, false, 63⟩] h6 (by kernel_rfl) (by kernel_rfl) (by kernel_rfl) (by kernel_rfl) (Sub.refl h6) ?_ ?_
        · conv => whnf
          repeat (first | ((with_reducible apply Go.Vc.ldrow); (focus ((repeat (first | with_reducible assumption | with_reducible exact Go.Vc.hset_same _ _ _ | with_reducible refine (Go.Vc.hset_ne _ _ (by omega)).trans ?_)); done)); (focus exact rfl); rintro _ rfl; conv => whnf))
          refine (clone_spec (n := r.length) (ho2.sl.sub hs56) (by omega)).mono ?_
          rintro _ h7 t7 hd8 ht7 ⟨a7, c7, rfl, ho7, _, hk7, b7, hb7, hb7t⟩
          have hs67 : Vc.Sub h6 h7 := fun b o hb => by rw [hk7 b (hd6 b o hb)]; exact hb
          conv => whnf
          refine ⟨hs67, ?_⟩
          conv => whnf
          repeat (first | (intro _ _; conv => whnf))
          rename_i rv hrv
          have hs68 : ∀ o, Vc.Sub h6 (hset h7 rv o) := fun o => hs67.trans (hd8.sub_new hrv o)
          refine ⟨hs68 _, ?_⟩
          obtain ⟨off7, rfl⟩ : ∃ off7, a7 = some ⟨b7, off7, none⟩ := by
            cases a7 with
            | none => cases hb7
            | some q =>
              rcases ho7.2 with ⟨h0, _⟩ | ⟨_, off7, _, _, e, _⟩
              · cases h0
              · cases e; cases hb7; exact ⟨off7, rfl⟩
          have hd9 := hd8.set rv (.cells (nd (x.1 + y.1, i + KB.length)).toArray 160 (0, 0)) (rv + 1) (by omega) (by omega)
          have hb7lt : b7 < t7 := by
            obtain ⟨cs, fr, e⟩ := own_tag ho7 rfl
            exact hd8 _ _ e
          conv => whnf
          refine (insert_spec (n := r.length) (k := k) (x := (x.1 + y.1, i + KB.length)) (rv := rv) (Own.fr ho7 (fun b o _ hb => hd8.sub_new hrv _ b o hb)) (by omega) hkr (hset_same _ _ _) (by omega)).mono ?_
          rintro _ h9 t9 hd10 ht9 ⟨a9, c9, rfl, ho9, _, hk9, hown9⟩
          conv => whnf
          have hI := hfin h9 t9 a9 c9 (by omega) hd10 (fun q hq => by rw [hk9 q (by omega) (by omega), hset_ne _ _ (by omega), hk7 q hq]) ho9 (fun b hb => by
            rcases hown9 with e | ⟨r, e, hr⟩
            · rw [e] at hb; cases hb; omega
            · rw [e] at hb; cases hb; omega)
          refine round_end6 _ _ a9 c9 ak5 ck5 ?_ ⟨rfl, rfl, ?_, ?_, rfl, trivial⟩ hI
          · rw [ins_len]; show r.length + 1 < r.length + 2; omega
          · rw [ins_len]; rfl
          · rw [List.length_append]; rfl
        · conv => whnf
          repeat (first | ((with_reducible apply Go.Vc.ldrow); (focus ((repeat (first | with_reducible assumption | with_reducible exact Go.Vc.hset_same _ _ _ | with_reducible refine (Go.Vc.hset_ne _ _ (by omega)).trans ?_)); done)); (focus exact rfl); rintro _ rfl; conv => whnf) | (intro _ _; conv => whnf))
          rename_i rv hrv
          refine ⟨hd6.sub_new hrv _, ?_⟩
          have hd8 := hd6.set rv (.cells (nd (x.1 + y.1, i + KB.length)).toArray 160 (0, 0)) (rv + 1) (by omega) (by omega)
          have hs68 := hd6.sub_new hrv (.cells (nd (x.1 + y.1, i + KB.length)).toArray 160 (0, 0))
          conv => whnf
          refine (clone_spec (n := r.length) (ho2.sl.sub (hs56.trans hs68)) (by omega)).mono ?_
          rintro _ h7 t7 hd9 ht7 ⟨a7, c7, rfl, ho7, _, hk7, b7, hb7, hb7t⟩
          refine ⟨fun b o hb => by rw [hk7 b (by have := hd6 b o hb; omega)]; exact hs68 b o hb, ?_⟩
          obtain ⟨off7, rfl⟩ : ∃ off7, a7 = some ⟨b7, off7, none⟩ := by
            cases a7 with
            | none => cases hb7
            | some q =>
              rcases ho7.2 with ⟨h0, _⟩ | ⟨_, off7, _, _, e, _⟩
              · cases h0
              · cases e; cases hb7; exact ⟨off7, rfl⟩
          have hrv7 : h7 rv = some (.cells (nd (x.1 + y.1, i + KB.length)).toArray 160 (0, 0)) := by rw [hk7 rv (by omega)]; exact hset_same _ _ _
          conv => whnf
          refine (insert_spec (n := r.length) (k := k) (x := (x.1 + y.1, i + KB.length)) (rv := rv) ho7 (by omega) hkr hrv7 (by omega)).mono ?_
          rintro _ h9 t9 hd10 ht9 ⟨a9, c9, rfl, ho9, _, hk9, hown9⟩
          conv => whnf
          have hI := hfin h9 t9 a9 c9 (by omega) hd10 (fun q hq => by rw [hk9 q (by omega) (by omega), hk7 q (by omega), hset_ne _ _ (by omega)]) ho9 (fun b hb => by
            rcases hown9 with e | ⟨r, e, hr⟩
            · rw [e] at hb; cases hb; omega
            · rw [e] at hb; cases hb; omega)
          refine round_end6 _ _ a9 c9 ak5 ck5 ?_ ⟨rfl, rfl, ?_, ?_, rfl, trivial⟩ hI
          · rw [ins_len]; show r.length + 1 < r.length + 2; omega
          · rw [ins_len]; rfl
          · rw [List.length_append]; rfl
      · conv => whnf
        refine br (fun hb4 => ?_) (fun hb4 => ?_)
        · conv => whnf
          have hbe : base l = [] := by
            have e1 : W.length = 0 := by omega
            exact List.length_eq_zero_iff.1 (by omega)
          exact ⟨rM, rfl, hrM, by omega, ar_own (by rw [hbM, lens_none hbe, hll]) (by rw [lens_len]; exact hll), hfr⟩
        · obtain ⟨rO, hrO⟩ : ∃ q, q = rM := ⟨_, rfl⟩
          subst hrO
          have hW1 : W.length = 1 := by omega
          obtain ⟨x, rfl⟩ := List.length_eq_one_iff.1 hW1
          have hps : KB.map (·.2) = merge (W0len l - 1) (srt0 l) i := by
            rw [← hmg]; simp [merge]
          have hKn : KB.length = W0len l - 1 := by simp at hlen; omega
          have hroot2 := hroot hW1 x (by simp)
          have hxlt := hwi.ok.lt x (by simp)
          conv => whnf
          repeat (first | ((with_reducible apply Go.Vc.mk_b); (focus exact And.intro (by omega) (by omega)); (focus exact rfl); (focus omega); intro rM csM hrM hcsM; (first | (replace hcsM := hcsM.trans (Go.Vc.zc (Value.int .i64) 0 _)) | (replace hcsM := hcsM.trans (Go.Vc.zc Go.Vc.bv 0 _)) | (replace hcsM := hcsM.trans (Go.Vc.zc Value.string ByteArray.empty _))); subst hcsM; conv => whnf) | ((with_reducible apply Go.Vc.wr_i64); (focus exact And.intro (by omega) (by omega)); conv => whnf))
          have hDS : ∀ (h' : Heap), (∀ k, k ≠ rM → h' k = h3 k) → Vc.Sub h3 h' := fun h' hk b o hb => by rw [hk b (by have := hd3 b o hb; omega)]; exact hb
          refine loop_intro (fun j : Nat => [(0, .slice a i c), (3, .slice (some ⟨rO, 0, none⟩) i i), (4, .slice aw [x].length cw), (5, .slice ak (i + KB.length) ck), (12, .slice (some ⟨rM, 0, none⟩) (i + KB.length) (i + KB.length)), (13, .int .i64 ((i : Int) + (j : Int) - 1))])
            (fun j h' t' => j ≤ KB.length ∧ rM < t' ∧ h' rM = some (.cells ((deepL i (i + KB.length) (KB.map (·.2)) j).map (Value.int .i64)).toArray 3 (0, 0)) ∧ ∀ k, k ≠ rM → h' k = h3 k) (fun j => j) KB.length
            ⟨rfl, rfl, rfl, rfl, rfl, congrArg (Value.int .i64) (by omega), trivial⟩ ⟨Nat.le_refl _, by omega, ?_, fun k hk => hset_ne _ _ hk⟩ ?_
          · rw [hset_same, show deepL i (i + KB.length) (KB.map (·.2)) KB.length = List.replicate (i + KB.length) 0 from by
              have := deepL_end i (i + KB.length) (KB.map (·.2))
              rwa [List.length_map] at this]
            first
              | rfl
              | (simp; omega)
          have hlt3 : ∀ b o, h3 b = some o → b < t3 := hd3
          clear hd3
          rintro j g h5 t5 hd5 ⟨hj, ht5, hD, hk5⟩
          have hs5 := hDS h5 hk5
          have hdl := deepL_len i (i + KB.length) (KB.map (·.2)) j
          conv => whnf
          refine br (fun hb5 => ?_) (fun hb5 => ?_)
          · obtain ⟨j, rfl⟩ : ∃ j', j = j' + 1 := ⟨j - 1, by omega⟩
            have hKj : KB[j]? = some (KB[j]'(by omega)) := List.getElem?_eq_getElem (by omega)
            generalize KB[j]'(by omega) = p at hKj
            have hpm : p ∈ KB := List.mem_of_getElem? hKj
            have hpj : (KB.map (·.2))[j]? = some p.2 := by rw [List.getElem?_map, hKj]; rfl
            have hplt := merge_lt (W0len l - 1) (srt0 l) i (fun x hx => by rw [← hll]; exact hWI.ok.lt x hx) j p.2 (by rw [← hps]; exact hpj)
            have hoK5 := Own.fr hoK (h' := h5) (fun b o _ hb => hs5 b o hb)
            have hKL : (List.replicate i none ++ KB.map some)[i + j]? = some (some p) := by
              rw [List.getElem?_append_right (by simp), List.length_replicate, Nat.add_sub_cancel_left, List.getElem?_map, hKj]; rfl
            have hp5 := hs5 _ _ (hKB p hpm)
            have hx0 : (deepL i (i + KB.length) (KB.map (·.2)) (j + 1))[i + j]? = some ((deepL i (i + KB.length) (KB.map (·.2)) (j + 1))[i + j]'(by omega)) := List.getElem?_eq_getElem (by omega)
            generalize (deepL i (i + KB.length) (KB.map (·.2)) (j + 1))[i + j]'(by omega) = dx at hx0
            have hstep := deepL_step hpj (by omega) hx0
            have eidx : ((i : Int) + ((j + 1 : Nat) : Int) - 1) = ((i + j : Nat) : Int) := by omega
            rw [eidx]
            conv => whnf
            repeat (first | ((with_reducible refine And.intro (And.intro ?_ ?_) ?_); (focus omega); (focus omega); conv => whnf))
            refine (sl_ix hoK5.sl (i := ((i + j : Nat) : Int)) (by omega) ?_).2
            intro z bz offz hz hcz
            have hz2 : some p = z := by
              have : (List.replicate i none ++ KB.map some)[i + j]? = some z := hz
              rw [hKL] at this; exact Option.some.inj this
            subst hz2
            conv => whnf
            refine ⟨_, hcz, ?_⟩
            have hdx := deepL_range hx0
            rw [List.length_map] at hdx
            conv => whnf
            generalize hDD : deepL i (i + KB.length) (KB.map (·.2)) (j + 1) = DD at *
            refine loop_intro (fun q : Nat => [(0, .slice a i c), (3, .slice (some ⟨rO, 0, none⟩) i i), (4, .slice aw [x].length cw), (5, .slice ak (i + KB.length) ck), (12, .slice (some ⟨rM, 0, none⟩) (i + KB.length) (i + KB.length)), (13, .int .i64 ((i + j : Nat) : Int)), (114, .slice (some ⟨p.1, 0, none⟩) 2 2), (115, .int .i64 2), (116, .int .i64 (q : Nat))])
              (fun q h' t' => q ≤ 2 ∧ rM < t' ∧ h' rM = some (.cells ((dq DD p.2 (dx + 1) q).map (Value.int .i64)).toArray 3 (0, 0)) ∧ ∀ k, k ≠ rM → h' k = h3 k) (fun q => 2 - q) 0 ⟨rfl, rfl, rfl, rfl, rfl, rfl, rfl, rfl, rfl, trivial⟩ ⟨by omega, by omega, hD, hk5⟩ ?_
            rintro q g6 h6 t6 hd6 ⟨hq, ht6, hD6, hk6⟩
            have hp6 : h6 p.1 = some (.cells #[.int .i64 ((p.2.1 : Nat) : Int), .int .i64 ((p.2.2 : Nat) : Int)] 3 (0, 0)) := hDS h6 hk6 _ _ (hKB p hpm)
            have hdql : (dq DD p.2 (dx + 1) q).length = i + KB.length := by rw [dq_len]; exact hdl
            have hdqx : (dq DD p.2 (dx + 1) q)[i + j]? = some dx := dq_get hx0 (by omega) (by omega)
            conv => whnf
            refine br (fun hb6 => ?_) (fun hb6 => ?_)
            · have hq2 : q = 0 ∨ q = 1 := by omega
              rcases hq2 with rfl | rfl
              · conv => whnf
                repeat (first | ((with_reducible apply Go.Vc.own_ix); (focus exact And.intro (by omega) (by omega)); conv => whnf) | ((with_reducible apply Go.Vc.ld_i); (focus ((repeat (first | with_reducible assumption | with_reducible exact Go.Vc.hset_same _ _ _ | with_reducible refine (Go.Vc.hset_ne _ _ (by omega)).trans ?_)); done)); (focus exact rfl); conv => whnf) | ((with_reducible apply Go.Vc.ar_ld); (focus ((repeat (first | with_reducible assumption | with_reducible exact Go.Vc.hset_same _ _ _ | with_reducible refine (Go.Vc.hset_ne _ _ (by omega)).trans ?_)); done)); (focus exact rfl); (focus (first | omega | (simp; done) | (simp; omega))); intro xA hxA; conv => whnf))
                have hxe : dx = xA := Option.some.inj (hdqx.symm.trans hxA)
                subst hxe
                conv => whnf
                repeat (first | ((with_reducible apply Go.Vc.own_ix); (focus exact And.intro (by omega) (by omega)); conv => whnf) | ((with_reducible apply Go.Vc.ar_st); (focus ((repeat (first | with_reducible assumption | with_reducible exact Go.Vc.hset_same _ _ _ | with_reducible refine (Go.Vc.hset_ne _ _ (by omega)).trans ?_)); done)); (focus exact rfl); (focus exact rfl); (focus (first | omega | (simp; done) | (simp; omega))); (focus exact rfl); intro heqA; (conv => whnf); intro cA hcA; rw [heqA] at hcA; clear heqA; subst hcA; conv => whnf) | ((with_reducible apply Go.Vc.wr_i64); (focus exact And.intro (by omega) (by omega)); conv => whnf))
                exact round_end 1 (by omega) ⟨rfl, rfl, rfl, rfl, rfl, rfl, rfl, rfl, rfl, trivial⟩ ⟨by omega, by omega, hset_same _ _ _, fun k hk => by rw [hset_ne _ _ hk]; exact hk6 k hk⟩
              · conv => whnf
                repeat (first | ((with_reducible apply Go.Vc.own_ix); (focus exact And.intro (by omega) (by omega)); conv => whnf) | ((with_reducible apply Go.Vc.ld_i); (focus ((repeat (first | with_reducible assumption | with_reducible exact Go.Vc.hset_same _ _ _ | with_reducible refine (Go.Vc.hset_ne _ _ (by omega)).trans ?_)); done)); (focus exact rfl); conv => whnf) | ((with_reducible apply Go.Vc.ar_ld); (focus ((repeat (first | with_reducible assumption | with_reducible exact Go.Vc.hset_same _ _ _ | with_reducible refine (Go.Vc.hset_ne _ _ (by omega)).trans ?_)); done)); (focus exact rfl); (focus (first | omega | (simp; done) | (simp; omega))); intro xA hxA; conv => whnf))
                have hxe : dx = xA := Option.some.inj (hdqx.symm.trans hxA)
                subst hxe
                conv => whnf
                repeat (first | ((with_reducible apply Go.Vc.own_ix); (focus exact And.intro (by omega) (by omega)); conv => whnf) | ((with_reducible apply Go.Vc.ar_st); (focus ((repeat (first | with_reducible assumption | with_reducible exact Go.Vc.hset_same _ _ _ | with_reducible refine (Go.Vc.hset_ne _ _ (by omega)).trans ?_)); done)); (focus exact rfl); (focus exact rfl); (focus (first | omega | (simp; done) | (simp; omega))); (focus exact rfl); intro heqA; (conv => whnf); intro cA hcA; rw [heqA] at hcA; clear heqA; subst hcA; conv => whnf) | ((with_reducible apply Go.Vc.wr_i64); (focus exact And.intro (by omega) (by omega)); conv => whnf))
                exact round_end 2 (by omega) ⟨rfl, rfl, rfl, rfl, rfl, rfl, rfl, rfl, rfl, trivial⟩ ⟨by omega, by omega, hset_same _ _ _, fun k hk => by rw [hset_ne _ _ hk]; exact hk6 k hk⟩
            · have hq2 : q = 2 := by omega
              subst hq2
              conv => whnf
              repeat (first | ((with_reducible apply Go.Vc.wr_i64); (focus exact And.intro (by omega) (by omega)); conv => whnf))
              exact round_end j (by omega) ⟨rfl, rfl, rfl, rfl, rfl, congrArg (Value.int .i64) (by omega), trivial⟩ ⟨by omega, ht6, by rw [← hstep]; exact hD6, hk6⟩
          · have hj0 : j = 0 := by omega
            subst hj0
            conv => whnf
            refine loop_intro (fun q : Nat => [(3, .slice (some ⟨rO, 0, none⟩) i i), (12, .slice (some ⟨rM, 0, none⟩) (i + KB.length) (i + KB.length)), (129, .slice aw [x].length cw), (130, .int .i64 ([x].length : Nat)), (131, .int .i64 (q : Nat))])
              (fun q h' t' => q ≤ 1 ∧ rM < t' ∧ h' rM = some (.cells ((if q = 0 then deepL i (i + KB.length) (KB.map (·.2)) 0 else (deepL i (i + KB.length) (KB.map (·.2)) 0).set x.2 0).map (Value.int .i64)).toArray 3 (0, 0)) ∧ Vc.Sub h3 h') (fun q => 1 - q) 0 ⟨rfl, rfl, rfl, rfl, rfl, trivial⟩ ⟨by omega, by omega, hD, hs5⟩ ?_
            rintro q g6 h6 t6 hd6 ⟨hq, ht6, hD6, hs6⟩
            have hoW6 := Own.fr hoW (h' := h6) (fun b o _ hb => hs6 b o hb)
            have hW1' : [x].length = 1 := rfl
            conv => whnf
            refine br (fun hb6 => ?_) (fun hb6 => ?_)
            · have hq0 : q = 0 := by omega
              subst hq0
              rw [if_pos rfl] at hD6
              conv => whnf
              repeat (first | ((with_reducible refine And.intro (And.intro ?_ ?_) ?_); (focus omega); (focus omega); conv => whnf))
              refine (slW_ix (W := 3) (n := 1) (i := 0) hoW6.sl nd_len (by decide) (by omega) ?_).2
              intro z b0 off0 hz ha0 hrow0
              have hz2 : x = z := by simpa using hz
              subst hz2
              conv => whnf
              refine hrow0.row (W := 3) rfl (by decide) ?_
              conv => whnf
              repeat (first | ((with_reducible apply Go.Vc.own_ix); (focus exact And.intro (by omega) (by omega)); conv => whnf) | ((with_reducible apply Go.Vc.strow); (focus ((repeat (first | with_reducible assumption | with_reducible exact Go.Vc.hset_same _ _ _ | with_reducible refine (Go.Vc.hset_ne _ _ (by omega)).trans ?_)); done)); (focus exact rfl); (focus exact rfl); (focus exact rfl); rintro _ rfl; conv => whnf) | ((with_reducible apply Go.Vc.ld_i); (focus ((repeat (first | with_reducible assumption | with_reducible exact Go.Vc.hset_same _ _ _ | with_reducible refine (Go.Vc.hset_ne _ _ (by omega)).trans ?_)); done)); (focus exact rfl); conv => whnf) | ((with_reducible apply Go.Vc.ar_st); (focus ((repeat (first | with_reducible assumption | with_reducible exact Go.Vc.hset_same _ _ _ | with_reducible refine (Go.Vc.hset_ne _ _ (by omega)).trans ?_)); done)); (focus exact rfl); (focus exact rfl); (focus (first | omega | (simp; done) | (simp; omega))); (focus exact rfl); intro heqA; (conv => whnf); intro cA hcA; rw [heqA] at hcA; clear heqA; subst hcA; conv => whnf) | (intro _ _; conv => whnf) | ((with_reducible apply Go.Vc.wr_i64); (focus exact And.intro (by omega) (by omega)); conv => whnf))
              rename_i rz hrz
              refine round_end 1 (by omega) ⟨rfl, rfl, rfl, rfl, rfl, trivial⟩ ⟨by omega, by omega, ?_, ?_⟩
              · rw [if_neg (by decide)]
                exact hset_same _ _ _
              · intro b o hb
                have := hlt3 b o hb
                repeat rw [hset_ne _ _ (by omega)]
                exact hs6 b o hb
            · have hq1 : q = 1 := by omega
              subst hq1
              rw [if_neg (by decide)] at hD6
              conv => whnf
              have hrO : rO < t3 := hlt3 _ _ hbM
              have hoO : Vc.Own h6 3 (some ⟨rO, 0, none⟩) (i * 1) (i * 1) id ((List.replicate i 0).map (Value.int .i64)) := by
                rw [Nat.mul_one]
                exact Own.conv (Value.int .i64) (g := id) (ar_own (hs6 _ _ hbM) (by simp)) (fun x _ => rfl)
              have hdl : ((deepL i (i + KB.length) (KB.map (·.2)) 0).set x.2 0).length = i + KB.length := by rw [List.length_set, deepL_len]
              refine copy_own (E := 3) (inf := Try.types[3]) (W := 1) (N := i) (C := i) (j := 0) (k := i) Try.underlying31 (by kernel_rfl) (by kernel_rfl) (by decide) hoO ?_ (vl_sl hD6 (by rw [List.length_map, hdl, Nat.mul_one])) (by omega) (by omega) ?_ hd6 ?_
              · unfold cutA
                split
                · rfl
                · rw [Option.map_some, addr_add]
              · rw [List.all_eq_true]
                intro v hv
                obtain ⟨z, _, rfl⟩ := List.mem_map.1 (List.mem_of_mem_take hv)
                rfl
              intro h7 ho7 hd7 hk7
              conv => whnf
              refine ⟨rO, rfl, by omega, by omega, ?_, ?_⟩
              · have hb2' : 2 ≤ (base l).length := by omega
                have hlm := lens_many hb2'
                rw [hll, show (base l).length - 1 = W0len l - 1 from by omega, ← hps, ← hKn] at hlm
                have hcut : (((deepL i (i + KB.length) (KB.map (·.2)) 0).set x.2 0).take i) = lens l := by
                  rw [hlm, List.take_set_of_le (by omega)]
                rw [Nat.zero_mul, Nat.mul_one, Nat.zero_add, Nat.mul_one, List.take_zero, List.nil_append, List.drop_of_length_le (by simp), List.append_nil, ← List.map_take, hcut] at ho7
                exact Own.unmap ho7
              · intro b o hb
                have := hd b o hb
                rw [hk7 b (by simp [owner]; omega)]
                exact hs6 b o (hfr b o hb)
end Go.Proofs.Ytikpfffhcjlcjaa
