import Derived.Test.YtlkpgjicpjjlcaaGreatDoorTileHash
import Derived.Test.YtlkpgjicpjjlcaaGreatDoorTileRGr
/- A tile's hashes, as the document tells them. -/
set_option linter.unusedSimpArgs false
namespace Go.Proofs.YtlkpgjicpjjlcaaGreatDoor
open Go Go.Vc Go.Tile Go.Sha Go.Mk
set_option maxRecDepth 20000
set_option linter.unusedVariables false
theorem refroot_spec : ∀ (n : Nat) {h : Heap} {t : Nat} {a : Option Addr} {c : Nat} {l : List ByteArray} (s : Sl h a n Value.string l) (hn : n ≤ 65536) (hnc : n ≤ c) (hx : ∀ x ∈ l, x.size ≤ 274877906944),
    CallSpec Tryz.prog 47 #[.slice a n c] h t (fun v h' t' => v = .string (rt ndB emB l) ∧ Vc.Sub h h') := by
  intro n
  induction n using Nat.strongRecOn with
  | ind n ih =>
    intro h t a c l s hn hnc hx
    have hE : emB.size ≤ 274877906944 := by rw [emB_size]; decide
    have hll := s.1
    refine Go.Vc.spec_of_vc (fn := Tryz.f47) Tryz.func47 rfl (by kernel_rfl) (by kernel_rfl) (Nat.le_of_ble_eq_true rfl) ?_
    intro hd
    conv => whnf
    refine br (fun hb1 => ?_) (fun hb1 => ?_)
    · have : l = [] := List.length_eq_zero_iff.1 (by omega)
      subst this
      conv => whnf
      refine (refOne_spec ByteArray.empty (by decide) _ _).mono ?_
      rintro _ h2 t2 hd2 ht2 ⟨rfl, hs2⟩
      conv => whnf
      exact ⟨by rw [rt_nil]; rfl, hs2⟩
    · conv => whnf
      refine br (fun hb2 => ?_) (fun hb2 => ?_)
      · have h1 : n = 1 := by omega
        obtain ⟨x, rfl⟩ : ∃ x, l = [x] := List.length_eq_one_iff.1 (by omega)
        conv => whnf
        repeat (first | ((with_reducible apply Go.Vc.sl_ix); (focus with_reducible assumption); (focus exact And.intro (by omega) (by omega)); intro xI bI offI hxI hcI; conv => whnf) | ((with_reducible apply Go.Vc.cell_i); (focus assumption); conv => whnf))
        have e : x = xI := Option.some.inj hxI
        subst e
        exact ⟨by rw [rt_one], Sub.refl _⟩
      · conv => whnf
        refine (refsplit_spec n (by omega) (by omega) _ _).mono ?_
        rintro _ _ _ _ _ ⟨rfl, rfl, rfl⟩
        have hp := sp_pos n
        have hlt := sp_lt (n := n) (by omega)
        have hrt := rt_two ndB emB (l := l) (by omega)
        rw [hll] at hrt
        rw [hrt]
        generalize hk : sp n = k at *
        refine Go.Vc.draw_intro [⟨0, false, false, false, 0⟩, ⟨1, false, false, false, 0⟩, ⟨2, false, false, false, 3⟩, ⟨4, false, true, false, 0⟩, ⟨5, false, true, false, 0⟩, ⟨6, false, true, false, 48⟩, ⟨3, true, false, true, 7⟩, ⟨7, true, false, false, 127⟩, ⟨8, true, false, false, 255⟩, ⟨9, false, false, false, 511⟩] (hs := h) (hsub := (Sub.refl _)) (hm := by kernel_rfl) (hpl := by kernel_rfl) ?_
        conv => whnf
        conv => whnf
        repeat (first | ((with_reducible refine And.intro (And.intro ?_ ?_) ?_); (focus omega); (focus omega); conv => whnf) | (intro _ _; conv => whnf))
        rename_i a6 ha6
        rw [Int.toNat_natCast] at ha6 ⊢
        have s6 : Sl h a6 (n - k) Value.string (l.drop k) := s.drop (by omega) hnc ha6
        refine (ih k (by omega) (s.take (by omega)) (by omega) (by omega) (fun x hx' => hx x (List.mem_of_mem_take hx'))).mono ?_
        rintro _ h2 t2 hd2 ht2 ⟨rfl, hs2⟩
        conv => whnf
        refine ⟨hs2, ?_⟩
        conv => whnf
        refine (ih (n - k) (by omega) (s6.sub hs2) (by omega) (by omega) (fun x hx' => hx x (List.mem_of_mem_drop hx'))).mono ?_
        rintro _ h3 t3 hd3 ht3 ⟨rfl, hs3⟩
        have hz := fun (m : List ByteArray) (hm : ∀ x ∈ m, x.size ≤ 274877906944) => rt_size ndB emB (M := 274877906944) (nd_le _ (by decide)) hE _ m rfl hm
        conv => whnf
        refine (refnode_spec _ _ (hz _ (fun x hx' => hx x (List.mem_of_mem_take hx'))) (hz _ (fun x hx' => hx x (List.mem_of_mem_drop hx'))) _ _).mono ?_
        rintro _ h4 t4 hd4 ht4 ⟨rfl, hs4⟩
        conv => whnf
        exact ⟨rfl, hs2.trans (hs3.trans hs4)⟩
theorem rhashes_spec {h : Heap} {t : Nat} {a : Option Addr} {n c : Nat} {L : List ByteArray} (s : Sl h a n Value.string L) (hn : n ≤ 65536) (hnc : n ≤ c) (hx : ∀ x ∈ L, x.size ≤ 1000) (lv ix wd : Int) :
    CallSpec Tryz.prog 17 #[.slice a n c, .agg #[.int .i64 lv, .int .i64 ix, .int .i64 wd]] h t (fun v h' t' => v = .tuple #[.string (hashV L lv ix wd).1, .int .i64 (hashV L lv ix wd).2] ∧ Vc.Sub h h' ∧ t ≤ t') := by
  have hL : L.length = n := s.1
  refine Go.Vc.spec_of_vc (fn := Tryz.f17) Tryz.func17 rfl (by kernel_rfl) (by kernel_rfl) (Nat.le_of_ble_eq_true rfl) ?_
  intro hd
  conv => whnf
  repeat (first | ((with_reducible apply Go.Vc.ldrow); (focus ((repeat (first | with_reducible assumption | with_reducible exact Go.Vc.hset_same _ _ _ | with_reducible refine (Go.Vc.hset_ne _ _ (by omega)).trans ?_)); done)); (focus exact rfl); rintro _ rfl; conv => whnf) | (intro _ _; conv => whnf))
  rename_i r3 hr3
  have hsub0 := hd.sub_new hr3 (.cells #[.int .i64 lv, .int .i64 ix, .int .i64 wd] 30)
  refine (rright_spec lv ix wd).mono ?_
  rintro _ g t1 hd1 ht1 ⟨rfl, hs1, _⟩
  have g3 := hs1 _ _ (hset_same h r3 (.cells #[.int .i64 lv, .int .i64 ix, .int .i64 wd] 30 (0, 0)))
  have gS := hsub0.trans hs1
  have gs := s.sub gS
  clear hs1 hsub0
  by_cases hR : RightC lv ix wd
  · rw [decide_eq_true hR]
    conv => whnf
    repeat (first | ((with_reducible apply Go.Vc.ld_i); (focus ((repeat (first | with_reducible assumption | with_reducible exact Go.Vc.hset_same _ _ _ | with_reducible refine (Go.Vc.hset_ne _ _ (by omega)).trans ?_)); done)); (focus exact rfl); conv => whnf))
    refine br (fun hb1 => ?_) (fun hb1 => ?_)
    · conv => whnf
      refine ⟨?_, gS, by omega⟩
      unfold hashV
      rw [if_neg (by omega)]
      rfl
    · have hR' := hR
      unfold RightC at hR'
      obtain ⟨I, rfl⟩ := Int.eq_ofNat_of_zero_le hR'.2.2.1
      obtain ⟨W, rfl⟩ := Int.eq_ofNat_of_zero_le (show 0 ≤ wd by omega)
      conv => whnf
      repeat (first | ((with_reducible apply Go.Vc.ld_i); (focus ((repeat (first | with_reducible assumption | with_reducible exact Go.Vc.hset_same _ _ _ | with_reducible refine (Go.Vc.hset_ne _ _ (by omega)).trans ?_)); done)); (focus exact rfl); conv => whnf))
      refine (power_spec lv (by omega)).mono ?_
      rintro _ g4 t4 _ _ ⟨rfl, hge, hte⟩
      have hge := hge.symm
      have hte := hte.symm
      subst hge hte
      obtain ⟨zP, hz⟩ : ∃ zP, zP = Tile.sizeOf lv := ⟨_, rfl⟩
      have hzP0 : 1 ≤ zP := by rw [hz]; exact Nat.one_le_pow _ _ (by decide)
      have hzP1 : zP ≤ 16777216 := by
        rw [hz]
        exact Nat.le_trans (Nat.pow_le_pow_right (by decide) (show lv.toNat ≤ 3 by omega)) (by decide)
      rw [← hz]
      have hq : (n : Int) / (zP : Int) = ((n / zP : Nat) : Int) := (Int.natCast_ediv _ _).symm
      conv => whnf
      repeat (first | ((with_reducible apply Go.Vc.ld_i); (focus ((repeat (first | with_reducible assumption | with_reducible exact Go.Vc.hset_same _ _ _ | with_reducible refine (Go.Vc.hset_ne _ _ (by omega)).trans ?_)); done)); (focus exact rfl); conv => whnf) | ((with_reducible apply Go.Vc.wr_i64); (focus exact And.intro (by omega) (by omega)); conv => whnf))
      refine Go.Vc.draw_intro [⟨0, false, false, false, 0⟩, ⟨1, false, false, false, 0⟩, ⟨2, false, false, false, 2⟩, ⟨3, false, false, false, 7⟩, ⟨4, false, false, false, 0⟩, ⟨5, false, false, false, 16⟩, ⟨6, false, false, false, 0⟩, ⟨7, false, false, false, 112⟩, ⟨8, false, false, false, 255⟩] (hs := g) (hsub := (Sub.refl _)) (hm := by kernel_rfl) (hpl := by kernel_rfl) ?_
      conv => whnf
      conv => whnf
      repeat (first | ((with_reducible apply Go.Vc.ld_i); (focus ((repeat (first | with_reducible assumption | with_reducible exact Go.Vc.hset_same _ _ _ | with_reducible refine (Go.Vc.hset_ne _ _ (by omega)).trans ?_)); done)); (focus exact rfl); conv => whnf) | ((with_reducible apply Go.Vc.wr_i64); (focus exact And.intro (by omega) (by omega)); conv => whnf) | ((with_reducible apply Go.Vc.quo_i64); (focus exact And.intro (by omega) (And.intro (by omega) (by omega))); conv => whnf) | ((with_reducible refine And.intro ?_ (And.intro ?_ ?_)); (focus exact rfl); (focus omega); conv => whnf))
      rw [hq]
      refine br (fun hb2 => ?_) (fun hb2 => ?_)
      · conv => whnf
        refine ⟨?_, gS, by omega⟩
        unfold hashV
        rw [if_pos ⟨hR, by omega⟩, if_pos (by rw [← hz, hL]; omega)]
        rfl
      · have hmul : (I * 256 + W) * zP ≤ n := (Nat.le_div_iff_mul_le (by omega)).1 (by omega)
        conv => whnf
        refine loop_intro (fun (j : Nat) => [(0, .slice a n c), (3, .pointer (some ⟨r3, 0, none⟩)), (6, .int .i64 (zP : Nat)), (7, .int .i64 ((I : Int) * 256)), (8, .string (mkB (hashS L zP (I * 256) j))), (9, .int .i64 ((I * 256 + j : Nat) : Int))])
          (fun j h' t' => j ≤ W ∧ h' r3 = some (.cells #[.int .i64 lv, .int .i64 (I : Nat), .int .i64 (W : Nat)] 30 (0, 0)) ∧ Vc.Sub g h' ∧ t ≤ t') (fun j => W - j) 0 ?_ ?_ ?_
        · refine ⟨rfl, rfl, rfl, rfl, rfl, ?_, trivial⟩
          show Value.int .i64 _ = Value.int .i64 _
          congr 1
        · exact ⟨by omega, g3, Vc.Sub.refl _, by omega⟩
        rintro j e5 g5 t5 hd5 ⟨hj, h53, hs5, ht5⟩
        conv => whnf
        repeat (first | ((with_reducible apply Go.Vc.ld_i); (focus ((repeat (first | with_reducible assumption | with_reducible exact Go.Vc.hset_same _ _ _ | with_reducible refine (Go.Vc.hset_ne _ _ (by omega)).trans ?_)); done)); (focus exact rfl); conv => whnf) | ((with_reducible apply Go.Vc.wr_i64); (focus exact And.intro (by omega) (by omega)); conv => whnf))
        refine br (fun hb3 => ?_) (fun hb3 => ?_)
        · have hjz : (I * 256 + j + 1) * zP ≤ n := Nat.le_trans (Nat.mul_le_mul_right _ (by omega)) hmul
          have hjz2 : (I * 256 + j + 1) * zP = (I * 256 + j) * zP + zP := Nat.succ_mul _ _
          have e1 : ((I * 256 + j : Nat) : Int) * (zP : Int) = (((I * 256 + j) * zP : Nat) : Int) := by push_cast; rfl
          have e2 : (((I * 256 + j : Nat) : Int) + 1) * (zP : Int) = (((I * 256 + j + 1) * zP : Nat) : Int) := by push_cast; rfl
          have hsl := sl_part (s.sub (gS.trans hs5)) (i := (I * 256 + j) * zP) (z := zP) (by omega) hzP0
          have hpl := partR_len hx zP (I * 256 + j)
          have hhl := hashS_len hx zP (I * 256) j
          conv => whnf
          repeat (first | ((with_reducible refine And.intro (And.intro ?_ ?_) ?_); (focus omega); (focus omega); conv => whnf) | (intro _ _; conv => whnf) | ((with_reducible apply Go.Vc.wr_i64); (focus exact And.intro (by omega) (by omega)); conv => whnf))
          rename_i a' ha'
          have eF : (((I * 256 + j : Nat) : Int) * (zP : Int)).toNat = (I * 256 + j) * zP := by rw [e1]; exact Int.toNat_natCast _
          have eE : ((((I * 256 + j : Nat) : Int) + 1) * (zP : Int)).toNat = (I * 256 + j + 1) * zP := by rw [e2]; exact Int.toNat_natCast _
          rw [eF] at ha'
          rw [eF, eE]
          have ha2 : a' = a.map (·.add ((I * 256 + j) * zP)) := by
            rw [ha']
            show cutA a ((I * 256 + j) * zP) 1 c = _
            unfold cutA
            rw [if_neg (by omega), Nat.mul_one]
          rw [← ha2] at hsl
          rw [show (I * 256 + j + 1) * zP - (I * 256 + j) * zP = zP by omega]
          refine (refroot_spec zP hsl (by omega) (by omega) (fun x hxx => Nat.le_trans (hx x (List.mem_of_mem_drop (List.mem_of_mem_take hxx))) (by decide))).mono ?_
          rintro _ g7 t7 hd7 ht7 ⟨rfl, hs7⟩
          have h73 := hs7 _ _ h53
          have hsz1 : (rt ndB emB ((L.drop ((I * 256 + j) * zP)).take zP)).size ≤ 1000 := hpl
          have hsz2 : (mkB (hashS L zP (I * 256) j)).size ≤ j * 1000 := hhl
          conv => whnf
          repeat (first | ((with_reducible apply Go.Vc.wr_i64); (focus exact And.intro (by omega) (by omega)); conv => whnf) | ((with_reducible apply Go.Vc.and_leN); (focus (first | omega | (simp only [ByteArray.size, List.size_toArray, List.length_cons, List.length_nil] at *; omega))); conv => whnf))
          refine round_end (j + 1) (by omega) ⟨rfl, rfl, rfl, rfl, ?_, ?_, trivial⟩ ⟨by omega, h73, hs5.trans hs7, by omega⟩
          · show Value.string (mkB (hashS L zP (I * 256) j) ++ rt ndB emB ((L.drop ((I * 256 + j) * zP)).take zP)) = _
            congr 1
            apply ba_eq
            rw [hashS_succ, ByteArray.data_append, Array.toList_append]
            rfl
          · show Value.int .i64 _ = Value.int .i64 _
            congr 1
        · obtain rfl : j = W := by omega
          conv => whnf
          refine ⟨?_, gS.trans hs5, by omega⟩
          unfold hashV
          rw [if_pos ⟨hR, by omega⟩, if_neg (by rw [← hz, hL]; omega), ← hz]
          rfl
  · rw [decide_eq_false hR]
    conv => whnf
    refine ⟨?_, gS, by omega⟩
    unfold hashV
    rw [if_neg (fun e => hR e.1)]
    rfl
end Go.Proofs.YtlkpgjicpjjlcaaGreatDoor
