/- HuffEven answers true, by its contract. -/
import Derived.Test.YtlnibgkdjmkekaaHuff10
namespace Go.Proofs.Ytlnibgkdjmkekaa
open Go Go.Vc Go.Huf
set_option maxRecDepth 10000
set_option linter.unusedVariables false

theorem HuffEven_spec (h : Heap) (t : Nat) (x : Int) (hx : IntKind.min .u8 ≤ x ∧ x ≤ IntKind.max .u8) (y : Int) (hy : IntKind.min .u16 ≤ y ∧ y ≤ IntKind.max .u16) :
    CallSpec Try.prog 9 #[.int .u8 x, .int .u16 y] h t (fun v h' _ => v = .bool true ∧ Vc.Sub h h') := by
  have hx2 : 0 ≤ x ∧ x ≤ 255 := hx
  have hy2 : 0 ≤ y ∧ y ≤ 65535 := hy
  refine Go.Vc.spec_of_vc (fn := Try.f9) Try.func9 rfl (by kernel_rfl) (by kernel_rfl) (Nat.le_of_ble_eq_true rfl) ?_
  intro hd
  conv => whnf
  refine (examples_spec h t).mono ?_
  rintro _ h1 t1 hd1 ht1 ⟨rfl, hs1⟩
  conv => whnf
  repeat (first | ((with_reducible apply Go.Vc.wr_i64); (focus exact And.intro (by omega) (by omega)); conv => whnf) | ((with_reducible apply Go.Vc.rem_i); (focus omega); conv => whnf) | ((with_reducible refine And.intro ?_ (And.intro ?_ ?_)); (focus exact rfl); (focus omega); conv => whnf))
  obtain ⟨N, hN⟩ : ∃ N : Nat, (N : Int) = 2 + x % 255 := ⟨(2 + x % 255).toNat, by omega⟩
  obtain ⟨c, hc⟩ : ∃ c, c = 1 + y % 1000 := ⟨_, rfl⟩
  refine loop_intro3 (fun (i : Nat) (a' : Option Addr) (c' : Nat) => [(1, .int .u16 y), (5, .bool true), (6, .int .i64 (N : Nat)), (7, .slice a' i c'), (8, .int .i64 (i : Nat))]) (fun i a' c' h' t' => i ≤ N ∧ Vc.Own h' 3 a' i c' (Value.int .i64) (List.replicate i c) ∧ Vc.Sub h h' ∧ t1 ≤ t' ∧ ∀ b, owner a' = some b → t1 ≤ b) (fun i _ _ => N - i) 0 none 0 ⟨rfl, rfl, by rw [hN]; rfl, rfl, rfl, trivial⟩
    ⟨by omega, Own.nil _ _ _, hs1, Nat.le_refl _, fun b hb => by cases hb⟩ ?_
  rintro i a' c' g h2 t2 hd2 ⟨hiN, ho, hs2, ht2, hown⟩
  conv => whnf
  refine br (fun hb1 => ?_) (fun hb1 => ?_)
  · conv => whnf
    repeat (first | (intro _ _; conv => whnf) | ((with_reducible apply Go.Vc.wr_i64); (focus exact And.intro (by omega) (by omega)); conv => whnf) | ((with_reducible apply Go.Vc.rem_i); (focus omega); conv => whnf) | ((with_reducible refine And.intro ?_ (And.intro ?_ ?_)); (focus exact rfl); (focus omega); conv => whnf))
    rename_i rb hrb
    rw [← hc]
    have hd3 := hd2.set rb (.cells ([c].map (Value.int .i64)).toArray 3 (0, 0)) (rb + 1) (by omega) (by omega)
    refine app_int (n := i) (m := 1) (l2 := [c]) (Own.fr ho (fun b o _ hb => hd2.sub_new hrb _ b o hb)) (ar_sl (hset_same _ _ _) rfl) (by omega) hd3 ?_
    intro a3 c3 h3 t3 ho3 ht3 hd4 hk3 hown3
    conv => whnf
    repeat (first | ((with_reducible apply Go.Vc.wr_i64); (focus exact And.intro (by omega) (by omega)); conv => whnf))
    refine round_end3 (i + 1) a3 c3 (by omega) ⟨rfl, rfl, rfl, rfl, rfl, trivial⟩ ⟨by omega, ?_, fun b o hb => ?_, by omega, fun b hb => ?_⟩
    · rw [List.replicate_succ']
      exact ho3
    · have := hd b o hb
      rw [hk3 b (by omega) (fun e => by have := hown b e; omega), hset_ne _ _ (by omega)]
      exact hs2 b o hb
    · rcases hown3 with e | ⟨r, e, hr⟩
      · exact hown b (by rw [← e]; exact hb)
      · rw [e] at hb; cases hb; omega
  · have hiE : i = N := by omega
    subst hiE
    have hN2 : 2 ≤ i ∧ i ≤ 256 := by omega
    have hc1 : 1 ≤ c ∧ c ≤ 1000 := by omega
    conv => whnf
    refine (lengths_spec ho.sl (by omega)).mono ?_
    rintro _ h3 t3 hd3 ht3 ⟨a3, n3, c3, rfl, s3, hc3, _, hs3⟩
    have hmay : lengthsF (List.replicate i c) 15 = (lenF 40 (List.replicate i c) 15, true) := by
      unfold lengthsF
      rw [if_pos]
      refine ⟨by rw [List.length_replicate]; omega, .inl (by decide), fun x hx hb => ?_⟩
      rw [(List.mem_replicate.1 hx).2] at hb
      unfold bad at hb
      omega
    rw [hmay] at s3 ⊢
    replace s3 : Sl h3 a3 n3 (Value.int .i64) (lenF 40 (List.replicate i c) 15) := s3
    have hlen := lenF_len 40 (List.replicate i c) 15
    rw [List.length_replicate] at hlen
    have heven := fun e he he2 j hj => even_law (N := i) (c := c) hN2.1 hN2.2 hc1.1 (e := e) he he2 (i := j) hj
    generalize lenF 40 (List.replicate i c) 15 = L at *
    have hn3 : n3 = i := by have := s3.1; omega
    subst hn3
    have hsub := hs2.trans hs3
    conv => whnf
    repeat (first | (refine Go.Vc.br_f ?_ ?_; (focus omega); conv => whnf))
    refine loop_intro (fun k : Nat => [(5, .bool true), (6, .int .i64 (n3 : Nat)), (9, .slice a3 n3 c3), (11, .int .i64 (k : Nat))]) (fun k h' t' => h3 = h' ∧ 2 ^ k ≤ n3) (fun k => n3 - k) 0 ⟨rfl, rfl, rfl, rfl, trivial⟩ ⟨rfl, by omega⟩ ?_
    rintro k g5 _ t5 hd5 ⟨rfl, hk⟩
    have hk9 : k ≤ 8 := by
      rcases Nat.lt_or_ge k 9 with h | h
      · omega
      · have : 2 ^ 9 ≤ 2 ^ k := Nat.pow_le_pow_right (by decide) h
        omega
    conv => whnf
    repeat (first | ((with_reducible apply Go.Vc.wr_i64); (focus exact And.intro (by omega) (by omega)); conv => whnf) | ((with_reducible apply Go.Vc.one_shl); (focus exact And.intro (by omega) (by omega)); intro zP hzP hzP0 hzP1; conv => whnf) | ((with_reducible apply Go.Vc.and_leI); (focus omega); conv => whnf))
    have hz : zP = 2 ^ (k + 1) := by rw [hzP]; congr 1
    refine br (fun hb2 => ?_) (fun hb2 => ?_)
    · conv => whnf
      repeat (first | ((with_reducible apply Go.Vc.wr_i64); (focus exact And.intro (by omega) (by omega)); conv => whnf))
      have hkn : k < n3 := by have := @Nat.lt_two_pow_self k; omega
      exact round_end (k + 1) (by omega) ⟨rfl, rfl, rfl, rfl, trivial⟩ ⟨rfl, by omega⟩
    · have hlt : n3 < 2 ^ (k + 1) := by omega
      have hev := heven k hk hlt
      conv => whnf
      refine loop_intro (fun i : Nat => [(5, .bool true), (6, .int .i64 (n3 : Nat)), (9, .slice a3 n3 c3), (11, .int .i64 (k : Nat)), (12, .int .i64 (i : Nat))]) (fun i h' t' => h3 = h' ∧ i ≤ n3) (fun i => n3 - i) 0 ⟨rfl, rfl, rfl, rfl, rfl, trivial⟩ ⟨rfl, by omega⟩ ?_
      rintro i g6 _ t6 hd6 ⟨rfl, hi⟩
      conv => whnf
      refine br (fun hb3 => ?_) (fun hb3 => ?_)
      · have hiL : i < L.length := by omega
        obtain ⟨b3, off3, e3, hcell3⟩ := sl_cells s3 (by omega)
        subst e3
        have hci := hcell3 i L[i] (List.getElem?_eq_getElem hiL)
        have hei := hev i (by omega)
        have g1 : L.getD i 0 = L[i] := by rw [List.getD_eq_getElem?_getD, List.getElem?_eq_getElem hiL]; rfl
        rw [g1] at hei
        generalize L[i] = li at *
        clear hzP hzP0 hzP1 hz hb2 zP
        conv => whnf
        repeat (first | ((with_reducible apply Go.Vc.own_ix); (focus exact And.intro (by omega) (by omega)); conv => whnf) | ((with_reducible apply Go.Vc.cell_i); (focus assumption); conv => whnf))
        refine br (fun hb4 => ?_) (fun hb4 => ?_)
        · have hl1 : li = (k : Int) + 1 := by omega
          conv => whnf
          repeat (first | ((with_reducible apply Go.Vc.own_ix); (focus exact And.intro (by omega) (by omega)); conv => whnf) | ((with_reducible apply Go.Vc.cell_i); (focus assumption); conv => whnf) | ((with_reducible apply Go.Vc.wr_i64); (focus exact And.intro (by omega) (by omega)); conv => whnf) | ((with_reducible apply Go.Vc.one_shl); (focus exact And.intro (by omega) (by omega)); intro zP hzP hzP0 hzP1; conv => whnf) | (refine Go.Vc.br_f ?_ ?_; (focus omega); conv => whnf) | ((with_reducible apply Go.Vc.and_leI); (focus omega); conv => whnf))
          have hz2 : zP = 2 ^ k := by rw [hzP]; congr 1
          have hzn : zP ≠ n3 := fun e => by have := hei.2 (by omega); omega
          conv => whnf
          repeat (first | ((with_reducible apply Go.Vc.wr_i64); (focus exact And.intro (by omega) (by omega)); conv => whnf) | (refine Go.Vc.br_f ?_ ?_; (focus omega); conv => whnf))
          exact round_end (i + 1) (by omega) ⟨rfl, rfl, rfl, rfl, rfl, trivial⟩ ⟨rfl, by omega⟩
        · conv => whnf
          repeat (first | ((with_reducible apply Go.Vc.wr_i64); (focus exact And.intro (by omega) (by omega)); conv => whnf))
          exact round_end (i + 1) (by omega) ⟨rfl, rfl, rfl, rfl, rfl, trivial⟩ ⟨rfl, by omega⟩
      · conv => whnf
        exact ⟨rfl, hsub⟩
end Go.Proofs.Ytlnibgkdjmkekaa
