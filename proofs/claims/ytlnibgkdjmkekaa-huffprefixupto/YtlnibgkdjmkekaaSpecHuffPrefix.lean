/- HuffPrefix answers true, by its contract. -/
import Derived.Test.YtlnibgkdjmkekaaHuff10
namespace Go.Proofs.Ytlnibgkdjmkekaa
open Go Go.Vc Go.Huf
set_option maxRecDepth 10000
set_option linter.unusedVariables false

theorem HuffPrefix_spec (h : Heap) (t : Nat) (a0 : Option Addr) (n0 c0 : Nat) (l0 : List Int) (s0 : Sl h a0 n0 (Value.int .u16) l0) (hn0 : n0 ≤ 1048576) (hc0 : n0 ≤ c0) (hb0 : ∀ z ∈ l0, IntKind.min .u16 ≤ z ∧ z ≤ IntKind.max .u16) :
    CallSpec Try.prog 8 #[.slice a0 n0 c0] h t (fun v h' _ => v = .bool true ∧ Vc.Sub h h') := by
  refine Go.Vc.spec_of_vc (fn := Try.f8) Try.func8 rfl (by kernel_rfl) (by kernel_rfl) (Nat.le_of_ble_eq_true rfl) ?_
  intro hd
  conv => whnf
  refine (examples_spec h t).mono ?_
  rintro _ h1 t1 hd1 ht1 ⟨rfl, hs1⟩
  conv => whnf
  refine (counted_spec (s0.sub hs1) hn0 hb0).mono ?_
  rintro _ h2 t2 hd2 ht2 ⟨a2, c2, rfl, ho2, hs2, _, _⟩
  have hcl := cnts_len l0
  have hle := cnts_le (l := l0) (m := 15) (by decide)
  have hen := errN_lenF (cnts_nonneg l0) (by omega) (by decide) hle
  have hlen := lenF_len 40 (cnts l0) 15
  have hnn := lenF_nonneg (cnts_nonneg l0) 40 15
  conv => whnf
  refine (lengths_spec ho2.sl (by omega)).mono ?_
  rintro _ h3 t3 hd3 ht3 ⟨a3, n3, c3, rfl, s3, hc3, _, hs3⟩
  rw [cnts_may (by decide)] at s3 ⊢
  replace s3 : Sl h3 a3 n3 (Value.int .i64) (lenF 40 (cnts l0) 15) := s3
  clear ho2
  generalize lenF 40 (cnts l0) 15 = L at *
  generalize (cnts l0) = C at *
  have hn3 : n3 ≤ 40 := by have := s3.1; omega
  conv => whnf
  refine (codes_spec s3 (by omega)).mono ?_
  rintro _ h4 t4 hd4 ht4 ⟨a4, n4, rfl, hs4, ho4, _⟩
  rw [if_pos hen.2] at ho4
  rw [hen.2]
  have hl4 := ho4.1
  rw [codes_length] at hl4
  have hL3 := s3.1
  have hn4 : n4 = n3 := by omega
  subst hn4
  have s4 := ho4.sl
  have s3b := s3.sub hs4
  have hsub : Vc.Sub h h4 := hs1.trans (hs2.trans (hs3.trans hs4))
  conv => whnf
  repeat (first | (refine Go.Vc.br_f ?_ ?_; (focus omega); conv => whnf))
  refine loop_intro (fun i : Nat => [(3, .bool true), (4, .slice a3 n4 c3), (6, .slice a4 n4 n4), (8, .int .i64 (i : Nat))]) (fun i h' t' => h4 = h' ∧ i ≤ n4) (fun i => n4 - i) 0 ⟨rfl, rfl, rfl, rfl, trivial⟩ ⟨rfl, by omega⟩ ?_
  rintro i g5 _ t5 hd5 ⟨rfl, hi⟩
  conv => whnf
  refine br (fun hb => ?_) (fun hb => ?_)
  · conv => whnf
    refine loop_intro (fun k : Nat => [(3, .bool true), (4, .slice a3 n4 c3), (6, .slice a4 n4 n4), (8, .int .i64 (i : Nat)), (9, .int .i64 (k : Nat))]) (fun k h' t' => h4 = h' ∧ k ≤ n4) (fun k => n4 - k) 0 ⟨rfl, rfl, rfl, rfl, rfl, trivial⟩ ⟨rfl, by omega⟩ ?_
    rintro k g6 _ t6 hd6 ⟨rfl, hk⟩
    conv => whnf
    refine br (fun hb2 => ?_) (fun hb2 => ?_)
    · by_cases hik : i = k
      · conv => whnf
        refine Go.Vc.draw_intro [⟨0, false, false, false, 0⟩, ⟨1, false, false, false, 0⟩, ⟨2, false, false, false, 3⟩, ⟨3, false, false, false, 7⟩, ⟨4, false, false, false, 15⟩, ⟨5, false, false, false, 15⟩, ⟨6, false, false, false, 63⟩, ⟨7, false, false, false, 127⟩, ⟨8, false, false, false, 255⟩, ⟨9, false, false, false, 511⟩, ⟨10, false, false, false, 1023⟩, ⟨11, false, false, false, 2047⟩, ⟨12, false, false, false, 2047⟩, ⟨13, false, false, false, 8191⟩, ⟨14, false, false, false, 16383⟩, ⟨15, false, false, false, 2047⟩, ⟨16, false, false, false, 2047⟩, ⟨17, false, false, false, 100351⟩, ⟨18, false, false, false, 231423⟩, ⟨19, false, false, false, 524287⟩, ⟨20, false, false, false, 1048575⟩, ⟨21, false, false, false, 2097151⟩, ⟨22, false, false, false, 4194303⟩, ⟨23, false, false, false, 4194303⟩, ⟨24, false, false, false, 16777215⟩, ⟨25, false, false, false, 33554431⟩, ⟨26, false, false, false, 4194303⟩, ⟨27, false, false, false, 4194303⟩, ⟨28, false, false, false, 205520895⟩, ⟨29, false, false, false, 473956351⟩, ⟨30, false, false, false, 4194303⟩, ⟨31, false, false, false, 4194303⟩, ⟨32, false, false, false, 3225419775⟩, ⟨33, false, false, false, 7520387071⟩, ⟨34, false, false, false, 17116954623⟩, ⟨35, false, false, false, 34359738367⟩, ⟨36, false, false, false, 4194303⟩, ⟨37, false, false, false, 4194303⟩, ⟨38, false, false, false, 206162624511⟩, ⟨39, false, false, false, 481040531455⟩, ⟨40, false, false, false, 1099511627775⟩, ⟨41, false, false, false, 2199023255551⟩] (hs := (fun _ => none)) (hsub := (fun _ _ h => nomatch h)) (hm := by kernel_rfl) (hpl := by kernel_rfl) ?_
        conv => whnf
        conv => whnf
        repeat (first | ((with_reducible apply Go.Vc.wr_i64); (focus exact And.intro (by omega) (by omega)); conv => whnf) | (refine Go.Vc.br_f ?_ ?_; (focus omega); conv => whnf))
        exact round_end (k + 1) (by omega) ⟨rfl, rfl, rfl, rfl, rfl, trivial⟩ ⟨rfl, by omega⟩
      · have hiL : i < L.length := by omega
        have hkL : k < L.length := by omega
        obtain ⟨b3, off3, e3, hcell3⟩ := sl_cells s3b (by omega)
        obtain ⟨b4, off4, e4, hcell4⟩ := sl_cells s4 (by omega)
        subst e3
        subst e4
        have gD : ∀ j (hj : j < L.length), L.getD j 0 = L[j] := fun j hj => by rw [List.getD_eq_getElem?_getD, List.getElem?_eq_getElem hj]; rfl
        have hci := hcell3 i L[i] (List.getElem?_eq_getElem hiL)
        have hck := hcell3 k L[k] (List.getElem?_eq_getElem hkL)
        have hdi := hcell4 i _ (codes_get hiL)
        have hdk := hcell4 k _ (codes_get hkL)
        have hi15 := hnn L[i] (List.getElem_mem hiL)
        have hk15 := hnn L[k] (List.getElem_mem hkL)
        have hk15b := hle L[k] (List.getElem_mem hkL)
        have hpf : 0 < L[i] → L[i] ≤ L[k] → codeAt L k / 2 ^ (L[k] - L[i]).toNat ≠ codeAt L i := fun h1 h2 => by
          refine prefix_free (s := L[i].toNat) hiL hkL hik (by rw [gD i hiL]; omega) (by rw [gD k hkL]; omega) (by omega)
        have hcr := code_range hen.2 hkL
        generalize L[i] = li at *
        generalize L[k] = lk at *
        generalize codeAt L i = di at *
        generalize codeAt L k = dk at *
        conv => whnf
        refine Go.Vc.draw_intro [⟨0, false, false, false, 0⟩, ⟨1, false, false, false, 0⟩, ⟨2, false, false, false, 3⟩, ⟨3, false, false, false, 7⟩, ⟨4, false, false, false, 15⟩, ⟨5, false, false, false, 15⟩, ⟨6, false, false, false, 63⟩, ⟨7, false, false, false, 127⟩, ⟨8, false, false, false, 255⟩, ⟨9, false, false, false, 511⟩, ⟨10, false, false, false, 1023⟩, ⟨11, false, false, false, 2047⟩, ⟨12, false, false, false, 2047⟩, ⟨13, false, false, false, 8191⟩, ⟨14, false, false, false, 16383⟩, ⟨15, false, false, false, 2047⟩, ⟨16, false, false, false, 2047⟩, ⟨17, false, false, false, 100351⟩, ⟨18, false, false, false, 231423⟩, ⟨19, false, false, false, 524287⟩, ⟨20, false, false, false, 1048575⟩, ⟨21, false, false, false, 2097151⟩, ⟨22, false, false, false, 4194303⟩, ⟨23, false, false, false, 4194303⟩, ⟨24, false, false, false, 16777215⟩, ⟨25, false, false, false, 33554431⟩, ⟨26, false, false, false, 4194303⟩, ⟨27, false, false, false, 4194303⟩, ⟨28, false, false, false, 205520895⟩, ⟨29, false, false, false, 473956351⟩, ⟨30, false, false, false, 4194303⟩, ⟨31, false, false, false, 4194303⟩, ⟨32, false, false, false, 3225419775⟩, ⟨33, false, false, false, 7520387071⟩, ⟨34, false, false, false, 17116954623⟩, ⟨35, false, false, false, 34359738367⟩, ⟨36, false, false, false, 4194303⟩, ⟨37, false, false, false, 4194303⟩, ⟨38, false, false, false, 206162624511⟩, ⟨39, false, false, false, 481040531455⟩, ⟨40, false, false, false, 1099511627775⟩, ⟨41, false, false, false, 2199023255551⟩] (hs := (fun _ => none)) (hsub := (fun _ _ h => nomatch h)) (hm := by kernel_rfl) (hpl := by kernel_rfl) ?_
        conv => whnf
        conv => whnf
        repeat (first | ((with_reducible apply Go.Vc.own_ix); (focus exact And.intro (by omega) (by omega)); conv => whnf) | ((with_reducible apply Go.Vc.cell_i); (focus assumption); conv => whnf) | (refine Go.Vc.br_t ?_ ?_; (focus omega); conv => whnf))
        refine br (fun hb3 => ?_) (fun hb3 => ?_)
        · conv => whnf
          repeat (first | ((with_reducible apply Go.Vc.own_ix); (focus exact And.intro (by omega) (by omega)); conv => whnf) | ((with_reducible apply Go.Vc.cell_i); (focus assumption); conv => whnf))
          refine br (fun hb4 => ?_) (fun hb4 => ?_)
          · conv => whnf
            repeat (first | ((with_reducible apply Go.Vc.own_ix); (focus exact And.intro (by omega) (by omega)); conv => whnf) | ((with_reducible apply Go.Vc.cell_i); (focus assumption); conv => whnf) | ((with_reducible apply Go.Vc.wr_i64); (focus exact And.intro (by omega) (by omega)); conv => whnf) | ((with_reducible apply Go.Vc.shr_i64); (focus exact And.intro (by omega) (by omega)); intro zS hzS hzS0 hzS1; conv => whnf) | (refine Go.Vc.br_f ?_ ?_; (focus omega); conv => whnf) | ((with_reducible apply Go.Vc.and_leI); (focus omega); conv => whnf))
            have hz : zS ≠ di := by rw [hzS]; exact hpf hb3 hb4
            conv => whnf
            exact round_end (k + 1) (by omega) ⟨rfl, rfl, rfl, rfl, rfl, trivial⟩ ⟨rfl, by omega⟩
          · conv => whnf
            repeat (first | ((with_reducible apply Go.Vc.wr_i64); (focus exact And.intro (by omega) (by omega)); conv => whnf))
            exact round_end (k + 1) (by omega) ⟨rfl, rfl, rfl, rfl, rfl, trivial⟩ ⟨rfl, by omega⟩
        · conv => whnf
          repeat (first | ((with_reducible apply Go.Vc.wr_i64); (focus exact And.intro (by omega) (by omega)); conv => whnf))
          exact round_end (k + 1) (by omega) ⟨rfl, rfl, rfl, rfl, rfl, trivial⟩ ⟨rfl, by omega⟩
    · conv => whnf
      repeat (first | ((with_reducible apply Go.Vc.wr_i64); (focus exact And.intro (by omega) (by omega)); conv => whnf))
      exact round_end (i + 1) (by omega) ⟨rfl, rfl, rfl, rfl, trivial⟩ ⟨rfl, by omega⟩
  · conv => whnf
    exact ⟨rfl, hsub⟩
end Go.Proofs.Ytlnibgkdjmkekaa
