import Derived.Test.YtikpfffhcjlcjaaInf2
set_option linter.unusedSimpArgs false
namespace Go.Proofs.Ytikpfffhcjlcjaa
open Go Go.Vc Go.Huf Go.Dfl
set_option maxRecDepth 20000
set_option linter.unusedVariables false
structure PrtC (L B : List Int) (p : Prt) : Prop where
  s1 : p.sym < L.length
  l1 : 1 ≤ (L.getD p.sym 0).toNat
  s2 : p.plain = false → p.sym2 < B.length ∧ 1 ≤ (B.getD p.sym2 0).toNat
def rest (L B : List Int) (s : ByteArray) (i : Nat) : List Bool := tellF L B (partsF s i (toks s i s.size))
theorem rest_step {L B : List Int} {s : ByteArray} {i : Nat} (h : i < s.size) : rest L B s i = tellP L B (prtOf s i (bestT s i s.size)) ++ rest L B s (i + (bestT s i s.size).1) := by
  unfold rest tellF
  rw [toks_step h, partsF, List.flatMap_cons, List.append_assoc]
theorem rest_end {L B : List Int} {s : ByteArray} : rest L B s s.size = bitsH (codeAt L 256) (L.getD 256 0).toNat := by
  unfold rest tellF
  rw [toks_end (by omega), partsF]; rfl
theorem parts_at {s : ByteArray} : ∀ (n i : Nat), s.size - i ≤ n → ∀ (Q : Prt → Prop), (∀ p ∈ partsF s i (toks s i s.size), Q p) → i < s.size → Q (prtOf s i (bestT s i s.size)) ∧ ∀ p ∈ partsF s (i + (bestT s i s.size).1) (toks s (i + (bestT s i s.size).1) s.size), Q p := fun n i _ Q h hi => by
  rw [toks_step hi, partsF] at h
  exact ⟨h _ (List.mem_cons_self ..), fun p hp => h p (List.mem_cons_of_mem _ hp)⟩
theorem block_spec {h : Heap} {t r : Nat} {d : Option Nat} {x s : ByteArray} {p : Nat} {most : Nat} {L B : List Int} {a1 a2 : Option Addr} {n1 c1 n2 c2 : Nat} (R : Rd h r d x p [] most 0) (hxs : x.size ≤ 100000000) (hss : s.size ≤ 1000000) (hmo : most ≤ 100000000)
    (s1 : Sl h a1 n1 (Value.int .i64) L) (s2 : Sl h a2 n2 (Value.int .i64) B) (eL : errN L = 0 ∧ err L = 0) (eB : errN B = 0 ∧ err B = 0) (h256 : 256 < L.length ∧ 1 ≤ (L.getD 256 0).toNat) (hok : ∀ q ∈ partsF s 0 (toks s 0 s.size), PrtC L B q)
    (hs : Str x p (rest L B s 0)) :
    CallSpec Try.prog 61 #[.pointer (some ⟨r, 0, none⟩), .slice a1 n1 c1, .slice a2 n2 c2] h t
      (fun v h' t' => v = .tuple #[] ∧ Ends (s.size ≤ most) r h t d x (p + (rest L B s 0).length) (tx s) most h' t') := by
  have hn1 : n1 ≤ 1000000 := by
    have h1 := s1.1
    obtain ⟨h3, _⟩ := err_zero eL.2
    omega
  have hn2 : n2 ≤ 1000000 := by
    have h1 := s2.1
    obtain ⟨h3, _⟩ := err_zero eB.2
    omega
  refine Go.Vc.spec_of_vc (fn := Try.f61) Try.func61 rfl (by kernel_rfl) (by kernel_rfl) (Nat.le_of_ble_eq_true rfl) ?_
  intro hd
  have hlt := R.lt hd
  have hdl := R.dlt hd
  conv => whnf
  refine (code_ok s1 hn1 eL.1).mono ?_
  rintro _ h2 t2 hd2 ht2 ⟨b1, rfl, hb1, hb1', cod1, hs2, _⟩
  conv => whnf
  refine (code_ok (s2.sub hs2) hn2 eB.1).mono ?_
  rintro _ h3 t3 hd3 ht3 ⟨b2, rfl, hb2, hb2', cod2, hs3, _⟩
  have cod1' := cod1.sub hs3
  have R3 := R.sub (hs2.trans hs3)
  have nb : ∀ {b : Nat}, t ≤ b → b ≠ r ∧ d ≠ some b := fun hb => ⟨by omega, fun e => by have := hdl _ e; omega⟩
  conv => whnf
  refine loop_intro3 (fun (i p' : Nat) (ok : Bool) => [(0, .pointer (some ⟨r, 0, none⟩)), (6, .pointer (some ⟨b1, 0, none⟩)), (7, .pointer (some ⟨b2, 0, none⟩))])
    (fun i p' ok h' t' => (ok = true ∧ i ≤ s.size ∧ i ≤ most ∧ Str x p' (rest L B s i) ∧ p' + (rest L B s i).length = p + (rest L B s 0).length ∧ (∀ q ∈ partsF s i (toks s i s.size), PrtC L B q) ∧ RdTo r h3 t3 d x p' ((tx s).take i) most 0 h' t') ∨ (ok = false ∧ ¬ s.size ≤ most ∧ ∃ p2 o2, RdTo r h3 t3 d x p2 o2 most 9 h' t'))
    (fun i _ ok => if ok then s.size - i + 1 else 0) 0 p true ⟨rfl, rfl, rfl, trivial⟩ (.inl ⟨rfl, by omega, by omega, hs, rfl, hok, R3.start⟩) ?_
  rintro i p' ok e g t4 hd4 (⟨rfl, hi, him, hst, hpl, hq, d4, R4, f4, dd4, l4⟩ | ⟨rfl, hnf, p2, o2, d4, R4, f4, dd4, l4⟩)
  · have fin : FrW r d h g ∧ (d4 = d ∨ ∃ q, d4 = some q ∧ t ≤ q) := fr_step hd (FrW.of_sub (hs2.trans hs3)) (.inl rfl) (by omega) f4 dd4
    have c1' := cod1'.fr R3 (nb hb1) f4
    have c2' := cod2.fr R3 (nb (by omega)) f4
    have nb4 : ∀ {b : Nat}, t ≤ b → b < t3 → b ≠ r ∧ d4 ≠ some b := fun hb hb3 => ⟨by omega, fun e => by
      rcases dd4 with h1 | ⟨q, h1, hq⟩
      · rw [h1] at e; have := hdl _ e; omega
      · rw [h1] at e; cases e; omega⟩
    obtain ⟨a, c, hw, o, ed⟩ := id R4
    conv => whnf
    repeat (first | ((with_reducible apply Go.Vc.ld_i); (focus ((repeat (first | with_reducible assumption | with_reducible exact Go.Vc.hset_same _ _ _ | with_reducible refine (Go.Vc.hset_ne _ _ (by omega)).trans ?_)); done)); (focus exact rfl); conv => whnf) | (refine Go.Vc.br_t ?_ ?_; (focus omega); conv => whnf))
    rcases Nat.lt_or_ge i s.size with hlt4 | hge
    · -- a token
      obtain ⟨tk, htk⟩ : ∃ tk, bestT s i s.size = tk := ⟨_, rfl⟩
      have htok := best_ok (s := s) hlt4 (Nat.le_refl _)
      rw [rest_step hlt4, htk] at hst hpl
      rw [htk] at htok
      obtain ⟨hpc, hrest⟩ := parts_at _ i (Nat.le_refl _) _ hq hlt4
      rw [htk] at hpc hrest
      obtain ⟨P, hP⟩ : ∃ P, P = prtOf s i tk := ⟨_, rfl⟩
      rw [← hP] at hst hpl hpc
      have hstp := hst.left
      have hst2 := hst.right
      unfold tellP at hstp
      rw [List.append_assoc] at hstp
      refine (symbol_ok R4 hxs c1' eL.2 hpc.s1 hpc.l1 hstp.left).mono ?_
      rintro _ h5 t5 hd5 ht5 ⟨rfl, d5, R5, f5, dd5, l5⟩
      have hstq := hstp.right
      rw [bitsH_len] at hstq
      have hle := htok.le
      by_cases hz : tk.2 = 0
      · have htk1 : tk = (1, 0) := by
          rcases htok.cs with e | ⟨_, _, h3, _⟩
          · exact e
          · omega
        have hbr := byteAt_range s i
        have hPe : P = ⟨(byteAt s i).toNat, 0, 0, 0, 0, 0, true⟩ := by rw [hP, htk1]; rfl
        have hPs : ((P.sym : Nat) : Int) = byteAt s i := by rw [hPe]; show (((byteAt s i).toNat : Nat) : Int) = _; omega
        have hPl : (tellP L B P).length = (L.getD P.sym 0).toNat := by
          unfold tellP
          rw [hPe]
          simp [bitsH_len, bitsL_len]
        rw [hPl] at hst2
        rw [List.length_append, hPl] at hpl
        rw [hPs]
        conv => whnf
        repeat (first | ((with_reducible apply Go.Vc.wr_u8); (focus exact And.intro (by omega) (by omega)); conv => whnf) | (refine Go.Vc.br_t ?_ ?_; (focus omega); conv => whnf) | (refine Go.Vc.br_f ?_ ?_; (focus omega); conv => whnf))
        rcases Nat.lt_or_ge i most with hf | hf
        · refine (say_ok R5 (by rw [tx_take_len hi]; exact hf) hmo (byteAt s i)).mono ?_
          rintro _ h6 t6 hd6 ht6 ⟨rfl, V6⟩
          rw [← tx_take hlt4] at V6
          conv => whnf
          have h1 : tk.1 = 1 := by rw [htk1]
          rw [h1] at hst2 hrest hpl
          exact round_end3 (i + 1) (p' + (L.getD P.sym 0).toNat) true (by simp; omega) ⟨rfl, rfl, rfl, trivial⟩ (.inl ⟨rfl, by omega, by omega, hst2, by omega, hrest, RdTo.step hd3 f4 dd4 l4 (RdTo.step hd4 f5 dd5 l5 V6)⟩)
        · refine (say_full R5 (by rw [tx_take_len hi]; omega) (byteAt s i)).mono ?_
          rintro _ h6 t6 hd6 ht6 ⟨rfl, V6⟩
          conv => whnf
          exact round_end3 0 0 false (by simp) ⟨rfl, rfl, rfl, trivial⟩ (.inr ⟨rfl, by omega, _, _, RdTo.step hd3 f4 dd4 l4 (RdTo.step hd4 f5 dd5 l5 V6)⟩)
      · have hsy : 257 ≤ P.sym := by
          have hk3 : 3 ≤ tk.1 ∧ tk.1 ≤ 258 := by
            rcases htok.cs with e | ⟨h1, h2, _⟩
            · exact absurd (by rw [e]) hz
            · exact ⟨h1, h2⟩
          have := (len_val ⟨tk.1, by omega⟩ hk3.1).2.2.2.1
          simp only at this
          rw [hP]
          unfold prtOf
          rw [if_neg hz]
          show 257 ≤ (symL tk.1).toNat
          omega
        have hpl2 : P.plain = false := by rw [hP]; unfold prtOf; rw [if_neg hz]
        have hPl : (tellP L B P).length = (L.getD P.sym 0).toNat + P.n + (B.getD P.sym2 0).toNat + P.n2 := by
          unfold tellP
          rw [hpl2]
          simp only [Bool.false_eq_true, if_false, List.length_append, bitsH_len, bitsL_len]
          omega
        rw [hPl] at hst2
        rw [List.length_append, hPl] at hpl
        rw [hpl2] at hstq
        simp only [Bool.false_eq_true, if_false] at hstq
        have c2'' := c2'.fr R4 (nb4 (by omega) hb2') f5
        have nb5 : b2 ≠ r ∧ d5 ≠ some b2 := ⟨by omega, fun e => by
          rcases dd5 with h1 | ⟨q, h1, hq⟩
          · exact (nb4 (b := b2) (by omega) hb2').2 (h1 ▸ e)
          · rw [h1] at e; cases e; omega⟩
        obtain ⟨k1, k2⟩ := hpc.s2 hpl2
        conv => whnf
        repeat (first | (refine Go.Vc.br_f ?_ ?_; (focus omega); conv => whnf))
        refine (copies_spec R5 hxs hss him hmo c2'' eB.2 nb5 htok hz hP k1 k2 hstq).mono ?_
        rintro _ h6 t6 hd6 ht6 ⟨rfl, (⟨hf, V6⟩ | ⟨hf, p2, o2, V6⟩)⟩
        · conv => whnf
          refine round_end3 (i + tk.1) (p' + (L.getD P.sym 0).toNat + P.n + (B.getD P.sym2 0).toNat + P.n2) true (by simp; have := bestT_pos s i s.size; rw [htk] at this; omega) ⟨rfl, rfl, rfl, trivial⟩ (.inl ⟨rfl, by omega, hf, ?_, by omega, hrest, RdTo.step hd3 f4 dd4 l4 (RdTo.step hd4 f5 dd5 l5 V6)⟩)
          rw [show p' + (L.getD P.sym 0).toNat + P.n + (B.getD P.sym2 0).toNat + P.n2 = p' + ((L.getD P.sym 0).toNat + P.n + (B.getD P.sym2 0).toNat + P.n2) by omega]
          exact hst2
        · conv => whnf
          exact round_end3 0 0 false (by simp) ⟨rfl, rfl, rfl, trivial⟩ (.inr ⟨rfl, by omega, _, _, RdTo.step hd3 f4 dd4 l4 (RdTo.step hd4 f5 dd5 l5 V6)⟩)
    · obtain rfl : i = s.size := by omega
      rw [rest_end] at hst hpl
      refine (symbol_ok R4 hxs c1' eL.2 h256.1 h256.2 hst).mono ?_
      rintro _ h5 t5 hd5 ht5 ⟨rfl, V5⟩
      conv => whnf
      repeat (first | (refine Go.Vc.br_t ?_ ?_; (focus omega); conv => whnf))
      rw [bitsH_len] at hpl
      have V6 := RdTo.step hd (FrW.of_sub (hs2.trans hs3)) (.inl rfl) (by omega) (RdTo.step hd3 f4 dd4 l4 V5)
      rw [hpl, List.take_of_length_le (by rw [tx_len]; omega)] at V6
      exact ⟨rfl, .inl ⟨him, V6⟩⟩
  · obtain ⟨a, c, hw, o, ed⟩ := id R4
    conv => whnf
    repeat (first | ((with_reducible apply Go.Vc.ld_i); (focus ((repeat (first | with_reducible assumption | with_reducible exact Go.Vc.hset_same _ _ _ | with_reducible refine (Go.Vc.hset_ne _ _ (by omega)).trans ?_)); done)); (focus exact rfl); conv => whnf) | (refine Go.Vc.br_f ?_ ?_; (focus omega); conv => whnf))
    exact ⟨rfl, .inr ⟨hnf, p2, o2, RdTo.step hd (FrW.of_sub (hs2.trans hs3)) (.inl rfl) (by omega) ⟨d4, R4, f4, dd4, l4⟩⟩⟩
end Go.Proofs.Ytikpfffhcjlcjaa
