/- DeflateTokens answers true, by its contract. -/
import Derived.Test.YtikpfffhcjlcjaaDefRef1
set_option linter.unusedSimpArgs false
namespace Go.Proofs.Ytikpfffhcjlcjaa
open Go Go.Vc Go.Huf Go.Dfl
set_option maxRecDepth 10000
set_option linter.unusedVariables false

theorem toks_len (s : ByteArray) {to : Nat} : ∀ (n i : Nat), to - i ≤ n → (toks s i to).length ≤ n
  | 0, i, h => by rw [toks_end (by omega)]; simp
  | n + 1, i, h => by
    rcases Nat.lt_or_ge i to with hi | hi
    · rw [toks_step hi]
      have := bestT_pos s i to
      have := toks_len s (to := to) n (i + (bestT s i to).1) (by omega)
      simp; omega
    · rw [toks_end (by omega)]; simp
theorem tokens_len {s : ByteArray} {from_ to : Int} {n : Nat} (h : s.size ≤ n) : (tokensF s from_ to).length ≤ n := by
  unfold tokensF
  split
  · simp
  · exact toks_len s n _ (by omega)
theorem DeflateTokens_spec (h : Heap) (t : Nat) (s : ByteArray) (hs : s.size ≤ 1048576) (from_ : Int) (hf : IntKind.min .i64 ≤ from_ ∧ from_ ≤ IntKind.max .i64) (to : Int) (ht : IntKind.min .i64 ≤ to ∧ to ≤ IntKind.max .i64) :
    CallSpec Try.prog 3 #[.string s, .int .i64 from_, .int .i64 to] h t (fun v h' _ => v = .bool true ∧ Vc.Sub h h') := by
  refine Go.Vc.spec_of_vc (fn := Try.f3) Try.func3 rfl (by kernel_rfl) (by kernel_rfl) (Nat.le_of_ble_eq_true rfl) ?_
  intro hd
  conv => whnf
  refine (examples_spec h t).mono ?_
  rintro _ h1 t1 hd1 ht1 ⟨rfl, hs1, _⟩
  conv => whnf
  repeat (first | ((with_reducible refine And.intro (And.intro ?_ ?_) ?_); (focus omega); (focus omega); conv => whnf))
  rw [show IntKind.min .i64 = -2^63 from rfl, show IntKind.max .i64 = 2^63 - 1 from rfl] at hf ht
  have hS : (s.extract 0 (if (600 : Int) < (s.size : Nat) then (600 : Int) else (s.size : Nat)).toNat).size ≤ 600 := by
    rw [ByteArray.size_extract]; split <;> omega
  generalize s.extract 0 (if (600 : Int) < (s.size : Nat) then (600 : Int) else (s.size : Nat)).toNat = S at hS ⊢
  refine (tokens_spec S (by omega) (by omega) (by omega) (by omega)).mono ?_
  rintro _ h2 t2 hd2 ht2 ⟨a, c, rfl, ho, _, hs2, _⟩
  conv => whnf
  refine (reftoks_spec S (by omega) (by omega) (by omega)).mono ?_
  rintro _ h3 t3 hd3 ht3 ⟨a', c', rfl, ho', _, hs3, _⟩
  have w1 : Sl h3 a ((tokensF S from_ to).length * 2) id ((tokensF S from_ to).flatMap (Vc.two (fun p : Nat × Nat => Value.int .i64 (p.1 : Nat)) (fun p => Value.int .i64 (p.2 : Nat)))) := ho.sl.sub hs3
  have w2 : Sl h3 a' ((tokensF S from_ to).length * 2) id ((tokensF S from_ to).flatMap (Vc.two (fun p : Nat × Nat => Value.int .i64 (p.1 : Nat)) (fun p => Value.int .i64 (p.2 : Nat)))) := ho'.sl
  have hlen : (tokensF S from_ to).length ≤ 600 := tokens_len hS
  generalize tokensF S from_ to = L at *
  conv => whnf
  repeat (first | (refine Go.Vc.br_f ?_ ?_; (focus omega); conv => whnf))
  refine loop_intro (fun i : Nat => [(7, .bool true), (8, .slice a L.length c), (9, .slice a' L.length c'), (10, .int .i64 (i : Nat))]) (fun i h' t' => h3 = h' ∧ i ≤ L.length) (fun i => L.length - i) 0 ⟨rfl, rfl, rfl, rfl, trivial⟩ ⟨rfl, by omega⟩ ?_
  rintro i e5 _ t5 hd5 ⟨rfl, hi⟩
  conv => whnf
  refine br (fun hb => ?_) (fun hb => ?_)
  · conv => whnf
    refine Go.Vc.draw_intro [⟨0, false, false, false, 0⟩, ⟨1, false, false, false, 0⟩, ⟨2, false, false, false, 3⟩, ⟨3, false, false, false, 7⟩, ⟨4, false, false, false, 15⟩, ⟨5, false, false, false, 0⟩, ⟨6, false, false, false, 0⟩, ⟨7, false, false, false, 96⟩, ⟨8, false, false, false, 224⟩, ⟨9, false, false, false, 480⟩, ⟨10, false, false, false, 1023⟩, ⟨11, false, false, false, 2047⟩, ⟨12, false, false, false, 4095⟩, ⟨13, false, false, false, 4095⟩, ⟨14, false, false, false, 16383⟩, ⟨15, false, false, false, 32767⟩, ⟨16, false, false, false, 65535⟩, ⟨17, false, false, false, 4095⟩, ⟨18, false, false, false, 4095⟩, ⟨19, false, false, false, 397311⟩, ⟨20, false, false, false, 921599⟩, ⟨21, false, false, false, 1970175⟩, ⟨22, false, false, false, 4194303⟩, ⟨23, false, false, false, 8388607⟩] (hs := h3) (hsub := (Sub.refl _)) (hm := by kernel_rfl) (hpl := by kernel_rfl) ?_
    conv => whnf
    conv => whnf
    repeat (first | ((with_reducible apply Go.Vc.sl2_ix); (focus with_reducible assumption); (focus exact And.intro (by omega) (by omega)); intro xI bI offI hxI hcI hcJ; conv => whnf) | ((with_reducible apply Go.Vc.cell_i); (focus assumption); conv => whnf))
    rename_i x1 b1 o1 hx1 c1 d1
    obtain rfl : x1 = xI := by rw [hx1] at hxI; exact Option.some.inj hxI
    refine br_f (by simp) ?_
    conv => whnf
    repeat (first | ((with_reducible apply Go.Vc.sl2_ix); (focus with_reducible assumption); (focus exact And.intro (by omega) (by omega)); intro xI bI offI hxI hcI hcJ; conv => whnf) | ((with_reducible apply Go.Vc.cell_i); (focus assumption); conv => whnf))
    rename_i y1 b1 o1 hy1 c1 d1
    obtain rfl : y1 = xI := by rw [hy1] at hxI; exact Option.some.inj hxI
    refine br_f (by simp) ?_
    conv => whnf
    repeat (first | ((with_reducible apply Go.Vc.wr_i64); (focus exact And.intro (by omega) (by omega)); conv => whnf))
    exact round_end (i + 1) (by omega) ⟨rfl, rfl, rfl, rfl, trivial⟩ ⟨rfl, by omega⟩
  · conv => whnf
    exact ⟨rfl, hs1.trans (hs2.trans hs3)⟩
end Go.Proofs.Ytikpfffhcjlcjaa
