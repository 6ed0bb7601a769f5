import Derived.Test.YtikpfffhcjlcjaaInf6
/- DeflateBack answers true, by its contract. -/
set_option linter.unusedSimpArgs false
namespace Go.Proofs.Ytikpfffhcjlcjaa
open Go Go.Vc Go.Huf Go.Dfl
set_option maxRecDepth 10000
set_option linter.unusedVariables false

theorem bits_small (s : ByteArray) (h : s.size ≤ 32768) : (packL s).length ≤ s.size + 6 := by
  have he : s.extract 0 s.size = s := ByteArray.extract_zero_size
  have hb : (packBits s).length ≤ 40 + 8 * s.size := by
    unfold packBits
    rw [if_neg (by omega)]
    unfold pieceF
    rw [he]
    unfold blockF
    have h1 : skipOf 0 = 5 := by decide
    rw [h1, List.length_append, bitsL_len]
    split
    · simp only [List.length_append, bitsL_len, sBits_len]
      omega
    · split
      · rw [List.length_append, bitsL_len]
        show 1 + (2 + oneL _) ≤ _
        omega
      · rw [List.length_append, bitsL_len]
        show 1 + (2 + twoL _) ≤ _
        omega
  unfold packL
  rw [List.length_map, packB_len]
  omega
theorem packS_size (s : ByteArray) : (packS s).size = (packL s).length := by
  unfold packS
  show (packL s).toArray.size = _
  rw [List.size_toArray]
theorem tx_packS (s more : ByteArray) : tx (packS s ++ more) = packB (packBits s) ++ tx more := by
  unfold tx
  rw [ByteArray.data_append, Array.toList_append, List.map_append]
  congr 1
  show List.map _ (packL s).toArray.toList = _
  rw [List.toList_toArray]
  exact packL_ints s
theorem DeflateBack_spec (h : Heap) (t : Nat) (s : ByteArray) (hs : s.size ≤ 1048576) (more : ByteArray) (hmo : more.size ≤ 1048576) (thrice : Bool) :
    CallSpec Try.prog 9 #[.string s, .string more, .bool thrice] h t (fun v h' _ => v = .bool true ∧ Vc.Sub h h') := by
  refine Go.Vc.spec_of_vc (fn := Try.f9) Try.func9 rfl (by kernel_rfl) (by kernel_rfl) (Nat.le_of_ble_eq_true rfl) ?_
  intro hd
  conv => whnf
  refine (examples_spec h t).mono ?_
  rintro _ h1 t1 hd1 ht1 ⟨rfl, hs1, _⟩
  conv => whnf
  repeat (first | ((with_reducible refine And.intro (And.intro ?_ ?_) ?_); (focus omega); (focus omega); conv => whnf))
  have hS : (s.extract 0 (if (2000 : Int) < (s.size : Nat) then (2000 : Int) else (s.size : Nat)).toNat).size ≤ 2000 := by
    rw [ByteArray.size_extract]; split <;> omega
  generalize s.extract 0 (if (2000 : Int) < (s.size : Nat) then (2000 : Int) else (s.size : Nat)).toNat = S at hS ⊢
  cases thrice with
  | true =>
    obtain ⟨X, hX⟩ : ∃ X, X = S ++ S ++ S := ⟨_, rfl⟩
    have hXs : X.size ≤ 6000 := by rw [hX, ByteArray.size_append, ByteArray.size_append]; omega
    have hSS : (S ++ S).size = S.size + S.size := ByteArray.size_append
    conv => whnf
    repeat (first | ((with_reducible apply Go.Vc.and_leN); (focus (first | omega | (simp only [ByteArray.size, List.size_toArray, List.length_cons, List.length_nil] at *; omega))); conv => whnf))
    rw [← hX]
    refine (pack_spec X (by omega)).mono ?_
    rintro _ h2 t2 hd2 ht2 ⟨rfl, hs2, _⟩
    have hb := bits_small X (by omega)
    have hps := packS_size X
    have hsz : (packS X ++ more).size = (packL X).length + more.size := by rw [ByteArray.size_append, hps]
    conv => whnf
    repeat (first | ((with_reducible apply Go.Vc.and_leN); (focus (first | omega | (simp only [ByteArray.size, List.size_toArray, List.length_cons, List.length_nil] at *; omega))); conv => whnf))
    refine (open_spec (s := X) (x := packS X ++ more) (most := X.size) (by omega) (by omega) (tx_packS X more) (by omega)).mono ?_
    rintro _ h3 t3 hd3 ht3 ⟨rfl, hs3, _⟩
    rw [if_pos (Nat.le_refl _)]
    conv => whnf
    rw [opq_eq, decide_eq_true rfl]
    conv => whnf
    repeat (first | ((with_reducible apply Go.Vc.wr_i64); (focus exact And.intro (by omega) (by omega)); conv => whnf) | (refine Go.Vc.br_t ?_ ?_; (focus omega); conv => whnf))
    exact ⟨by rw [opq_eq, decide_eq_true (by omega)], fun b o hb' => hs3 _ _ (hs2 _ _ (hs1 _ _ hb'))⟩
  | false =>
    obtain ⟨X, hX⟩ : ∃ X, X = S := ⟨_, rfl⟩
    have hXs : X.size ≤ 6000 := by rw [hX]; omega
    conv => whnf
    rw [← hX]
    refine (pack_spec X (by omega)).mono ?_
    rintro _ h2 t2 hd2 ht2 ⟨rfl, hs2, _⟩
    have hb := bits_small X (by omega)
    have hps := packS_size X
    have hsz : (packS X ++ more).size = (packL X).length + more.size := by rw [ByteArray.size_append, hps]
    conv => whnf
    repeat (first | ((with_reducible apply Go.Vc.and_leN); (focus (first | omega | (simp only [ByteArray.size, List.size_toArray, List.length_cons, List.length_nil] at *; omega))); conv => whnf))
    refine (open_spec (s := X) (x := packS X ++ more) (most := X.size) (by omega) (by omega) (tx_packS X more) (by omega)).mono ?_
    rintro _ h3 t3 hd3 ht3 ⟨rfl, hs3, _⟩
    rw [if_pos (Nat.le_refl _)]
    conv => whnf
    rw [opq_eq, decide_eq_true rfl]
    conv => whnf
    repeat (first | ((with_reducible apply Go.Vc.wr_i64); (focus exact And.intro (by omega) (by omega)); conv => whnf) | (refine Go.Vc.br_t ?_ ?_; (focus omega); conv => whnf))
    exact ⟨by rw [opq_eq, decide_eq_true (by omega)], fun b o hb' => hs3 _ _ (hs2 _ _ (hs1 _ _ hb'))⟩
end Go.Proofs.Ytikpfffhcjlcjaa
