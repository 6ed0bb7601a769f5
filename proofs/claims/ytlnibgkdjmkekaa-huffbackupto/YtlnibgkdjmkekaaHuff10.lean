/- The law's counts. -/
import Derived.Test.YtlnibgkdjmkekaaHuff9
import Derived.Test.YtlnibgkdjmkekaaHuffTree5
namespace Go.Proofs.Ytlnibgkdjmkekaa
open Go Go.Vc Go.Huf
set_option maxRecDepth 10000
set_option linter.unusedVariables false

theorem sl_cells {α : Type} {h : Heap} {a : Option Addr} {n : Nat} {f : α → Value} {l : List α} (s : Sl h a n f l) (h0 : 0 < n) : ∃ b off, a = some ⟨b, off, none⟩ ∧ ∀ i x, l[i]? = some x → Cell h ⟨b, off + i * 1, none⟩ (f x) := by
  obtain ⟨b, off, cs, T, fr, e1, e2, e3⟩ := s.2 h0
  refine ⟨b, off, e1, fun i x hx => ?_⟩
  obtain ⟨hi, rfl⟩ := List.getElem?_eq_some_iff.1 hx
  exact ⟨cs, T, fr, e2, rfl, by show cs[off + i * 1]? = _; rw [Nat.mul_one]; exact e3 i hi⟩
def cnts (l : List Int) : List Int := (l.take 40).map fun x => x % 1001
theorem cnts_mem {l : List Int} : ∀ x ∈ cnts l, 0 ≤ x ∧ x ≤ 1000 := fun x hx => by
  obtain ⟨y, _, rfl⟩ := List.mem_map.1 hx
  omega
theorem cnts_len (l : List Int) : (cnts l).length ≤ 40 := by unfold cnts; rw [List.length_map, List.length_take]; omega
theorem counted_spec {h : Heap} {t n c : Nat} {a : Option Addr} {l : List Int} (s : Sl h a n (Value.int .u16) l) (hn : n ≤ 1048576) (hb : ∀ x ∈ l, 0 ≤ x ∧ x ≤ 65535) :
    CallSpec Try.prog 20 #[.slice a n c] h t (fun v h' t' => ∃ a' c', v = .slice a' (cnts l).length c' ∧ Vc.Own h' 3 a' (cnts l).length c' (Value.int .i64) (cnts l) ∧ Vc.Sub h h' ∧ t ≤ t' ∧ ∀ b, owner a' = some b → t ≤ b) := by
  have hll := s.1
  refine Go.Vc.spec_of_vc (fn := Try.f20) Try.func20 rfl (by kernel_rfl) (by kernel_rfl) (Nat.le_of_ble_eq_true rfl) ?_
  intro hd
  conv => whnf
  refine loop_intro3 (fun (i : Nat) (a' : Option Addr) (c' : Nat) => [(0, .slice a n c), (3, .slice a' i c'), (4, .int .i64 (i : Nat))]) (fun i a' c' h' t' => i ≤ n ∧ i ≤ 40 ∧ Vc.Own h' 3 a' i c' (Value.int .i64) ((l.take i).map fun x => x % 1001) ∧ Vc.Sub h h' ∧ t ≤ t' ∧ ∀ b, owner a' = some b → t ≤ b) (fun i _ _ => n - i) 0 none 0 ⟨rfl, rfl, rfl, trivial⟩
    ⟨by omega, by omega, Own.nil _ _ _, Sub.refl _, Nat.le_refl _, fun b hb => by cases hb⟩ ?_
  rintro i a' c' g h1 t1 hd1 ⟨hin, hi40, ho, hs1, ht1, hown⟩
  have s1 := s.sub hs1
  have hend : (i = n ∨ i = 40) → ∃ a2 c2, (Value.slice a' i c' : Value) = .slice a2 (cnts l).length c2 ∧ Vc.Own h1 3 a2 (cnts l).length c2 (Value.int .i64) (cnts l) ∧ Vc.Sub h h1 ∧ t ≤ t1 ∧ ∀ b, owner a2 = some b → t ≤ b := fun he => by
    have e1 : cnts l = (l.take i).map fun x => x % 1001 := by
      unfold cnts
      rcases he with e | e
      · rw [List.take_of_length_le (l := l) (i := i) (by omega), List.take_of_length_le (by omega)]
      · rw [e]
    have e2 : (cnts l).length = i := by rw [e1, List.length_map, List.length_take]; omega
    exact ⟨a', c', by rw [e2], by rw [e2, e1]; exact ho, hs1, ht1, hown⟩
  conv => whnf
  refine br (fun hb1 => ?_) (fun hb1 => ?_)
  · conv => whnf
    refine br (fun hb2 => ?_) (fun hb2 => ?_)
    · conv => whnf
      repeat (first | ((with_reducible apply Go.Vc.sl_ix); (focus with_reducible assumption); (focus exact And.intro (by omega) (by omega)); intro xI bI offI hxI hcI; conv => whnf) | ((with_reducible apply Go.Vc.cell_i); (focus assumption); conv => whnf) | ((with_reducible refine And.intro ?_ (And.intro ?_ ?_)); (focus exact rfl); (focus omega); conv => whnf))
      have hxi : l[i]? = some xI := hxI
      have hx := hb xI (List.mem_of_getElem? hxi)
      conv => whnf
      repeat (first | (intro _ _; conv => whnf) | ((with_reducible apply Go.Vc.wr_i64); (focus exact And.intro (by omega) (by omega)); conv => whnf) | ((with_reducible apply Go.Vc.rem_i); (focus omega); conv => whnf))
      rename_i rb hrb
      have hd2 := hd1.set rb (.cells ([xI % 1001].map (Value.int .i64)).toArray 3 (0, 0)) (rb + 1) (by omega) (by omega)
      refine app_int (n := i) (m := 1) (l2 := [xI % 1001]) (Own.fr ho (fun b o _ hb => hd1.sub_new hrb _ b o hb)) (ar_sl (hset_same _ _ _) rfl) (by omega) hd2 ?_
      intro a2 c2 h2 t2 ho2 ht2 hd3 hk2 hown2
      conv => whnf
      repeat (first | ((with_reducible apply Go.Vc.wr_i64); (focus exact And.intro (by omega) (by omega)); conv => whnf))
      refine round_end3 (i + 1) a2 c2 (by omega) ⟨rfl, rfl, rfl, trivial⟩ ⟨by omega, by omega, ?_, fun b o hb => ?_, by omega, fun b hb => ?_⟩
      · rw [List.take_add_one, hxi, List.map_append]
        exact ho2
      · have := hd b o hb
        rw [hk2 b (by omega) (fun e => by have := hown b e; omega), hset_ne _ _ (by omega)]
        exact hs1 b o hb
      · rcases hown2 with e | ⟨r, e, hr⟩
        · exact hown b (by rw [← e]; exact hb)
        · rw [e] at hb; cases hb; omega
    · conv => whnf
      exact hend (.inr (by omega))
  · conv => whnf
    exact hend (.inl (by omega))

/-- What Lengths make of the law's counts. -/
theorem cnts_may {l : List Int} {m : Int} (hm : 9 ≤ m ∧ m ≤ 15) : lengthsF (cnts l) m = (lenF 40 (cnts l) m, true) := by
  have hl := cnts_len l
  unfold lengthsF
  rw [if_pos]
  refine ⟨by omega, .inl hm, fun x hx hb => ?_⟩
  have := cnts_mem x hx
  unfold bad at hb
  omega
theorem lenF_le40 {l : List Int} {m : Int} (h : ∀ x ∈ l, 0 ≤ x ∧ x ≤ 2 ^ 40) (hl : l.length ≤ 300) (hm : 9 ≤ m) : ∀ x ∈ lenF 40 l m, x ≤ m :=
  lenF_le 40 l m 9 (by decide) (by omega) (by omega) h
theorem cnts_le {l : List Int} {m : Int} (hm : 9 ≤ m) : ∀ x ∈ lenF 40 (cnts l) m, x ≤ m :=
  lenF_le40 (fun x hx => by have := cnts_mem x hx; omega) (by have := cnts_len l; omega) hm
theorem cnts_nonneg (l : List Int) : ∀ x ∈ cnts l, 0 ≤ x := fun x hx => (cnts_mem x hx).1
end Go.Proofs.Ytlnibgkdjmkekaa
