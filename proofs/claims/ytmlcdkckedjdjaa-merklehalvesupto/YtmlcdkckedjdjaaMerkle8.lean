/- The law's own: list, words, turned, hex. -/
import Derived.Test.YtmlcdkckedjdjaaMerkle7
namespace Go.Proofs.Ytmlcdkckedjdjaa
open Go Go.Vc Go.Sha Go.Mk
set_option maxRecDepth 10000
set_option linter.unusedVariables false

def lel (s : ByteArray) (i : Nat) : ByteArray := lfB (strL [UInt8.ofNat i, UInt8.ofNat (i / 256)] ++ s)
def listL (s : ByteArray) (n : Nat) : List ByteArray := (List.range n).map (lel s)
theorem listL_succ (s : ByteArray) (n : Nat) : listL s (n + 1) = listL s n ++ [lel s n] := by unfold listL; rw [List.range_succ, List.map_append]; rfl
theorem listL_len (s : ByteArray) (n : Nat) : (listL s n).length = n := by unfold listL; simp
theorem listL_size (s : ByteArray) (n : Nat) (x : ByteArray) (h : x ∈ listL s n) : x.size = 32 := by
  unfold listL at h
  obtain ⟨i, _, rfl⟩ := List.mem_map.1 h
  exact lfB_size _
theorem wrapb (i : Nat) : (((UInt8.ofNat i).toNat : Nat) : Int) = IntKind.u8.wrap (i : Int) := by
  rw [UInt8.toNat_ofNat']; simp [IntKind.wrap, IntKind.signed, IntKind.bits]
theorem list_spec (n : Nat) (hn : n ≤ 65536) (s : ByteArray) (hs : s.size ≤ 1073741824) (h : Heap) (t : Nat) :
    CallSpec Try.prog 11 #[.int .i64 (n : Nat), .string s] h t (fun v h' t' => ∃ a c, v = .slice a n c ∧ Own h' 9 a n c Value.string (listL s n) ∧ (∀ b, owner a = some b → t ≤ b) ∧ Sub h h') := by
  refine Go.Vc.spec_of_vc (fn := Try.f11) Try.func11 rfl (by kernel_rfl) (by kernel_rfl) (Nat.le_of_ble_eq_true rfl) ?_
  intro hd
  conv => whnf
  refine loop_intro3 (fun (i : Nat) (a2 : Option Addr) (c2 : Nat) => [(0, .int .i64 (n : Nat)), (1, .string s), (5, .slice a2 i c2), (6, .int .i64 (i : Nat))])
    (fun i a2 c2 h' t' => t ≤ t' ∧ i ≤ n ∧ Own h' 9 a2 i c2 Value.string (listL s i) ∧ (∀ b, owner a2 = some b → t ≤ b) ∧ Sub h h') (fun i _ _ => n - i) 0 none 0 ⟨rfl, rfl, rfl, rfl, trivial⟩
    ⟨by omega, by omega, Own.nil _ _ _, (fun b hb => by cases hb), Sub.refl _⟩ ?_
  rintro i a2 c2 g h1 t1 hd1 ⟨ht1, hi, o1, hw1, hs1⟩
  conv => whnf
  refine br (fun hb1 => ?_) (fun hb1 => ?_)
  · conv => whnf
    refine ⟨_, wrapb i, ?_⟩
    conv => whnf
    repeat (first | ((with_reducible apply Go.Vc.shr_i64); (focus exact And.intro (by omega) (by omega)); intro zS hzS hzS0 hzS1; conv => whnf) | ((with_reducible apply Go.Vc.and_leI); (focus omega); conv => whnf))
    have hz : zS = ((i / 256 : Nat) : Int) := by rw [hzS]; rfl
    rw [hz]
    refine ⟨_, wrapb (i / 256), ?_⟩
    conv => whnf
    repeat (first | (intro _ _; conv => whnf))
    rename_i r hr
    have hs2 := hd1.sub_new hr (.cells #[Value.int .u8 (((UInt8.ofNat i).toNat : Nat) : Int), Value.int .u8 (((UInt8.ofNat (i / 256)).toNat : Nat) : Int)] 5)
    have hd2 := hd1.set r (.cells #[Value.int .u8 (((UInt8.ofNat i).toNat : Nat) : Int), Value.int .u8 (((UInt8.ofNat (i / 256)).toNat : Nat) : Int)] 5) (r + 1) (by omega) (by omega)
    refine ⟨_, readB_sl (ar_sl (l := [UInt8.ofNat i, UInt8.ofNat (i / 256)]) (hset_same _ _ _) rfl), ?_⟩
    have h2s : (⟨[UInt8.ofNat i, UInt8.ofNat (i / 256)].toArray⟩ : ByteArray).size = 2 := rfl
    conv => whnf
    repeat (first | ((with_reducible apply Go.Vc.and_leN); (focus (first | omega | (simp only [ByteArray.size, List.size_toArray, List.length_cons, List.length_nil] at *; omega))); conv => whnf))
    refine (refleaf_spec (strL [UInt8.ofNat i, UInt8.ofNat (i / 256)] ++ s) (by rw [ByteArray.size_append]; show 2 + s.size ≤ _; omega) _ _).mono ?_
    rintro _ h3 t3 hd3 ht3 ⟨rfl, hs3⟩
    have hR : lfB (strL [UInt8.ofNat i, UInt8.ofNat (i / 256)] ++ s) = lel s i := rfl
    rw [hR]
    generalize hRR : lel s i = R at *
    conv => whnf
    repeat (first | (intro _ _; conv => whnf))
    rename_i r4 hr4
    have hs4 := hd3.sub_new hr4 (.cells #[.string R] 9)
    have hd4 := hd3.set r4 (.cells #[.string R] 9) (r4 + 1) (by omega) (by omega)
    refine app_strs (m := 1) (l2 := [R]) (o1.fr (fun b o _ ho => hs4 b o (hs3 b o (hs2 b o ho)))) (ar_sl (hset_same _ _ _) rfl) (by omega) hd4 ?_
    intro a7 c7 h7 t7 ho7 ht7 hd7 hk7 how7
    rw [← hRR, ← listL_succ] at ho7
    conv => whnf
    repeat (first | ((with_reducible apply Go.Vc.wr_i64); (focus exact And.intro (by omega) (by omega)); conv => whnf))
    refine round_end3 (i + 1) a7 c7 (by omega) ⟨rfl, rfl, rfl, rfl, trivial⟩ ⟨by omega, by omega, ho7, ?_, ?_⟩
    · intro b hb
      rcases how7 with e | ⟨b', e, hb'⟩
      · exact hw1 b (by rw [← e]; exact hb)
      · rw [e] at hb; cases hb; omega
    · intro b o hb
      have hbt := hd b o hb
      rw [hk7 b (by omega) (fun e => by have := hw1 b e; omega), hset_ne _ _ (by omega)]
      exact hs3 b o (hs2 b o (hs1 b o hb))
  · have e : i = n := by omega
    subst e
    conv => whnf
    exact ⟨a2, c2, rfl, o1, hw1, hs1⟩
end Go.Proofs.Ytmlcdkckedjdjaa
