import Derived.Test.YtlkpgjicpjjlcaaGreatDoorTileRPath
/- A path's parts, as the document takes them. -/
set_option linter.unusedSimpArgs false
namespace Go.Tile
def mkB (p : List UInt8) : ByteArray := ⟨p.toArray⟩
theorem ext_mk {s : ByteArray} {i j : Nat} (hij : i ≤ j) (hj : j ≤ s.size) : s.extract i j = mkB ((s.data.toList.drop i).take (j - i)) := by
  apply ba_eq
  show _ = (s.data.toList.drop i).take (j - i)
  simp
end Go.Tile
namespace Go.Proofs.YtlkpgjicpjjlcaaGreatDoor
open Go Go.Vc Go.Tile
set_option maxRecDepth 20000
set_option linter.unusedVariables false
theorem app_one {h0 h : Heap} {t0 t r : Nat} {a : Option Addr} {n c : Nat} {l : List ByteArray} {R : ByteArray} {ty : TypeId} (hd0 : Dom h0 t0) (ht : t0 ≤ t) (hs : Vc.Sub h0 h) (hw : ∀ b, owner a = some b → t0 ≤ b) (hd : Dom h t) (hr : t ≤ r)
    (ho : Vc.Own h 9 a n c Value.string l) (hb : n + 1 ≤ 1000000000) {K : Value → Heap → Nat → Prop}
    (hK : ∀ a' c' h' t', Vc.Own h' 9 a' (n + 1) c' Value.string (l ++ [R]) → r + 1 ≤ t' → Dom h' t' → Vc.Sub h0 h' → (∀ b, owner a' = some b → t0 ≤ b) → K (.slice a' (n + 1) c') h' t') :
    AppVC Tryz.prog #[42, 42] ty (.slice a n c) (.slice (some ⟨r, 0, none⟩) 1 1) K (hset h r (.cells #[.string R] 9 (0, 0))) (r + 1) := by
  have hs3 := hd.sub_new hr (.cells #[.string R] 9)
  have hd3 := hd.set r (.cells #[.string R] 9) (r + 1) (by omega) (by omega)
  refine app_strs (m := 1) (l2 := [R]) (ho.fr (fun b o _ hb => hs3 b o hb)) (ar_sl (hset_same _ _ _) rfl) hb hd3 ?_
  intro a7 c7 h7 t7 ho7 ht7 hd7 hk7 how7
  refine hK a7 c7 h7 t7 ho7 ht7 hd7 ?_ ?_
  · intro b o hb
    have hbt := hd0 b o hb
    rw [hk7 b (by omega) (fun e => by have := hw b e; omega)]
    exact hs3 b o (hs b o hb)
  · intro b hb
    rcases how7 with e | ⟨b', e, hb'⟩
    · exact hw b (by rw [← e]; exact hb)
    · rw [e] at hb; cases hb; omega
theorem parts_spec {h : Heap} {t : Nat} (s : ByteArray) (hs : s.size ≤ 1048576) :
    CallSpec Tryz.prog 40 #[.string s] h t (fun v h' t' => ∃ a c, v = .slice a (splitS s.data.toList).length c ∧ Sl h' a (splitS s.data.toList).length Value.string ((splitS s.data.toList).map mkB) ∧ (splitS s.data.toList).length ≤ c ∧ Vc.Sub h h' ∧ t ≤ t') := by
  obtain ⟨L, hL⟩ : ∃ L, L = s.data.toList := ⟨_, rfl⟩
  have hLs : L.length = s.size := by rw [hL]; rfl
  rw [← hL]
  refine Go.Vc.spec_of_vc (fn := Tryz.f40) Tryz.func40 rfl (by kernel_rfl) (by kernel_rfl) (Nat.le_of_ble_eq_true rfl) ?_
  intro hd
  conv => whnf
  refine loop_intro5 (fun (i fr : Nat) (a2 : Option Addr) (c2 : Nat) (out : List ByteArray) => [(0, .string s), (3, .slice a2 out.length c2), (4, .int .i64 (fr : Nat)), (5, .int .i64 (i : Nat))])
    (fun i fr a2 c2 out h' t' => i ≤ L.length ∧ fr ≤ i ∧ (∀ x ∈ (L.drop fr).take (i - fr), x ≠ 47) ∧ (splitS L).map mkB = out ++ (splitS (L.drop fr)).map mkB ∧ out.length ≤ i ∧ Vc.Own h' 9 a2 out.length c2 Value.string out ∧ (∀ b, owner a2 = some b → t ≤ b) ∧ Vc.Sub h h' ∧ t ≤ t') (fun i _ _ _ _ => L.length - i) 0 0 none 0 [] ⟨rfl, rfl, rfl, rfl, trivial⟩
    ⟨by omega, by omega, (fun x hx => by simp at hx), rfl, by simp, Vc.Own.nil _ _ _, (fun b hb => by cases hb), Vc.Sub.refl _, Nat.le_refl _⟩ ?_
  rintro i fr a2 c2 out e3 g t3 hd3 ⟨hi, hfi, hno, hsp, hol, ho, hw, hs3, ht3⟩
  conv => whnf
  refine br (fun h1 => ?_) (fun h1 => ?_)
  · have hip : i < L.length := by omega
    have hby : byteAt s ((i : Int)).toNat = ((L[i]).toNat : Int) := by
      subst hL
      exact byteAt_get hip
    have hdl : (L.drop fr).length = L.length - fr := List.length_drop
    conv => whnf
    repeat (first | ((with_reducible refine And.intro (And.intro ?_ ?_) ?_); (focus omega); (focus omega); conv => whnf) | (intro _ _; conv => whnf))
    rw [hby]
    refine br (fun h2 => ?_) (fun h2 => ?_)
    · have hx47 : L[i] = 47 := UInt8.toNat_inj.1 (show (L[i]).toNat = (47 : UInt8).toNat by
        have : (L[i]).toNat = 47 := by omega
        rw [this]; rfl)
      have hdec : L.drop fr = (L.drop fr).take (i - fr) ++ 47 :: L.drop (i + 1) := by
        have e1 := (List.take_append_drop (i - fr) (L.drop fr)).symm
        rw [List.drop_drop, show fr + (i - fr) = i by omega, List.drop_eq_getElem_cons hip, hx47] at e1
        exact e1
      have hsp2 : (splitS L).map mkB = (out ++ [mkB ((L.drop fr).take (i - fr))]) ++ (splitS (L.drop (i + 1))).map mkB := by
        rw [hsp]
        conv => lhs; rw [hdec, split_at hno]
        simp
      conv => whnf
      repeat (first | ((with_reducible refine And.intro (And.intro ?_ ?_) ?_); (focus omega); (focus omega); conv => whnf) | (intro _ _; conv => whnf))
      rename_i r hr
      have hxt : s.extract fr i = mkB ((L.drop fr).take (i - fr)) := by
        rw [ext_mk (by omega) (by omega), hL]
      refine app_one hd ht3 hs3 hw hd3 hr ho (by omega) ?_
      intro a' c' h' t' ho' ht' hd' hs' hw'
      conv => whnf
      repeat (first | ((with_reducible apply Go.Vc.wr_i64); (focus exact And.intro (by omega) (by omega)); conv => whnf))
      refine round_end5 (i + 1) (i + 1) a' c' (out ++ [mkB ((L.drop fr).take (i - fr))]) (by omega) ⟨rfl, ?_, ?_, ?_, trivial⟩ ⟨by omega, by omega, (fun x hx => by rw [Nat.sub_self] at hx; simp at hx), hsp2, by simp; omega, ?_, hw', hs', by omega⟩
      · rw [List.length_append]; rfl
      · rfl
      · rfl
      · rw [List.length_append]
        rw [← hxt]
        exact ho'
    · have hx47 : L[i] ≠ 47 := fun e => by rw [e] at h2; exact h2 rfl
      conv => whnf
      repeat (first | ((with_reducible apply Go.Vc.wr_i64); (focus exact And.intro (by omega) (by omega)); conv => whnf))
      refine round_end5 (i + 1) fr a2 c2 out (by omega) ⟨rfl, rfl, rfl, rfl, trivial⟩ ⟨by omega, by omega, ?_, hsp, by omega, ho, hw, hs3, ht3⟩
      intro x hx
      rw [show i + 1 - fr = (i - fr) + 1 by omega, List.take_succ_eq_append_getElem (by omega), List.mem_append] at hx
      rcases hx with hx | hx
      · exact hno x hx
      · rw [List.mem_singleton, List.getElem_drop] at hx
        rw [hx]
        have : L[fr + (i - fr)]'(by omega) = L[i] := by congr 1; omega
        rw [this]
        exact hx47
  · obtain rfl : i = L.length := by omega
    have hdl : (L.drop fr).length = L.length - fr := List.length_drop
    have hall : (L.drop fr).take (L.length - fr) = L.drop fr := List.take_of_length_le (by omega)
    rw [hall] at hno
    rw [split_no hno] at hsp
    conv => whnf
    repeat (first | ((with_reducible refine And.intro (And.intro ?_ ?_) ?_); (focus omega); (focus omega); conv => whnf) | (intro _ _; conv => whnf))
    rename_i r hr
    have hxt : s.extract fr s.size = mkB (L.drop fr) := by
      rw [ext_mk (by omega) (by omega), ← hL, ← hLs, hall]
    refine app_one hd ht3 hs3 hw hd3 hr ho (by omega) ?_
    intro a' c' h' t' ho' ht' hd' hs' hw'
    have hlen : (splitS L).length = out.length + 1 := by
      have := congrArg List.length hsp
      simpa using this
    have hmap : (splitS L).map mkB = out ++ [s.extract fr s.size] := by rw [hsp, hxt]; rfl
    conv => whnf
    rw [hlen, hmap]
    exact ⟨a', c', rfl, ho'.sl, (by rcases ho'.2 with ⟨_, h1, _⟩ | ⟨_, _, _, _, _, h1, _⟩ <;> omega), hs', by omega⟩
end Go.Proofs.YtlkpgjicpjjlcaaGreatDoor
