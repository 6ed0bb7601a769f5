import Derived.Test.YtlkpgjicpjjlcaaGreatDoorTileRHash
import Derived.Test.YtlkpgjicpjjlcaaGreatDoorVc14
/- Some hashes. -/
set_option linter.unusedSimpArgs false
namespace Go.Vc
open Go
set_option maxRecDepth 20000
variable {P : Program}
theorem copy_text {T U E ty : TypeId} {inf : TypeInfo} {W : Nat} (hT : P.underlying T = some (.slice E)) (hi : P.info? E = some inf) (hs : inf.size = W) (hW1 : W = 1) (hW : 0 < W) {h : Heap} {t : Nat} {a a' : Option Addr} {N C j n' c' k : Nat} {L : List Value} {s : ByteArray}
    (ho : Vc.Own h E a (N * W) (C * W) id L) (ha' : a' = cutA a j W C) (hk : k = min s.size n') (hj : j + k ≤ N) (hdm : Dom h t) {K : Value → Heap → Nat → Prop}
    (hK : ∀ h', Vc.Own h' E a (N * W) (C * W) id (L.take (j * W) ++ (s.data.toList.map bv).take (k * W) ++ L.drop ((j + k) * W)) → Dom h' t → (∀ b, owner a ≠ some b → h' b = h b) → K (.int .i64 (k : Nat)) h' t) :
    CopyVC P #[T, U] ty (.slice a' n' c') (.string s) K h t := by
  subst hs
  refine ⟨?_⟩
  unfold Builtin.copy_
  simp only [List.getElem?_toArray, List.getElem?_cons_zero, List.getElem?_cons_succ, gen_b, gen_underlying hT, gen_sizeOf hi, gen_p, Builtin.lenOf]
  have hmin : Nat.min s.size n' = k := hk.symm
  rw [hmin]
  have hkm : k ≤ s.size := by omega
  have hsl : (s.data.toList.map bv).length = s.size := by rw [List.length_map]; rfl
  have hx2 : ((s.data.toList.map bv).take (k * inf.size)).length = k * inf.size := by rw [hW1, Nat.mul_one, List.length_take, hsl]; omega
  have hf : ((s.data.toList.map bv).take (k * inf.size)).all oneC = true := by
    rw [List.all_eq_true]
    intro v hv
    obtain ⟨z, _, rfl⟩ := List.mem_map.1 (List.mem_of_mem_take hv)
    rfl
  have hld : ∀ (K : Array Value → Heap → Nat → Prop), K ((s.data.toList.map bv).take (k * inf.size)).toArray h t → gen P (Builtin.firstCells inf.size k (.string s)) K h t := by
    intro K hk
    have e : ((s.data.toList.map bv).take (k * inf.size)).toArray = (s.extract 0 k).data.map fun b => (.int .u8 b.toNat : Value) := by
      apply Array.toList_inj.1
      rw [hW1, Nat.mul_one, ← List.map_take]
      show _ = ((s.extract 0 k).data.map bv).toList
      rw [Array.toList_map]
      congr 1
      simp
    rw [e] at hk
    exact hk
  refine hld _ ?_
  have hLl : L.length = N * inf.size := ho.1
  have hjN : (j + k) * inf.size ≤ N * inf.size := Nat.mul_le_mul_right _ hj
  have hjk : (j + k) * inf.size = j * inf.size + k * inf.size := Nat.add_mul _ _ _
  rcases Nat.eq_zero_or_pos k with hk0 | hk0
  · -- nothing to copy
    have e1 : L.take (j * inf.size) ++ (s.data.toList.map bv).take (k * inf.size) ++ L.drop ((j + k) * inf.size) = L := by rw [hk0]; simp
    have hfin := hK h (by rw [e1]; exact ho) hdm (fun _ _ => rfl)
    have e2 : (s.data.toList.map bv).take (k * inf.size) = [] := by rw [hk0]; simp
    cases a' with
    | none => simp only [gen_p]; exact hfin
    | some p =>
      simp only [gen_b, e2, storeCells, gen_p]
      exact hfin
  · obtain ⟨hl, ⟨e1, e2, e3⟩ | ⟨b, off, cs, fr, rfl, hn, hb, hsz, hfz, hc⟩⟩ := ho
    · exfalso
      have : k * inf.size = 0 := by omega
      rcases Nat.mul_eq_zero.1 this with h | h <;> omega
    · have hjC : j ≠ C := by
        intro e
        have h1 : k * inf.size = 0 := by rw [← e] at hn; omega
        rcases Nat.mul_eq_zero.1 h1 with h | h <;> omega
      have : a' = some ⟨b, off + j * inf.size, none⟩ := by
        rw [ha']; unfold cutA; rw [if_neg (fun e => hjC e.symm), Option.map_some, addr_add]
      subst this
      have hlen : ((s.data.toList.map bv).take (k * inf.size)).length = k * inf.size := hx2
      have hA : (L.take (j * inf.size)).length = j * inf.size := by rw [List.length_take]; omega
      have hC : (L.drop ((j + k) * inf.size)).length = N * inf.size - (j * inf.size + k * inf.size) := by rw [List.length_drop, hjk]; omega
      have hall : (L.take (j * inf.size) ++ (s.data.toList.map bv).take (k * inf.size) ++ L.drop ((j + k) * inf.size)).length = N * inf.size := by rw [List.length_append, List.length_append, hA, hlen, hC]; omega
      simp only [gen_b]
      refine storeCells_gen (off + j * inf.size) ((s.data.toList.map bv).take (k * inf.size)) 0 cs h hb (by rw [hlen]; omega) ?_ ?_ ?_
      · intro i hi
        rw [show off + j * inf.size + 0 + i = off + (j * inf.size + i) from by omega]
        exact hfz _ (by rw [hlen] at hi; omega)
      · intro u hu
        exact List.all_eq_true.1 hf u hu
      · refine hK _ ⟨hall, .inr ⟨b, off, _, fr, rfl, hn, hset_same _ _ _, by simp [setR_length]; exact hsz, hfz, ?_⟩⟩ (hdm.set b _ t (Nat.le_refl _) (hdm b _ hb)) (fun q hq => hset_ne _ _ (fun e => hq (by rw [e]; rfl)))
        intro i hi
        have hi2 : i < N * inf.size := by rw [hall] at hi; exact hi
        rw [List.getElem?_toArray, setR_get _ _ _ _ (by rw [hlen]; simp; omega)]
        have hget : (L.take (j * inf.size) ++ (s.data.toList.map bv).take (k * inf.size) ++ L.drop ((j + k) * inf.size))[i]? = if off + j * inf.size + 0 ≤ off + i ∧ off + i < off + j * inf.size + 0 + ((s.data.toList.map bv).take (k * inf.size)).length then ((s.data.toList.map bv).take (k * inf.size))[off + i - (off + j * inf.size + 0)]? else L[i]? := by
          rw [hlen]
          by_cases c1 : i < j * inf.size
          · rw [if_neg (by omega), List.append_assoc, List.getElem?_append_left (by rw [hA]; omega), List.getElem?_take, if_pos c1]
          · by_cases c2 : i < j * inf.size + k * inf.size
            · rw [if_pos (by omega), List.getElem?_append_left (by rw [List.length_append, hA, hlen]; omega), List.getElem?_append_right (by rw [hA]; omega)]
              congr 1
              rw [hA]; omega
            · rw [if_neg (by omega), List.getElem?_append_right (by rw [List.length_append, hA, hlen]; omega), List.getElem?_drop]
              congr 1
              rw [List.length_append, hA, hlen, hjk]; omega
        rw [List.getElem?_eq_getElem hi] at hget
        have hcs : cs.toList[off + i]? = L[i]? := by
          rw [Array.getElem?_toList, hc i (by rw [hl]; exact hi2), List.getElem?_eq_getElem (by rw [hl]; exact hi2)]; rfl
        rw [hcs]
        exact hget.symm


end Go.Vc
namespace Go.Proofs.YtlkpgjicpjjlcaaGreatDoor
open Go Go.Vc Go.Tile Go.Sha Go.Mk
set_option maxRecDepth 20000
set_option linter.unusedVariables false
theorem wrapb (i : Nat) : (((UInt8.ofNat i).toNat : Nat) : Int) = IntKind.u8.wrap (i : Int) := by
  rw [UInt8.toNat_ofNat']; simp [IntKind.wrap, IntKind.signed, IntKind.bits]
theorem copy_str {ty : TypeId} {h : Heap} {t : Nat} {a a' : Option Addr} {N C j n' c' k : Nat} {L : List UInt8} {s : ByteArray} (ho : Vc.Own h 5 a N C bv L) (ha' : a' = cutA a j 1 C) (hk : k = min s.size n') (hj : j + k ≤ N) (hdm : Dom h t) {K : Value → Heap → Nat → Prop}
    (hK : ∀ h', Vc.Own h' 5 a N C bv (L.take j ++ s.data.toList.take k ++ L.drop (j + k)) → Dom h' t → (∀ b, owner a ≠ some b → h' b = h b) → K (.int .i64 (k : Nat)) h' t) :
    CopyVC Tryz.prog #[48, 9] ty (.slice a' n' c') (.string s) K h t := by
  have ho' : Vc.Own h 5 a (N * 1) (C * 1) id (L.map bv) := by
    rw [Nat.mul_one, Nat.mul_one]
    exact Vc.Own.conv bv (g := id) ho (fun x _ => rfl)
  refine copy_text (E := 5) (inf := Tryz.types[5]) (W := 1) (N := N) (C := C) (j := j) (k := k) Tryz.underlying48 (by kernel_rfl) (by kernel_rfl) rfl (by decide) ho' ha' hk hj hdm ?_
  intro h' ho2 hd2 hk2
  refine hK h' ?_ hd2 hk2
  rw [Nat.mul_one, Nat.mul_one, Nat.mul_one, Nat.mul_one, Nat.mul_one, ← List.map_take, ← List.map_take, ← List.map_drop, ← List.map_append, ← List.map_append] at ho2
  exact Vc.Own.unmap ho2
theorem list_spec {h : Heap} {t : Nat} (n : Nat) (hn : n ≤ 65535) (s : ByteArray) (hs : s.size ≤ 30) :
    CallSpec Tryz.prog 15 #[.int .i64 (n : Nat), .string s] h t (fun v h' t' => ∃ a c L, v = .slice a n c ∧ Vc.Own h' 9 a n c Value.string L ∧ (∀ b, owner a = some b → t ≤ b) ∧ (∀ x ∈ L, x.size = 32) ∧ Vc.Sub h h' ∧ t ≤ t') := by
  refine Go.Vc.spec_of_vc (fn := Tryz.f15) Tryz.func15 rfl (by kernel_rfl) (by kernel_rfl) (Nat.le_of_ble_eq_true rfl) ?_
  intro hd
  conv => whnf
  refine loop_intro4 (fun (i : Nat) (a2 : Option Addr) (c2 : Nat) (L : List ByteArray) => [(0, .int .i64 (n : Nat)), (1, .string s), (5, .slice a2 i c2), (6, .int .i64 (i : Nat))])
    (fun i a2 c2 L h' t' => t ≤ t' ∧ i ≤ n ∧ Vc.Own h' 9 a2 i c2 Value.string L ∧ (∀ b, owner a2 = some b → t ≤ b) ∧ (∀ x ∈ L, x.size = 32) ∧ Vc.Sub h h') (fun i _ _ _ => n - i) 0 none 0 [] ⟨rfl, rfl, rfl, rfl, trivial⟩
    ⟨by omega, by omega, Vc.Own.nil _ _ _, (fun b hb => by cases hb), (fun x hx => absurd hx List.not_mem_nil), Vc.Sub.refl _⟩ ?_
  rintro i a2 c2 L e1 g t1 hd1 ⟨ht1, hi, o1, hw1, hL, hs1⟩
  conv => whnf
  refine br (fun hb1 => ?_) (fun hb1 => ?_)
  · conv => whnf
    repeat (first | ((with_reducible apply Go.Vc.mk_b); (focus exact And.intro (by omega) (by omega)); (focus exact rfl); (focus omega); intro rM csM hrM hcsM; (first | (replace hcsM := hcsM.trans (Go.Vc.zc (Value.int .i64) 0 _)) | (replace hcsM := hcsM.trans (Go.Vc.zc Go.Vc.bv 0 _)) | (replace hcsM := hcsM.trans (Go.Vc.zc Value.string ByteArray.empty _))); subst hcsM; conv => whnf))
    refine ⟨_, wrapb i, ?_⟩
    have hu1 := UInt8.toNat_lt (UInt8.ofNat i)
    conv => whnf
    repeat (first | ((with_reducible apply Go.Vc.own_ix); (focus exact And.intro (by omega) (by omega)); conv => whnf) | ((with_reducible apply Go.Vc.ar_st); (focus ((repeat (first | with_reducible assumption | with_reducible exact Go.Vc.hset_same _ _ _ | with_reducible refine (Go.Vc.hset_ne _ _ (by omega)).trans ?_)); done)); (focus exact rfl); (focus exact rfl); (focus (first | omega | (simp; done) | (simp; omega))); (focus exact rfl); intro heqA; (conv => whnf); intro cA hcA; rw [heqA] at hcA; clear heqA; subst hcA; conv => whnf) | ((with_reducible apply Go.Vc.shr_i64); (focus exact And.intro (by omega) (by omega)); intro zS hzS hzS0 hzS1; conv => whnf) | ((with_reducible apply Go.Vc.and_leI); (focus omega); conv => whnf))
    have hz : zS = ((i / 256 : Nat) : Int) := by rw [hzS]; rfl
    rw [hz]
    refine ⟨_, wrapb (i / 256), ?_⟩
    conv => whnf
    repeat (first | ((with_reducible apply Go.Vc.own_ix); (focus exact And.intro (by omega) (by omega)); conv => whnf) | ((with_reducible refine And.intro (And.intro ?_ ?_) ?_); (focus omega); (focus omega); conv => whnf) | ((with_reducible apply Go.Vc.ar_st); (focus ((repeat (first | with_reducible assumption | with_reducible exact Go.Vc.hset_same _ _ _ | with_reducible refine (Go.Vc.hset_ne _ _ (by omega)).trans ?_)); done)); (focus exact rfl); (focus exact rfl); (focus (first | omega | (simp; done) | (simp; omega))); (focus exact rfl); intro heqA; (conv => whnf); intro cA hcA; rw [heqA] at hcA; clear heqA; subst hcA; conv => whnf) | (intro _ _; conv => whnf))
    generalize hG : hset (hset (hset g rM _) rM _) rM _ = G
    have hs2 : Vc.Sub g G := fun b o hb => by
      have := hd1 _ _ hb
      rw [← hG, hset_ne _ _ (by omega), hset_ne _ _ (by omega), hset_ne _ _ (by omega)]
      exact hb
    have hd2 : Dom G (rM + 1) := by
      rw [← hG]
      exact ((hd1.set rM _ (rM + 1) (by omega) (by omega)).set rM _ (rM + 1) (by omega) (by omega)).set rM _ (rM + 1) (by omega) (by omega)
    obtain ⟨L32, hL32⟩ : ∃ l : List UInt8, l = ((List.replicate (Int.toNat 32) 0).set (Int.toNat 0) (UInt8.ofNat i)).set (Int.toNat 1) (UInt8.ofNat (i / 256)) := ⟨_, rfl⟩
    have hLl : L32.length = 32 := by rw [hL32]; simp
    have ho32 : Vc.Own G 5 (some ⟨rM, 0, none⟩) 32 32 bv L32 := ar_own (by rw [← hG, hset_same, hL32]) hLl
    clear hG
    rename_i a' ha'
    refine copy_str (k := s.size) (j := 2) ho32 ha' (by show s.size = min s.size (32 - 2); omega) (by omega) hd2 ?_
    intro g3 ho3 hd3 hk3
    have hs3 : Vc.Sub g g3 := fun b o hb => by
      have := hd1 _ _ hb
      rw [hk3 b (fun e => by have := Option.some.inj e; dsimp only at this; omega)]
      exact hs2 _ _ hb
    have hl3 : (L32.take 2 ++ s.data.toList.take s.size ++ L32.drop (2 + s.size)).length = 32 := ho3.1
    generalize L32.take 2 ++ s.data.toList.take s.size ++ L32.drop (2 + s.size) = l3 at ho3 hl3
    conv => whnf
    refine ⟨l3, readB_sl ho3.sl, ?_⟩
    conv => whnf
    repeat (first | (intro _ _; conv => whnf))
    rename_i r hr
    refine app_one hd (by omega) (hs1.trans hs3) hw1 hd3 hr (o1.fr (fun b o _ hb => hs3 b o hb)) (by omega) ?_
    intro a7 c7 h7 t7 ho7 ht7 hd7 hs7 hw7
    conv => whnf
    repeat (first | ((with_reducible apply Go.Vc.wr_i64); (focus exact And.intro (by omega) (by omega)); conv => whnf))
    refine round_end4 (i + 1) a7 c7 _ (by omega) ⟨rfl, rfl, rfl, rfl, trivial⟩ ⟨by omega, by omega, ho7, hw7, ?_, hs7⟩
    intro x hx
    rcases List.mem_append.1 hx with hx | hx
    · exact hL x hx
    · obtain rfl := List.mem_singleton.1 hx
      exact (mk_size l3).trans hl3
  · obtain rfl : i = n := by omega
    conv => whnf
    exact ⟨a2, c2, L, rfl, o1, hw1, hL, hs1, by omega⟩
end Go.Proofs.YtlkpgjicpjjlcaaGreatDoor
