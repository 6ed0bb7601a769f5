/- The law BucketNews holds of every input whose bulk is at most 1048576: the row, round the contract. -/
import Derived.Test.YtjolbngckdfelaaSpecBucketNews
import Derived.Test.YtjolbngckdfelaaVc6
namespace Go.Proofs.Ytjolbngckdfelaa.lawBucketNews
open Go Go.Vc Go.ChangeShapes Go.WideShapes Go.ChangeAt Go.RowKit
open Go.ChangeMaps (open_string shut_string)

theorem own : ownKnob Try.prog.godebug = none := by kernel_rfl
theorem laidOut : laidOutB Try.prog = true := by kernel_rfl

set_option maxRecDepth 100000 in
theorem contract (H : Type) (enc : TypeId × Value → H) (W : World) (base : Nat) (args : Array Value) (ds gs : List (DataW H)) (before : List MemPlace)
    (hval : ∀ (j : Nat) t v, Try.f5.params[j]? = some t → args[j]? = some v → Value.okWide Try.prog W .any base t v)
    (hW : DataW.Whole enc Try.prog Try.f5.params.toList Rows.bucketNewsSpec.vars false W args.toList ds gs before) (hk : Rows.uptoSmall H (ds ++ gs) = true) :
    Calls Try.prog 5 args W fun e W' => ∃ v, e = .returned v ∧ Rows.bucketNewsSpec.post enc Try.prog Try.f5 false true false false W args v W' := by
  have hW' := hW
  obtain ⟨p, q, hA0, hV, rfl, hfz, hnd⟩ := hW
  have hA : DataW.TrodAll enc Try.prog W 0 (fun _ => true) true Try.f5.params.toList args.toList ds p := hA0
  rw [Try.params5] at hA hval
  obtain ⟨v0, vs0, d0, ds0, p0, q0, hargs, rfl, rfl, h0, r0⟩ := trodAll_cons hA
  obtain ⟨v1, vs1, d1, ds1, p1, q1, rfl, rfl, rfl, h1, r1⟩ := trodAll_cons r0
  obtain ⟨v2, vs2, d2, ds2, p2, q2, rfl, rfl, rfl, h2, r2⟩ := trodAll_cons r1
  obtain ⟨rfl, rfl, rfl⟩ := trodAll_nil r2
  obtain rfl : args = #[v0, v1, v2] := by cases args; simp_all
  obtain ⟨rfl, rfl⟩ := trodVars_none hV
  have hb : Rows.uptoBulkAll ([d0, d1, d2] ++ []) ≤ 1048576 := of_decide_eq_true hk
  simp only [Rows.uptoBulkAll, List.append_nil] at hb
  obtain ⟨a0, len0, cap0, rfl⟩ := okWide_slice Try.underlying37 (hval 0 37 v0 rfl rfl)
  have k0 := h0
  have lt0 : ∀ x ∈ p0, x.block < W.heap.size := by obtain ⟨m, hm⟩ := k0; exact DataW.trod_lt m _ _ _ hm
  obtain ⟨l0, s0, n0, c0, b0⟩ : ∃ l : List ByteArray, Sl (heapOf W) a0 len0 (Value.string) l ∧ len0 ≤ 1048576 ∧ len0 ≤ cap0 ∧ (∀ s ∈ l, s.size ≤ 1048576) := by
    obtain ⟨fuel, hf⟩ := h0
    rcases open_strings Try.underlying37 Try.underlying9 (by kernel_rfl) hf with ⟨hcs, _⟩ | ⟨x, l, c, zs, hcs, _, hl, hm, hz, hx, hcell, hwz⟩
    · simp [Value.cells] at hcs
      obtain ⟨rfl, rfl, rfl⟩ := hcs
      exact ⟨[], Sl.nil _ _ _, by omega, by omega, fun z hz => by cases hz⟩
    · simp [Value.cells] at hcs
      obtain ⟨rfl, rfl, rfl⟩ := hcs
      have hzl : zs.length = cap0 := by simpa using hz
      simp only [Prod.mk.injEq] at hx
      have hd := hx.1
      have hlen : (zs.take len0).length = len0 := by simp; omega
      have hbl : len0 ≤ Rows.uptoBulk d0 := by
        rw [hd]; simp only [Rows.uptoBulk]
        have := vcbulk.strs_len (H := H) (zs.take len0)
        omega
      refine ⟨zs.take len0, sl_of_cells (ByteArray.empty : ByteArray) hlen ?_, by omega, hl, ?_⟩
      · intro j hj
        rw [hcell j (by omega)]
        have : j < len0 := by omega
        simp [List.getD_eq_getElem?_getD, this]
      · intro z hz
        have h5 := vcbulk.strs_mem (H := H) _ z hz
        have h6 : Rows.uptoBulk d0 ≤ 1048576 := by omega
        rw [hd] at h6; simp only [Rows.uptoBulk] at h6; omega
  obtain ⟨a1, len1, cap1, rfl⟩ := okWide_slice Try.underlying22 (hval 1 22 v1 rfl rfl)
  have k1 := h1
  have lt1 : ∀ x ∈ p1, x.block < W.heap.size := by obtain ⟨m, hm⟩ := k1; exact DataW.trod_lt m _ _ _ hm
  obtain ⟨l1, s1, n1, c1, b1⟩ : ∃ l : List Int, Sl (heapOf W) a1 len1 (Value.int .i64) l ∧ len1 ≤ 1048576 ∧ len1 ≤ cap1 ∧ (∀ z ∈ l, (IntKind.min .i64) ≤ z ∧ z ≤ (IntKind.max .i64)) := by
    obtain ⟨fuel, hf⟩ := h1
    rcases open_ints Try.underlying22 Try.underlying3 (by kernel_rfl) hf with ⟨hcs, _⟩ | ⟨x, l, c, zs, hcs, _, hl, hm, hz, hx, hcell, hwz⟩
    · simp [Value.cells] at hcs
      obtain ⟨rfl, rfl, rfl⟩ := hcs
      exact ⟨[], Sl.nil _ _ _, by omega, by omega, fun z hz => by cases hz⟩
    · simp [Value.cells] at hcs
      obtain ⟨rfl, rfl, rfl⟩ := hcs
      have hzl : zs.length = cap1 := by simpa using hz
      simp only [Prod.mk.injEq] at hx
      have hd := hx.1
      have hlen : (zs.take len1).length = len1 := by simp; omega
      have hbl : len1 ≤ Rows.uptoBulk d1 := by rw [hd]; simp only [Rows.uptoBulk, vcbulk.lits, hlen]; omega
      refine ⟨zs.take len1, sl_of_cells (0 : Int) hlen ?_, by omega, hl, ?_⟩
      · intro j hj
        rw [hcell j (by omega)]
        have : j < len1 := by omega
        simp [List.getD_eq_getElem?_getD, this]
      · intro z hz; exact wf_bounds (hwz z (List.mem_of_mem_take hz))
  obtain ⟨x2, rfl, rfl, rfl, w2⟩ := open_string Try.underlying9 (hval 2 9 v2 rfl rfl) h2
  have e2 : x2.size ≤ 1048576 := by
    have e : x2.data.toList.length = x2.size := by rw [Array.length_toList]; rfl
    simp only [Rows.uptoBulk, e] at hb
    omega
  clear hA0
  refine (law_calls (BucketNews_spec (heapOf W) W.heap.size a0 len0 cap0 l0 s0 n0 c0 b0 a1 len1 cap1 l1 s1 n1 c1 b1 x2 e2)).mono fun e W' ⟨he, bel⟩ => ?_
  subst he
  exact ⟨_, rfl, _, _, _, [], _, [], hW', trodAll_mk1 (shut_bool Try.underlying4 _), (trodAll_cons_mk (Below.trod laidOut (by kernel_rfl) (of_decide_eq_true (by kernel_rfl)) k0 bel lt0) (trodAll_cons_mk (Below.trod laidOut (by kernel_rfl) (of_decide_eq_true (by kernel_rfl)) k1 bel lt1) (trodAll_cons_mk (shut_string Try.underlying9 w2) trodAll_mk0))), rfl, bel.frame _, fun h => by cases h⟩

set_option maxRecDepth 100000 in
theorem lifted (os : Os) (started : os.Started) (H : Type) (enc : TypeId × Value → H) (F : Stop.Interp) :
    ReturnsInHanded {} Try.checked os 5 .any ((Rows.OpenSpec.upto Rows.bucketNewsSpec).pre6 enc Try.prog Try.f5 Rows.bucketNewsUptoRow.domain false) (((Rows.OpenSpec.upto Rows.bucketNewsSpec).at F).post enc Try.prog Try.f5 false true false false) := by
  refine returnsInHanded_of_cond (C := Try.checked) (s := Rows.OpenSpec.upto Rows.bucketNewsSpec) (k := Rows.uptoSmall) rfl own started (by kernel_rfl) Try.func5
    (OpenSpec.witness (enc := enc) (C := Try.checked) (s := Rows.OpenSpec.upto Rows.bucketNewsSpec) (k := Rows.uptoSmall) rfl false ⟨#[], #[.slice none 0 0, .slice none 0 0, .string .empty], []⟩ 8 (by kernel_rfl) (by kernel_rfl) (by kernel_rfl)
      (x := ([.nil, .nil, .lit (.string [])], [], [])) (by kernel_rfl) rfl (by kernel_rfl)) ?_
  intro W base args ds gs before hval hW _ hk _
  exact contract H enc W base args ds gs before hval hW hk

theorem proved : Rows.BucketNewsUptoSaid :=
  OpenClaim.holds_of_cond 5 Try.f5 rfl rfl rfl rfl rfl rfl rfl ⟨rfl, rfl, rfl, rfl, rfl⟩ rfl rfl rfl rfl rfl (by kernel_rfl) Try.func5 (by kernel_rfl)
    (of_decide_eq_true (by kernel_rfl)) (by unfold Func.isWrapper; first | (rw [if_pos (by decide +kernel)]; kernel_rfl) | (rw [if_neg (by decide +kernel)]; exact ⟨rfl, rfl⟩))
    (fun os started H enc _ F => lifted os started H enc F)
end Go.Proofs.Ytjolbngckdfelaa.lawBucketNews

namespace Go.Proofs.Ytjolbngckdfelaa
theorem BucketNews_upto : Rows.BucketNewsUptoSaid := lawBucketNews.proved
end Go.Proofs.Ytjolbngckdfelaa
