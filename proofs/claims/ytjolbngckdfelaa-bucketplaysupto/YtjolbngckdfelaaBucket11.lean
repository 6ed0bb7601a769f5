/- The deeds among the arguments. -/
import Derived.Test.YtjolbngckdfelaaBucket10
import Derived.Test.YtjolbngckdfelaaVc15
namespace Go.Proofs.Ytjolbngckdfelaa
open Go Go.Vc
set_option linter.unusedVariables false

structure Deed where
  k : Int
  name : ByteArray
  txt : ByteArray
  n : Int
  a : Option Addr
  l : Nat
  c : Nat
  F : List Int
def dv (u : Deed) : List Value := [.int .i64 u.k, .string u.name, .string u.txt, .int .i64 u.n, .slice u.a u.l u.c]
theorem dv_len (u : Deed) : (dv u).length = 5 := rfl
structure DeedOk (h : Heap) (u : Deed) : Prop where
  k1 : -2^63 ≤ u.k
  k2 : u.k < 2^63
  n1 : -2^63 ≤ u.n
  n2 : u.n < 2^63
  F : Sl h u.a u.l (Value.int .i64) u.F

open Go.ChangeShapes in
theorem open_int_list {H : Type} {enc : TypeId × Value → H} {W : World} {fuel : Nat} {v : Value} {d : DataW H × List MemPlace}
    (h : DataW.trod enc Try.prog W 0 (fun _ => true) true fuel 22 [v] = some d) :
    ∃ a l c F, v = .slice a l c ∧ Sl (heapOf W) a l (Value.int .i64) F ∧ l + 1 ≤ Rows.uptoBulk d.1 := by
  rcases open_ints Try.underlying22 Try.underlying3 (by kernel_rfl) h with ⟨hcs, hx⟩ | ⟨x, l, c, zs, hcs, _, hl, hm, hz, hx, hcell, hwz⟩
  · simp at hcs
    subst hcs
    exact ⟨none, 0, 0, [], rfl, Sl.nil _ _ _, by rw [hx]; simp [Rows.uptoBulk]⟩
  · simp at hcs
    subst hcs
    have hzl : zs.length = c := by simpa using hz
    have hlen : (zs.take l).length = l := by simp; omega
    refine ⟨some x, l, c, zs.take l, rfl, sl_of_cells (0 : Int) hlen fun j hj => ?_, ?_⟩
    · rw [hcell j (by omega)]
      have : j < l := by omega
      simp [List.getD_eq_getElem?_getD, this]
    · rw [hx]
      simp only [Rows.uptoBulk, vcbulk.lits, hlen]
      omega
theorem open_deed {H : Type} {enc : TypeId × Value → H} {W : World} {n : Nat} {cs : List Value} {x : DataW H × List MemPlace}
    (h : DataW.trod enc Try.prog W 0 (fun _ => true) true n 50 cs = some x) : ∃ u, cs = dv u ∧ DeedOk (heapOf W) u ∧ u.l + 1 ≤ Rows.uptoBulk x.1 := by
  obtain ⟨xs, m, _, hx, hcl, hxl, hf⟩ := DataW.trod_struct Try.underlying50 h
  have hcl : cs.length = 5 := hcl.trans (by kernel_rfl)
  have hxl : xs.length = 5 := hxl
  match cs, hcl with
  | [c0, c1, c2, c3, c4], _ =>
  match xs, hxl with
  | [x0, x1, x2, x3, x4], _ =>
  have h0 : DataW.trod enc Try.prog W 0 (fun _ => true) true m 3 (([c0, c1, c2, c3, c4].drop 0).take (Try.prog.cellsOf 3)) = some x0 := hf 0 _ rfl
  rw [show Try.prog.cellsOf 3 = 1 by kernel_rfl] at h0
  have h1 : DataW.trod enc Try.prog W 0 (fun _ => true) true m 9 (([c0, c1, c2, c3, c4].drop 1).take (Try.prog.cellsOf 9)) = some x1 := hf 1 _ rfl
  rw [show Try.prog.cellsOf 9 = 1 by kernel_rfl] at h1
  have h2 : DataW.trod enc Try.prog W 0 (fun _ => true) true m 9 (([c0, c1, c2, c3, c4].drop 2).take (Try.prog.cellsOf 9)) = some x2 := hf 2 _ rfl
  rw [show Try.prog.cellsOf 9 = 1 by kernel_rfl] at h2
  have h3 : DataW.trod enc Try.prog W 0 (fun _ => true) true m 3 (([c0, c1, c2, c3, c4].drop 3).take (Try.prog.cellsOf 3)) = some x3 := hf 3 _ rfl
  rw [show Try.prog.cellsOf 3 = 1 by kernel_rfl] at h3
  have h4 : DataW.trod enc Try.prog W 0 (fun _ => true) true m 22 (([c0, c1, c2, c3, c4].drop 4).take (Try.prog.cellsOf 22)) = some x4 := hf 4 _ rfl
  rw [show Try.prog.cellsOf 22 = 1 by kernel_rfl] at h4
  obtain ⟨k, e0, _, w0⟩ := DataW.trod_int Try.underlying3 h0
  obtain ⟨s1, e1, _, _⟩ := DataW.trod_string Try.underlying9 h1
  obtain ⟨s2, e2, _, _⟩ := DataW.trod_string Try.underlying9 h2
  obtain ⟨n3, e3, _, w3⟩ := DataW.trod_int Try.underlying3 h3
  obtain ⟨a, l, c, F, rfl, hF, hbl⟩ := open_int_list h4
  cases e0; cases e1; cases e2; cases e3
  have b0 : -2^63 ≤ k ∧ k ≤ 2^63 - 1 := wf_bounds w0
  have b3 : -2^63 ≤ n3 ∧ n3 ≤ 2^63 - 1 := wf_bounds w3
  refine ⟨⟨k, s1, s2, n3, a, l, c, F⟩, rfl, ⟨b0.1, by show k < 2^63; omega, b3.1, by show n3 < 2^63; omega, hF⟩, ?_⟩
  rw [hx]
  simp only [Rows.uptoBulk, Rows.uptoBulkAll, List.map_cons, List.map_nil]
  show l + 1 ≤ _
  omega
end Go.Proofs.Ytjolbngckdfelaa
