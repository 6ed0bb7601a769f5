import Derived.Test.YtikpfffhcjlcjaaHuff2
/- The reference's New and Next, and the chapter's examples. -/
set_option linter.unusedSimpArgs false
namespace Go.Proofs.Ytikpfffhcjlcjaa
open Go Go.Vc Go.Huf
set_option maxRecDepth 10000
set_option linter.unusedVariables false

theorem sum_take {l : List Int} {i : Nat} {x : Int} (hx : l[i]? = some x) : (l.take (i + 1)).sum = (l.take i).sum + x := by
  rw [List.take_add_one, hx]; simp
theorem sum_good (l : List Int) : l.all good = true → 0 ≤ l.sum ∧ l.sum ≤ 15 * l.length := by
  induction l with
  | nil => intro _; simp
  | cons x l ih =>
    intro h
    simp only [List.all_cons, Bool.and_eq_true] at h
    have h1 := ih h.2
    have h2 := good_iff.1 h.1
    simp only [List.sum_cons, List.length_cons]
    omega
theorem lit_sl {h : Heap} {r : Nat} {l : List Int} {T : TypeId} {c : Array Value} (hr : h r = some (.cells c T (0, 0))) (hc : c = (l.map (Value.int .i64)).toArray) {n : Nat} (hn : l.length = n) : Sl h (some ⟨r, 0, none⟩) n (Value.int .i64) l := by
  subst hc; exact ar_sl hr hn

end Go.Proofs.Ytikpfffhcjlcjaa
