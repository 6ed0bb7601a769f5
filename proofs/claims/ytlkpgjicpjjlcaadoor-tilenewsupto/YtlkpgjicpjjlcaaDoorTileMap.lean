/- Maps whose keys are tiles. -/
import Derived.Test.YtlkpgjicpjjlcaaDoorTileEx
set_option linter.unusedVariables false
set_option linter.unusedSimpArgs false
namespace Go.Vc
open Go
set_option maxRecDepth 20000
variable {P : Program}
theorem checkKey_int {I : TypeId} {k kk : IntKind} (hI : P.underlying I = some (.int kk)) (b : Bool) (n : Nat) (x : Int) (K : Unit → Heap → Nat → Prop) (h : Heap) (t : Nat) : gen P (Instr.checkKey b (n + 1) I (.int k x)) K h t = K () h t := by
  unfold Instr.checkKey
  rw [gen_b, gen_underlying hI]
  rfl
theorem checkKey3 {T I : TypeId} {k : IntKind} {f1 f2 f3 : Field} (hT : P.underlying T = some (.struct #[f1, f2, f3])) (hI : P.underlying I = some (.int k)) (hIn : isNRow P I = true)
    (ht1 : f1.type = I) (ht2 : f2.type = I) (ht3 : f3.type = I) (ho1 : f1.offset = 0) (ho2 : f2.offset = 1) (ho3 : f3.offset = 2) (hn1 : f1.name ≠ "_") (hn2 : f2.name ≠ "_") (hn3 : f3.name ≠ "_")
    {a1 a2 a3 : Int} (b : Bool) (K : Unit → Heap → Nat → Prop) (h : Heap) (t : Nat) (hK : K () h t) : gen P (Instr.checkKey b 10000 T (.agg #[.int k a1, .int k a2, .int k a3])) K h t := by
  show gen P (Instr.checkKey b (9999 + 1) T _) K h t
  unfold Instr.checkKey
  simp only [gen_b, gen_underlying hT]
  rw [← Array.forIn_toList]
  have p1 := part_nrow (P := P) hIn (cs := #[.int k a1, .int k a2, .int k a3]) (i := 0) (v := .int k a1) rfl
  have p2 := part_nrow (P := P) hIn (cs := #[.int k a1, .int k a2, .int k a3]) (i := 1) (v := .int k a2) rfl
  have p3 := part_nrow (P := P) hIn (cs := #[.int k a1, .int k a2, .int k a3]) (i := 2) (v := .int k a3) rfl
  have c9 : ∀ (x : Int) (K : Unit → Heap → Nat → Prop) (h : Heap) (t : Nat), gen P (Instr.checkKey b 9999 I (.int k x)) K h t = K () h t := fun x => checkKey_int (n := 9998) hI b x
  simp only [List.forIn_cons, List.forIn_nil, ht1, ht2, ht3, ho1, ho2, ho3, hn1, hn2, hn3, ne_eq, not_false_eq_true, if_true, gen_b, p1, p2, p3, c9, gen_p]
  exact hK
end Go.Vc
namespace Go.Proofs.YtlkpgjicpjjlcaaDoor
open Go Go.Vc Go.Tile
set_option maxRecDepth 20000
def coK (c : Co) : Value := .agg #[.int .i64 c.1, .int .i64 (c.2.1 : Nat), .int .i64 (c.2.2 : Nat)]
def MapC (o : Obj) (l : List Co) : Prop := ∃ es clock, o = .map es clock ∧ es.toList.map (·.key) = l.map coK
theorem ask_co {c : Co} : ∀ {es : List MapEntry} {l : List Co} {i : Nat}, es.map (·.key) = l.map coK → c ∉ l → ∀ (K : Option (Nat × Value) → Heap → Nat → Prop) (h : Heap) (t : Nat), K none h t → gen Tryd.prog (Instr.findAsking 23 (coK c) es i) K h t
  | [], _, _, _, _, K, h, t, hk => by
    unfold Instr.findAsking
    exact hk
  | e :: es, l, i, he, hc, K, h, t, hk => by
    cases l with
    | nil => cases he
    | cons x l =>
      simp only [List.map_cons, List.cons.injEq] at he
      unfold Instr.findAsking
      rw [gen_b, he.1]
      refine eq3 Tryd.underlying23 Tryd.underlying3 (by kernel_rfl) (by kernel_rfl) rfl rfl rfl rfl rfl rfl (by decide) (by decide) (by decide) _ h t ?_
      rw [decide_eq_false]
      · rw [if_neg (by decide)]
        exact ask_co he.2 (fun hm => hc (List.mem_cons_of_mem _ hm)) K h t hk
      · rintro ⟨e1, e2, e3⟩
        apply hc
        have : c = x := by
          obtain ⟨c1, c2, c3⟩ := c
          obtain ⟨x1, x2, x3⟩ := x
          dsimp only at e1 e2 e3
          obtain rfl : c2 = x2 := by omega
          obtain rfl : c3 = x3 := by omega
          rw [e1]
        rw [this]
        exact List.mem_cons_self
theorem find_co {c : Co} {es : List MapEntry} {l : List Co} (he : es.map (·.key) = l.map coK) (hc : c ∉ l) (K : Option (Nat × Value) → Heap → Nat → Prop) (h : Heap) (t : Nat) (hk : K none h t) : gen Tryd.prog (Instr.findKey 23 (coK c) es) K h t := by
  unfold Instr.findKey
  rw [gen_b, gen_underlying Tryd.underlying23]
  cases es with
  | nil => exact hk
  | cons e es =>
    have hn : Instr.findNow (.struct #[{ name := "Level", type := 3, offset := 0, embedded := false, tag := "", pkgPath := "", byteOffset := 0 }, { name := "Index", type := 3, offset := 1, embedded := false, tag := "", pkgPath := "", byteOffset := 8 }, { name := "Width", type := 3, offset := 2, embedded := false, tag := "", pkgPath := "", byteOffset := 16 }]) (coK c) (e :: es) 0 = none := by
      unfold Instr.findNow
      rfl
    rw [hn]
    exact ask_co he hc K h t hk
theorem chk_co {c : Co} (b : Bool) (K : Unit → Heap → Nat → Prop) (h : Heap) (t : Nat) (hk : K () h t) : gen Tryd.prog (Instr.checkKey b 10000 23 (coK c)) K h t :=
  checkKey3 Tryd.underlying23 Tryd.underlying3 (by kernel_rfl) rfl rfl rfl rfl rfl rfl (by decide) (by decide) (by decide) b K h t hk
theorem look_co {h : Heap} {t r : Nat} {o : Obj} (hr : h r = some o) {l : List Co} (hm : MapC o l) {c : Co} (hc : c ∉ l) {K : Value → Heap → Nat → Prop} (hk : K (.bool false) h t) : LookVC Tryd.prog 35 (.map (some r)) (coK c) false K h t := by
  obtain ⟨es, clock, rfl, he⟩ := hm
  refine ⟨?_⟩
  simp only [Instr.lookup, gen_b, gen_underlying Tryd.underlying35, getObj, gen]
  refine ⟨_, hr, rfl, ?_⟩
  simp only [gen_b, gen_p]
  refine chk_co _ _ _ _ ?_
  refine find_co he hc _ _ _ ?_
  simp only [gen_b, gen_zero (P := Tryd.prog) (T := 4) (d := Tryd.types[4]) (z := .bool false) (by kernel_rfl) (by kernel_rfl), gen_p, Bool.false_eq_true, if_false]
  exact hk
theorem up_co {h : Heap} {t r : Nat} {o : Obj} (hr : h r = some o) {l : List Co} (hm : MapC o l) {c : Co} (hc : c ∉ l) {v : Value} {K : Value → Heap → Nat → Prop} (hk : ∀ o', MapC o' (l ++ [c]) → notCells o' = true → K undef (hset h r o') t) : MapUpVC Tryd.prog 35 (.map (some r)) (coK c) v K h t := by
  obtain ⟨es, clock, rfl, he⟩ := hm
  refine ⟨?_⟩
  simp only [Instr.mapUpdate, gen_b, gen_underlying Tryd.underlying35, getObj, gen]
  refine ⟨_, hr, rfl, ?_⟩
  simp only [gen_b]
  refine chk_co _ _ _ _ ?_
  refine find_co he hc _ _ _ ?_
  simp only [setObj, gen]
  refine ⟨_, hr, rfl, hk _ ⟨_, _, rfl, ?_⟩ rfl⟩
  simp [he]
end Go.Proofs.YtlkpgjicpjjlcaaDoor
