import Derived.Test.YtlkpgjicpjjlcaaGreatDoorTileEq
/- Tiles compared in regions that draw their order. -/
set_option linter.unusedVariables false
set_option linter.unusedSimpArgs false
namespace Go.Vc
open Go
set_option maxRecDepth 20000
variable {P : Program}
theorem part_nrowR {T : TypeId} (hn : isNRow P T = true) {cs : Array Value} {i : Nat} {v : Value} (hv : cs[i]? = some v) (K : Value → Prop) (h : Heap) : genR P (part T cs i) K h = K v := by
  simp only [part, genR_b, nRow_isAggR hn, Bool.false_eq_true, if_false, hv, genR_p]
theorem eqIn_intR {T : TypeId} {d : Nat} {k kk : IntKind} {a b : Int} (hT : P.underlying T = some (.int kk)) (K : Bool → Prop) (h : Heap) : genR P (Op.equalIn (d + 1) T (.int k a) (.int k b)) K h = K (a == b) := by
  unfold Op.equalIn
  simp only [genR_b, genR_underlying hT, if_true, genR_p]
theorem eq3R {T I : TypeId} {k : IntKind} {f1 f2 f3 : Field} (hT : P.underlying T = some (.struct #[f1, f2, f3])) (hI : P.underlying I = some (.int k)) (hIn : isNRow P I = true) (hs : P.stoodInHeld T = false)
    (ht1 : f1.type = I) (ht2 : f2.type = I) (ht3 : f3.type = I) (ho1 : f1.offset = 0) (ho2 : f2.offset = 1) (ho3 : f3.offset = 2) (hn1 : f1.name ≠ "_") (hn2 : f2.name ≠ "_") (hn3 : f3.name ≠ "_")
    {a1 a2 a3 b1 b2 b3 : Int} (K : Bool → Prop) (h : Heap) (hK : K (decide (a1 = b1 ∧ a2 = b2 ∧ a3 = b3))) :
    genR P (Op.equalIn 10000 T (.agg #[.int k a1, .int k a2, .int k a3]) (.agg #[.int k b1, .int k b2, .int k b3])) K h := by
  unfold Op.equalIn
  simp only [genR_b, genR_underlying hT, program, genR, hs, Bool.false_eq_true, if_false, genR_p]
  rw [← Array.forIn_toList]
  simp only [List.forIn_cons, List.forIn_nil, ht1, ht2, ht3, ho1, ho2, ho3, hn1, hn2, hn3, ne_eq, not_false_eq_true, if_true]
  have p1 := part_nrowR (P := P) hIn (cs := #[.int k a1, .int k a2, .int k a3]) (i := 0) (v := .int k a1) rfl
  have p2 := part_nrowR (P := P) hIn (cs := #[.int k a1, .int k a2, .int k a3]) (i := 1) (v := .int k a2) rfl
  have p3 := part_nrowR (P := P) hIn (cs := #[.int k a1, .int k a2, .int k a3]) (i := 2) (v := .int k a3) rfl
  have q1 := part_nrowR (P := P) hIn (cs := #[.int k b1, .int k b2, .int k b3]) (i := 0) (v := .int k b1) rfl
  have q2 := part_nrowR (P := P) hIn (cs := #[.int k b1, .int k b2, .int k b3]) (i := 1) (v := .int k b2) rfl
  have q3 := part_nrowR (P := P) hIn (cs := #[.int k b1, .int k b2, .int k b3]) (i := 2) (v := .int k b3) rfl
  have e9 : ∀ (x y : Int) (K : Bool → Prop) (h : Heap), genR P (Op.equalIn 9999 I (.int k x) (.int k y)) K h = K (x == y) := fun x y => eqIn_intR (d := 9998) hI
  by_cases h1 : a1 = b1
  · have h1' : (a1 == b1) = true := by simpa using h1
    by_cases h2 : a2 = b2
    · have h2' : (a2 == b2) = true := by simpa using h2
      by_cases h3 : a3 = b3
      · have h3' : (a3 == b3) = true := by simpa using h3
        simp only [genR_b, p1, p2, p3, q1, q2, q3, e9, h1', h2', h3', Bool.not_true, Bool.false_eq_true, if_false, genR_p]
        rwa [decide_eq_true ⟨h1, h2, h3⟩] at hK
      · have h3' : (a3 == b3) = false := by simpa using h3
        simp only [genR_b, p1, p2, p3, q1, q2, q3, e9, h1', h2', h3', Bool.not_true, Bool.not_false, Bool.false_eq_true, if_false, if_true, genR_p]
        rwa [decide_eq_false (fun h => h3 h.2.2)] at hK
    · have h2' : (a2 == b2) = false := by simpa using h2
      simp only [genR_b, p1, p2, q1, q2, e9, h1', h2', Bool.not_true, Bool.not_false, Bool.false_eq_true, if_false, if_true, genR_p]
      rwa [decide_eq_false (fun h => h2 h.2.1)] at hK
  · have h1' : (a1 == b1) = false := by simpa using h1
    simp only [genR_b, p1, q1, e9, h1', Bool.not_false, if_true, genR_p]
    rwa [decide_eq_false (fun h => h1 h.1)] at hK
/-- Two structs of three numbers, compared. -/
theorem aggeq3R {T I : TypeId} {k : IntKind} {f1 f2 f3 : Field} (hT : P.underlying T = some (.struct #[f1, f2, f3])) (hI : P.underlying I = some (.int k)) (hIn : isNRow P I = true) (hs : P.stoodInHeld T = false) (hg : P.eqGuardType P.depth T = false)
    (ht1 : f1.type = I) (ht2 : f2.type = I) (ht3 : f3.type = I) (ho1 : f1.offset = 0) (ho2 : f2.offset = 1) (ho3 : f3.offset = 2) (hn1 : f1.name ≠ "_") (hn2 : f2.name ≠ "_") (hn3 : f3.name ≠ "_")
    {a1 a2 a3 b1 b2 b3 : Int} {xo yo : Operand} {K : Value → Prop} {h : Heap} (hK : K (.bool (decide (a1 = b1 ∧ a2 = b2 ∧ a3 = b3)))) :
    AggEqQ P .eql T xo yo (.agg #[.int k a1, .int k a2, .int k a3]) (.agg #[.int k b1, .int k b2, .int k b3]) K h := by
  refine ⟨?_⟩
  simp only [eqGuard, Bool.not_true, Bool.false_eq_true, if_false, genR_b, program, genR, genR_p, hg, Bool.not_false, if_true, binOp]
  exact eq3R hT hI hIn hs ht1 ht2 ht3 ho1 ho2 ho3 hn1 hn2 hn3 (fun b => K (.bool b)) h hK
theorem aggne3R {T I : TypeId} {k : IntKind} {f1 f2 f3 : Field} (hT : P.underlying T = some (.struct #[f1, f2, f3])) (hI : P.underlying I = some (.int k)) (hIn : isNRow P I = true) (hs : P.stoodInHeld T = false) (hg : P.eqGuardType P.depth T = false)
    (ht1 : f1.type = I) (ht2 : f2.type = I) (ht3 : f3.type = I) (ho1 : f1.offset = 0) (ho2 : f2.offset = 1) (ho3 : f3.offset = 2) (hn1 : f1.name ≠ "_") (hn2 : f2.name ≠ "_") (hn3 : f3.name ≠ "_")
    {a1 a2 a3 b1 b2 b3 : Int} {xo yo : Operand} {K : Value → Prop} {h : Heap} (hK : K (.bool (!decide (a1 = b1 ∧ a2 = b2 ∧ a3 = b3)))) :
    AggEqQ P .neq T xo yo (.agg #[.int k a1, .int k a2, .int k a3]) (.agg #[.int k b1, .int k b2, .int k b3]) K h := by
  refine ⟨?_⟩
  simp only [eqGuard, Bool.not_true, Bool.false_eq_true, if_false, genR_b, program, genR, genR_p, hg, Bool.not_false, if_true, binOp]
  exact eq3R hT hI hIn hs ht1 ht2 ht3 ho1 ho2 ho3 hn1 hn2 hn3 (fun b => K (.bool (!b))) h hK
end Go.Vc
