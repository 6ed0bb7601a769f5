import Derived.Test.YtlkpgjicpjjlcaaGreatDoorTileNum
/- Tiles compared. -/
set_option linter.unusedVariables false
set_option linter.unusedSimpArgs false
namespace Go.Vc
open Go
set_option maxRecDepth 20000
variable {P : Program}
theorem part_nrow {T : TypeId} (hn : isNRow P T = true) {cs : Array Value} {i : Nat} {v : Value} (hv : cs[i]? = some v) (K : Value → Heap → Nat → Prop) (h : Heap) (t : Nat) : gen P (part T cs i) K h t = K v h t := by
  simp only [part, gen_b, nRow_isAgg hn, Bool.false_eq_true, if_false, hv, gen_p]
theorem eqIn_int {T : TypeId} {d : Nat} {k kk : IntKind} {a b : Int} (hT : P.underlying T = some (.int kk)) (K : Bool → Heap → Nat → Prop) (h : Heap) (t : Nat) : gen P (Op.equalIn (d + 1) T (.int k a) (.int k b)) K h t = K (a == b) h t := by
  unfold Op.equalIn
  simp only [gen_b, gen_underlying hT, if_true, gen_p]
theorem eq3 {T I : TypeId} {k : IntKind} {f1 f2 f3 : Field} (hT : P.underlying T = some (.struct #[f1, f2, f3])) (hI : P.underlying I = some (.int k)) (hIn : isNRow P I = true) (hs : P.stoodInHeld T = false)
    (ht1 : f1.type = I) (ht2 : f2.type = I) (ht3 : f3.type = I) (ho1 : f1.offset = 0) (ho2 : f2.offset = 1) (ho3 : f3.offset = 2) (hn1 : f1.name ≠ "_") (hn2 : f2.name ≠ "_") (hn3 : f3.name ≠ "_")
    {a1 a2 a3 b1 b2 b3 : Int} (K : Bool → Heap → Nat → Prop) (h : Heap) (t : Nat) (hK : K (decide (a1 = b1 ∧ a2 = b2 ∧ a3 = b3)) h t) :
    gen P (Op.equalIn 10000 T (.agg #[.int k a1, .int k a2, .int k a3]) (.agg #[.int k b1, .int k b2, .int k b3])) K h t := by
  unfold Op.equalIn
  simp only [gen_b, gen_underlying hT, program, gen, hs, Bool.false_eq_true, if_false, gen_p]
  rw [← Array.forIn_toList]
  simp only [List.forIn_cons, List.forIn_nil, ht1, ht2, ht3, ho1, ho2, ho3, hn1, hn2, hn3, ne_eq, not_false_eq_true, if_true]
  have p1 := part_nrow (P := P) hIn (cs := #[.int k a1, .int k a2, .int k a3]) (i := 0) (v := .int k a1) rfl
  have p2 := part_nrow (P := P) hIn (cs := #[.int k a1, .int k a2, .int k a3]) (i := 1) (v := .int k a2) rfl
  have p3 := part_nrow (P := P) hIn (cs := #[.int k a1, .int k a2, .int k a3]) (i := 2) (v := .int k a3) rfl
  have q1 := part_nrow (P := P) hIn (cs := #[.int k b1, .int k b2, .int k b3]) (i := 0) (v := .int k b1) rfl
  have q2 := part_nrow (P := P) hIn (cs := #[.int k b1, .int k b2, .int k b3]) (i := 1) (v := .int k b2) rfl
  have q3 := part_nrow (P := P) hIn (cs := #[.int k b1, .int k b2, .int k b3]) (i := 2) (v := .int k b3) rfl
  have e9 : ∀ (x y : Int) (K : Bool → Heap → Nat → Prop) (h : Heap) (t : Nat), gen P (Op.equalIn 9999 I (.int k x) (.int k y)) K h t = K (x == y) h t := fun x y => eqIn_int (d := 9998) hI
  by_cases h1 : a1 = b1
  · have h1' : (a1 == b1) = true := by simpa using h1
    by_cases h2 : a2 = b2
    · have h2' : (a2 == b2) = true := by simpa using h2
      by_cases h3 : a3 = b3
      · have h3' : (a3 == b3) = true := by simpa using h3
        simp only [gen_b, p1, p2, p3, q1, q2, q3, e9, h1', h2', h3', Bool.not_true, Bool.false_eq_true, if_false, gen_p]
        rwa [decide_eq_true ⟨h1, h2, h3⟩] at hK
      · have h3' : (a3 == b3) = false := by simpa using h3
        simp only [gen_b, p1, p2, p3, q1, q2, q3, e9, h1', h2', h3', Bool.not_true, Bool.not_false, Bool.false_eq_true, if_false, if_true, gen_p]
        rwa [decide_eq_false (fun h => h3 h.2.2)] at hK
    · have h2' : (a2 == b2) = false := by simpa using h2
      simp only [gen_b, p1, p2, q1, q2, e9, h1', h2', Bool.not_true, Bool.not_false, Bool.false_eq_true, if_false, if_true, gen_p]
      rwa [decide_eq_false (fun h => h2 h.2.1)] at hK
  · have h1' : (a1 == b1) = false := by simpa using h1
    simp only [gen_b, p1, q1, e9, h1', Bool.not_false, if_true, gen_p]
    rwa [decide_eq_false (fun h => h1 h.1)] at hK
/-- Two structs of three numbers, compared. -/
theorem aggeq3 {T I : TypeId} {k : IntKind} {f1 f2 f3 : Field} (hT : P.underlying T = some (.struct #[f1, f2, f3])) (hI : P.underlying I = some (.int k)) (hIn : isNRow P I = true) (hs : P.stoodInHeld T = false) (hg : P.eqGuardType P.depth T = false)
    (ht1 : f1.type = I) (ht2 : f2.type = I) (ht3 : f3.type = I) (ho1 : f1.offset = 0) (ho2 : f2.offset = 1) (ho3 : f3.offset = 2) (hn1 : f1.name ≠ "_") (hn2 : f2.name ≠ "_") (hn3 : f3.name ≠ "_")
    {a1 a2 a3 b1 b2 b3 : Int} {xo yo : Operand} {K : Value → Heap → Nat → Prop} {h : Heap} {t : Nat} (hK : K (.bool (decide (a1 = b1 ∧ a2 = b2 ∧ a3 = b3))) h t) :
    AggEqVC P .eql T xo yo (.agg #[.int k a1, .int k a2, .int k a3]) (.agg #[.int k b1, .int k b2, .int k b3]) K h t := by
  refine ⟨?_⟩
  simp only [eqGuard, Bool.not_true, Bool.false_eq_true, if_false, gen_b, program, gen, gen_p, hg, Bool.not_false, if_true, binOp]
  exact eq3 hT hI hIn hs ht1 ht2 ht3 ho1 ho2 ho3 hn1 hn2 hn3 (fun b h t => K (.bool b) h t) h t hK
theorem aggne3 {T I : TypeId} {k : IntKind} {f1 f2 f3 : Field} (hT : P.underlying T = some (.struct #[f1, f2, f3])) (hI : P.underlying I = some (.int k)) (hIn : isNRow P I = true) (hs : P.stoodInHeld T = false) (hg : P.eqGuardType P.depth T = false)
    (ht1 : f1.type = I) (ht2 : f2.type = I) (ht3 : f3.type = I) (ho1 : f1.offset = 0) (ho2 : f2.offset = 1) (ho3 : f3.offset = 2) (hn1 : f1.name ≠ "_") (hn2 : f2.name ≠ "_") (hn3 : f3.name ≠ "_")
    {a1 a2 a3 b1 b2 b3 : Int} {xo yo : Operand} {K : Value → Heap → Nat → Prop} {h : Heap} {t : Nat} (hK : K (.bool (!decide (a1 = b1 ∧ a2 = b2 ∧ a3 = b3))) h t) :
    AggEqVC P .neq T xo yo (.agg #[.int k a1, .int k a2, .int k a3]) (.agg #[.int k b1, .int k b2, .int k b3]) K h t := by
  refine ⟨?_⟩
  simp only [eqGuard, Bool.not_true, Bool.false_eq_true, if_false, gen_b, program, gen, gen_p, hg, Bool.not_false, if_true, binOp]
  exact eq3 hT hI hIn hs ht1 ht2 ht3 ho1 ho2 ho3 hn1 hn2 hn3 (fun b h t => K (.bool (!b)) h t) h t hK
end Go.Vc
namespace Go.Proofs.YtlkpgjicpjjlcaaGreatDoor
open Go Go.Vc Go.Tile
theorem co_eq {a1 a2 a3 b1 b2 b3 : Int} {xo yo : Operand} {K : Value → Heap → Nat → Prop} {h : Heap} {t : Nat} (hK : K (.bool (decide (a1 = b1 ∧ a2 = b2 ∧ a3 = b3))) h t) :
    AggEqVC Tryz.prog .eql 23 xo yo (.agg #[.int .i64 a1, .int .i64 a2, .int .i64 a3]) (.agg #[.int .i64 b1, .int .i64 b2, .int .i64 b3]) K h t :=
  aggeq3 Tryz.underlying23 Tryz.underlying3 (by kernel_rfl) (by kernel_rfl) (by kernel_rfl) rfl rfl rfl rfl rfl rfl (by decide) (by decide) (by decide) hK
theorem co_ne {a1 a2 a3 b1 b2 b3 : Int} {xo yo : Operand} {K : Value → Heap → Nat → Prop} {h : Heap} {t : Nat} (hK : K (.bool (!decide (a1 = b1 ∧ a2 = b2 ∧ a3 = b3))) h t) :
    AggEqVC Tryz.prog .neq 23 xo yo (.agg #[.int .i64 a1, .int .i64 a2, .int .i64 a3]) (.agg #[.int .i64 b1, .int .i64 b2, .int .i64 b3]) K h t :=
  aggne3 Tryz.underlying23 Tryz.underlying3 (by kernel_rfl) (by kernel_rfl) (by kernel_rfl) rfl rfl rfl rfl rfl rfl (by decide) (by decide) (by decide) hK
end Go.Proofs.YtlkpgjicpjjlcaaGreatDoor
