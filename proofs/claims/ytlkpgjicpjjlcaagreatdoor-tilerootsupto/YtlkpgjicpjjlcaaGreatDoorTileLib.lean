import Derived.Test.YtlkpgjicpjjlcaaGreatDoorTilePure
import Derived.Laws.RangeString
/- Ranges over strings. -/
namespace Go.Vc
open Go
set_option maxRecDepth 10000
set_option linter.unusedVariables false
set_option linter.unusedSimpArgs false
variable {P : Program}
theorem decode_bounds (s : ByteArray) (i : Nat) : (Utf8.decode s i).1 ≤ 0x1FFFFF ∧ 1 ≤ (Utf8.decode s i).2 ∧ (i < s.size → i + (Utf8.decode s i).2 ≤ s.size) := by
  unfold Utf8.decode
  dsimp only
  split
  · dsimp only; omega
  split
  · rename_i h1
    simp only [Bool.and_eq_true, decide_eq_true_eq] at h1
    split <;> dsimp only [Utf8.runeError] <;> omega
  split
  · rename_i h1
    simp only [Bool.and_eq_true, decide_eq_true_eq] at h1
    split <;> dsimp only [Utf8.runeError] <;> omega
  split
  · rename_i h1
    simp only [Bool.and_eq_true, decide_eq_true_eq] at h1
    split <;> dsimp only [Utf8.runeError] <;> omega
  · dsimp only [Utf8.runeError]; omega
theorem range_s {T : TypeId} (hT : P.underlying T = some .string) {s : ByteArray} {h : Heap} {t : Nat} {K : Value → Heap → Nat → Prop}
    (hk : ∀ r, t ≤ r → K (.pointer (some ⟨r, 0, none⟩)) (hset h r (.stringIter s 0)) (r + 1)) : RangeMVC P T (.string s) K h t := by
  refine ⟨?_⟩
  unfold Instr.range
  simp only [gen_b, gen_underlying hT, gen_p, newObj, gen]
  exact hk
theorem next_s {r pos : Nat} {T : TypeId} {s : ByteArray} {h : Heap} {t : Nat} {K : Value → Heap → Nat → Prop} (hr : h r = some (.stringIter s pos))
    (hend : s.size ≤ pos → K (.tuple #[.bool false]) h t)
    (hstep : pos < s.size → K (.tuple #[.bool true, .int .i64 (pos : Nat), .int .i32 ((Utf8.decode s pos).1 : Nat)]) (hset h r (.stringIter s (pos + (Utf8.decode s pos).2))) t) : NextVC P (.pointer (some ⟨r, 0, none⟩)) true T K h t := by
  refine ⟨?_⟩
  unfold Instr.next
  simp only [gen_b, getObj, gen]
  refine ⟨_, hr, rfl, ?_⟩
  simp only [gen_b, gen_p, gen]
  by_cases hp : pos < s.size
  · simp only [if_pos hp, gen_b, gen_p, setObj, gen]
    exact ⟨_, hr, rfl, hstep hp⟩
  · simp only [if_neg hp, gen_p, gen]
    exact hend (by omega)
end Go.Vc
