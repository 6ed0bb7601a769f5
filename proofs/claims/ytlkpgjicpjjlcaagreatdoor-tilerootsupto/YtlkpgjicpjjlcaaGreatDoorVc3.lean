import Derived.Test.YtlkpgjicpjjlcaaGreatDoorVc2
/- Operations that only read, for regions whose order is drawn. -/
namespace Go.Vc
open Go
/-! ### reading alone: the operations of a region that draws its order -/
variable {P : Program}

theorem genR_b {α β : Type} (s : Sem α) (f : α → Sem β) : ∀ {K : β → Prop} {h : Heap}, genR P (s >>= f) K h = genR P s (fun a => genR P (f a) K h) h := by
  show ∀ {K : β → Prop} {h : Heap}, genR P (s.bind f) K h = genR P s (fun a => genR P (f a) K h) h
  induction s with
  | pure a => intros; rfl
  | load m a k ih => intro K h; simp only [Sem.bind, genR, ih]
  | shape r k ih => intro K h; simp only [Sem.bind, genR, ih]
  | frozen a k ih => intro K h; simp only [Sem.bind, genR, ih]
  | getObj r k ih => intro K h; simp only [Sem.bind, genR, ih]
  | program k ih => intro K h; simp only [Sem.bind, genR, ih]
  | mark m k ih => intro K h; simp only [Sem.bind, genR, ih]
  | _ => intro K h; simp only [Sem.bind, genR]
theorem genR_p {α : Type} (a : α) (K : α → Prop) (h : Heap) : genR P (pure a) K h = K a := rfl
theorem genR_underlying {T : TypeId} {d : TypeDesc} (hd : P.underlying T = some d) (K : TypeDesc → Prop) (h : Heap) : genR P (underlying T) K h = K d := by
  simp only [underlying, program, genR_b, genR, hd, genR_p]
theorem genR_typeInfo {T : TypeId} {d : TypeInfo} (hd : P.info? T = some d) (K : TypeInfo → Prop) (h : Heap) : genR P (typeInfo T) K h = K d := by
  simp only [typeInfo, program, genR_b, genR, hd, genR_p]
theorem genR_sizeOf {T : TypeId} {d : TypeInfo} (hd : P.info? T = some d) (K : Nat → Prop) (h : Heap) : genR P (sizeOf T) K h = K d.size := by
  simp only [sizeOf, genR_b, genR_typeInfo hd, genR_p]

theorem idxAddr_genR {T : TypeId} {x ix : Value} {K : Value → Prop} {h : Heap}  (hv : idxAddrVC P T x ix K) : genR P (Instr.indexAt T x ix) K h := by
  unfold idxAddrVC at hv
  split at hv
  · rename_i elem a len cap k i hu
    split at hv
    · rename_i inf hi
      obtain ⟨hb, b, off, ha, hk⟩ := hv
      subst ha
      simp only [Instr.indexAt, asIntOf, genR_b, genR_p, genR_underlying hu]
      rw [if_pos hb]
      simp only [genR_b, genR_sizeOf hi, genR_p, addr_add]
      exact hk
    · exact hv.elim
  · rename_i len elem b off k i hu
    split at hv
    · rename_i inf hi
      obtain ⟨hb, hk⟩ := hv
      simp only [Instr.indexAt, asIntOf, genR_b, genR_p, genR_underlying hu, Instr.sureAddr]
      rw [if_pos hb]
      simp only [genR_b, genR_sizeOf hi, genR_p, addr_add]
      exact hk
    · exact hv.elim
  · exact hv.elim

theorem idx_genR {T : TypeId} {x ix : Value} {K : Value → Prop} {h : Heap}  (hv : idxVC P T x ix K) : genR P (Instr.index T x ix) K h := by
  unfold idxVC at hv
  split at hv
  · rename_i s k i hu
    obtain ⟨⟨h0, h1⟩, hk⟩ := hv
    simp only [Instr.index, asIntOf, genR_b, genR_p, genR_underlying hu]
    rw [if_pos h0]
    have hlt : i.toNat < s.size := by omega
    have : s[i.toNat]? = some s[i.toNat] := by simp [getElem?_pos, hlt]
    rw [this]
    simp only [genR_p]
    have e : byteAt s i.toNat = (s[i.toNat].toNat : Int) := by
      unfold byteAt
      have : i.toNat < s.data.size := hlt
      have e2 : s.data.getD i.toNat 0 = s.data[i.toNat] := by rw [Array.getD_eq_getD_getElem?, Array.getElem?_eq_getElem this]; rfl
      rw [e2]; rfl
    have hlt2 := s[i.toNat].toNat_lt
    rw [e] at hk; exact hk (by omega) (by omega)
  · exact hv.elim

theorem sliceBound_genR {k : IntKind} {i : Int} {y : Nat} {c : BoundsCode} {K : Nat → Prop} {h : Heap}  (hb : 0 ≤ i ∧ i ≤ y) : genR P (Instr.sliceBound (.int k i) y c) K h = K i.toNat := by
  simp only [Instr.sliceBound, asIntOf, genR_b, genR_p]
  rw [if_pos hb]; rfl

theorem slice_genR {T : TypeId} {x : Value} {lo hi : Option Value} {K : Value → Prop} {h : Heap}  (hv : sliceVC P T x lo hi K) : genR P (Instr.sliceAt T x lo hi none) K h := by
  unfold sliceVC at hv
  split at hv
  · rename_i s hu
    unfold Instr.sliceAt
    simp only [genR_b, genR_underlying hu, Instr.slice]
    split at hv <;> simp only [Instr.sliceBounds, Option.isSome, genR_b, genR_p, Bool.false_eq_true, if_false]
    · exact hv
    · obtain ⟨hb, hk⟩ := hv; rw [sliceBound_genR hb]; exact hk
    · obtain ⟨hb, hk⟩ := hv; rw [sliceBound_genR hb]; exact hk
    · obtain ⟨hb, hk⟩ := hv; rw [sliceBound_genR (by omega), sliceBound_genR (by omega)]; exact hk
    · exact hv.elim
  · rename_i elem a len cap hu
    unfold Instr.sliceAt
    simp only [genR_b, genR_underlying hu, Instr.slice]
    split at hv
    · exact hv.elim
    · rename_i inf hi
      split at hv <;> simp only [Instr.sliceBounds, Option.isSome, genR_b, genR_p, Bool.false_eq_true, if_false, if_true]
      · rw [genR_sizeOf hi, cutA_zero]; simpa using hv
      · obtain ⟨hb, hk⟩ := hv; rw [sliceBound_genR hb, genR_sizeOf hi, cutA_zero]; simpa using hk
      · obtain ⟨hb, hk⟩ := hv; rw [sliceBound_genR hb, genR_sizeOf hi]; exact hk _ rfl
      · obtain ⟨hb, hk⟩ := hv; rw [sliceBound_genR (by omega), sliceBound_genR (by omega), genR_sizeOf hi]; exact hk _ rfl
      · exact hv.elim
  · rename_i n elem b off hu
    unfold Instr.sliceAt
    simp only [genR_b, genR_underlying hu, Instr.sureAddr, genR_p]
    split at hv
    · exact hv.elim
    · rename_i inf hi
      split at hv <;> simp only [Instr.sliceBounds, Option.isSome, genR_b, genR_p, Bool.false_eq_true, if_false]
      · rw [genR_sizeOf hi, cut_zero']; simpa using hv
      · obtain ⟨hb, hk⟩ := hv; rw [sliceBound_genR hb, genR_sizeOf hi, cut_zero']; simpa using hk
      · obtain ⟨hb, hk⟩ := hv; rw [sliceBound_genR hb, genR_sizeOf hi]; exact hk _ (cutA_some _ _ _ _ _)
      · obtain ⟨hb, hk⟩ := hv; rw [sliceBound_genR (by omega), sliceBound_genR (by omega), genR_sizeOf hi]; exact hk _ (cutA_some _ _ _ _ _)
      · exact hv.elim
  · exact hv.elim

theorem loadBytes_genR (a : Addr) {h : Heap}  {K : Array Value → Prop} : ∀ (vs : List Value) (i : Nat) (acc : Array Value),
    (∀ j, j < vs.length → Cell h (a.add (i + j)) (vs.getD j undef)) → K (acc ++ vs.toArray) → genR P (loadCellsFrom a i vs.length acc) K h := by
  intro vs
  induction vs with
  | nil => intro i acc _ hk; simpa [loadCellsFrom, genR_p] using hk
  | cons v vs ih =>
    intro i acc hc hk
    have h0 := hc 0 (by simp)
    simp at h0
    simp only [List.length_cons, loadCellsFrom, load, genR_b, genR]
    refine ⟨v, h0, ?_⟩
    refine ih (i + 1) (acc.push v) ?_ ?_
    · intro j hj
      have := hc (j + 1) (by simp; omega)
      have e : i + (j + 1) = i + 1 + j := by omega
      rw [e] at this
      simpa using this
    · simpa using hk

theorem loadCells_genR {a : Addr} {h : Heap}  {K : Array Value → Prop} (vs : List Value)
    (hc : ∀ j, j < vs.length → Cell h (a.add j) (vs.getD j undef)) (hk : K vs.toArray) : genR P (loadCells a vs.length) K h := by
  unfold loadCells
  exact loadBytes_genR a vs 0 #[] (by simpa using hc) (by simpa using hk)

theorem bytesLoop_genR {h : Heap}  : ∀ (l : List UInt8) (s : ByteArray) (K : ByteArray → Prop), K (s ++ ⟨l.toArray⟩) →
    genR P (forIn (m := Sem) (l.map fun b => Value.int .u8 (b.toNat : Nat)) s (fun c r => do
      let .int .u8 n := c | stuck "bytesToString: byte expected"
      pure (ForInStep.yield (r.push (UInt8.ofNat n.toNat))))) K h := by
  intro l
  induction l with
  | nil =>
    intro s K hk
    simp only [List.map_nil, List.forIn_nil, genR_p]
    have e : s ++ (⟨([] : List UInt8).toArray⟩ : ByteArray) = s := by
      apply ByteArray.ext; simp [ByteArray.data_append]
    rw [e] at hk; exact hk
  | cons b l ih =>
    intro s K hk
    simp only [List.map_cons, List.forIn_cons, genR_b, genR_p]
    refine ih _ _ ?_
    have e : s.push (UInt8.ofNat ((b.toNat : Int)).toNat) ++ (⟨l.toArray⟩ : ByteArray) = s ++ ⟨(b :: l).toArray⟩ := by
      apply ByteArray.ext
      simp [ByteArray.push, ByteArray.data_append]
    rw [e]; exact hk

theorem bytesToString_genR {a : Addr} {n c : Nat} {h : Heap}  {K : Value → Prop} (l : List UInt8) (hr : ReadB h a n l) (hk : K (.string ⟨l.toArray⟩)) :
    genR P (Conv.bytesToString (.slice (some a) n c)) K h := by
  obtain ⟨hn, hc⟩ := hr
  subst hn
  unfold Conv.bytesToString
  simp only [genR_b]
  have hl : (l.map fun b => Value.int .u8 ((b.toNat : Nat) : Int)).length = l.length := by simp
  rw [← hl]
  refine loadCells_genR _ ?_ ?_
  · intro j hj
    simp at hj
    have := hc j hj
    simpa [hj] using this
  · simp only [List.forIn_toArray]
    refine bytesLoop_genR l ByteArray.empty _ ?_
    simpa [genR_p] using hk

/-- Structs compared in a region that draws: met by a lemma. -/
structure AggEqQ (P : Program) (op : BinOp) (T : TypeId) (xo yo : Operand) (x y : Value) (K : Value → Prop) (h : Heap) : Prop where
  run : genR P (do eqGuard op T xo yo x y; binOp op T x y) K h
def binQ (P : Program) (op : BinOp) (T : TypeId) (xo yo : Operand) (x y : Value) (K : Value → Prop) (h : Heap) : Prop :=
  match op, x, y with
  | .add, .string a, .string b => a.size + b.size ≤ 2 ^ 62 ∧ K (.string (a ++ b))
  | .eql, .string a, .string b => K (.bool (opq (decide (a = b))))
  | .neq, .string a, .string b => K (.bool (opq (decide (a ≠ b))))
  | .eql, .int k a, .int k' b => bif k == k' then K (.bool (opq (decide (a = b)))) else False
  | .neq, .int k a, .int k' b => bif k == k' then K (.bool (opq (decide (a ≠ b)))) else False
  | .lss, .int k a, .int k' b => bif k == k' then K (.bool (opq (decide (a < b)))) else False
  | .leq, .int k a, .int k' b => bif k == k' then K (.bool (opq (decide (a ≤ b)))) else False
  | .gtr, .int k a, .int k' b => bif k == k' then K (.bool (opq (decide (a > b)))) else False
  | .geq, .int k a, .int k' b => bif k == k' then K (.bool (opq (decide (a ≥ b)))) else False
  | .shl, .int k a, .int _ b => 0 ≤ b ∧ ∃ z, z = shlV k a b ∧ K (.int k z)
  | .shr, .int k a, .int _ b => 0 ≤ b ∧ ∃ z, z = shrV k a b ∧ K (.int k z)
  | .quo, .int k a, .int k' b => k = k' ∧ b ≠ 0 ∧ ∃ z, z = k.wrap (a.tdiv b) ∧ K (.int k z)
  | .rem, .int k a, .int k' b => k = k' ∧ b ≠ 0 ∧ ∃ z, z = a.tmod b ∧ K (.int k z)
  | .add, .int k a, .int k' b => bif k == k' then (∃ z, z = k.wrap (a + b) ∧ K (.int k z)) else False
  | .sub, .int k a, .int k' b => bif k == k' then (∃ z, z = k.wrap (a - b) ∧ K (.int k z)) else False
  | .mul, .int k a, .int k' b => bif k == k' then (∃ z, z = k.wrap (a * b) ∧ K (.int k z)) else False
  | .and, .int k a, .int k' b => bif k == k' then (∃ z, z = k.wrap (BitVec.ofInt k.bits a &&& BitVec.ofInt k.bits b).toNat ∧ K (.int k z)) else False
  | .or, .int k a, .int k' b => bif k == k' then (∃ z, z = k.wrap (BitVec.ofInt k.bits a ||| BitVec.ofInt k.bits b).toNat ∧ K (.int k z)) else False
  | .xor, .int k a, .int k' b => bif k == k' then (∃ z, z = k.wrap (BitVec.ofInt k.bits a ^^^ BitVec.ofInt k.bits b).toNat ∧ K (.int k z)) else False
  | .andNot, .int k a, .int k' b => bif k == k' then (∃ z, z = k.wrap (BitVec.ofInt k.bits a &&& ~~~(BitVec.ofInt k.bits b)).toNat ∧ K (.int k z)) else False
  | .eql, .agg a, .agg b => AggEqQ P .eql T xo yo (.agg a) (.agg b) K h
  | .neq, .agg a, .agg b => AggEqQ P .neq T xo yo (.agg a) (.agg b) K h
  | _, _, _ => genR P (do eqGuard op T xo yo x y; binOp op T x y) K h

theorem bin_genR {op : BinOp} {T : TypeId} {xo yo : Operand} {x y : Value} {K : Value → Prop} {h : Heap} (hv : binQ P op T xo yo x y K h) :
    genR P (do eqGuard op T xo yo x y; binOp op T x y) K h := by
  unfold binQ at hv
  split at hv
  · rename_i a b
    obtain ⟨h1, hk⟩ := hv
    simp only [eqGuard, genR_b, genR_p, binOp, Op.stringOp, Bool.not_false, if_true]
    rw [if_neg (by simp [IntKind.max, IntKind.signed, IntKind.bits]; omega)]
    exact hk
  · rw [opq_eq] at hv
    simp only [eqGuard, genR_b, genR_p, binOp, Op.stringOp, Bool.not_true, Bool.false_eq_true, if_false, stringOp_eq]; exact hv
  · rw [opq_eq, decide_not] at hv
    simp only [eqGuard, genR_b, genR_p, binOp, Op.stringOp, Bool.not_true, Bool.false_eq_true, if_false, stringOp_eq]; exact hv
  · rename_i k a k' b
    cases hkk : (k == k') with
    | false => rw [hkk] at hv; exact hv.elim
    | true =>
      rw [hkk, cond_true, opq_eq] at hv
      have : k = k' := by simpa using hkk
      subst this
      simp only [eqGuard, genR_b, genR_p, binOp, Op.intCmp, Bool.not_true, Bool.false_eq_true, if_false, ne_eq, not_true]
      rw [show (a == b) = decide (a = b) from rfl]; exact hv
  · rename_i k a k' b
    cases hkk : (k == k') with
    | false => rw [hkk] at hv; exact hv.elim
    | true =>
      rw [hkk, cond_true, opq_eq, decide_not] at hv
      have : k = k' := by simpa using hkk
      subst this
      simp only [eqGuard, genR_b, genR_p, binOp, Op.intCmp, Bool.not_true, Bool.false_eq_true, if_false, ne_eq, not_true]
      rw [show (a != b) = !decide (a = b) from rfl]; exact hv
  · rename_i k a k' b
    cases hkk : (k == k') with
    | false => rw [hkk] at hv; exact hv.elim
    | true =>
      rw [hkk, cond_true, opq_eq] at hv
      have : k = k' := by simpa using hkk
      subst this
      simp only [eqGuard, genR_b, genR_p, binOp, Op.intCmp, Bool.not_false, if_true, ne_eq, not_true, if_false]; exact hv
  · rename_i k a k' b
    cases hkk : (k == k') with
    | false => rw [hkk] at hv; exact hv.elim
    | true =>
      rw [hkk, cond_true, opq_eq] at hv
      have : k = k' := by simpa using hkk
      subst this
      simp only [eqGuard, genR_b, genR_p, binOp, Op.intCmp, Bool.not_false, if_true, ne_eq, not_true, if_false]; exact hv
  · rename_i k a k' b
    cases hkk : (k == k') with
    | false => rw [hkk] at hv; exact hv.elim
    | true =>
      rw [hkk, cond_true, opq_eq] at hv
      have : k = k' := by simpa using hkk
      subst this
      simp only [eqGuard, genR_b, genR_p, binOp, Op.intCmp, Bool.not_false, if_true, ne_eq, not_true, if_false]; exact hv
  · rename_i k a k' b
    cases hkk : (k == k') with
    | false => rw [hkk] at hv; exact hv.elim
    | true =>
      rw [hkk, cond_true, opq_eq] at hv
      have : k = k' := by simpa using hkk
      subst this
      simp only [eqGuard, genR_b, genR_p, binOp, Op.intCmp, Bool.not_false, if_true, ne_eq, not_true, if_false]; exact hv
  · rename_i k a k' b
    obtain ⟨h1, _, rfl, hk⟩ := hv
    simp only [eqGuard, genR_b, genR_p, binOp, Op.shift, Bool.not_false, if_true]
    rw [if_neg (by omega)]; exact hk
  · rename_i k a k' b
    obtain ⟨h1, _, rfl, hk⟩ := hv
    simp only [eqGuard, genR_b, genR_p, binOp, Op.shift, Bool.not_false, if_true]
    rw [if_neg (by omega)]; exact hk
  · rename_i k a k' b
    obtain ⟨rfl, h1, _, rfl, hk⟩ := hv
    simp only [eqGuard, genR_b, genR_p, binOp, Op.intDiv, Bool.not_false, if_true, ne_eq, not_true, if_false, h1]; exact hk
  · rename_i k a k' b
    obtain ⟨rfl, h1, _, rfl, hk⟩ := hv
    simp only [eqGuard, genR_b, genR_p, binOp, Op.intDiv, Bool.not_false, if_true, ne_eq, not_true, if_false, h1]; exact hk
  · rename_i k a k' b
    cases hkk : (k == k') with
    | false => rw [hkk] at hv; exact hv.elim
    | true =>
      rw [hkk, cond_true] at hv
      obtain ⟨_, rfl, hk⟩ := hv
      have : k = k' := by simpa using hkk
      subst this
      simp only [eqGuard, genR_b, genR_p, binOp, Op.intArith, ne_eq, not_true, if_false]; exact hk
  · rename_i k a k' b
    cases hkk : (k == k') with
    | false => rw [hkk] at hv; exact hv.elim
    | true =>
      rw [hkk, cond_true] at hv
      obtain ⟨_, rfl, hk⟩ := hv
      have : k = k' := by simpa using hkk
      subst this
      simp only [eqGuard, genR_b, genR_p, binOp, Op.intArith, ne_eq, not_true, if_false]; exact hk
  · rename_i k a k' b
    cases hkk : (k == k') with
    | false => rw [hkk] at hv; exact hv.elim
    | true =>
      rw [hkk, cond_true] at hv
      obtain ⟨_, rfl, hk⟩ := hv
      have : k = k' := by simpa using hkk
      subst this
      simp only [eqGuard, genR_b, genR_p, binOp, Op.intArith, ne_eq, not_true, if_false]; exact hk
  · rename_i k a k' b
    cases hkk : (k == k') with
    | false => rw [hkk] at hv; exact hv.elim
    | true =>
      rw [hkk, cond_true] at hv
      obtain ⟨_, rfl, hk⟩ := hv
      have : k = k' := by simpa using hkk
      subst this
      simp only [eqGuard, genR_b, genR_p, binOp, Op.intBits, ne_eq, not_true, if_false]; exact hk
  · rename_i k a k' b
    cases hkk : (k == k') with
    | false => rw [hkk] at hv; exact hv.elim
    | true =>
      rw [hkk, cond_true] at hv
      obtain ⟨_, rfl, hk⟩ := hv
      have : k = k' := by simpa using hkk
      subst this
      simp only [eqGuard, genR_b, genR_p, binOp, Op.intBits, ne_eq, not_true, if_false]; exact hk
  · rename_i k a k' b
    cases hkk : (k == k') with
    | false => rw [hkk] at hv; exact hv.elim
    | true =>
      rw [hkk, cond_true] at hv
      obtain ⟨_, rfl, hk⟩ := hv
      have : k = k' := by simpa using hkk
      subst this
      simp only [eqGuard, genR_b, genR_p, binOp, Op.intBits, ne_eq, not_true, if_false]; exact hk
  · rename_i k a k' b
    cases hkk : (k == k') with
    | false => rw [hkk] at hv; exact hv.elim
    | true =>
      rw [hkk, cond_true] at hv
      obtain ⟨_, rfl, hk⟩ := hv
      have : k = k' := by simpa using hkk
      subst this
      simp only [eqGuard, genR_b, genR_p, binOp, Op.intBits, ne_eq, not_true, if_false]; exact hk
  · exact hv.run
  · exact hv.run
  · exact hv

theorem un_genR {op : UnOp} {x : Value} {K : Value → Prop} {h : Heap} (hv : unVC P op x K) : genR P (Op.unary op x) K h := by
  unfold unVC at hv
  split at hv
  · obtain ⟨_, rfl, hk⟩ := hv; exact hk
  · obtain ⟨_, rfl, hk⟩ := hv; exact hk
  · exact hv
  · exact hv.elim

def convQ (P : Program) (S T : TypeId) (x : Value) (K : Value → Prop) (h : Heap) : Prop :=
  match P.underlying S, P.underlying T, x with
  | some _, some (.int k), .int _ n => ∃ z, z = k.wrap n ∧ K (.int k z)
  | some (.slice e), some .string, .slice none _ _ =>
    match P.underlying e with
    | some (.int .u8) => K (.string ByteArray.empty)
    | _ => False
  | some (.slice e), some .string, .slice (some a) n _ =>
    match P.underlying e with
    | some (.int .u8) => ∃ l, ReadB h a n l ∧ K (.string ⟨l.toArray⟩)
    | _ => False
  | _, _, _ => genR P (convert S T x) K h

theorem conv_genR {S T : TypeId} {x : Value} {K : Value → Prop} {h : Heap} (hv : convQ P S T x K h) : genR P (convert S T x) K h := by
  unfold convQ at hv
  split at hv
  · rename_i d k _ n hS hT
    obtain ⟨_, rfl, hk⟩ := hv
    simp only [convert, genR_b, genR_underlying hS, genR_underlying hT, Conv.intToInt, genR_p]; exact hk
  · rename_i e _ _ hS hT
    split at hv
    · rename_i he
      simp only [convert, genR_b, genR_underlying hS, genR_underlying hT, genR_underlying he, Conv.bytesToString, genR_p]
      exact hv
    · exact hv.elim
  · rename_i e a n _ hS hT
    split at hv
    · rename_i he
      obtain ⟨l, hl, hk⟩ := hv
      simp only [convert, genR_b, genR_underlying hS, genR_underlying hT, genR_underlying he]
      exact bytesToString_genR l hl hk
    · exact hv.elim
  · exact hv

theorem genR_zero {T : TypeId} {d : TypeInfo} {z : Value} (hd : P.info? T = some d) (hz : d.zero = some z) (K : Value → Prop) (h : Heap) : genR P (zeroValue T) K h = K z := by
  simp only [zeroValue, genR_b, genR_typeInfo hd, hz, genR_p]
theorem genR_map {α β : Type} (f : α → β) (s : Sem α) (K : β → Prop) (h : Heap) : genR P (f <$> s) K h = genR P s (fun a => K (f a)) h := by
  rw [map_eq_pure_bind, genR_b]; rfl

theorem places_eqR {fields : List Field} (hk : fieldsKnown P fields = true) : ∀ (K : List (Nat × Nat) → Prop) (h : Heap),
    (∀ pl, (∀ i, pl[i]? = placeF P fields i) → K pl) → genR P (fields.mapM fun f => (do pure (f.offset, ← sizeOf f.type) : Sem (Nat × Nat))) K h := by
  induction fields with
  | nil => intro K h hK; simp only [List.mapM_nil, genR_p]; exact hK [] (fun i => by simp [placeF])
  | cons f r ih =>
    intro K h hK
    simp only [fieldsKnown, Bool.and_eq_true] at hk
    obtain ⟨inf, hinf⟩ := Option.isSome_iff_exists.1 hk.1
    simp only [List.mapM_cons, genR_b, genR_sizeOf hinf, genR_p]
    refine ih hk.2 _ h ?_
    intro pl hpl
    refine hK _ ?_
    intro i
    cases i with
    | zero => simp [placeF, hinf]
    | succ i => simpa [placeF] using hpl i

theorem build_genR {T : TypeId} {parts : List (Nat × Value)} {K : Value → Prop} {h : Heap}  (hv : BuildX P T parts K) : genR P (Instr.build T parts.toArray) K h := by
  replace hv := buildX_vc hv
  unfold BuildVC at hv
  split at hv
  · exact hv.elim
  · rename_i inf hinf
    split at hv
    · exact hv.elim
    · rename_i z hz
      split at hv
      · rename_i fields hu
        split at hv
        · rename_i l hk hl
          simp only [forceL_eq] at hv
          simp only [Instr.build, genR_b, genR_zero hinf hz, genR_underlying hu]
          rw [Array.mapM_eq_mapM_toList, genR_map]
          refine places_eqR hk _ h ?_
          intro pl hpl
          have hf : (fun i => (pl.toArray)[i]?) = placeF P fields.toList := by
            funext i; rw [List.getElem?_toArray]; exact hpl i
          have := fill_eq _ _ _ _ hl
          have hzc : (cellsL z).toArray = z.cells := by rw [← cells_toList]
          rw [hzc] at this
          rw [hf]
          simp only [this]
          exact hv
        · exact hv.elim
      · rename_i n elem hu
        split at hv
        · exact hv.elim
        · rename_i ie hie
          split at hv
          · rename_i l hl
            simp only [forceL_eq] at hv
            simp only [Instr.build, genR_b, genR_zero hinf hz, genR_underlying hu, genR_sizeOf hie]
            have := fill_eq _ _ _ _ hl
            have hzc : (cellsL z).toArray = z.cells := by rw [← cells_toList]
            rw [hzc] at this
            simp only [this]
            exact hv
          · exact hv.elim
      · exact hv.elim

theorem loadCells_rowR {b off n : Nat} {c : Array Value} {T' : TypeId} {f : Nat × Nat} {h : Heap}  {K : Array Value → Prop} (hb : h b = some (.cells c T' f)) (hn : off + n ≤ c.size)
    (hk : K ((c.toList.drop off).take n).toArray) : genR P (loadCells ⟨b, off, none⟩ n) K h := by
  have hl : ((c.toList.drop off).take n).length = n := by simp; omega
  have := loadCells_genR (P := P) (a := ⟨b, off, none⟩) (h := h) (K := K) ((c.toList.drop off).take n) ?_ hk
  · rw [hl] at this; exact this
  · intro j hj
    rw [hl] at hj
    rw [addr_add]
    refine ⟨c, T', f, hb, rfl, ?_⟩
    have hlt : off + j < c.size := by omega
    show c[off + j]? = _
    rw [Array.getElem?_eq_getElem hlt]
    simp [List.getD_eq_getElem?_getD, hj, List.getElem?_drop, hlt]

theorem isRow_isAggR {T : TypeId} (hT : isRow P T = true) (K : Bool → Prop) (h : Heap) : genR P (isAgg T) K h = K true := by
  unfold isRow at hT
  split at hT
  · rename_i hu; simp only [isAgg, genR_b, genR_underlying hu, genR_p]
  · rename_i hu; simp only [isAgg, genR_b, genR_underlying hu, genR_p]
  · cases hT

theorem loadRow_genR {T : TypeId} {x : Value} {K : Value → Prop} {h : Heap}  (hT : isRow P T = true) (hv : LoadRowVC P T x K h) : genR P (Instr.loadAt T x) K h := by
  unfold LoadRowVC at hv
  split at hv
  · rename_i b off inf hinf
    obtain ⟨c, T', f, hb, hn, hk⟩ := hv
    simp only [Instr.loadAt, Instr.sureAddr, genR_b, genR_p, loadVar, isRow_isAggR hT, if_true, genR_sizeOf hinf]
    exact loadCells_rowR hb hn (by have := hk _ rfl; rw [forceL_eq] at this; exact this)
  · exact hv.elim

theorem genR_neg {α : Type} {c : Prop} [Decidable c] {a b : Sem α} {K : α → Prop} {h : Heap} (hc : ¬ c) (hg : genR P b K h) : genR P (if c then a else b) K h := by
  rw [if_neg hc]; exact hg
theorem fAddr_genR {T : TypeId} {x : Value} {i : Nat} {K : Value → Prop} {h : Heap}  (hv : fAddrVC P T x i K) : genR P (Instr.fieldAt T x i) K h := by
  unfold fAddrVC at hv
  split at hv
  · rename_i fields b off hu
    split at hv
    · exact hv.elim
    · rename_i f hf
      split at hv
      · exact hv.elim
      · rename_i inf hi
        rw [Array.getElem?_toList] at hf
        simp only [Instr.fieldAt, genR_b, genR_underlying hu, hf, Instr.sureAddr, genR_p, fieldPlace, genR_sizeOf hi]
        split at hv
        · exact hv.elim
        · rename_i m hs ho
          refine genR_neg (by omega) ?_
          simp only [genR_p, ho, addr_add]; exact hv
        · rename_i m o hs ho
          refine genR_neg (by omega) ?_
          simp only [genR_p, ho, addr_add]; exact hv
  · exact hv.elim

theorem nRow_isAggR {T : TypeId} (hT : isNRow P T = true) (K : Bool → Prop) (h : Heap) : genR P (isAgg T) K h = K false := by
  unfold isNRow at hT
  split at hT
  · cases hT
  · cases hT
  · cases hT
  · rename_i h1 h2 h3
    cases hu : P.underlying T with
    | none => exact absurd hu h3
    | some d =>
      simp only [isAgg, genR_b, genR_underlying hu]
      cases d <;> first | exact absurd hu (h1 _) | exact absurd hu (h2 _ _) | rfl

theorem idxAgg_genR {T : TypeId} {cs : Array Value} {ix : Value} {K : Value → Prop} {h : Heap} (hv : idxAggVC P T cs ix K) : genR P (Instr.index T (.agg cs) ix) K h := by
  unfold idxAggVC at hv
  split at hv
  · rename_i len elem k i hu
    split at hv
    · rename_i inf hi
      cases hb : isNRow P elem with
      | false => rw [hb] at hv; exact hv.elim
      | true =>
        rw [hb, cond_true] at hv
        obtain ⟨h0, v, hv1, hk⟩ := hv
        simp only [Instr.index, asIntOf, genR_b, genR_p, genR_underlying hu]
        rw [if_pos h0]
        simp only [genR_b, genR_sizeOf hi, part, nRow_isAggR hb, Bool.false_eq_true, if_false, hv1, genR_p]
        exact hk
    · exact hv.elim
  · exact hv.elim

theorem load_genR {T : TypeId} {x : Value} {K : Value → Prop} {h : Heap}  (hT : isNRow P T = true) (hv : LoadVC x K h) : genR P (Instr.loadAt T x) K h := by
  unfold LoadVC at hv
  split at hv
  · obtain ⟨v, hc, hk⟩ := hv
    simp only [Instr.loadAt, Instr.sureAddr, genR_b, genR_p, loadVar, nRow_isAggR hT, Bool.false_eq_true, if_false, load, genR]
    exact ⟨v, hc, hk⟩
  · exact hv.elim

structure LookQ (P : Program) (T : TypeId) (x k : Value) (ok : Bool) (K : Value → Prop) (h : Heap) : Prop where
  run : genR P (Instr.lookup T x k ok) K h
def nextQ (K : Value → Prop) : Next → Prop
  | .value v => K v
  | _ => False

/-- An operation that only reads. -/
def vcOpQ (P : Program) (e : Env) (o : Oper) (K : Value → Prop) (h : Heap) : Prop :=
  match o.op with
  | .indexAddr T x ix => idxAddrVC P T (evalE e x) (evalE e ix) K
  | .index T x ix =>
    match evalE e x with
    | .string _ => idxVC P T (evalE e x) (evalE e ix) K
    | .agg cs => idxAggVC P T cs (evalE e ix) K
    | _ => genR P (execOp (evalE e) o) (nextQ K) h
  | .slice T x lo hi none => sliceVC P T (evalE e x) (lo.map (evalE e)) (hi.map (evalE e)) K
  | .binOp op T x y _ => binQ P op T x y (evalE e x) (evalE e y) K h
  | .unOp op _ x => unVC P op (evalE e x) K
  | .convert S T x => convQ P S T (evalE e x) K h
  | .lookup T x ix ok => force (evalE e x) fun x => force (evalE e ix) fun k => LookQ P T x k ok K h
  | .makeFunc fn first captured => K (.func fn (first.toList.map (evalE e)).toArray (captured.toList.map (evalE e)).toArray)
  | .fieldAddr T x i => fAddrVC P T (evalE e x) i K
  | .load T x => bif isRow P T then force (evalE e x) (fun x => LoadRowVC P T x K h) else bif isNRow P T then LoadVC (evalE e x) K h else False
  | .build T parts => forceL (parts.toList.map fun p => evalE e p.2) fun vs => BuildX P T ((parts.toList.map (·.1)).zip vs) K
  | .call ⟨.builtin .print, _, _⟩ => False
  | .call ⟨.builtin .println, _, _⟩ => False
  | .call ⟨.builtin b, args, ats⟩ => genR P (builtin b ats o.type #[] (args.toList.map (evalE e)).toArray) (nextQ K) h
  | .call _ => False
  | _ => genR P (execOp (evalE e) o) (nextQ K) h

theorem genR_v (s : Sem Value) (K : Value → Prop) (h : Heap) : genR P (do pure (.value (← s)) : Sem Next) (nextQ K) h = genR P s K h := by
  rw [genR_b]; rfl

theorem vcOpQ_genR {e : Env} {o : Oper} {K : Value → Prop} {h : Heap} (hv : vcOpQ P e o K h) : genR P (execOp (evalE e) o) (nextQ K) h := by
  obtain ⟨dst, op, type, pos, after, guard⟩ := o
  unfold vcOpQ at hv
  split at hv
  · rename_i heq; have heq' : op = _ := heq; subst heq'
    simp only [execOp, genR_v]; exact idxAddr_genR hv
  · rename_i heq; have heq' : op = _ := heq; subst heq'
    split at hv
    · rename_i he
      simp only [execOp, genR_v]; exact idx_genR hv
    · rename_i cs he
      simp only [execOp, genR_v, he]; exact idxAgg_genR hv
    · exact hv
  · rename_i heq; have heq' : op = _ := heq; subst heq'
    simp only [execOp, genR_v]; exact slice_genR hv
  · rename_i heq; have heq' : op = _ := heq; subst heq'
    simp only [execOp, genR_v]; exact bin_genR hv
  · rename_i heq; have heq' : op = _ := heq; subst heq'
    simp only [execOp, genR_v]; exact un_genR hv
  · rename_i heq; have heq' : op = _ := heq; subst heq'
    simp only [execOp, genR_v]; exact conv_genR hv
  · rename_i heq; have heq' : op = _ := heq; subst heq'
    simp only [execOp, genR_v]; simp only [force_eq] at hv; exact hv.run
  · rename_i heq; have heq' : op = _ := heq; subst heq'
    simp only [execOp, genR_v, Instr.makeFunc, genR_p, args_map]; exact hv
  · rename_i heq; have heq' : op = _ := heq; subst heq'
    simp only [execOp, genR_v]; exact fAddr_genR hv
  · rename_i T x heq; have heq' : op = _ := heq; subst heq'
    simp only [execOp, genR_v]
    cases hb : isRow P T with
    | true => rw [hb] at hv; simp only [force_eq, cond_true] at hv; exact loadRow_genR hb hv
    | false =>
      rw [hb] at hv
      cases hb2 : isNRow P T with
      | true => rw [hb2] at hv; exact load_genR hb2 hv
      | false => rw [hb2] at hv; exact hv.elim
  · rename_i heq; have heq' : op = _ := heq; subst heq'
    simp only [execOp, genR_v]
    simp only [forceL_eq, zip_fst] at hv
    have := build_genR (h := h) hv
    rw [← List.map_toArray, Array.toArray_toList] at this; exact this
  · exact hv.elim
  · exact hv.elim
  · rename_i b args ats hb1 hb2 heq; have heq' : op = _ := heq; subst heq'
    simp only [execOp, resolve, genR_b, genR_p, invoke, args_map]
    rw [builtin_consts b hb1 hb2]
    exact hv
  · exact hv.elim
  · exact hv

theorem vcOpQ_all {e : Env} {o : Oper} {K : Value → Prop} {h : Heap} (hv : vcOpQ P e o K h) : ∃ v, K v ∧ ∀ g t w, Rel g h t w → (execOp (evalE e) o).run P w = .ok (.value v) w := by
  obtain ⟨nx, h1, h2⟩ := genR_all _ (vcOpQ_genR hv)
  cases nx <;> simp only [nextQ] at h1
  exact ⟨_, h1, h2⟩

/-! ### a function's contract from its body -/
def retVal (P : Program) (e : Env) (h : Heap) (x : ResultVar) (K : Value → Prop) : Prop :=
  match x with
  | .tmp x => force (e x) K
  | .cell x T => bif isRow P T then force (e x) (fun v => LoadRowVC P T v K h) else bif isNRow P T then force (e x) (fun v => LoadVC v K h) else False
noncomputable def retAll (P : Program) (e : Env) (h : Heap) (l : List ResultVar) : (List Value → Prop) → Prop :=
  List.rec (motive := fun _ => (List Value → Prop) → Prop) (fun K => K []) (fun x _ ih K => retVal P e h x (fun v => ih (fun l => K (v :: l)))) l
def retOne (R : Value → Prop) (l : List Value) : Prop :=
  match l with
  | [v] => R v
  | l => R (.tuple l.toArray)
noncomputable def retV (P : Program) (fn : Func) (R : Value → Heap → Nat → Prop) (e : Env) (h : Heap) (t : Nat) : Prop :=
  retAll P e h fn.results.toList (retOne fun v => R v h t)
noncomputable def retQ (P : Program) (fn : Func) (R : Value → Heap → Nat → Prop) : Ex → Env → Heap → Nat → Prop
  | .nrm => retV P fn R
  | .ret => retV P fn R
  | .exit _ => fun _ _ _ => False

theorem loadVar_genR {T : TypeId} {x : Value} {K : Value → Prop} {h : Heap} (hv : (bif isRow P T then LoadRowVC P T x K h else bif isNRow P T then LoadVC x K h else False)) : ∃ a, x = .pointer (some a) ∧ genR P (loadVar T a) K h := by
  have hp : (∃ a, x = .pointer (some a)) := by
    cases hb : isRow P T with
    | true =>
      rw [hb, cond_true] at hv
      unfold LoadRowVC at hv
      split at hv
      · exact ⟨_, rfl⟩
      · exact hv.elim
    | false =>
      rw [hb, cond_false] at hv
      cases hb2 : isNRow P T with
      | true =>
        rw [hb2, cond_true] at hv
        unfold LoadVC at hv
        split at hv
        · exact ⟨_, rfl⟩
        · exact hv.elim
      | false => rw [hb2] at hv; exact hv.elim
  obtain ⟨a, rfl⟩ := hp
  refine ⟨a, rfl, ?_⟩
  have hx : genR P (Instr.loadAt T (.pointer (some a))) K h := by
    cases hb : isRow P T with
    | true => rw [hb, cond_true] at hv; exact loadRow_genR hb hv
    | false =>
      rw [hb, cond_false] at hv
      cases hb2 : isNRow P T with
      | true => rw [hb2, cond_true] at hv; exact load_genR hb2 hv
      | false => rw [hb2] at hv; exact hv.elim
  simpa [Instr.loadAt, Instr.sureAddr, genR_b, genR_p] using hx

def resF (tmps : Array Value) (x : ResultVar) : Sem Value :=
  match x with
  | .tmp t => pure (tmps.getD t undef)
  | .cell a t => do loadVar t (← asAddr (tmps.getD a undef))
theorem results_eq (fn : Func) (tmps : Array Value) : results fn tmps = (do let vs ← fn.results.mapM (resF tmps); pure (if h : vs.size = 1 then vs[0] else .tuple vs)) := by
  unfold results
  have : (fun x : ResultVar => (match x with | .tmp t => pure (tmps.getD t undef) | .cell a t => do loadVar t (← asAddr (tmps.getD a undef)) : Sem Value)) = resF tmps := by
    funext x; cases x <;> rfl
  rw [← this]; rfl

theorem retAll_sound {e : Env} {h : Heap} {t : Nat} {g w : World} {n : Nat} {a : Act} (hr : Rel g h t w) (ha : AR n e a) : ∀ (l : List ResultVar) {K : List Value → Prop}, retAll P e h l K →
    ∃ vs, (l.mapM (resF a.tmps)).run P w = .ok vs w ∧ K vs := by
  intro l
  induction l with
  | nil => intro K hk; exact ⟨[], rfl, hk⟩
  | cons x r ih =>
    intro K hk
    have hk : retVal P e h x (fun v => retAll P e h r (fun l => K (v :: l))) := hk
    unfold retVal at hk
    cases x with
    | tmp x =>
      simp only [force_eq] at hk
      obtain ⟨vs, h1, h2⟩ := ih hk
      refine ⟨e x :: vs, ?_, h2⟩
      rw [List.mapM_cons]
      simp only [resF, pure_bind, Sem.run_bind, ha.get x, h1, Result.andThen_ok, Sem.run_pure]
    | cell x T =>
      simp only [force_eq] at hk
      obtain ⟨ad, he, hg⟩ := loadVar_genR hk
      obtain ⟨v, hv1, hv2⟩ := genR_sound _ hg hr
      obtain ⟨vs, h1, h2⟩ := ih hv2
      refine ⟨v :: vs, ?_, h2⟩
      have e1 : resF a.tmps (.cell x T) = loadVar T ad := by simp only [resF, ha.get x, he, asAddr, pure_bind]
      rw [List.mapM_cons, e1]
      simp only [Sem.run_bind, hv1, h1, Result.andThen_ok, Sem.run_pure]

theorem retV_results {n : Nat} {fn : Func} {R : Value → Heap → Nat → Prop} {e : Env} {h : Heap} {t : Nat} {g w : World} {a : Act} (hv : retV P fn R e h t) (hr : Rel g h t w) (ha : AR n e a) :
    ∃ v, (results fn a.tmps).run P w = .ok v w ∧ R v h t := by
  obtain ⟨vs, h1, h2⟩ := retAll_sound hr ha fn.results.toList hv
  rw [results_eq, Array.mapM_eq_mapM_toList, map_eq_pure_bind]
  simp only [Sem.run_bind, h1, Result.andThen_ok, Sem.run_pure]
  unfold retOne at h2
  split at h2
  · exact ⟨_, by simp, h2⟩
  · rename_i hne
    refine ⟨_, ?_, h2⟩
    split
    · rename_i hs
      have : vs.length = 1 := by simpa using hs
      match vs, this with
      | [v], _ => exact absurd rfl (hne v)
    · rfl

theorem spec_of_vc {f : FuncId} {fn : Func} {c : Code} {args : Array Value} {h : Heap} {t : Nat} {R : Value → Heap → Nat → Prop} (hf : P.funcs[f]? = some fn) (hb : fn.body = some c)
    (hname : (fn.name == "runtime.NumGoroutine") = false) (hd : dstsOk fn.ntmps c = true) (hsz : args.size ≤ fn.ntmps)
    (hv : Dom h t → vc P c (retQ P fn R) (fun i => args.getD i undef) h t) : CallSpec P f args h t R := by
  refine ⟨?_, ?_⟩
  · intro as w
    simp only [callFunc, Sem.run_bind, run_program, Result.andThen_ok, hf, hname, hb, Option.isNone, Bool.false_eq_true, if_false, Sem.run_pure]
  · intro g w hr
    refine calls_of_wp hf hb ?_
    have har : AR fn.ntmps (fun i => args.getD i undef) { tmps := args ++ Array.replicate (fn.ntmps - args.size) undef, defers := [] } := by
      refine ⟨rfl, by simp; omega, fun i => ?_⟩
      simp only [Array.getD_eq_getD_getElem?, Array.getElem?_append]
      split
      · rfl
      · rename_i hlt
        rw [Array.getElem?_eq_none (by omega : args.size ≤ i)]
        simp only [Option.getD_none]
        rw [Array.getElem?_replicate]
        split <;> rfl
    refine vc_sound c hd (hv hr.dom) hr har ?_
    intro x e' h' t' a' w' r ht ar k
    cases x with
    | nrm =>
      obtain ⟨v, hv1, hv2⟩ := retV_results k r ar
      exact ⟨ar.defers, v, hv1, v, h', t', rfl, r, ht, hv2⟩
    | ret =>
      obtain ⟨v, hv1, hv2⟩ := retV_results k r ar
      exact ⟨ar.defers, v, hv1, v, h', t', rfl, r, ht, hv2⟩
    | exit i => exact k.elim
end Go.Vc
