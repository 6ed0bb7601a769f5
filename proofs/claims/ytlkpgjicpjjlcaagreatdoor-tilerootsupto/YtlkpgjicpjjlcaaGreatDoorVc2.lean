import Derived.Test.YtlkpgjicpjjlcaaGreatDoorVc
import Derived.Laws.Sem
import Derived.Laws.Strings
import Derived.Orders
/- The generator is sound: operations, regions, code, contracts. -/
namespace Go.Vc
open Go
/-! ### the operations are sound -/
variable {P : Program}
theorem gen_b {α β : Type} (s : Sem α) (f : α → Sem β) (K : β → Heap → Nat → Prop) (h : Heap) (t : Nat) :
    gen P (s >>= f) K h t = gen P s (fun a h t => gen P (f a) K h t) h t := gen_bind s f
theorem gen_p {α : Type} (a : α) (K : α → Heap → Nat → Prop) (h : Heap) (t : Nat) : gen P (pure a) K h t = K a h t := rfl
theorem gen_v (s : Sem Value) (K : Value → Heap → Nat → Prop) (h : Heap) (t : Nat) : gen P (do pure (.value (← s)) : Sem Next) (nextK P K) h t = gen P s K h t := by
  rw [gen_b]; rfl
theorem gen_u (s : Sem Unit) (K : Value → Heap → Nat → Prop) (h : Heap) (t : Nat) : gen P (do s; pure .skip : Sem Next) (nextK P K) h t = gen P s (fun _ => K undef) h t := by
  rw [gen_b]; rfl
theorem gen_underlying {T : TypeId} {d : TypeDesc} (hd : P.underlying T = some d) (K : TypeDesc → Heap → Nat → Prop) (h : Heap) (t : Nat) : gen P (underlying T) K h t = K d h t := by
  simp only [underlying, program, gen_b, gen, hd, gen_p]
theorem gen_typeInfo {T : TypeId} {d : TypeInfo} (hd : P.info? T = some d) (K : TypeInfo → Heap → Nat → Prop) (h : Heap) (t : Nat) : gen P (typeInfo T) K h t = K d h t := by
  simp only [typeInfo, program, gen_b, gen, hd, gen_p]
theorem gen_sizeOf {T : TypeId} {d : TypeInfo} (hd : P.info? T = some d) (K : Nat → Heap → Nat → Prop) (h : Heap) (t : Nat) : gen P (sizeOf T) K h t = K d.size h t := by
  simp only [sizeOf, gen_b, gen_typeInfo hd, gen_p]
theorem gen_zero {T : TypeId} {d : TypeInfo} {z : Value} (hd : P.info? T = some d) (hz : d.zero = some z) (K : Value → Heap → Nat → Prop) (h : Heap) (t : Nat) : gen P (zeroValue T) K h t = K z h t := by
  simp only [zeroValue, gen_b, gen_typeInfo hd, hz, gen_p]
theorem gen_if {α : Type} (c : Prop) [Decidable c] (a b : Sem α) (K : α → Heap → Nat → Prop) (h : Heap) (t : Nat) : gen P (if c then a else b) K h t = if c then gen P a K h t else gen P b K h t := by
  split <;> rfl
theorem gen_pos {α : Type} {c : Prop} [Decidable c] {a b : Sem α} {K : α → Heap → Nat → Prop} {h : Heap} {t : Nat} (hc : c) (hg : gen P a K h t) : gen P (if c then a else b) K h t := by
  rw [if_pos hc]; exact hg
theorem gen_neg {α : Type} {c : Prop} [Decidable c] {a b : Sem α} {K : α → Heap → Nat → Prop} {h : Heap} {t : Nat} (hc : ¬ c) (hg : gen P b K h t) : gen P (if c then a else b) K h t := by
  rw [if_neg hc]; exact hg

theorem addr_add (b off n : Nat) : (Addr.mk b off none).add n = ⟨b, off + n, none⟩ := by
  unfold Addr.add; split
  · subst_vars; rfl
  · rfl

theorem idxAddr_gen {T : TypeId} {x ix : Value} {K : Value → Heap → Nat → Prop} {h : Heap} {t : Nat} (hv : idxAddrVC P T x ix (fun v => K v h t)) : gen P (Instr.indexAt T x ix) K h t := by
  unfold idxAddrVC at hv
  split at hv
  · rename_i elem a len cap k i hu
    split at hv
    · rename_i inf hi
      obtain ⟨hb, b, off, ha, hk⟩ := hv
      subst ha
      simp only [Instr.indexAt, asIntOf, gen_b, gen_p, gen_underlying hu]
      rw [if_pos hb]
      simp only [gen_b, gen_sizeOf hi, gen_p, addr_add]
      exact hk
    · exact hv.elim
  · rename_i len elem b off k i hu
    split at hv
    · rename_i inf hi
      obtain ⟨hb, hk⟩ := hv
      simp only [Instr.indexAt, asIntOf, gen_b, gen_p, gen_underlying hu, Instr.sureAddr]
      rw [if_pos hb]
      simp only [gen_b, gen_sizeOf hi, gen_p, addr_add]
      exact hk
    · exact hv.elim
  · exact hv.elim

theorem idx_gen {T : TypeId} {x ix : Value} {K : Value → Heap → Nat → Prop} {h : Heap} {t : Nat} (hv : idxVC P T x ix (fun v => K v h t)) : gen P (Instr.index T x ix) K h t := by
  unfold idxVC at hv
  split at hv
  · rename_i s k i hu
    obtain ⟨⟨h0, h1⟩, hk⟩ := hv
    simp only [Instr.index, asIntOf, gen_b, gen_p, gen_underlying hu]
    rw [if_pos h0]
    have hlt : i.toNat < s.size := by omega
    have : s[i.toNat]? = some s[i.toNat] := by simp [getElem?_pos, hlt]
    rw [this]
    simp only [gen_p]
    have e : byteAt s i.toNat = (s[i.toNat].toNat : Int) := by
      unfold byteAt
      have : i.toNat < s.data.size := hlt
      have e2 : s.data.getD i.toNat 0 = s.data[i.toNat] := by rw [Array.getD_eq_getD_getElem?, Array.getElem?_eq_getElem this]; rfl
      rw [e2]; rfl
    have hlt2 := s[i.toNat].toNat_lt
    rw [e] at hk; exact hk (by omega) (by omega)
  · exact hv.elim

theorem sliceBound_gen {k : IntKind} {i : Int} {y : Nat} {c : BoundsCode} {K : Nat → Heap → Nat → Prop} {h : Heap} {t : Nat} (hb : 0 ≤ i ∧ i ≤ y) : gen P (Instr.sliceBound (.int k i) y c) K h t = K i.toNat h t := by
  simp only [Instr.sliceBound, asIntOf, gen_b, gen_p]
  rw [if_pos hb]; rfl

theorem cutA_zero (a : Option Addr) (size cap : Nat) : (if cap = 0 then a else a.map (·.add (0 * size))) = a := by
  split
  · rfl
  · cases a with
    | none => rfl
    | some x => simp [Addr.add]
theorem cutA_some (b off l size cap : Nat) : some (if cap = l then (⟨b, off, none⟩ : Addr) else (Addr.mk b off none).add (l * size)) = cutA (some ⟨b, off, none⟩) l size cap := by
  unfold cutA; split <;> rfl
theorem cut_zero' (b off size cap : Nat) : (if cap = 0 then (⟨b, off, none⟩ : Addr) else (Addr.mk b off none).add (0 * size)) = ⟨b, off, none⟩ := by
  split
  · rfl
  · rw [addr_add]; simp

theorem slice_gen {T : TypeId} {x : Value} {lo hi : Option Value} {K : Value → Heap → Nat → Prop} {h : Heap} {t : Nat} (hv : sliceVC P T x lo hi (fun v => K v h t)) : gen P (Instr.sliceAt T x lo hi none) K h t := by
  unfold sliceVC at hv
  split at hv
  · rename_i s hu
    unfold Instr.sliceAt
    simp only [gen_b, gen_underlying hu, Instr.slice]
    split at hv <;> simp only [Instr.sliceBounds, Option.isSome, gen_b, gen_p, Bool.false_eq_true, if_false]
    · exact hv
    · obtain ⟨hb, hk⟩ := hv; rw [sliceBound_gen hb]; exact hk
    · obtain ⟨hb, hk⟩ := hv; rw [sliceBound_gen hb]; exact hk
    · obtain ⟨hb, hk⟩ := hv; rw [sliceBound_gen (by omega), sliceBound_gen (by omega)]; exact hk
    · exact hv.elim
  · rename_i elem a len cap hu
    unfold Instr.sliceAt
    simp only [gen_b, gen_underlying hu, Instr.slice]
    split at hv
    · exact hv.elim
    · rename_i inf hi
      split at hv <;> simp only [Instr.sliceBounds, Option.isSome, gen_b, gen_p, Bool.false_eq_true, if_false, if_true]
      · rw [gen_sizeOf hi, cutA_zero]; simpa using hv
      · obtain ⟨hb, hk⟩ := hv; rw [sliceBound_gen hb, gen_sizeOf hi, cutA_zero]; simpa using hk
      · obtain ⟨hb, hk⟩ := hv; rw [sliceBound_gen hb, gen_sizeOf hi]; exact hk _ rfl
      · obtain ⟨hb, hk⟩ := hv; rw [sliceBound_gen (by omega), sliceBound_gen (by omega), gen_sizeOf hi]; exact hk _ rfl
      · exact hv.elim
  · rename_i n elem b off hu
    unfold Instr.sliceAt
    simp only [gen_b, gen_underlying hu, Instr.sureAddr, gen_p]
    split at hv
    · exact hv.elim
    · rename_i inf hi
      split at hv <;> simp only [Instr.sliceBounds, Option.isSome, gen_b, gen_p, Bool.false_eq_true, if_false]
      · rw [gen_sizeOf hi, cut_zero']; simpa using hv
      · obtain ⟨hb, hk⟩ := hv; rw [sliceBound_gen hb, gen_sizeOf hi, cut_zero']; simpa using hk
      · obtain ⟨hb, hk⟩ := hv; rw [sliceBound_gen hb, gen_sizeOf hi]; exact hk _ (cutA_some _ _ _ _ _)
      · obtain ⟨hb, hk⟩ := hv; rw [sliceBound_gen (by omega), sliceBound_gen (by omega), gen_sizeOf hi]; exact hk _ (cutA_some _ _ _ _ _)
      · exact hv.elim
  · exact hv.elim

theorem toNat_le {a : Int} {b : Nat} (h : a ≤ b) : a.toNat ≤ b := by omega

theorem makeSlice_gen {T : TypeId} {n c : Value} {K : Value → Heap → Nat → Prop} {h : Heap} {t : Nat} (hv : makeSliceVC P T n c K h t) : gen P (Instr.makeSlice T n c) K h t := by
  unfold makeSliceVC at hv
  split at hv
  · rename_i elem k n k' c hu
    split at hv
    · rename_i inf hi
      split at hv
      · rename_i z hz
        obtain ⟨⟨h0, h1, h2, h3⟩, hk⟩ := hv
        have wn : IntKind.i64.wrap n = n := by simp [IntKind.wrap, IntKind.signed, IntKind.bits]; omega
        have wc : IntKind.i64.wrap c = c := by simp [IntKind.wrap, IntKind.signed, IntKind.bits]; omega
        have hbc : (inf.bytes : Int) * c ≤ 2 ^ 46 := by rw [Int.mul_comm]; exact h2
        simp only [Instr.makeSlice, gen_b, gen_underlying hu, asInt, asIntOf, gen_p, gen_typeInfo hi, wn, wc]
        rw [if_neg (by simp; omega)]
        simp only [gen_b, gen_sizeOf hi, askRoom, gen_if, mark, gen, gen_p, ite_self, newRow, newObj]
        split
        · rename_i e0
          intro r hr
          have := hk r _ hr rfl
          rw [e0] at this
          rw [e0]
          have e1 : ∀ f : Nat → Value, (Array.range 0).map f = #[] := fun f => by simp
          rw [e1]; unfold zcells at this; rw [e1] at this; exact this
        · rw [gen_zero hi hz]
          intro r hr
          exact hk r _ hr rfl
      · exact hv.elim
    · exact hv.elim
  · exact hv.elim

theorem loadBytes_gen (a : Addr) {h : Heap} {t : Nat} {K : Array Value → Heap → Nat → Prop} : ∀ (vs : List Value) (i : Nat) (acc : Array Value),
    (∀ j, j < vs.length → Cell h (a.add (i + j)) (vs.getD j undef)) → K (acc ++ vs.toArray) h t → gen P (loadCellsFrom a i vs.length acc) K h t := by
  intro vs
  induction vs with
  | nil => intro i acc _ hk; simpa [loadCellsFrom, gen_p] using hk
  | cons v vs ih =>
    intro i acc hc hk
    have h0 := hc 0 (by simp)
    simp at h0
    simp only [List.length_cons, loadCellsFrom, load, gen_b, gen]
    refine ⟨v, h0, ?_⟩
    refine ih (i + 1) (acc.push v) ?_ ?_
    · intro j hj
      have := hc (j + 1) (by simp; omega)
      have e : i + (j + 1) = i + 1 + j := by omega
      rw [e] at this
      simpa using this
    · simpa using hk

theorem loadCells_gen {a : Addr} {h : Heap} {t : Nat} {K : Array Value → Heap → Nat → Prop} (vs : List Value)
    (hc : ∀ j, j < vs.length → Cell h (a.add j) (vs.getD j undef)) (hk : K vs.toArray h t) : gen P (loadCells a vs.length) K h t := by
  unfold loadCells
  exact loadBytes_gen a vs 0 #[] (by simpa using hc) (by simpa using hk)

theorem bytesLoop_gen {h : Heap} {t : Nat} : ∀ (l : List UInt8) (s : ByteArray) (K : ByteArray → Heap → Nat → Prop), K (s ++ ⟨l.toArray⟩) h t →
    gen P (forIn (m := Sem) (l.map fun b => Value.int .u8 (b.toNat : Nat)) s (fun c r => do
      let .int .u8 n := c | stuck "bytesToString: byte expected"
      pure (ForInStep.yield (r.push (UInt8.ofNat n.toNat))))) K h t := by
  intro l
  induction l with
  | nil =>
    intro s K hk
    simp only [List.map_nil, List.forIn_nil, gen_p]
    have e : s ++ (⟨([] : List UInt8).toArray⟩ : ByteArray) = s := by
      apply ByteArray.ext; simp [ByteArray.data_append]
    rw [e] at hk; exact hk
  | cons b l ih =>
    intro s K hk
    simp only [List.map_cons, List.forIn_cons, gen_b, gen_p]
    refine ih _ _ ?_
    have e : s.push (UInt8.ofNat ((b.toNat : Int)).toNat) ++ (⟨l.toArray⟩ : ByteArray) = s ++ ⟨(b :: l).toArray⟩ := by
      apply ByteArray.ext
      simp [ByteArray.push, ByteArray.data_append]
    rw [e]; exact hk

theorem bytesToString_gen {a : Addr} {n c : Nat} {h : Heap} {t : Nat} {K : Value → Heap → Nat → Prop} (l : List UInt8) (hr : ReadB h a n l) (hk : K (.string ⟨l.toArray⟩) h t) :
    gen P (Conv.bytesToString (.slice (some a) n c)) K h t := by
  obtain ⟨hn, hc⟩ := hr
  subst hn
  unfold Conv.bytesToString
  simp only [gen_b]
  have hl : (l.map fun b => Value.int .u8 ((b.toNat : Nat) : Int)).length = l.length := by simp
  rw [← hl]
  refine loadCells_gen _ ?_ ?_
  · intro j hj
    simp at hj
    have := hc j hj
    simpa [hj] using this
  · simp only [List.forIn_toArray]
    refine bytesLoop_gen l ByteArray.empty _ ?_
    simpa [gen_p] using hk

theorem appendCap_cut (need old : Nat) (T : TypeId) (m : Nat) : need ≤ (Question.appendCap need old T).cut m := by simp [Question.cut]

theorem convert_gen {S T : TypeId} {x : Value} {K : Value → Heap → Nat → Prop} {h : Heap} {t : Nat} (hv : convertVC P S T x K h t) : gen P (convert S T x) K h t := by
  unfold convertVC at hv
  split at hv
  · rename_i d k _ n hS hT
    obtain ⟨_, rfl, hk⟩ := hv
    simp only [convert, gen_b, gen_underlying hS, gen_underlying hT, Conv.intToInt, gen_p]; exact hk
  · rename_i d e s hS hT
    split at hv
    · rename_i he
      simp only [convert, gen_b, gen_underlying hS, gen_underlying hT, gen_underlying he, Conv.stringToBytes, choose, gen, newRow, newObj, markStringish, shape, freeze, gen_p]
      intro n hf hc
      have hn : s.size ≤ n := by
        have hq : (Question.appendCap s.size 0 e).forced = false := rfl
        obtain ⟨m, hm⟩ := hc hq
        rw [hm]; exact appendCap_cut _ _ _ _
      intro r hr
      refine ⟨_, hset_same _ _ _, ?_⟩
      simp only [shapeO, gen]
      refine ⟨by simp, _, hset_same _ _ _, ?_⟩
      have := hv r n hr hn
      have e1 : hset (hset h r (.cells (Array.map (fun b => Value.int IntKind.u8 (b.toNat : Nat)) s.data ++ Array.replicate (n - s.size) (Value.int IntKind.u8 0)) e)) r
          (freezeO (.cells (Array.map (fun b => Value.int IntKind.u8 (b.toNat : Nat)) s.data ++ Array.replicate (n - s.size) (Value.int IntKind.u8 0)) e)
            (Array.map (fun b => Value.int IntKind.u8 (b.toNat : Nat)) s.data ++ Array.replicate (n - s.size) (Value.int IntKind.u8 0)).size 1)
          = hset h r (.cells (bytesVals s ++ Array.replicate (n - s.size) (.int .u8 0)) e (n, n + 1)) := by
        funext k
        unfold hset
        by_cases hk : k = r
        · have e2 : s.size + (n - s.size) = n := by omega
          simp [hk, freezeO, bytesVals, e2]
        · simp [hk]
      rw [e1]; exact this
    · exact hv.elim
  · rename_i e _ _ hS hT
    split at hv
    · rename_i he
      simp only [convert, gen_b, gen_underlying hS, gen_underlying hT, gen_underlying he, Conv.bytesToString, gen_p]
      exact hv
    · exact hv.elim
  · rename_i e a n _ hS hT
    split at hv
    · rename_i he
      obtain ⟨l, hl, hk⟩ := hv
      simp only [convert, gen_b, gen_underlying hS, gen_underlying hT, gen_underlying he]
      exact bytesToString_gen l hl hk
    · exact hv.elim
  · exact hv

theorem stringOp_eq (a b : ByteArray) : (a.toList == b.toList) = decide (a = b) := by
  have h : ∀ x : ByteArray, x.toList = x.data.toList := fun x => ByteArray.toList_eq x
  rw [h, h]
  by_cases e : a = b
  · subst e; simp
  · simp only [e, decide_false, beq_eq_false_iff_ne]
    intro h2; exact e (ByteArray.ext (Array.toList_inj.1 h2))

theorem bin_gen {op : BinOp} {T : TypeId} {xo yo : Operand} {x y : Value} {K : Value → Heap → Nat → Prop} {h : Heap} {t : Nat} (hv : binVC P op T xo yo x y K h t) :
    gen P (do eqGuard op T xo yo x y; binOp op T x y) K h t := by
  unfold binVC at hv
  split at hv
  · rename_i a b
    obtain ⟨h1, hk⟩ := hv
    simp only [eqGuard, gen_b, gen_p, binOp, Op.stringOp, Bool.not_false, if_true]
    rw [if_neg (by simp [IntKind.max, IntKind.signed, IntKind.bits]; omega)]
    exact hk
  · rw [opq_eq] at hv
    simp only [eqGuard, gen_b, gen_p, binOp, Op.stringOp, Bool.not_true, Bool.false_eq_true, if_false, stringOp_eq]; exact hv
  · rw [opq_eq, decide_not] at hv
    simp only [eqGuard, gen_b, gen_p, binOp, Op.stringOp, Bool.not_true, Bool.false_eq_true, if_false, stringOp_eq]; exact hv
  · rw [opq_eq] at hv
    simp only [eqGuard, gen_b, gen_p, binOp, Op.stringOp, Bool.not_false, if_true]; exact hv
  · rw [opq_eq] at hv
    simp only [eqGuard, gen_b, gen_p, binOp, Op.stringOp, Bool.not_false, if_true]; exact hv
  · rename_i k a k' b
    cases hkk : (k == k') with
    | false => rw [hkk] at hv; exact hv.elim
    | true =>
      rw [hkk, cond_true, opq_eq] at hv
      have : k = k' := by simpa using hkk
      subst this
      simp only [eqGuard, gen_b, gen_p, binOp, Op.intCmp, Bool.not_true, Bool.false_eq_true, if_false, ne_eq, not_true]
      rw [show (a == b) = decide (a = b) from rfl]; exact hv
  · rename_i k a k' b
    cases hkk : (k == k') with
    | false => rw [hkk] at hv; exact hv.elim
    | true =>
      rw [hkk, cond_true, opq_eq, decide_not] at hv
      have : k = k' := by simpa using hkk
      subst this
      simp only [eqGuard, gen_b, gen_p, binOp, Op.intCmp, Bool.not_true, Bool.false_eq_true, if_false, ne_eq, not_true]
      rw [show (a != b) = !decide (a = b) from rfl]; exact hv
  · rename_i k a k' b
    cases hkk : (k == k') with
    | false => rw [hkk] at hv; exact hv.elim
    | true =>
      rw [hkk, cond_true, opq_eq] at hv
      have : k = k' := by simpa using hkk
      subst this
      simp only [eqGuard, gen_b, gen_p, binOp, Op.intCmp, Bool.not_false, if_true, ne_eq, not_true, if_false]; exact hv
  · rename_i k a k' b
    cases hkk : (k == k') with
    | false => rw [hkk] at hv; exact hv.elim
    | true =>
      rw [hkk, cond_true, opq_eq] at hv
      have : k = k' := by simpa using hkk
      subst this
      simp only [eqGuard, gen_b, gen_p, binOp, Op.intCmp, Bool.not_false, if_true, ne_eq, not_true, if_false]; exact hv
  · rename_i k a k' b
    cases hkk : (k == k') with
    | false => rw [hkk] at hv; exact hv.elim
    | true =>
      rw [hkk, cond_true, opq_eq] at hv
      have : k = k' := by simpa using hkk
      subst this
      simp only [eqGuard, gen_b, gen_p, binOp, Op.intCmp, Bool.not_false, if_true, ne_eq, not_true, if_false]; exact hv
  · rename_i k a k' b
    cases hkk : (k == k') with
    | false => rw [hkk] at hv; exact hv.elim
    | true =>
      rw [hkk, cond_true, opq_eq] at hv
      have : k = k' := by simpa using hkk
      subst this
      simp only [eqGuard, gen_b, gen_p, binOp, Op.intCmp, Bool.not_false, if_true, ne_eq, not_true, if_false]; exact hv
  · rename_i k a k' b
    obtain ⟨h1, _, rfl, hk⟩ := hv
    simp only [eqGuard, gen_b, gen_p, binOp, Op.shift, Bool.not_false, if_true]
    rw [if_neg (by omega)]; exact hk
  · rename_i k a k' b
    obtain ⟨h1, _, rfl, hk⟩ := hv
    simp only [eqGuard, gen_b, gen_p, binOp, Op.shift, Bool.not_false, if_true]
    rw [if_neg (by omega)]; exact hk
  · rename_i k a k' b
    obtain ⟨rfl, h1, _, rfl, hk⟩ := hv
    simp only [eqGuard, gen_b, gen_p, binOp, Op.intDiv, Bool.not_false, if_true, ne_eq, not_true, if_false, h1]; exact hk
  · rename_i k a k' b
    obtain ⟨rfl, h1, _, rfl, hk⟩ := hv
    simp only [eqGuard, gen_b, gen_p, binOp, Op.intDiv, Bool.not_false, if_true, ne_eq, not_true, if_false, h1]; exact hk
  · rename_i k a k' b
    cases hkk : (k == k') with
    | false => rw [hkk] at hv; exact hv.elim
    | true =>
      rw [hkk, cond_true] at hv
      obtain ⟨_, rfl, hk⟩ := hv
      have : k = k' := by simpa using hkk
      subst this
      simp only [eqGuard, gen_b, gen_p, binOp, Op.intArith, ne_eq, not_true, if_false]; exact hk
  · rename_i k a k' b
    cases hkk : (k == k') with
    | false => rw [hkk] at hv; exact hv.elim
    | true =>
      rw [hkk, cond_true] at hv
      obtain ⟨_, rfl, hk⟩ := hv
      have : k = k' := by simpa using hkk
      subst this
      simp only [eqGuard, gen_b, gen_p, binOp, Op.intArith, ne_eq, not_true, if_false]; exact hk
  · rename_i k a k' b
    cases hkk : (k == k') with
    | false => rw [hkk] at hv; exact hv.elim
    | true =>
      rw [hkk, cond_true] at hv
      obtain ⟨_, rfl, hk⟩ := hv
      have : k = k' := by simpa using hkk
      subst this
      simp only [eqGuard, gen_b, gen_p, binOp, Op.intArith, ne_eq, not_true, if_false]; exact hk
  · rename_i k a k' b
    cases hkk : (k == k') with
    | false => rw [hkk] at hv; exact hv.elim
    | true =>
      rw [hkk, cond_true] at hv
      obtain ⟨_, rfl, hk⟩ := hv
      have : k = k' := by simpa using hkk
      subst this
      simp only [eqGuard, gen_b, gen_p, binOp, Op.intBits, ne_eq, not_true, if_false]; exact hk
  · rename_i k a k' b
    cases hkk : (k == k') with
    | false => rw [hkk] at hv; exact hv.elim
    | true =>
      rw [hkk, cond_true] at hv
      obtain ⟨_, rfl, hk⟩ := hv
      have : k = k' := by simpa using hkk
      subst this
      simp only [eqGuard, gen_b, gen_p, binOp, Op.intBits, ne_eq, not_true, if_false]; exact hk
  · rename_i k a k' b
    cases hkk : (k == k') with
    | false => rw [hkk] at hv; exact hv.elim
    | true =>
      rw [hkk, cond_true] at hv
      obtain ⟨_, rfl, hk⟩ := hv
      have : k = k' := by simpa using hkk
      subst this
      simp only [eqGuard, gen_b, gen_p, binOp, Op.intBits, ne_eq, not_true, if_false]; exact hk
  · rename_i k a k' b
    cases hkk : (k == k') with
    | false => rw [hkk] at hv; exact hv.elim
    | true =>
      rw [hkk, cond_true] at hv
      obtain ⟨_, rfl, hk⟩ := hv
      have : k = k' := by simpa using hkk
      subst this
      simp only [eqGuard, gen_b, gen_p, binOp, Op.intBits, ne_eq, not_true, if_false]; exact hk
  · exact hv.run
  · exact hv.run
  · exact hv

theorem un_gen {op : UnOp} {x : Value} {K : Value → Heap → Nat → Prop} {h : Heap} {t : Nat} (hv : unVC P op x (fun v => K v h t)) : gen P (Op.unary op x) K h t := by
  unfold unVC at hv
  split at hv
  · obtain ⟨_, rfl, hk⟩ := hv; exact hk
  · obtain ⟨_, rfl, hk⟩ := hv; exact hk
  · exact hv
  · exact hv.elim

theorem args_map (e : Env) (args : Array Operand) : args.map (evalE e) = (args.toList.map (evalE e)).toArray := by
  apply Array.toList_inj.1; simp

theorem builtin_consts (b : Builtin) (hb : b ≠ .print) (hb' : b ≠ .println) (ats : Array TypeId) (ty : TypeId) (cs : Array Bool) (args : Array Value) :
    builtin b ats ty cs args = builtin b ats ty #[] args := by cases b <;> first | rfl | exact absurd rfl hb | exact absurd rfl hb'

/-- What an operation's run leaves. -/
def Ran (P : Program) (g : World) (K : Value → Heap → Nat → Prop) (t : Nat) (r : Result Next) : Prop :=
  ∃ nx w' h' t', r = .ok nx w' ∧ Rel g h' t' w' ∧ t ≤ t' ∧ nextK P K nx h' t'

theorem Ran.of_gen {s : Sem Next} {g : World} {K : Value → Heap → Nat → Prop} {h : Heap} {t : Nat} {w : World} (hg : gen P s (nextK P K) h t) (hr : Rel g h t w) :
    Ran P g K t (s.run P w) := gen_sound s hg hr

theorem cells_toList (v : Value) : v.cells.toList = cellsL v := by cases v <;> rfl
theorem cells_size (v : Value) : v.cells.size = (cellsL v).length := by rw [← cells_toList]; simp

theorem setR_length : ∀ (vs cells : List Value) (off : Nat), (setR cells off vs).length = cells.length := by
  intro vs
  induction vs with
  | nil => intro cells off; rfl
  | cons v r ih => intro cells off; simp only [setR, ih, List.length_set]

theorem foldl_setR : ∀ (vs : List Value) (k off : Nat) (cells : Array Value), (vs.zipIdx k).foldl (fun cs (c, j) => cs.setIfInBounds (off + j) c) cells = (setR cells.toList (off + k) vs).toArray := by
  intro vs
  induction vs with
  | nil => intro k off cells; simp [setR]
  | cons v r ih =>
    intro k off cells
    simp only [List.zipIdx_cons, List.foldl_cons, setR, ih]
    simp [Nat.add_assoc]

theorem fill_eq (place : Nat → Option (Nat × Nat)) : ∀ (parts : List (Nat × Value)) (cells l : List Value), fillL place cells parts = some l → Instr.fill place cells.toArray parts = some l.toArray := by
  intro parts
  induction parts with
  | nil => intro cells l h; simp only [fillL, Option.some.injEq] at h; subst h; rfl
  | cons p rest ih =>
    obtain ⟨i, v⟩ := p
    intro cells l h
    simp only [fillL] at h
    unfold Instr.fill
    cases hp : place i with
    | none => rw [hp] at h; cases h
    | some q =>
      obtain ⟨off, size⟩ := q
      rw [hp] at h
      simp only at h ⊢
      cases hc : (Nat.beq (cellsL v).length size && Nat.ble (off + size) cells.length) with
      | false => rw [hc] at h; cases h
      | true =>
        rw [hc] at h
        simp only [Bool.and_eq_true] at hc
        have h1 := Nat.eq_of_beq_eq_true hc.1
        have h2 := Nat.le_of_ble_eq_true hc.2
        have hz : v.cells.zipIdx.foldl (fun cs (c, j) => cs.setIfInBounds (off + j) c) cells.toArray = (setR cells off (cellsL v)).toArray := by
          have := foldl_setR (cellsL v) 0 off cells.toArray
          rw [← Array.foldl_toList, Array.toList_zipIdx, cells_toList]
          exact this
        rw [hz]
        have hg : ¬ ((v.cells.size ≠ size || decide (off + v.cells.size > cells.toArray.size)) = true) := by
          rw [cells_size, h1]; simp; omega
        rw [if_neg hg]
        exact ih _ _ h

theorem gen_map {α β : Type} (f : α → β) (s : Sem α) (K : β → Heap → Nat → Prop) (h : Heap) (t : Nat) : gen P (f <$> s) K h t = gen P s (fun a h t => K (f a) h t) h t := by
  rw [map_eq_pure_bind, gen_b]; rfl

theorem places_eq {fields : List Field} (hk : fieldsKnown P fields = true) : ∀ (K : List (Nat × Nat) → Heap → Nat → Prop) (h : Heap) (t : Nat),
    (∀ pl, (∀ i, pl[i]? = placeF P fields i) → K pl h t) → gen P (fields.mapM fun f => (do pure (f.offset, ← sizeOf f.type) : Sem (Nat × Nat))) K h t := by
  induction fields with
  | nil => intro K h t hK; simp only [List.mapM_nil, gen_p]; exact hK [] (fun i => by simp [placeF])
  | cons f r ih =>
    intro K h t hK
    simp only [fieldsKnown, Bool.and_eq_true] at hk
    obtain ⟨inf, hinf⟩ := Option.isSome_iff_exists.1 hk.1
    simp only [List.mapM_cons, gen_b, gen_sizeOf hinf, gen_p]
    refine ih hk.2 _ h t ?_
    intro pl hpl
    refine hK _ ?_
    intro i
    cases i with
    | zero => simp [placeF, hinf]
    | succ i => simpa [placeF] using hpl i

theorem build_gen {T : TypeId} {parts : List (Nat × Value)} {K : Value → Heap → Nat → Prop} {h : Heap} {t : Nat} (hv : BuildX P T parts (fun v => K v h t)) : gen P (Instr.build T parts.toArray) K h t := by
  replace hv := buildX_vc hv
  unfold BuildVC at hv
  split at hv
  · exact hv.elim
  · rename_i inf hinf
    split at hv
    · exact hv.elim
    · rename_i z hz
      split at hv
      · rename_i fields hu
        split at hv
        · rename_i l hk hl
          simp only [forceL_eq] at hv
          simp only [Instr.build, gen_b, gen_zero hinf hz, gen_underlying hu]
          rw [Array.mapM_eq_mapM_toList, gen_map]
          refine places_eq hk _ h t ?_
          intro pl hpl
          have hf : (fun i => (pl.toArray)[i]?) = placeF P fields.toList := by
            funext i; rw [List.getElem?_toArray]; exact hpl i
          have := fill_eq _ _ _ _ hl
          have hzc : (cellsL z).toArray = z.cells := by rw [← cells_toList]
          rw [hzc] at this
          rw [hf]
          simp only [this]
          exact hv
        · exact hv.elim
      · rename_i n elem hu
        split at hv
        · exact hv.elim
        · rename_i ie hie
          split at hv
          · rename_i l hl
            simp only [forceL_eq] at hv
            simp only [Instr.build, gen_b, gen_zero hinf hz, gen_underlying hu, gen_sizeOf hie]
            have := fill_eq _ _ _ _ hl
            have hzc : (cellsL z).toArray = z.cells := by rw [← cells_toList]
            rw [hzc] at this
            simp only [this]
            exact hv
          · exact hv.elim
      · exact hv.elim

theorem buildSl_gen {T : TypeId} {n : Nat} {parts : List (Nat × Value)} {K : Value → Heap → Nat → Prop} {h : Heap} {t : Nat} (hv : BuildSlVC P T n parts K h t) : gen P (Instr.buildSlice T n parts.toArray) K h t := by
  unfold BuildSlVC at hv
  split at hv
  · rename_i elem hu
    split at hv
    · exact hv.elim
    · rename_i ie hie
      split at hv
      · exact hv.elim
      · rename_i z hz
        split at hv
        · rename_i l h1 hl
          simp only [forceL_eq] at hv
          have h1 := Nat.le_of_ble_eq_true h1
          simp only [Instr.buildSlice, gen_b, gen_underlying hu, gen_sizeOf hie]
          rw [if_neg (by omega)]
          by_cases h2 : n * ie.size = 0
          · rw [if_pos h2]
            have hf := fill_eq _ _ _ _ hl
            simp only [h2, List.range_zero, List.map_nil] at hf
            have e0 : (Array.range (n * ie.size)).map (fun x => (#[] : Array Value)[x % (#[] : Array Value).size]!) = ([] : List Value).toArray := by rw [h2]; apply Array.toList_inj.1; simp
            simp only [gen_b, gen_p, e0, hf, newRow, newObj, gen]
            exact hv
          · rw [if_neg (by omega)]
            simp only [gen_b, gen_p, gen_zero hie hz]
            have hini : (Array.range (n * ie.size)).map (fun x => z.cells[x % z.cells.size]!) = ((List.range (n * ie.size)).map fun i => (cellsL z).getD (i % (cellsL z).length) default).toArray := by
              apply Array.toList_inj.1
              simp only [Array.toList_map, Array.toList_range]
              apply List.map_congr_left
              intro i _
              rw [cells_size, ← cells_toList]
              simp only [Array.getElem!_eq_getD, Array.getD_eq_getD_getElem?, List.getD_eq_getElem?_getD, Array.getElem?_toList]
            have hf := fill_eq _ _ _ _ hl
            rw [← hini] at hf
            simp only [hf, gen_b, newRow, newObj, gen, gen_p]
            exact hv
        · exact hv.elim
  · exact hv.elim

theorem loadCells_row {b off n : Nat} {c : Array Value} {T' : TypeId} {f : Nat × Nat} {h : Heap} {t : Nat} {K : Array Value → Heap → Nat → Prop} (hb : h b = some (.cells c T' f)) (hn : off + n ≤ c.size)
    (hk : K ((c.toList.drop off).take n).toArray h t) : gen P (loadCells ⟨b, off, none⟩ n) K h t := by
  have hl : ((c.toList.drop off).take n).length = n := by simp; omega
  have := loadCells_gen (P := P) (a := ⟨b, off, none⟩) (h := h) (t := t) (K := K) ((c.toList.drop off).take n) ?_ hk
  · rw [hl] at this; exact this
  · intro j hj
    rw [hl] at hj
    rw [addr_add]
    refine ⟨c, T', f, hb, rfl, ?_⟩
    have hlt : off + j < c.size := by omega
    show c[off + j]? = _
    rw [Array.getElem?_eq_getElem hlt]
    simp [List.getD_eq_getElem?_getD, hj, List.getElem?_drop, hlt]

theorem isRow_isAgg {T : TypeId} (hT : isRow P T = true) (K : Bool → Heap → Nat → Prop) (h : Heap) (t : Nat) : gen P (isAgg T) K h t = K true h t := by
  unfold isRow at hT
  split at hT
  · rename_i hu; simp only [isAgg, gen_b, gen_underlying hu, gen_p]
  · rename_i hu; simp only [isAgg, gen_b, gen_underlying hu, gen_p]
  · cases hT

theorem loadRow_gen {T : TypeId} {x : Value} {K : Value → Heap → Nat → Prop} {h : Heap} {t : Nat} (hT : isRow P T = true) (hv : LoadRowVC P T x (fun v => K v h t) h) : gen P (Instr.loadAt T x) K h t := by
  unfold LoadRowVC at hv
  split at hv
  · rename_i b off inf hinf
    obtain ⟨c, T', f, hb, hn, hk⟩ := hv
    simp only [Instr.loadAt, Instr.sureAddr, gen_b, gen_p, loadVar, isRow_isAgg hT, if_true, gen_sizeOf hinf]
    exact loadCells_row hb hn (by have := hk _ rfl; rw [forceL_eq] at this; exact this)
  · exact hv.elim

theorem storeCells_gen {b : Nat} {T' : TypeId} {f : Nat × Nat} {t : Nat} {K : Unit → Heap → Nat → Prop} (off : Nat) : ∀ (vs : List Value) (i : Nat) (c : Array Value) (h : Heap),
    h b = some (.cells c T' f) → off + i + vs.length ≤ c.size → (∀ j, j < vs.length → fz f (off + i + j) = false) → (∀ u ∈ vs, oneC u = true) →
      K () (hset h b (.cells (setR c.toList (off + i) vs).toArray T' f)) t → gen P (storeCells ⟨b, off, none⟩ vs i) K h t := by
  intro vs
  induction vs with
  | nil =>
    intro i c h hb _ _ _ hk
    simp only [storeCells, gen_p]
    have : hset h b (.cells (setR c.toList (off + i) []).toArray T' f) = h := by
      funext k; unfold hset; split
      · rename_i e; subst e; simp [setR, hb]
      · rfl
    rw [this] at hk; exact hk
  | cons v r ih =>
    intro i c h hb hlen hfz h1 hk
    simp only [List.length_cons] at hlen
    simp only [storeCells, store, gen_b, addr_add, gen]
    refine ⟨h1 v (by simp), c, T', f, hb, trivial, by omega, by have := hfz 0 (by simp); simpa using this, ?_⟩
    refine ih (i + 1) _ _ (hset_same _ _ _) (by simp; omega) ?_ (fun u hu => h1 u (by simp [hu])) ?_
    · intro j hj
      have := hfz (j + 1) (by simp; omega)
      have e : off + i + (j + 1) = off + (i + 1) + j := by omega
      rw [e] at this; exact this
    · have e : hset (hset h b (.cells (c.setIfInBounds (off + i) v) T' f)) b (.cells (setR (c.setIfInBounds (off + i) v).toList (off + (i + 1)) r).toArray T' f) = hset h b (.cells (setR c.toList (off + i) (v :: r)).toArray T' f) := by
        funext k; unfold hset; split
        · simp [setR, Nat.add_assoc]
        · rfl
      rw [e]; exact hk

theorem storeRow_gen {T : TypeId} {x v : Value} {K : Heap → Nat → Prop} {h : Heap} {t : Nat} (hv : StoreRowVC P T x v (fun h => K h t) h) : gen P (Instr.storeAt T x v) (fun _ => K) h t := by
  unfold StoreRowVC at hv
  split at hv
  · rename_i b off cs inf hinf
    obtain ⟨hsz, h1, c, T', f, hb, hn, hfz, hk⟩ := hv
    simp only [Instr.storeAt, Instr.sureAddr, gen_b, gen_p, storeVar, gen_sizeOf hinf]
    refine gen_neg (by show ¬ (cs.size ≠ inf.size); simpa using hsz) ?_
    exact storeCells_gen off cs.toList 0 c h hb (by simp; omega) (fun j hj => hfz j (by simp at hj; omega)) h1 (hk _ rfl)
  · exact hv.elim

theorem fAddr_gen {T : TypeId} {x : Value} {i : Nat} {K : Value → Heap → Nat → Prop} {h : Heap} {t : Nat} (hv : fAddrVC P T x i (fun v => K v h t)) : gen P (Instr.fieldAt T x i) K h t := by
  unfold fAddrVC at hv
  split at hv
  · rename_i fields b off hu
    split at hv
    · exact hv.elim
    · rename_i f hf
      split at hv
      · exact hv.elim
      · rename_i inf hi
        rw [Array.getElem?_toList] at hf
        simp only [Instr.fieldAt, gen_b, gen_underlying hu, hf, Instr.sureAddr, gen_p, fieldPlace, gen_sizeOf hi]
        split at hv
        · exact hv.elim
        · rename_i m hs ho
          refine gen_neg (by omega) ?_
          simp only [gen_p, ho, addr_add]; exact hv
        · rename_i m o hs ho
          refine gen_neg (by omega) ?_
          simp only [gen_p, ho, addr_add]; exact hv
  · exact hv.elim

theorem nRow_isAgg {T : TypeId} (hT : isNRow P T = true) (K : Bool → Heap → Nat → Prop) (h : Heap) (t : Nat) : gen P (isAgg T) K h t = K false h t := by
  unfold isNRow at hT
  split at hT
  · cases hT
  · cases hT
  · cases hT
  · rename_i h1 h2 h3
    cases hu : P.underlying T with
    | none => exact absurd hu h3
    | some d =>
      simp only [isAgg, gen_b, gen_underlying hu]
      cases d <;> first | exact absurd hu (h1 _) | exact absurd hu (h2 _ _) | rfl

theorem idxAgg_gen {T : TypeId} {cs : Array Value} {ix : Value} {K : Value → Heap → Nat → Prop} {h : Heap} {t : Nat} (hv : idxAggVC P T cs ix (fun v => K v h t)) : gen P (Instr.index T (.agg cs) ix) K h t := by
  unfold idxAggVC at hv
  split at hv
  · rename_i len elem k i hu
    split at hv
    · rename_i inf hi
      cases hb : isNRow P elem with
      | false => rw [hb] at hv; exact hv.elim
      | true =>
        rw [hb, cond_true] at hv
        obtain ⟨h0, v, hv1, hk⟩ := hv
        simp only [Instr.index, asIntOf, gen_b, gen_p, gen_underlying hu]
        rw [if_pos h0]
        simp only [gen_b, gen_sizeOf hi, part, nRow_isAgg hb, Bool.false_eq_true, if_false, hv1, gen_p]
        exact hk
    · exact hv.elim
  · exact hv.elim

theorem load_gen {T : TypeId} {x : Value} {K : Value → Heap → Nat → Prop} {h : Heap} {t : Nat} (hT : isNRow P T = true) (hv : LoadVC x (fun v => K v h t) h) : gen P (Instr.loadAt T x) K h t := by
  unfold LoadVC at hv
  split at hv
  · obtain ⟨v, hc, hk⟩ := hv
    simp only [Instr.loadAt, Instr.sureAddr, gen_b, gen_p, loadVar, nRow_isAgg hT, Bool.false_eq_true, if_false, load, gen]
    exact ⟨v, hc, hk⟩
  · exact hv.elim

theorem store_gen {T : TypeId} {x v : Value} {K : Heap → Nat → Prop} {h : Heap} {t : Nat} (hv : StoreVC P T x v (fun h => K h t) h) : gen P (Instr.storeAt T x v) (fun _ => K) h t := by
  unfold StoreVC at hv
  split at hv
  · rename_i b off inf hinf
    split at hv
    · rename_i hs
      obtain ⟨h1, c, T', f, hb, hlt, hf, hk⟩ := hv
      have hc1 : v.cells = #[v] := by cases v <;> first | rfl | cases h1
      simp only [Instr.storeAt, Instr.sureAddr, gen_b, gen_p, storeVar, gen_sizeOf hinf, hc1]
      refine gen_neg (by simp [hs]) ?_
      simp only [storeCells, store, gen_b, addr_add, gen]
      exact ⟨h1, c, T', f, hb, trivial, hlt, hf, hk _ rfl⟩
    · exact hv.elim
  · exact hv.elim

theorem zip_fst (e : Env) (parts : List (Nat × Operand)) : (parts.map (·.1)).zip (parts.map fun p => evalE e p.2) = parts.map fun p => (p.1, evalE e p.2) := by
  induction parts with
  | nil => rfl
  | cons p r ih => simp only [List.map_cons, List.zip_cons_cons, ih]

theorem vcOp_ran {e : Env} {o : Oper} {K : Value → Heap → Nat → Prop} {h : Heap} {t : Nat} {g w : World} (hv : vcOp P e o K h t) (hr : Rel g h t w) :
    Ran P g K t ((execOp (evalE e) o).run P w) := by
  obtain ⟨dst, op, type, pos, after, guard⟩ := o
  unfold vcOp at hv
  split at hv
  · rename_i heq; have heq' : op = _ := heq; subst heq'
    refine Ran.of_gen ?_ hr; simp only [execOp, gen_v]; exact idxAddr_gen hv
  · rename_i heq; have heq' : op = _ := heq; subst heq'
    refine Ran.of_gen ?_ hr
    split at hv
    · rename_i he
      simp only [execOp, gen_v]; exact idx_gen hv
    · rename_i cs he
      simp only [execOp, gen_v, he]; exact idxAgg_gen hv
    · exact hv
  · rename_i heq; have heq' : op = _ := heq; subst heq'
    refine Ran.of_gen ?_ hr; simp only [execOp, gen_v]; exact slice_gen hv
  · rename_i heq; have heq' : op = _ := heq; subst heq'
    refine Ran.of_gen ?_ hr; simp only [execOp, gen_v]; simp only [force_eq] at hv; exact hv.run
  · rename_i heq; have heq' : op = _ := heq; subst heq'
    refine Ran.of_gen ?_ hr; simp only [execOp, gen_v]; exact makeSlice_gen hv
  · rename_i heq; have heq' : op = _ := heq; subst heq'
    refine Ran.of_gen ?_ hr; simp only [execOp, gen_v]; exact bin_gen hv
  · rename_i heq; have heq' : op = _ := heq; subst heq'
    refine Ran.of_gen ?_ hr; simp only [execOp, gen_v]; exact un_gen hv
  · rename_i heq; have heq' : op = _ := heq; subst heq'
    refine Ran.of_gen ?_ hr; simp only [execOp, gen_v]; exact convert_gen hv
  · rename_i heq; have heq' : op = _ := heq; subst heq'
    refine Ran.of_gen ?_ hr; simp only [execOp, gen_v]; simp only [force_eq] at hv; exact hv.run
  · rename_i heq; have heq' : op = _ := heq; subst heq'
    refine Ran.of_gen ?_ hr; simp only [execOp, gen_u]; simp only [force_eq] at hv; exact hv.run
  · rename_i heq; have heq' : op = _ := heq; subst heq'
    refine Ran.of_gen ?_ hr; simp only [execOp, gen_u]; simp only [force_eq] at hv; exact hv.run
  · rename_i heq; have heq' : op = _ := heq; subst heq'
    refine Ran.of_gen ?_ hr; simp only [execOp, gen_v]; simp only [force_eq] at hv; exact hv.run
  · rename_i heq; have heq' : op = _ := heq; subst heq'
    refine Ran.of_gen ?_ hr; simp only [execOp, gen_u]; simp only [force_eq] at hv; exact hv.run
  · rename_i heq; have heq' : op = _ := heq; subst heq'
    refine Ran.of_gen ?_ hr; simp only [execOp, gen_v]; simp only [force_eq] at hv; exact hv.run
  · rename_i heq; have heq' : op = _ := heq; subst heq'
    refine Ran.of_gen ?_ hr; simp only [execOp, gen_v]
    simp only [forceL_eq, zip_fst] at hv
    have := build_gen hv
    rw [← List.map_toArray, Array.toArray_toList] at this; exact this
  · rename_i heq; have heq' : op = _ := heq; subst heq'
    refine Ran.of_gen ?_ hr; simp only [execOp, gen_v]
    simp only [forceL_eq, zip_fst] at hv
    have := buildSl_gen hv
    rw [← List.map_toArray, Array.toArray_toList] at this; exact this
  · rename_i heq; have heq' : op = _ := heq; subst heq'
    refine Ran.of_gen ?_ hr; simp only [execOp, gen_v, Instr.makeFunc, gen_p, args_map]; exact hv
  · rename_i heq; have heq' : op = _ := heq; subst heq'
    refine Ran.of_gen ?_ hr; simp only [execOp, gen_v]; exact fAddr_gen hv
  · rename_i T x heq; have heq' : op = _ := heq; subst heq'
    refine Ran.of_gen ?_ hr
    simp only [execOp, gen_v]
    cases hb : isRow P T with
    | true => rw [hb] at hv; simp only [force_eq, cond_true] at hv; exact loadRow_gen hb hv
    | false =>
      rw [hb] at hv
      cases hb2 : isNRow P T with
      | true => rw [hb2] at hv; exact load_gen hb2 hv
      | false => rw [hb2] at hv; exact hv.elim
  · rename_i T x v heq; have heq' : op = _ := heq; subst heq'
    refine Ran.of_gen ?_ hr
    cases hb : isRow P T with
    | true => rw [hb] at hv; simp only [execOp, gen_u]; simp only [force_eq, cond_true] at hv; exact storeRow_gen hv
    | false => rw [hb] at hv; simp only [execOp, gen_u]; simp only [force_eq, cond_false] at hv; exact store_gen hv
  · rename_i args ats heq; have heq' : op = _ := heq; subst heq'
    refine Ran.of_gen ?_ hr
    split at hv
    · rename_i s x ha
      simp only [execOp, resolve, gen_b, gen_p, invoke, builtin, args_map, ha]
      simp only [force_eq] at hv; exact hv.run
    · exact hv.elim
  · rename_i args ats heq; have heq' : op = _ := heq; subst heq'
    refine Ran.of_gen ?_ hr
    split at hv
    · rename_i s x ha
      simp only [execOp, resolve, gen_b, gen_p, invoke, builtin, args_map, ha]
      simp only [force_eq] at hv; exact hv.run
    · exact hv.elim
  · exact hv.elim
  · exact hv.elim
  · rename_i b args ats hb1 hb2 hb3 hb4 heq; have heq' : op = _ := heq; subst heq'
    refine Ran.of_gen ?_ hr
    simp only [execOp, resolve, gen_b, gen_p, invoke, args_map]
    rw [builtin_consts b hb3 hb4]
    exact hv
  · rename_i f args ats heq; have heq' : op = _ := heq; subst heq'
    split at hv
    · rename_i k first captured hf
      simp only [forceL_eq] at hv
      have ea : first ++ args.map (evalE e) ++ captured = (first.toList ++ args.toList.map (evalE e) ++ captured.toList).toArray := by
        apply Array.toList_inj.1; simp
      cases hx : isExt P k with
      | true =>
        rw [hx, cond_true] at hv
        refine Ran.of_gen ?_ hr
        simp only [execOp, resolve, hf, Deferred.ofValue]
        have hg := hv.run
        rw [← ea] at hg
        exact hg
      | false =>
        rw [hx, cond_false] at hv
        refine ⟨.enter k (first.toList ++ args.toList.map (evalE e) ++ captured.toList).toArray, w, h, t, ?_, hr, Nat.le_refl _, hv⟩
        have hc := hv.callable (first.toList ++ args.toList.map (evalE e) ++ captured.toList).toArray w
        simp only [execOp, resolve, hf, Deferred.ofValue]
        rw [← hc, ← ea]
        rfl
    · exact hv.elim
  · exact Ran.of_gen hv hr

/-! ### regions, code -/
def guardVC (want : Bool) (d : Nat) (e : Env) (go skip : Env → Prop) (b : Bool) : Prop :=
  bsel b (match want with | true => go (upd e d (.bool true)) | false => skip (upd e d (.bool true)))
    (match want with | true => skip (upd e d (.bool false)) | false => go (upd e d (.bool false)))

def putK (e : Env) (dst : Option Tmp) (v : Value) (K : Env → Prop) : Prop :=
  match dst with
  | some d => force v (fun v => K (upd e d v))
  | none => K e
theorem putK_eq (e : Env) (dst : Option Tmp) (v : Value) (K : Env → Prop) : putK e dst v K = K (putE e dst v) := by
  cases dst <;> simp [putK, putE, force_eq]

/-- One operation, then the rest. No recursion here: what the kernel lays open and what a proof's 'whnf' lays open are to be the same term. -/
def opStep (P : Program) (ops : Array Oper) (o : Oper) (rest : Env → Heap → Nat → Prop) (e : Env) (h : Heap) (t : Nat) : Prop :=
  match o.guard with
  | none => vcOp P e o (fun v h t => putK e o.dst v (fun e => rest e h t)) h t
  | some (j, want) =>
    match ops[j]? with
    | none => False
    | some oj =>
      match oj.dst with
      | none => False
      | some d =>
        match e d with
        | .bool b => guardVC want d e (fun e => vcOp P e o (fun v h t => putK e o.dst v (fun e => rest e h t)) h t) (fun e => putK e o.dst undef (fun e => rest e h t)) b
        | .tuple _ => putK e o.dst undef (fun e => rest e h t)
        | _ => False
noncomputable def vcOps (P : Program) (ops : Array Oper) (K : Env → Heap → Nat → Prop) (l : List Oper) : Env → Heap → Nat → Prop :=
  List.rec (motive := fun _ => Env → Heap → Nat → Prop) K (fun o _ ih => opStep P ops o ih) l
theorem vcOps_cons (P : Program) (ops : Array Oper) (K : Env → Heap → Nat → Prop) (o : Oper) (rest : List Oper) : vcOps P ops K (o :: rest) = opStep P ops o (vcOps P ops K rest) := rfl

inductive Ex where
  | nrm
  | exit (id : Nat)
  | ret

def seqK (K : Env → Heap → Nat → Prop) (Q : Ex → Env → Heap → Nat → Prop) : Ex → Env → Heap → Nat → Prop
  | .nrm => K
  | x => Q x
def blockK (id : Nat) (Q : Ex → Env → Heap → Nat → Prop) : Ex → Env → Heap → Nat → Prop
  | .exit i => bif Nat.beq i id then Q .nrm else Q (.exit i)
  | x => Q x
def loopK (R : Nat → Env → Heap → Nat → Prop) (m : Nat) (Q : Ex → Env → Heap → Nat → Prop) : Ex → Env → Heap → Nat → Prop
  | .nrm => fun e h t => ∃ m', m' < m ∧ R m' e h t
  | x => Q x

structure AR (n : Nat) (e : Env) (a : Act) : Prop where
  defers : a.defers = []
  size : a.tmps.size = n
  get : ∀ i, a.tmps.getD i undef = e i

/-- A region that draws its order: met by a lemma. -/
structure DrawVC (P : Program) (ops : Array Oper) (K : Env → Heap → Nat → Prop) (e : Env) (h : Heap) (t : Nat) : Prop where
  run : ∀ (n : Nat) (g : World) (a : Act) (w : World) (Q : Exit → Act → World → Prop), Rel g h t w → AR n e a →
    (∀ o ∈ ops.toList, ∀ d, o.dst = some d → d < n) →
    (∀ e' h' t' a' w', Rel g h' t' w' → t ≤ t' → AR n e' a' → K e' h' t' → Q .normal a' w') →
    ∀ m, wpOps P ops Q (Region.schedule (P.follows .mixedOrders) ops m) a w

abbrev Post := Ex → Env → Heap → Nat → Prop
def regionVC (P : Program) (ops : Array Oper) (d : Bool) (Q : Post) (e : Env) (h : Heap) (t : Nat) : Prop :=
  match d with
  | false => vcOps P ops (Q .nrm) ops.toList e h t
  | true => DrawVC P ops (Q .nrm) e h t
def condVC (c : Operand) (X Y : Post → Env → Heap → Nat → Prop) (Q : Post) (e : Env) (h : Heap) (t : Nat) : Prop :=
  match evalE e c with
  | .bool b => bsel b (X Q e h t) (Y Q e h t)
  | _ => False
def loopVC (X : Post → Env → Heap → Nat → Prop) (Q : Post) (e : Env) (h : Heap) (t : Nat) : Prop :=
  ∃ (R : Nat → Env → Heap → Nat → Prop), (∃ m, R m e h t) ∧ ∀ m e h t, Dom h t → R m e h t → X (loopK R m Q) e h t
noncomputable def vc (P : Program) (c : Code) : Post → Env → Heap → Nat → Prop :=
  Code.rec (motive := fun _ => Post → Env → Heap → Nat → Prop)
    (skip := fun Q e h t => Q .nrm e h t)
    (region := fun _ ops d Q e h t => regionVC P ops d Q e h t)
    (seq := fun _ _ X Y Q e h t => X (seqK (Y Q) Q) e h t)
    (cond := fun c _ _ X Y Q e h t => condVC c X Y Q e h t)
    (block := fun id _ X Q e h t => X (blockK id Q) e h t)
    (loop := fun _ X Q e h t => loopVC X Q e h t)
    (rangeFunc := fun _ _ _ _ _ _ _ _ _ _ => False)
    (exit := fun id Q e h t => Q (.exit id) e h t)
    (scope := fun _ X Q e h t => X Q e h t)
    (label := fun _ Q e h t => Q .nrm e h t)
    (goto := fun _ _ _ _ _ => False)
    (ret := fun Q e h t => Q .ret e h t)
    (refuse := fun _ _ _ _ _ => False) c

/-- The slots that the code writes are the frame's. -/
def dstsOk (n : Nat) : Code → Bool
  | .region _ ops _ => ops.toList.all fun o => match o.dst with | some d => Nat.blt d n | none => true
  | .seq x y => dstsOk n x && dstsOk n y
  | .cond _ x y => dstsOk n x && dstsOk n y
  | .block _ c => dstsOk n c
  | .loop c => dstsOk n c
  | .scope c => dstsOk n c
  | _ => true

theorem AR.eval {n e a} (h : AR n e a) (x : Operand) : a.eval x = evalE e x := by
  cases x <;> simp only [Act.eval, evalE]
  exact h.get _

theorem AR.eval' {n e a} (h : AR n e a) : a.eval = evalE e := funext h.eval

theorem AR.put {n e a} (h : AR n e a) (dst : Option Tmp) (hd : ∀ d, dst = some d → d < n) (v : Value) : AR n (putE e dst v) (a.put dst v) := by
  cases dst with
  | none => exact h
  | some d =>
    have hlt := hd d rfl
    refine ⟨h.defers, by simp [Act.put, h.size], fun i => ?_⟩
    simp only [Act.put, putE, upd]
    have h1 := h.get i
    by_cases e1 : i = d
    · subst e1; simp [h.size, hlt]
    · have : Nat.beq i d = false := by cases hbq : Nat.beq i d with | false => rfl | true => exact absurd (Nat.eq_of_beq_eq_true hbq) e1
      rw [this]
      simp only [cond_false]
      rw [← h1]
      simp [Ne.symm e1]

theorem AR.upd_same {n e a} (h : AR n e a) {d : Nat} {v : Value} (hv : e d = v) : AR n (upd e d v) a := by
  refine ⟨h.defers, h.size, fun i => ?_⟩
  rw [h.get i]
  unfold upd
  by_cases e1 : i = d
  · subst e1; simp [hv]
  · have : Nat.beq i d = false := by cases hbq : Nat.beq i d with | false => rfl | true => exact absurd (Nat.eq_of_beq_eq_true hbq) e1
    rw [this]; rfl

theorem vcOp_wp {n : Nat} {e : Env} {o : Oper} {K : Value → Heap → Nat → Prop} {h : Heap} {t : Nat} {g w : World} {a : Act} {next : Act → World → Prop} {Q : Exit → Act → World → Prop}
    (hv : vcOp P e o K h t) (hr : Rel g h t w) (ha : AR n e a) (hnext : ∀ v h' t' w', Rel g h' t' w' → t ≤ t' → K v h' t' → next (a.put o.dst v) w') : o.wp P a w next Q := by
  unfold Oper.wp
  rw [ha.eval']
  obtain ⟨nx, w', h', t', e1, e2, e3, e4⟩ := vcOp_ran hv hr
  rw [e1]
  cases nx <;> simp only [nextK] at e4 <;> try exact e4.elim
  · exact hnext _ _ _ _ e2 e3 e4
  · exact hnext _ _ _ _ e2 e3 e4
  · rename_i f args
    refine (e4.runs g w' e2).mono ?_
    rintro _ w'' ⟨v, h'', t'', rfl, r1, r2, r3⟩
    exact hnext _ _ _ _ r1 (Nat.le_trans e3 r2) r3

theorem yielded_eq {n e a} (ha : AR n e a) {ops : Array Oper} {j : Nat} {oj : Oper} {d : Nat} {b : Bool} (hj : ops[j]? = some oj) (hd : oj.dst = some d) (hdn : d < n) (hb : e d = .bool b) :
    yielded ops a.tmps j = some b := by
  have h1 := ha.get d
  have h2 : a.tmps[d]? = some (Value.bool b) := by
    have hlt : d < a.tmps.size := by rw [ha.size]; exact hdn
    rw [Array.getElem?_eq_getElem hlt]
    rw [Array.getD_eq_getD_getElem?, Array.getElem?_eq_getElem hlt, hb] at h1
    simpa using h1
  simp [yielded, hj, hd, h2]

theorem yielded_none {n e a} (ha : AR n e a) {ops : Array Oper} {j : Nat} {oj : Oper} {d : Nat} {x : Array Value} (hj : ops[j]? = some oj) (hd : oj.dst = some d) (hdn : d < n) (hb : e d = .tuple x) :
    yielded ops a.tmps j = none := by
  have h1 := ha.get d
  have h2 : a.tmps[d]? = some (Value.tuple x) := by
    have hlt : d < a.tmps.size := by rw [ha.size]; exact hdn
    rw [Array.getElem?_eq_getElem hlt]
    rw [Array.getD_eq_getD_getElem?, Array.getElem?_eq_getElem hlt, hb] at h1
    simpa using h1
  simp [yielded, hj, hd, h2]

theorem vcOps_sound {n : Nat} {ops : Array Oper} {K : Env → Heap → Nat → Prop} {g : World} {Q : Exit → Act → World → Prop} (hn : ∀ o ∈ ops.toList, ∀ d, o.dst = some d → d < n) :
    ∀ (l : List Oper), (∀ o ∈ l, o ∈ ops.toList) → ∀ {e : Env} {h : Heap} {t : Nat} {w : World} {a : Act}, vcOps P ops K l e h t → Rel g h t w → AR n e a →
      (∀ e' h' t' a' w', Rel g h' t' w' → t ≤ t' → AR n e' a' → K e' h' t' → Q .normal a' w') → wpList P ops Q l a w := by
  intro l
  induction l with
  | nil => intro _ e h t w a hv hr ha hq; exact hq _ _ _ _ _ hr (Nat.le_refl _) ha hv
  | cons o rest ih =>
    intro hsub e h t w a hv hr ha hq
    have hod := hn o (hsub o (by simp))
    have ih' : ∀ {e : Env} {h' : Heap} {t' : Nat} {w : World} {a : Act}, vcOps P ops K rest e h' t' → Rel g h' t' w → t ≤ t' → AR n e a → wpList P ops Q rest a w :=
      fun hv hr ht ha => ih (fun o ho => hsub o (by simp [ho])) hv hr ha (fun e' h' t' a' w' r ht' => hq e' h' t' a' w' r (Nat.le_trans ht ht'))
    have hgo : ∀ {e : Env}, AR n e a → vcOp P e o (fun v h t => putK e o.dst v (fun e => vcOps P ops K rest e h t)) h t → o.wp P a w (wpList P ops Q rest) Q :=
      fun ha hv => vcOp_wp hv hr ha (fun v h' t' w' r ht k => ih' (by rw [putK_eq] at k; exact k) r ht (ha.put o.dst hod v))
    rw [vcOps_cons] at hv
    unfold opStep at hv
    unfold wpList
    split at hv
    · rename_i hg
      rw [if_pos (by simp [Region.wanted, hg])]
      exact .inl (hgo ha hv)
    · rename_i j want hg
      split at hv
      · exact hv.elim
      · rename_i oj hj
        split at hv
        · exact hv.elim
        · rename_i d hd
          have hoj : oj ∈ ops.toList := by
            obtain ⟨hlt, he⟩ := Array.getElem?_eq_some_iff.1 hj
            rw [← he]; simp
          split at hv
          · rename_i b hb
            have hy := yielded_eq ha hj hd (hn oj hoj d hd) hb
            have hw : Region.wanted o (yielded ops a.tmps) = (b == want) := by
              simp only [Region.wanted, hg, hy]
              cases b <;> cases want <;> rfl
            rw [hw]
            unfold guardVC at hv
            cases b <;> cases want <;> simp only [bsel, putK_eq] at hv
            · rw [if_pos (by decide)]; exact .inl (hgo (ha.upd_same hb) (by simpa only [putK_eq] using hv))
            · rw [if_neg (by decide)]; exact ih' hv hr (Nat.le_refl _) ((ha.upd_same hb).put _ hod _)
            · rw [if_neg (by decide)]; exact ih' hv hr (Nat.le_refl _) ((ha.upd_same hb).put _ hod _)
            · rw [if_pos (by decide)]; exact .inl (hgo (ha.upd_same hb) (by simpa only [putK_eq] using hv))
          · rename_i x hb
            have hy := yielded_none ha hj hd (hn oj hoj d hd) hb
            have hw : Region.wanted o (yielded ops a.tmps) = false := by
              simp only [Region.wanted, hg, hy]; rfl
            rw [hw, if_neg (by decide)]
            rw [putK_eq] at hv
            exact ih' hv hr (Nat.le_refl _) (ha.put _ hod _)
          · exact hv.elim

def exOf : Ex → Exit
  | .nrm => .normal
  | .exit i => .exit i
  | .ret => .ret


theorem wp_loop_rel {c : Code} {Q : Exit → Act → World → Prop} {a : Act} {w : World} (R : Nat → Act → World → Prop) (m0 : Nat) (h0 : R m0 a w)
    (round : ∀ m a w, R m a w → c.wp P (Exit.then (fun a' w' => ∃ m', m' < m ∧ R m' a' w') Q) a w) : (Code.loop c).wp P Q a w := by
  intro b k cs
  have key : ∀ m a w, R m a w → ∃ e a' w', Q e a' w' ∧ Arrives P (lone (b.at a (.code c :: .inLoop c :: k)) cs w) b k cs e a' w' := by
    intro m
    induction m using Nat.strongRecOn with
    | _ m ih =>
      intro a w hR
      obtain ⟨e, a₁, w₁, hq, harr⟩ := round m a w hR b (.inLoop c :: k) cs
      cases e with
      | normal =>
        obtain ⟨m', hlt, hR'⟩ := hq
        obtain ⟨e₂, a₂, w₂, hq₂, harr₂⟩ := ih m' hlt a₁ w₁ hR'
        exact ⟨e₂, a₂, w₂, hq₂, .of_steps (Steps.trans harr (.one step_inLoop)) harr₂⟩
      | exit id => exact ⟨_, a₁, w₁, hq, .pass (x := .inLoop c) rfl (fun _ _ => .inl (by simp)) harr⟩
      | goto l => exact ⟨_, a₁, w₁, hq, .pass (x := .inLoop c) rfl (fun _ _ => .inl (by simp)) harr⟩
      | ret => exact ⟨_, a₁, w₁, hq, .pass (x := .inLoop c) rfl (fun _ _ => .inl (by simp)) harr⟩
      | panic ch => exact ⟨_, a₁, w₁, hq, .pass (x := .inLoop c) rfl (fun _ _ => .inl (by simp)) harr⟩
      | outgrown => exact ⟨_, a₁, w₁, hq, .pass (x := .inLoop c) rfl (fun _ _ => .inl (by simp)) harr⟩
  obtain ⟨e, a', w', hq, harr⟩ := key m0 a w h0
  exact ⟨e, a', w', hq, .of_steps (.one step_loop) harr⟩

theorem vc_sound {n : Nat} (c : Code) : ∀ {Q : Ex → Env → Heap → Nat → Prop} {e : Env} {h : Heap} {t : Nat} {g w : World} {a : Act} {Q' : Exit → Act → World → Prop}, dstsOk n c = true → vc P c Q e h t →
    Rel g h t w → AR n e a → (∀ x e' h' t' a' w', Rel g h' t' w' → t ≤ t' → AR n e' a' → Q x e' h' t' → Q' (exOf x) a' w') → c.wp P Q' a w := by
  induction c with
  | skip => intro Q e h t g w a Q' _ hv hr ha hq; exact wp_skip (hq .nrm _ _ _ _ _ hr (Nat.le_refl _) ha hv)
  | region id ops draw =>
    intro Q e h t g w a Q' hd hv hr ha hq
    have hn : ∀ o ∈ ops.toList, ∀ d, o.dst = some d → d < n := by
      intro o ho d hod
      simp only [dstsOk, List.all_eq_true] at hd
      have := hd o ho
      rw [hod] at this
      exact Nat.blt_eq ▸ this
    cases draw with
    | false => exact wp_region_list (vcOps_sound hn ops.toList (fun _ h => h) hv hr ha (fun e' h' t' a' w' r ht ar k => hq .nrm _ _ _ _ _ r ht ar k))
    | true => exact wp_region_draw (fun m => hv.run n g a _ Q' (hr.drawn _) ha hn (fun e' h' t' a' w' r ht ar k => hq .nrm _ _ _ _ _ r ht ar k) m)
  | seq x y ihx ihy =>
    intro Q e h t g w a Q' hd hv hr ha hq
    simp only [dstsOk, Bool.and_eq_true] at hd
    refine wp_seq (ihx hd.1 hv hr ha ?_)
    intro ex e' h' t' a' w' r ht ar k
    cases ex with
    | nrm => exact ihy hd.2 k r ar (fun x e'' h'' t'' a'' w'' r' ht' => hq x e'' h'' t'' a'' w'' r' (Nat.le_trans ht ht'))
    | exit i => exact hq (.exit i) _ _ _ _ _ r ht ar k
    | ret => exact hq .ret _ _ _ _ _ r ht ar k
  | cond c x y ihx ihy =>
    intro Q e h t g w a Q' hd hv hr ha hq
    simp only [dstsOk, Bool.and_eq_true] at hd
    replace hv : condVC c (vc P x) (vc P y) Q e h t := hv
    unfold condVC at hv
    split at hv
    · rename_i b hb
      have hc : a.eval c = .bool b := (ha.eval c).trans hb
      refine wp_cond hc ?_
      cases b with
      | true => exact ihx hd.1 hv hr ha hq
      | false => exact ihy hd.2 hv hr ha hq
    · exact hv.elim
  | block id c ih =>
    intro Q e h t g w a Q' hd hv hr ha hq
    refine wp_block (ih hd hv hr ha ?_)
    intro ex e' h' t' a' w' r ht ar k
    cases ex with
    | nrm => exact hq .nrm _ _ _ _ _ r ht ar k
    | exit i =>
      simp only [blockK] at k
      simp only [exOf, Exit.inBlock]
      by_cases e1 : i = id
      · subst e1; simp at k; rw [if_pos rfl]; exact hq .nrm _ _ _ _ _ r ht ar k
      · have : Nat.beq i id = false := by cases hbq : Nat.beq i id with | false => rfl | true => exact absurd (Nat.eq_of_beq_eq_true hbq) e1
        rw [this] at k
        rw [if_neg e1]; exact hq (.exit i) _ _ _ _ _ r ht ar k
    | ret => exact hq .ret _ _ _ _ _ r ht ar k
  | loop c ih =>
    intro Q e h t g w a Q' hd hv hr ha hq
    obtain ⟨R, ⟨m0, h0⟩, hround⟩ := hv
    refine wp_loop_rel (fun m a w => ∃ e h' t', t ≤ t' ∧ Rel g h' t' w ∧ AR n e a ∧ R m e h' t') m0 ⟨e, h, t, Nat.le_refl _, hr, ha, h0⟩ ?_
    rintro m a1 w1 ⟨e1, h1, t1, ht1, hr1, ha1, hI1⟩
    refine ih hd (hround m e1 h1 t1 hr1.dom hI1) hr1 ha1 ?_
    intro ex e' h' t' a' w' r ht ar k
    cases ex with
    | nrm =>
      obtain ⟨m', hm, hR⟩ := k
      exact ⟨m', hm, e', h', t', Nat.le_trans ht1 ht, r, ar, hR⟩
    | exit i => exact hq (.exit i) _ _ _ _ _ r (Nat.le_trans ht1 ht) ar k
    | ret => exact hq .ret _ _ _ _ _ r (Nat.le_trans ht1 ht) ar k
  | exit id => intro Q e h t g w a Q' _ hv hr ha hq; exact wp_exit (hq (.exit id) _ _ _ _ _ hr (Nat.le_refl _) ha hv)
  | ret => intro Q e h t g w a Q' _ hv hr ha hq; exact wp_ret (hq .ret _ _ _ _ _ hr (Nat.le_refl _) ha hv)
  | scope c ih =>
    intro Q e h t g w a Q' hd hv hr ha hq
    refine wp_scope_straight (ih hd hv hr ha ?_)
    intro ex e' h' t' a' w' r ht ar k
    cases ex <;> exact hq _ _ _ _ _ _ r ht ar k
  | rangeFunc f p x y _ _ => intro Q e h t g w a Q' _ hv; exact hv.elim
  | label l => intro Q e h t g w a Q' _ hv hr ha hq; exact wp_label (hq .nrm _ _ _ _ _ hr (Nat.le_refl _) ha hv)
  | goto l => intro Q e h t g w a Q' _ hv; exact hv.elim
  | refuse s => intro Q e h t g w a Q' _ hv; exact hv.elim

/-! ### a function's contract from its body -/
/-- Reading alone. -/
def genR (P : Program) {α : Type} : Sem α → (α → Prop) → Heap → Prop
  | .pure a, K, _ => K a
  | .load _ a k, K, h => ∃ v, Cell h a v ∧ genR P (k v) K h
  | .program k, K, h => genR P (k P) K h
  | .getObj r k, K, h => ∃ o, h r = some o ∧ notCells o = true ∧ genR P (k o) K h
  | .shape r k, K, h => ∃ o, h r = some o ∧ genR P (k (shapeO o)) K h
  | .frozen a k, K, h => ∃ o, h a.block = some o ∧ genR P (k (frozenO o a.off)) K h
  | .mark _ k, K, h => genR P k K h
  | _, _, _ => False

theorem genR_all {α : Type} (s : Sem α) : ∀ {K : α → Prop} {h : Heap}, genR P s K h → ∃ a, K a ∧ ∀ g t w, Rel g h t w → s.run P w = .ok a w := by
  induction s with
  | pure a => intro K h hg; exact ⟨a, hg, fun _ _ _ _ => rfl⟩
  | load m a k ih =>
    intro K h ⟨v, ⟨c, T, f, hb, hs, hv⟩, hg⟩
    obtain ⟨x, h1, h2⟩ := ih v hg
    refine ⟨x, h1, fun g t w hr => ?_⟩
    have hc := (cell_of_rel hr hb hs).trans hv
    simp only [Sem.run, hc]; exact h2 g t w hr
  | program k ih => intro K h hg; exact ih P hg
  | mark m k ih => intro K h hg; exact ih hg
  | getObj r k ih =>
    intro K h ⟨o, hb, hn, hg⟩
    obtain ⟨x, h1, h2⟩ := ih _ hg
    refine ⟨x, h1, fun g t w hr => ?_⟩
    have hblk := hr.blk _ _ hb
    cases o <;> first | (simp [notCells] at hn; done) | (simp only [Sem.run, hblk]; exact h2 g t w hr)
  | shape r k ih =>
    intro K h ⟨o, hb, hg⟩
    obtain ⟨x, h1, h2⟩ := ih _ hg
    refine ⟨x, h1, fun g t w hr => ?_⟩
    have hblk := hr.blk _ _ hb
    have : w.shape? r = shapeO o := by cases o <;> simp [World.shape?, hblk, shapeO]
    simp only [Sem.run, this]; exact h2 g t w hr
  | frozen a k ih =>
    intro K h ⟨o, hb, hg⟩
    obtain ⟨x, h1, h2⟩ := ih _ hg
    refine ⟨x, h1, fun g t w hr => ?_⟩
    have hblk := hr.blk _ _ hb
    have : w.frozen? a = frozenO o a.off := by cases o <;> simp [World.frozen?, hblk, frozenO]
    simp only [Sem.run, this]; exact h2 g t w hr
  | _ => intro K h hg; exact hg.elim

theorem genR_sound {g : World} {α : Type} (s : Sem α) {K : α → Prop} {h : Heap} {t : Nat} {w : World} (hs : genR P s K h) (hr : Rel g h t w) : ∃ a, s.run P w = .ok a w ∧ K a := by
  obtain ⟨a, h1, h2⟩ := genR_all s hs
  exact ⟨a, h2 g t w hr, h1⟩

end Go.Vc
