import Derived.Test.YtikpfffhcjlcjaaGreatVc
import Derived.Laws.Sem
import Derived.Laws.Strings
import Derived.Orders
namespace Go.Vc
open Go
variable {P : Program}
theorem gen_b {α β : Type} (s : Sem α) (f : α → Sem β) (K : β → Heap → Nat → Prop) (h : Heap) (t : Nat) :
    gen P (s >>= f) K h t = gen P s (fun a h t => gen P (f a) K h t) h t := gen_bind s f
theorem gen_p {α : Type} (a : α) (K : α → Heap → Nat → Prop) (h : Heap) (t : Nat) : gen P (pure a) K h t = K a h t := rfl
theorem gen_v (s : Sem Value) (K : Value → Heap → Nat → Prop) (h : Heap) (t : Nat) : gen P (do pure (.value (← s)) : Sem Next) (nextK P K) h t = gen P s K h t := by
  rw [gen_b]; rfl
theorem gen_u (s : Sem Unit) (K : Value → Heap → Nat → Prop) (h : Heap) (t : Nat) : gen P (do s; pure .skip : Sem Next) (nextK P K) h t = gen P s (fun _ => K undef) h t := by
  rw [gen_b]; rfl
theorem gen_underlying {T : TypeId} {d : TypeDesc} (hd : P.underlying T = some d) (K : TypeDesc → Heap → Nat → Prop) (h : Heap) (t : Nat) : gen P (underlying T) K h t = K d h t := by
  simp only [underlying, program, gen_b, gen, hd, gen_p]
theorem gen_typeInfo {T : TypeId} {d : TypeInfo} (hd : P.info? T = some d) (K : TypeInfo → Heap → Nat → Prop) (h : Heap) (t : Nat) : gen P (typeInfo T) K h t = K d h t := by
  simp only [typeInfo, program, gen_b, gen, hd, gen_p]
theorem gen_sizeOf {T : TypeId} {d : TypeInfo} (hd : P.info? T = some d) (K : Nat → Heap → Nat → Prop) (h : Heap) (t : Nat) : gen P (sizeOf T) K h t = K d.size h t := by
  simp only [sizeOf, gen_b, gen_typeInfo hd, gen_p]
theorem gen_zero {T : TypeId} {d : TypeInfo} {z : Value} (hd : P.info? T = some d) (hz : d.zero = some z) (K : Value → Heap → Nat → Prop) (h : Heap) (t : Nat) : gen P (zeroValue T) K h t = K z h t := by
  simp only [zeroValue, gen_b, gen_typeInfo hd, hz, gen_p]
theorem gen_if {α : Type} (c : Prop) [Decidable c] (a b : Sem α) (K : α → Heap → Nat → Prop) (h : Heap) (t : Nat) : gen P (if c then a else b) K h t = if c then gen P a K h t else gen P b K h t := by
  split <;> rfl
theorem gen_pos {α : Type} {c : Prop} [Decidable c] {a b : Sem α} {K : α → Heap → Nat → Prop} {h : Heap} {t : Nat} (hc : c) (hg : gen P a K h t) : gen P (if c then a else b) K h t := by
  rw [if_pos hc]; exact hg
theorem gen_neg {α : Type} {c : Prop} [Decidable c] {a b : Sem α} {K : α → Heap → Nat → Prop} {h : Heap} {t : Nat} (hc : ¬ c) (hg : gen P b K h t) : gen P (if c then a else b) K h t := by
  rw [if_neg hc]; exact hg
theorem addr_add (b off n : Nat) : (Addr.mk b off none).add n = ⟨b, off + n, none⟩ := by
  unfold Addr.add; split
  · subst_vars; rfl
  · rfl
theorem idxAddr_gen {T : TypeId} {x ix : Value} {K : Value → Heap → Nat → Prop} {h : Heap} {t : Nat} (hv : idxAddrVC P T x ix (fun v => K v h t)) : gen P (Instr.indexAt T x ix) K h t := by
  unfold idxAddrVC at hv
  split at hv
  · rename_i elem a len cap k i hu
    split at hv
    · rename_i inf hi
      obtain ⟨hb, b, off, ha, hk⟩ := hv
      subst ha
      simp only [Instr.indexAt, asIntOf, gen_b, gen_p, gen_underlying hu]
      rw [if_pos hb]
      simp only [gen_b, gen_sizeOf hi, gen_p, addr_add]
      exact hk
    · exact hv.elim
  · rename_i len elem b off k i hu
    split at hv
    · rename_i inf hi
      obtain ⟨hb, hk⟩ := hv
      simp only [Instr.indexAt, asIntOf, gen_b, gen_p, gen_underlying hu, Instr.sureAddr]
      rw [if_pos hb]
      simp only [gen_b, gen_sizeOf hi, gen_p, addr_add]
      exact hk
    · exact hv.elim
  · exact hv.elim
theorem idx_gen {T : TypeId} {x ix : Value} {K : Value → Heap → Nat → Prop} {h : Heap} {t : Nat} (hv : idxVC P T x ix (fun v => K v h t)) : gen P (Instr.index T x ix) K h t := by
  unfold idxVC at hv
  split at hv
  · rename_i s k i hu
    obtain ⟨⟨h0, h1⟩, hk⟩ := hv
    simp only [Instr.index, asIntOf, gen_b, gen_p, gen_underlying hu]
    rw [if_pos h0]
    have hlt : i.toNat < s.size := by omega
    have : s[i.toNat]? = some s[i.toNat] := by simp [getElem?_pos, hlt]
    rw [this]
    simp only [gen_p]
    have e : byteAt s i.toNat = (s[i.toNat].toNat : Int) := by
      unfold byteAt
      have : i.toNat < s.data.size := hlt
      have e2 : s.data.getD i.toNat 0 = s.data[i.toNat] := by rw [Array.getD_eq_getD_getElem?, Array.getElem?_eq_getElem this]; rfl
      rw [e2]; rfl
    have hlt2 := s[i.toNat].toNat_lt
    rw [e] at hk; exact hk (by omega) (by omega)
  · exact hv.elim
theorem sliceBound_gen {k : IntKind} {i : Int} {y : Nat} {c : BoundsCode} {K : Nat → Heap → Nat → Prop} {h : Heap} {t : Nat} (hb : 0 ≤ i ∧ i ≤ y) : gen P (Instr.sliceBound (.int k i) y c) K h t = K i.toNat h t := by
  simp only [Instr.sliceBound, asIntOf, gen_b, gen_p]
  rw [if_pos hb]; rfl
theorem cutA_zero (a : Option Addr) (size cap : Nat) : (if cap = 0 then a else a.map (·.add (0 * size))) = a := by
  split
  · rfl
  · cases a with
    | none => rfl
    | some x => simp [Addr.add]
theorem cutA_some (b off l size cap : Nat) : some (if cap = l then (⟨b, off, none⟩ : Addr) else (Addr.mk b off none).add (l * size)) = cutA (some ⟨b, off, none⟩) l size cap := by
  unfold cutA; split <;> rfl
theorem cut_zero' (b off size cap : Nat) : (if cap = 0 then (⟨b, off, none⟩ : Addr) else (Addr.mk b off none).add (0 * size)) = ⟨b, off, none⟩ := by
  split
  · rfl
  · rw [addr_add]; simp
theorem slice_gen {T : TypeId} {x : Value} {lo hi : Option Value} {K : Value → Heap → Nat → Prop} {h : Heap} {t : Nat} (hv : sliceVC P T x lo hi (fun v => K v h t)) : gen P (Instr.sliceAt T x lo hi none) K h t := by
  unfold sliceVC at hv
  split at hv
  · rename_i s hu
    unfold Instr.sliceAt
    simp only [gen_b, gen_underlying hu, Instr.slice]
    split at hv <;> simp only [Instr.sliceBounds, Option.isSome, gen_b, gen_p, Bool.false_eq_true, if_false]
    · exact hv
    · obtain ⟨hb, hk⟩ := hv; rw [sliceBound_gen hb]; exact hk
    · obtain ⟨hb, hk⟩ := hv; rw [sliceBound_gen hb]; exact hk
    · obtain ⟨hb, hk⟩ := hv; rw [sliceBound_gen (by omega), sliceBound_gen (by omega)]; exact hk
    · exact hv.elim
  · rename_i elem a len cap hu
    unfold Instr.sliceAt
    simp only [gen_b, gen_underlying hu, Instr.slice]
    split at hv
    · exact hv.elim
    · rename_i inf hi
      split at hv <;> simp only [Instr.sliceBounds, Option.isSome, gen_b, gen_p, Bool.false_eq_true, if_false, if_true]
      · rw [gen_sizeOf hi, cutA_zero]; simpa using hv
      · obtain ⟨hb, hk⟩ := hv; rw [sliceBound_gen hb, gen_sizeOf hi, cutA_zero]; simpa using hk
      · obtain ⟨hb, hk⟩ := hv; rw [sliceBound_gen hb, gen_sizeOf hi]; exact hk _ rfl
      · obtain ⟨hb, hk⟩ := hv; rw [sliceBound_gen (by omega), sliceBound_gen (by omega), gen_sizeOf hi]; exact hk _ rfl
      · exact hv.elim
  · rename_i n elem b off hu
    unfold Instr.sliceAt
    simp only [gen_b, gen_underlying hu, Instr.sureAddr, gen_p]
    split at hv
    · exact hv.elim
    · rename_i inf hi
      split at hv <;> simp only [Instr.sliceBounds, Option.isSome, gen_b, gen_p, Bool.false_eq_true, if_false]
      · rw [gen_sizeOf hi, cut_zero']; simpa using hv
      · obtain ⟨hb, hk⟩ := hv; rw [sliceBound_gen hb, gen_sizeOf hi, cut_zero']; simpa using hk
      · obtain ⟨hb, hk⟩ := hv; rw [sliceBound_gen hb, gen_sizeOf hi]; exact hk _ (cutA_some _ _ _ _ _)
      · obtain ⟨hb, hk⟩ := hv; rw [sliceBound_gen (by omega), sliceBound_gen (by omega), gen_sizeOf hi]; exact hk _ (cutA_some _ _ _ _ _)
      · exact hv.elim
  · exact hv.elim
theorem makeSlice_gen {T : TypeId} {n c : Value} {K : Value → Heap → Nat → Prop} {h : Heap} {t : Nat} (hv : makeSliceVC P T n c K h t) : gen P (Instr.makeSlice T n c) K h t := by
  unfold makeSliceVC at hv
  split at hv
  · rename_i elem k n k' c hu
    split at hv
    · rename_i inf hi
      split at hv
      · rename_i z hz
        obtain ⟨⟨h0, h1, h2, h3⟩, hk⟩ := hv
        have wn : IntKind.i64.wrap n = n := by simp [IntKind.wrap, IntKind.signed, IntKind.bits]; omega
        have wc : IntKind.i64.wrap c = c := by simp [IntKind.wrap, IntKind.signed, IntKind.bits]; omega
        have hbc : (inf.bytes : Int) * c ≤ 2 ^ 46 := by rw [Int.mul_comm]; exact h2
        simp only [Instr.makeSlice, gen_b, gen_underlying hu, asInt, asIntOf, gen_p, gen_typeInfo hi, wn, wc]
        rw [if_neg (by simp; omega)]
        simp only [gen_b, gen_sizeOf hi, askRoom, gen_if, mark, gen, gen_p, ite_self, newRow, newObj]
        split
        · rename_i e0
          intro r hr
          have := hk r _ hr rfl
          rw [e0] at this
          rw [e0]
          have e1 : ∀ f : Nat → Value, (Array.range 0).map f = #[] := fun f => by simp
          rw [e1]; unfold zcells at this; rw [e1] at this; exact this
        · rw [gen_zero hi hz]
          intro r hr
          exact hk r _ hr rfl
      · exact hv.elim
    · exact hv.elim
  · exact hv.elim
theorem loadBytes_gen (a : Addr) {h : Heap} {t : Nat} {K : Array Value → Heap → Nat → Prop} : ∀ (vs : List Value) (i : Nat) (acc : Array Value),
    (∀ j, j < vs.length → Cell h (a.add (i + j)) (vs.getD j undef)) → K (acc ++ vs.toArray) h t → gen P (loadCellsFrom a i vs.length acc) K h t := by
  intro vs
  induction vs with
  | nil => intro i acc _ hk; simpa [loadCellsFrom, gen_p] using hk
  | cons v vs ih =>
    intro i acc hc hk
    have h0 := hc 0 (by simp)
    simp at h0
    simp only [List.length_cons, loadCellsFrom, load, gen_b, gen]
    refine ⟨v, h0, ?_⟩
    refine ih (i + 1) (acc.push v) ?_ ?_
    · intro j hj
      have := hc (j + 1) (by simp; omega)
      have e : i + (j + 1) = i + 1 + j := by omega
      rw [e] at this
      simpa using this
    · simpa using hk
theorem loadCells_gen {a : Addr} {h : Heap} {t : Nat} {K : Array Value → Heap → Nat → Prop} (vs : List Value)
    (hc : ∀ j, j < vs.length → Cell h (a.add j) (vs.getD j undef)) (hk : K vs.toArray h t) : gen P (loadCells a vs.length) K h t := by
  unfold loadCells
  exact loadBytes_gen a vs 0 #[] (by simpa using hc) (by simpa using hk)
theorem bytesLoop_gen {h : Heap} {t : Nat} : ∀ (l : List UInt8) (s : ByteArray) (K : ByteArray → Heap → Nat → Prop), K (s ++ ⟨l.toArray⟩) h t →
    gen P (forIn (m := Sem) (l.map fun b => Value.int .u8 (b.toNat : Nat)) s (fun c r => do
      let .int .u8 n := c | stuck "bytesToString: byte expected"
      pure (ForInStep.yield (r.push (UInt8.ofNat n.toNat))))) K h t := by
  intro l
  induction l with
  | nil =>
    intro s K hk
    simp only [List.map_nil, List.forIn_nil, gen_p]
    have e : s ++ (⟨([] : List UInt8).toArray⟩ : ByteArray) = s := by
      apply ByteArray.ext; simp [ByteArray.data_append]
    rw [e] at hk; exact hk
  | cons b l ih =>
    intro s K hk
    simp only [List.map_cons, List.forIn_cons, gen_b, gen_p]
    refine ih _ _ ?_
    have e : s.push (UInt8.ofNat ((b.toNat : Int)).toNat) ++ (⟨l.toArray⟩ : ByteArray) = s ++ ⟨(b :: l).toArray⟩ := by
      apply ByteArray.ext
      simp [ByteArray.push, ByteArray.data_append]
    rw [e]; exact hk
theorem bytesToString_gen {a : Addr} {n c : Nat} {h : Heap} {t : Nat} {K : Value → Heap → Nat → Prop} (l : List UInt8) (hr : ReadB h a n l) (hk : K (.string ⟨l.toArray⟩) h t) :
    gen P (Conv.bytesToString (.slice (some a) n c)) K h t := by
  obtain ⟨hn, hc⟩ := hr
  subst hn
  unfold Conv.bytesToString
  simp only [gen_b]
  have hl : (l.map fun b => Value.int .u8 ((b.toNat : Nat) : Int)).length = l.length := by simp
  rw [← hl]
  refine loadCells_gen _ ?_ ?_
  · intro j hj
    simp at hj
    have := hc j hj
    simpa [hj] using this
  · simp only [List.forIn_toArray]
    refine bytesLoop_gen l ByteArray.empty _ ?_
    simpa [gen_p] using hk
theorem appendCap_cut (need old : Nat) (T : TypeId) (m : Nat) : need ≤ (Question.appendCap need old T).cut m := by simp [Question.cut]
theorem convert_gen {S T : TypeId} {x : Value} {K : Value → Heap → Nat → Prop} {h : Heap} {t : Nat} (hv : convertVC P S T x K h t) : gen P (convert S T x) K h t := by
  unfold convertVC at hv
  split at hv
  · rename_i d k _ n hS hT
    obtain ⟨_, rfl, hk⟩ := hv
    simp only [convert, gen_b, gen_underlying hS, gen_underlying hT, Conv.intToInt, gen_p]; exact hk
  · rename_i d e s hS hT
    split at hv
    · rename_i he
      simp only [convert, gen_b, gen_underlying hS, gen_underlying hT, gen_underlying he, Conv.stringToBytes, choose, gen, newRow, newObj, markStringish, shape, freeze, gen_p]
      intro n hf hc
      have hn : s.size ≤ n := by
        have hq : (Question.appendCap s.size 0 e).forced = false := rfl
        obtain ⟨m, hm⟩ := hc hq
        rw [hm]; exact appendCap_cut _ _ _ _
      intro r hr
      refine ⟨_, hset_same _ _ _, ?_⟩
      simp only [shapeO, gen]
      refine ⟨by simp, _, hset_same _ _ _, ?_⟩
      have := hv r n hr hn
      have e1 : hset (hset h r (.cells (Array.map (fun b => Value.int IntKind.u8 (b.toNat : Nat)) s.data ++ Array.replicate (n - s.size) (Value.int IntKind.u8 0)) e)) r
          (freezeO (.cells (Array.map (fun b => Value.int IntKind.u8 (b.toNat : Nat)) s.data ++ Array.replicate (n - s.size) (Value.int IntKind.u8 0)) e)
            (Array.map (fun b => Value.int IntKind.u8 (b.toNat : Nat)) s.data ++ Array.replicate (n - s.size) (Value.int IntKind.u8 0)).size 1)
          = hset h r (.cells (bytesVals s ++ Array.replicate (n - s.size) (.int .u8 0)) e (n, n + 1)) := by
        funext k
        unfold hset
        by_cases hk : k = r
        · have e2 : s.size + (n - s.size) = n := by omega
          simp [hk, freezeO, bytesVals, e2]
        · simp [hk]
      rw [e1]; exact this
    · exact hv.elim
  · rename_i e _ _ hS hT
    split at hv
    · rename_i he
      simp only [convert, gen_b, gen_underlying hS, gen_underlying hT, gen_underlying he, Conv.bytesToString, gen_p]
      exact hv
    · exact hv.elim
  · rename_i e a n _ hS hT
    split at hv
    · rename_i he
      obtain ⟨l, hl, hk⟩ := hv
      simp only [convert, gen_b, gen_underlying hS, gen_underlying hT, gen_underlying he]
      exact bytesToString_gen l hl hk
    · exact hv.elim
  · exact hv
theorem stringOp_eq (a b : ByteArray) : (a.toList == b.toList) = decide (a = b) := by
  have h : ∀ x : ByteArray, x.toList = x.data.toList := fun x => ByteArray.toList_eq x
  rw [h, h]
  by_cases e : a = b
  · subst e; simp
  · simp only [e, decide_false, beq_eq_false_iff_ne]
    intro h2; exact e (ByteArray.ext (Array.toList_inj.1 h2))
theorem bin_gen {op : BinOp} {T : TypeId} {xo yo : Operand} {x y : Value} {K : Value → Heap → Nat → Prop} {h : Heap} {t : Nat} (hv : binVC P op T xo yo x y K h t) :
    gen P (do eqGuard op T xo yo x y; binOp op T x y) K h t := by
  unfold binVC at hv
  split at hv
  · rename_i a b
    obtain ⟨h1, hk⟩ := hv
    simp only [eqGuard, gen_b, gen_p, binOp, Op.stringOp, Bool.not_false, if_true]
    rw [if_neg (by simp [IntKind.max, IntKind.signed, IntKind.bits]; omega)]
    exact hk
  · rw [opq_eq] at hv
    simp only [eqGuard, gen_b, gen_p, binOp, Op.stringOp, Bool.not_true, Bool.false_eq_true, if_false, stringOp_eq]; exact hv
  · rw [opq_eq, decide_not] at hv
    simp only [eqGuard, gen_b, gen_p, binOp, Op.stringOp, Bool.not_true, Bool.false_eq_true, if_false, stringOp_eq]; exact hv
  · rw [opq_eq] at hv
    simp only [eqGuard, gen_b, gen_p, binOp, Op.stringOp, Bool.not_false, if_true]; exact hv
  · rw [opq_eq] at hv
    simp only [eqGuard, gen_b, gen_p, binOp, Op.stringOp, Bool.not_false, if_true]; exact hv
  · rename_i k a k' b
    cases hkk : (k == k') with
    | false => rw [hkk] at hv; exact hv.elim
    | true =>
      rw [hkk, cond_true, opq_eq] at hv
      have : k = k' := by simpa using hkk
      subst this
      simp only [eqGuard, gen_b, gen_p, binOp, Op.intCmp, Bool.not_true, Bool.false_eq_true, if_false, ne_eq, not_true]
      rw [show (a == b) = decide (a = b) from rfl]; exact hv
  · rename_i k a k' b
    cases hkk : (k == k') with
    | false => rw [hkk] at hv; exact hv.elim
    | true =>
      rw [hkk, cond_true, opq_eq, decide_not] at hv
      have : k = k' := by simpa using hkk
      subst this
      simp only [eqGuard, gen_b, gen_p, binOp, Op.intCmp, Bool.not_true, Bool.false_eq_true, if_false, ne_eq, not_true]
      rw [show (a != b) = !decide (a = b) from rfl]; exact hv
  · rename_i k a k' b
    cases hkk : (k == k') with
    | false => rw [hkk] at hv; exact hv.elim
    | true =>
      rw [hkk, cond_true, opq_eq] at hv
      have : k = k' := by simpa using hkk
      subst this
      simp only [eqGuard, gen_b, gen_p, binOp, Op.intCmp, Bool.not_false, if_true, ne_eq, not_true, if_false]; exact hv
  · rename_i k a k' b
    cases hkk : (k == k') with
    | false => rw [hkk] at hv; exact hv.elim
    | true =>
      rw [hkk, cond_true, opq_eq] at hv
      have : k = k' := by simpa using hkk
      subst this
      simp only [eqGuard, gen_b, gen_p, binOp, Op.intCmp, Bool.not_false, if_true, ne_eq, not_true, if_false]; exact hv
  · rename_i k a k' b
    cases hkk : (k == k') with
    | false => rw [hkk] at hv; exact hv.elim
    | true =>
      rw [hkk, cond_true, opq_eq] at hv
      have : k = k' := by simpa using hkk
      subst this
      simp only [eqGuard, gen_b, gen_p, binOp, Op.intCmp, Bool.not_false, if_true, ne_eq, not_true, if_false]; exact hv
  · rename_i k a k' b
    cases hkk : (k == k') with
    | false => rw [hkk] at hv; exact hv.elim
    | true =>
      rw [hkk, cond_true, opq_eq] at hv
      have : k = k' := by simpa using hkk
      subst this
      simp only [eqGuard, gen_b, gen_p, binOp, Op.intCmp, Bool.not_false, if_true, ne_eq, not_true, if_false]; exact hv
  · rename_i k a k' b
    obtain ⟨h1, _, rfl, hk⟩ := hv
    simp only [eqGuard, gen_b, gen_p, binOp, Op.shift, Bool.not_false, if_true]
    rw [if_neg (by omega)]; exact hk
  · rename_i k a k' b
    obtain ⟨h1, _, rfl, hk⟩ := hv
    simp only [eqGuard, gen_b, gen_p, binOp, Op.shift, Bool.not_false, if_true]
    rw [if_neg (by omega)]; exact hk
  · rename_i k a k' b
    obtain ⟨rfl, h1, _, rfl, hk⟩ := hv
    simp only [eqGuard, gen_b, gen_p, binOp, Op.intDiv, Bool.not_false, if_true, ne_eq, not_true, if_false, h1]; exact hk
  · rename_i k a k' b
    obtain ⟨rfl, h1, _, rfl, hk⟩ := hv
    simp only [eqGuard, gen_b, gen_p, binOp, Op.intDiv, Bool.not_false, if_true, ne_eq, not_true, if_false, h1]; exact hk
  · rename_i k a k' b
    cases hkk : (k == k') with
    | false => rw [hkk] at hv; exact hv.elim
    | true =>
      rw [hkk, cond_true] at hv
      obtain ⟨_, rfl, hk⟩ := hv
      have : k = k' := by simpa using hkk
      subst this
      simp only [eqGuard, gen_b, gen_p, binOp, Op.intArith, ne_eq, not_true, if_false]; exact hk
  · rename_i k a k' b
    cases hkk : (k == k') with
    | false => rw [hkk] at hv; exact hv.elim
    | true =>
      rw [hkk, cond_true] at hv
      obtain ⟨_, rfl, hk⟩ := hv
      have : k = k' := by simpa using hkk
      subst this
      simp only [eqGuard, gen_b, gen_p, binOp, Op.intArith, ne_eq, not_true, if_false]; exact hk
  · rename_i k a k' b
    cases hkk : (k == k') with
    | false => rw [hkk] at hv; exact hv.elim
    | true =>
      rw [hkk, cond_true] at hv
      obtain ⟨_, rfl, hk⟩ := hv
      have : k = k' := by simpa using hkk
      subst this
      simp only [eqGuard, gen_b, gen_p, binOp, Op.intArith, ne_eq, not_true, if_false]; exact hk
  · rename_i k a k' b
    cases hkk : (k == k') with
    | false => rw [hkk] at hv; exact hv.elim
    | true =>
      rw [hkk, cond_true] at hv
      obtain ⟨_, rfl, hk⟩ := hv
      have : k = k' := by simpa using hkk
      subst this
      simp only [eqGuard, gen_b, gen_p, binOp, Op.intBits, ne_eq, not_true, if_false]; exact hk
  · rename_i k a k' b
    cases hkk : (k == k') with
    | false => rw [hkk] at hv; exact hv.elim
    | true =>
      rw [hkk, cond_true] at hv
      obtain ⟨_, rfl, hk⟩ := hv
      have : k = k' := by simpa using hkk
      subst this
      simp only [eqGuard, gen_b, gen_p, binOp, Op.intBits, ne_eq, not_true, if_false]; exact hk
  · rename_i k a k' b
    cases hkk : (k == k') with
    | false => rw [hkk] at hv; exact hv.elim
    | true =>
      rw [hkk, cond_true] at hv
      obtain ⟨_, rfl, hk⟩ := hv
      have : k = k' := by simpa using hkk
      subst this
      simp only [eqGuard, gen_b, gen_p, binOp, Op.intBits, ne_eq, not_true, if_false]; exact hk
  · rename_i k a k' b
    cases hkk : (k == k') with
    | false => rw [hkk] at hv; exact hv.elim
    | true =>
      rw [hkk, cond_true] at hv
      obtain ⟨_, rfl, hk⟩ := hv
      have : k = k' := by simpa using hkk
      subst this
      simp only [eqGuard, gen_b, gen_p, binOp, Op.intBits, ne_eq, not_true, if_false]; exact hk
  · exact hv
theorem un_gen {op : UnOp} {x : Value} {K : Value → Heap → Nat → Prop} {h : Heap} {t : Nat} (hv : unVC P op x (fun v => K v h t)) : gen P (Op.unary op x) K h t := by
  unfold unVC at hv
  split at hv
  · obtain ⟨_, rfl, hk⟩ := hv; exact hk
  · obtain ⟨_, rfl, hk⟩ := hv; exact hk
  · exact hv
  · exact hv.elim
theorem args_map (e : Env) (args : Array Operand) : args.map (evalE e) = (args.toList.map (evalE e)).toArray := by
  apply Array.toList_inj.1; simp
theorem builtin_consts (b : Builtin) (hb : b ≠ .print) (hb' : b ≠ .println) (ats : Array TypeId) (ty : TypeId) (cs : Array Bool) (args : Array Value) :
    builtin b ats ty cs args = builtin b ats ty #[] args := by cases b <;> first | rfl | exact absurd rfl hb | exact absurd rfl hb'
def Ran (P : Program) (g : World) (K : Value → Heap → Nat → Prop) (t : Nat) (r : Result Next) : Prop :=
  ∃ nx w' h' t', r = .ok nx w' ∧ Rel g h' t' w' ∧ t ≤ t' ∧ nextK P K nx h' t'
theorem Ran.of_gen {s : Sem Next} {g : World} {K : Value → Heap → Nat → Prop} {h : Heap} {t : Nat} {w : World} (hg : gen P s (nextK P K) h t) (hr : Rel g h t w) :
    Ran P g K t (s.run P w) := gen_sound s hg hr
theorem cells_toList (v : Value) : v.cells.toList = cellsL v := by cases v <;> rfl
theorem cells_size (v : Value) : v.cells.size = (cellsL v).length := by rw [← cells_toList]; simp
theorem setR_length : ∀ (vs cells : List Value) (off : Nat), (setR cells off vs).length = cells.length := by
  intro vs
  induction vs with
  | nil => intro cells off; rfl
  | cons v r ih => intro cells off; simp only [setR, ih, List.length_set]
theorem foldl_setR : ∀ (vs : List Value) (k off : Nat) (cells : Array Value), (vs.zipIdx k).foldl (fun cs (c, j) => cs.setIfInBounds (off + j) c) cells = (setR cells.toList (off + k) vs).toArray := by
  intro vs
  induction vs with
  | nil => intro k off cells; simp [setR]
  | cons v r ih =>
    intro k off cells
    simp only [List.zipIdx_cons, List.foldl_cons, setR, ih]
    simp [Nat.add_assoc]
theorem fill_eq (place : Nat → Option (Nat × Nat)) : ∀ (parts : List (Nat × Value)) (cells l : List Value), fillL place cells parts = some l → Instr.fill place cells.toArray parts = some l.toArray := by
  intro parts
  induction parts with
  | nil => intro cells l h; simp only [fillL, Option.some.injEq] at h; subst h; rfl
  | cons p rest ih =>
    obtain ⟨i, v⟩ := p
    intro cells l h
    simp only [fillL] at h
    unfold Instr.fill
    cases hp : place i with
    | none => rw [hp] at h; cases h
    | some q =>
      obtain ⟨off, size⟩ := q
      rw [hp] at h
      simp only at h ⊢
      cases hc : (Nat.beq (cellsL v).length size && Nat.ble (off + size) cells.length) with
      | false => rw [hc] at h; cases h
      | true =>
        rw [hc] at h
        simp only [Bool.and_eq_true] at hc
        have h1 := Nat.eq_of_beq_eq_true hc.1
        have h2 := Nat.le_of_ble_eq_true hc.2
        have hz : v.cells.zipIdx.foldl (fun cs (c, j) => cs.setIfInBounds (off + j) c) cells.toArray = (setR cells off (cellsL v)).toArray := by
          have := foldl_setR (cellsL v) 0 off cells.toArray
          rw [← Array.foldl_toList, Array.toList_zipIdx, cells_toList]
          exact this
        rw [hz]
        have hg : ¬ ((v.cells.size ≠ size || decide (off + v.cells.size > cells.toArray.size)) = true) := by
          rw [cells_size, h1]; simp; omega
        rw [if_neg hg]
        exact ih _ _ h
theorem gen_map {α β : Type} (f : α → β) (s : Sem α) (K : β → Heap → Nat → Prop) (h : Heap) (t : Nat) : gen P (f <$> s) K h t = gen P s (fun a h t => K (f a) h t) h t := by
  rw [map_eq_pure_bind, gen_b]; rfl
theorem places_eq {fields : List Field} (hk : fieldsKnown P fields = true) : ∀ (K : List (Nat × Nat) → Heap → Nat → Prop) (h : Heap) (t : Nat),
    (∀ pl, (∀ i, pl[i]? = placeF P fields i) → K pl h t) → gen P (fields.mapM fun f => (do pure (f.offset, ← sizeOf f.type) : Sem (Nat × Nat))) K h t := by
  induction fields with
  | nil => intro K h t hK; simp only [List.mapM_nil, gen_p]; exact hK [] (fun i => by simp [placeF])
  | cons f r ih =>
    intro K h t hK
    simp only [fieldsKnown, Bool.and_eq_true] at hk
    obtain ⟨inf, hinf⟩ := Option.isSome_iff_exists.1 hk.1
    simp only [List.mapM_cons, gen_b, gen_sizeOf hinf, gen_p]
    refine ih hk.2 _ h t ?_
    intro pl hpl
    refine hK _ ?_
    intro i
    cases i with
    | zero => simp [placeF, hinf]
    | succ i => simpa [placeF] using hpl i
theorem build_gen {T : TypeId} {parts : List (Nat × Value)} {K : Value → Heap → Nat → Prop} {h : Heap} {t : Nat} (hv : BuildX P T parts (fun v => K v h t)) : gen P (Instr.build T parts.toArray) K h t := by
  replace hv := buildX_vc hv
  unfold BuildVC at hv
  split at hv
  · exact hv.elim
  · rename_i inf hinf
    split at hv
    · exact hv.elim
    · rename_i z hz
      split at hv
      · rename_i fields hu
        split at hv
        · rename_i l hk hl
          simp only [forceL_eq] at hv
          simp only [Instr.build, gen_b, gen_zero hinf hz, gen_underlying hu]
          rw [Array.mapM_eq_mapM_toList, gen_map]
          refine places_eq hk _ h t ?_
          intro pl hpl
          have hf : (fun i => (pl.toArray)[i]?) = placeF P fields.toList := by
            funext i; rw [List.getElem?_toArray]; exact hpl i
          have := fill_eq _ _ _ _ hl
          have hzc : (cellsL z).toArray = z.cells := by rw [← cells_toList]
          rw [hzc] at this
          rw [hf]
          simp only [this]
          exact hv
        · exact hv.elim
      · rename_i n elem hu
        split at hv
        · exact hv.elim
        · rename_i ie hie
          split at hv
          · rename_i l hl
            simp only [forceL_eq] at hv
            simp only [Instr.build, gen_b, gen_zero hinf hz, gen_underlying hu, gen_sizeOf hie]
            have := fill_eq _ _ _ _ hl
            have hzc : (cellsL z).toArray = z.cells := by rw [← cells_toList]
            rw [hzc] at this
            simp only [this]
            exact hv
          · exact hv.elim
      · exact hv.elim
theorem buildSl_gen {T : TypeId} {n : Nat} {parts : List (Nat × Value)} {K : Value → Heap → Nat → Prop} {h : Heap} {t : Nat} (hv : BuildSlVC P T n parts K h t) : gen P (Instr.buildSlice T n parts.toArray) K h t := by
  unfold BuildSlVC at hv
  split at hv
  · rename_i elem hu
    split at hv
    · exact hv.elim
    · rename_i ie hie
      split at hv
      · exact hv.elim
      · rename_i z hz
        split at hv
        · rename_i l h1 hl
          simp only [forceL_eq] at hv
          have h1 := Nat.le_of_ble_eq_true h1
          simp only [Instr.buildSlice, gen_b, gen_underlying hu, gen_sizeOf hie]
          rw [if_neg (by omega)]
          by_cases h2 : n * ie.size = 0
          · rw [if_pos h2]
            have hf := fill_eq _ _ _ _ hl
            simp only [h2, List.range_zero, List.map_nil] at hf
            have e0 : (Array.range (n * ie.size)).map (fun x => (#[] : Array Value)[x % (#[] : Array Value).size]!) = ([] : List Value).toArray := by rw [h2]; apply Array.toList_inj.1; simp
            simp only [gen_b, gen_p, e0, hf, newRow, newObj, gen]
            exact hv
          · rw [if_neg (by omega)]
            simp only [gen_b, gen_p, gen_zero hie hz]
            have hini : (Array.range (n * ie.size)).map (fun x => z.cells[x % z.cells.size]!) = ((List.range (n * ie.size)).map fun i => (cellsL z).getD (i % (cellsL z).length) default).toArray := by
              apply Array.toList_inj.1
              simp only [Array.toList_map, Array.toList_range]
              apply List.map_congr_left
              intro i _
              rw [cells_size, ← cells_toList]
              simp only [Array.getElem!_eq_getD, Array.getD_eq_getD_getElem?, List.getD_eq_getElem?_getD, Array.getElem?_toList]
            have hf := fill_eq _ _ _ _ hl
            rw [← hini] at hf
            simp only [hf, gen_b, newRow, newObj, gen, gen_p]
            exact hv
        · exact hv.elim
  · exact hv.elim
theorem loadCells_row {b off n : Nat} {c : Array Value} {T' : TypeId} {f : Nat × Nat} {h : Heap} {t : Nat} {K : Array Value → Heap → Nat → Prop} (hb : h b = some (.cells c T' f)) (hn : off + n ≤ c.size)
    (hk : K ((c.toList.drop off).take n).toArray h t) : gen P (loadCells ⟨b, off, none⟩ n) K h t := by
  have hl : ((c.toList.drop off).take n).length = n := by simp; omega
  have := loadCells_gen (P := P) (a := ⟨b, off, none⟩) (h := h) (t := t) (K := K) ((c.toList.drop off).take n) ?_ hk
  · rw [hl] at this; exact this
  · intro j hj
    rw [hl] at hj
    rw [addr_add]
    refine ⟨c, T', f, hb, rfl, ?_⟩
    have hlt : off + j < c.size := by omega
    show c[off + j]? = _
    rw [Array.getElem?_eq_getElem hlt]
    simp [List.getD_eq_getElem?_getD, hj, List.getElem?_drop, hlt]
theorem isRow_isAgg {T : TypeId} (hT : isRow P T = true) (K : Bool → Heap → Nat → Prop) (h : Heap) (t : Nat) : gen P (isAgg T) K h t = K true h t := by
  unfold isRow at hT
  split at hT
  · rename_i hu; simp only [isAgg, gen_b, gen_underlying hu, gen_p]
  · rename_i hu; simp only [isAgg, gen_b, gen_underlying hu, gen_p]
  · cases hT
theorem loadRow_gen {T : TypeId} {x : Value} {K : Value → Heap → Nat → Prop} {h : Heap} {t : Nat} (hT : isRow P T = true) (hv : LoadRowVC P T x (fun v => K v h t) h) : gen P (Instr.loadAt T x) K h t := by
  unfold LoadRowVC at hv
  split at hv
  · rename_i b off inf hinf
    obtain ⟨c, T', f, hb, hn, hk⟩ := hv
    simp only [Instr.loadAt, Instr.sureAddr, gen_b, gen_p, loadVar, isRow_isAgg hT, if_true, gen_sizeOf hinf]
    exact loadCells_row hb hn (by have := hk _ rfl; rw [forceL_eq] at this; exact this)
  · exact hv.elim
theorem storeCells_gen {b : Nat} {T' : TypeId} {f : Nat × Nat} {t : Nat} {K : Unit → Heap → Nat → Prop} (off : Nat) : ∀ (vs : List Value) (i : Nat) (c : Array Value) (h : Heap),
    h b = some (.cells c T' f) → off + i + vs.length ≤ c.size → (∀ j, j < vs.length → fz f (off + i + j) = false) → (∀ u ∈ vs, oneC u = true) →
      K () (hset h b (.cells (setR c.toList (off + i) vs).toArray T' f)) t → gen P (storeCells ⟨b, off, none⟩ vs i) K h t := by
  intro vs
  induction vs with
  | nil =>
    intro i c h hb _ _ _ hk
    simp only [storeCells, gen_p]
    have : hset h b (.cells (setR c.toList (off + i) []).toArray T' f) = h := by
      funext k; unfold hset; split
      · rename_i e; subst e; simp [setR, hb]
      · rfl
    rw [this] at hk; exact hk
  | cons v r ih =>
    intro i c h hb hlen hfz h1 hk
    simp only [List.length_cons] at hlen
    simp only [storeCells, store, gen_b, addr_add, gen]
    refine ⟨h1 v (by simp), c, T', f, hb, trivial, by omega, by have := hfz 0 (by simp); simpa using this, ?_⟩
    refine ih (i + 1) _ _ (hset_same _ _ _) (by simp; omega) ?_ (fun u hu => h1 u (by simp [hu])) ?_
    · intro j hj
      have := hfz (j + 1) (by simp; omega)
      have e : off + i + (j + 1) = off + (i + 1) + j := by omega
      rw [e] at this; exact this
    · have e : hset (hset h b (.cells (c.setIfInBounds (off + i) v) T' f)) b (.cells (setR (c.setIfInBounds (off + i) v).toList (off + (i + 1)) r).toArray T' f) = hset h b (.cells (setR c.toList (off + i) (v :: r)).toArray T' f) := by
        funext k; unfold hset; split
        · simp [setR, Nat.add_assoc]
        · rfl
      rw [e]; exact hk
theorem storeRow_gen {T : TypeId} {x v : Value} {K : Heap → Nat → Prop} {h : Heap} {t : Nat} (hv : StoreRowVC P T x v (fun h => K h t) h) : gen P (Instr.storeAt T x v) (fun _ => K) h t := by
  unfold StoreRowVC at hv
  split at hv
  · rename_i b off cs inf hinf
    obtain ⟨hsz, h1, c, T', f, hb, hn, hfz, hk⟩ := hv
    simp only [Instr.storeAt, Instr.sureAddr, gen_b, gen_p, storeVar, gen_sizeOf hinf]
    refine gen_neg (by show ¬ (cs.size ≠ inf.size); simpa using hsz) ?_
    exact storeCells_gen off cs.toList 0 c h hb (by simp; omega) (fun j hj => hfz j (by simp at hj; omega)) h1 (hk _ rfl)
  · exact hv.elim
theorem fAddr_gen {T : TypeId} {x : Value} {i : Nat} {K : Value → Heap → Nat → Prop} {h : Heap} {t : Nat} (hv : fAddrVC P T x i (fun v => K v h t)) : gen P (Instr.fieldAt T x i) K h t := by
  unfold fAddrVC at hv
  split at hv
  · rename_i fields b off hu
    split at hv
    · exact hv.elim
    · rename_i f hf
      split at hv
      · exact hv.elim
      · rename_i inf hi
        rw [Array.getElem?_toList] at hf
        simp only [Instr.fieldAt, gen_b, gen_underlying hu, hf, Instr.sureAddr, gen_p, fieldPlace, gen_sizeOf hi]
        split at hv
        · exact hv.elim
        · rename_i m hs ho
          refine gen_neg (by omega) ?_
          simp only [gen_p, ho, addr_add]; exact hv
        · rename_i m o hs ho
          refine gen_neg (by omega) ?_
          simp only [gen_p, ho, addr_add]; exact hv
  · exact hv.elim
theorem nRow_isAgg {T : TypeId} (hT : isNRow P T = true) (K : Bool → Heap → Nat → Prop) (h : Heap) (t : Nat) : gen P (isAgg T) K h t = K false h t := by
  unfold isNRow at hT
  split at hT
  · cases hT
  · cases hT
  · cases hT
  · rename_i h1 h2 h3
    cases hu : P.underlying T with
    | none => exact absurd hu h3
    | some d =>
      simp only [isAgg, gen_b, gen_underlying hu]
      cases d <;> first | exact absurd hu (h1 _) | exact absurd hu (h2 _ _) | rfl
theorem idxAgg_gen {T : TypeId} {cs : Array Value} {ix : Value} {K : Value → Heap → Nat → Prop} {h : Heap} {t : Nat} (hv : idxAggVC P T cs ix (fun v => K v h t)) : gen P (Instr.index T (.agg cs) ix) K h t := by
  unfold idxAggVC at hv
  split at hv
  · rename_i len elem k i hu
    split at hv
    · rename_i inf hi
      cases hb : isNRow P elem with
      | false => rw [hb] at hv; exact hv.elim
      | true =>
        rw [hb, cond_true] at hv
        obtain ⟨h0, v, hv1, hk⟩ := hv
        simp only [Instr.index, asIntOf, gen_b, gen_p, gen_underlying hu]
        rw [if_pos h0]
        simp only [gen_b, gen_sizeOf hi, part, nRow_isAgg hb, Bool.false_eq_true, if_false, hv1, gen_p]
        exact hk
    · exact hv.elim
  · exact hv.elim
theorem load_gen {T : TypeId} {x : Value} {K : Value → Heap → Nat → Prop} {h : Heap} {t : Nat} (hT : isNRow P T = true) (hv : LoadVC x (fun v => K v h t) h) : gen P (Instr.loadAt T x) K h t := by
  unfold LoadVC at hv
  split at hv
  · obtain ⟨v, hc, hk⟩ := hv
    simp only [Instr.loadAt, Instr.sureAddr, gen_b, gen_p, loadVar, nRow_isAgg hT, Bool.false_eq_true, if_false, load, gen]
    exact ⟨v, hc, hk⟩
  · exact hv.elim
theorem store_gen {T : TypeId} {x v : Value} {K : Heap → Nat → Prop} {h : Heap} {t : Nat} (hv : StoreVC P T x v (fun h => K h t) h) : gen P (Instr.storeAt T x v) (fun _ => K) h t := by
  unfold StoreVC at hv
  split at hv
  · rename_i b off inf hinf
    split at hv
    · rename_i hs
      obtain ⟨h1, c, T', f, hb, hlt, hf, hk⟩ := hv
      have hc1 : v.cells = #[v] := by cases v <;> first | rfl | cases h1
      simp only [Instr.storeAt, Instr.sureAddr, gen_b, gen_p, storeVar, gen_sizeOf hinf, hc1]
      refine gen_neg (by simp [hs]) ?_
      simp only [storeCells, store, gen_b, addr_add, gen]
      exact ⟨h1, c, T', f, hb, trivial, hlt, hf, hk _ rfl⟩
    · exact hv.elim
  · exact hv.elim
theorem zip_fst (e : Env) (parts : List (Nat × Operand)) : (parts.map (·.1)).zip (parts.map fun p => evalE e p.2) = parts.map fun p => (p.1, evalE e p.2) := by
  induction parts with
  | nil => rfl
  | cons p r ih => simp only [List.map_cons, List.zip_cons_cons, ih]
theorem vcOp_ran {e : Env} {o : Oper} {K : Value → Heap → Nat → Prop} {h : Heap} {t : Nat} {g w : World} (hv : vcOp P e o K h t) (hr : Rel g h t w) :
    Ran P g K t ((execOp (evalE e) o).run P w) := by
  obtain ⟨dst, op, type, pos, after, guard⟩ := o
  unfold vcOp at hv
  split at hv
  · rename_i heq; have heq' : op = _ := heq; subst heq'
    refine Ran.of_gen ?_ hr; simp only [execOp, gen_v]; exact idxAddr_gen hv
  · rename_i heq; have heq' : op = _ := heq; subst heq'
    refine Ran.of_gen ?_ hr
    split at hv
    · rename_i he
      simp only [execOp, gen_v]; exact idx_gen hv
    · rename_i cs he
      simp only [execOp, gen_v, he]; exact idxAgg_gen hv
    · exact hv
  · rename_i heq; have heq' : op = _ := heq; subst heq'
    refine Ran.of_gen ?_ hr; simp only [execOp, gen_v]; exact slice_gen hv
  · rename_i heq; have heq' : op = _ := heq; subst heq'
    refine Ran.of_gen ?_ hr; simp only [execOp, gen_v]; exact makeSlice_gen hv
  · rename_i heq; have heq' : op = _ := heq; subst heq'
    refine Ran.of_gen ?_ hr; simp only [execOp, gen_v]; exact bin_gen hv
  · rename_i heq; have heq' : op = _ := heq; subst heq'
    refine Ran.of_gen ?_ hr; simp only [execOp, gen_v]; exact un_gen hv
  · rename_i heq; have heq' : op = _ := heq; subst heq'
    refine Ran.of_gen ?_ hr; simp only [execOp, gen_v]; exact convert_gen hv
  · rename_i heq; have heq' : op = _ := heq; subst heq'
    refine Ran.of_gen ?_ hr; simp only [execOp, gen_v]; simp only [force_eq] at hv; exact hv.run
  · rename_i heq; have heq' : op = _ := heq; subst heq'
    refine Ran.of_gen ?_ hr; simp only [execOp, gen_u]; simp only [force_eq] at hv; exact hv.run
  · rename_i heq; have heq' : op = _ := heq; subst heq'
    refine Ran.of_gen ?_ hr; simp only [execOp, gen_u]; simp only [force_eq] at hv; exact hv.run
  · rename_i heq; have heq' : op = _ := heq; subst heq'
    refine Ran.of_gen ?_ hr; simp only [execOp, gen_v]; simp only [force_eq] at hv; exact hv.run
  · rename_i heq; have heq' : op = _ := heq; subst heq'
    refine Ran.of_gen ?_ hr; simp only [execOp, gen_u]; simp only [force_eq] at hv; exact hv.run
  · rename_i heq; have heq' : op = _ := heq; subst heq'
    refine Ran.of_gen ?_ hr; simp only [execOp, gen_v]; simp only [force_eq] at hv; exact hv.run
  · rename_i heq; have heq' : op = _ := heq; subst heq'
    refine Ran.of_gen ?_ hr; simp only [execOp, gen_v]
    simp only [forceL_eq, zip_fst] at hv
    have := build_gen hv
    rw [← List.map_toArray, Array.toArray_toList] at this; exact this
  · rename_i heq; have heq' : op = _ := heq; subst heq'
    refine Ran.of_gen ?_ hr; simp only [execOp, gen_v]
    simp only [forceL_eq, zip_fst] at hv
    have := buildSl_gen hv
    rw [← List.map_toArray, Array.toArray_toList] at this; exact this
  · rename_i heq; have heq' : op = _ := heq; subst heq'
    refine Ran.of_gen ?_ hr; simp only [execOp, gen_v, Instr.makeFunc, gen_p, args_map]; exact hv
  · rename_i heq; have heq' : op = _ := heq; subst heq'
    refine Ran.of_gen ?_ hr; simp only [execOp, gen_v]; exact fAddr_gen hv
  · rename_i T x heq; have heq' : op = _ := heq; subst heq'
    refine Ran.of_gen ?_ hr
    simp only [execOp, gen_v]
    cases hb : isRow P T with
    | true => rw [hb] at hv; simp only [force_eq, cond_true] at hv; exact loadRow_gen hb hv
    | false =>
      rw [hb] at hv
      cases hb2 : isNRow P T with
      | true => rw [hb2] at hv; exact load_gen hb2 hv
      | false => rw [hb2] at hv; exact hv.elim
  · rename_i T x v heq; have heq' : op = _ := heq; subst heq'
    refine Ran.of_gen ?_ hr
    cases hb : isRow P T with
    | true => rw [hb] at hv; simp only [execOp, gen_u]; simp only [force_eq, cond_true] at hv; exact storeRow_gen hv
    | false => rw [hb] at hv; simp only [execOp, gen_u]; simp only [force_eq, cond_false] at hv; exact store_gen hv
  · rename_i args ats heq; have heq' : op = _ := heq; subst heq'
    refine Ran.of_gen ?_ hr
    split at hv
    · rename_i s x ha
      simp only [execOp, resolve, gen_b, gen_p, invoke, builtin, args_map, ha]
      simp only [force_eq] at hv; exact hv.run
    · exact hv.elim
  · rename_i args ats heq; have heq' : op = _ := heq; subst heq'
    refine Ran.of_gen ?_ hr
    split at hv
    · rename_i s x ha
      simp only [execOp, resolve, gen_b, gen_p, invoke, builtin, args_map, ha]
      simp only [force_eq] at hv; exact hv.run
    · exact hv.elim
  · exact hv.elim
  · exact hv.elim
  · rename_i b args ats hb1 hb2 hb3 hb4 heq; have heq' : op = _ := heq; subst heq'
    refine Ran.of_gen ?_ hr
    simp only [execOp, resolve, gen_b, gen_p, invoke, args_map]
    rw [builtin_consts b hb3 hb4]
    exact hv
  · rename_i f args ats heq; have heq' : op = _ := heq; subst heq'
    split at hv
    · rename_i k first captured hf
      simp only [forceL_eq] at hv
      have ea : first ++ args.map (evalE e) ++ captured = (first.toList ++ args.toList.map (evalE e) ++ captured.toList).toArray := by
        apply Array.toList_inj.1; simp
      cases hx : isExt P k with
      | true =>
        rw [hx, cond_true] at hv
        refine Ran.of_gen ?_ hr
        simp only [execOp, resolve, hf, Deferred.ofValue]
        have hg := hv.run
        rw [← ea] at hg
        exact hg
      | false =>
        rw [hx, cond_false] at hv
        refine ⟨.enter k (first.toList ++ args.toList.map (evalE e) ++ captured.toList).toArray, w, h, t, ?_, hr, Nat.le_refl _, hv⟩
        have hc := hv.callable (first.toList ++ args.toList.map (evalE e) ++ captured.toList).toArray w
        simp only [execOp, resolve, hf, Deferred.ofValue]
        rw [← hc, ← ea]
        rfl
    · exact hv.elim
  · exact Ran.of_gen hv hr
def guardVC (want : Bool) (d : Nat) (e : Env) (go skip : Env → Prop) (b : Bool) : Prop :=
  bsel b (match want with | true => go (upd e d (.bool true)) | false => skip (upd e d (.bool true)))
    (match want with | true => skip (upd e d (.bool false)) | false => go (upd e d (.bool false)))
def putK (e : Env) (dst : Option Tmp) (v : Value) (K : Env → Prop) : Prop :=
  match dst with
  | some d => force v (fun v => K (upd e d v))
  | none => K e
theorem putK_eq (e : Env) (dst : Option Tmp) (v : Value) (K : Env → Prop) : putK e dst v K = K (putE e dst v) := by
  cases dst <;> simp [putK, putE, force_eq]
def opStep (P : Program) (ops : Array Oper) (o : Oper) (rest : Env → Heap → Nat → Prop) (e : Env) (h : Heap) (t : Nat) : Prop :=
  match o.guard with
  | none => vcOp P e o (fun v h t => putK e o.dst v (fun e => rest e h t)) h t
  | some (j, want) =>
    match ops[j]? with
    | none => False
    | some oj =>
      match oj.dst with
      | none => False
      | some d =>
        match e d with
        | .bool b => guardVC want d e (fun e => vcOp P e o (fun v h t => putK e o.dst v (fun e => rest e h t)) h t) (fun e => putK e o.dst undef (fun e => rest e h t)) b
        | .tuple _ => putK e o.dst undef (fun e => rest e h t)
        | _ => False
noncomputable def vcOps (P : Program) (ops : Array Oper) (K : Env → Heap → Nat → Prop) (l : List Oper) : Env → Heap → Nat → Prop :=
  List.rec (motive := fun _ => Env → Heap → Nat → Prop) K (fun o _ ih => opStep P ops o ih) l
theorem vcOps_cons (P : Program) (ops : Array Oper) (K : Env → Heap → Nat → Prop) (o : Oper) (rest : List Oper) : vcOps P ops K (o :: rest) = opStep P ops o (vcOps P ops K rest) := rfl
inductive Ex where
  | nrm
  | exit (id : Nat)
  | ret
def seqK (K : Env → Heap → Nat → Prop) (Q : Ex → Env → Heap → Nat → Prop) : Ex → Env → Heap → Nat → Prop
  | .nrm => K
  | x => Q x
def blockK (id : Nat) (Q : Ex → Env → Heap → Nat → Prop) : Ex → Env → Heap → Nat → Prop
  | .exit i => bif Nat.beq i id then Q .nrm else Q (.exit i)
  | x => Q x
def loopK (R : Nat → Env → Heap → Nat → Prop) (m : Nat) (Q : Ex → Env → Heap → Nat → Prop) : Ex → Env → Heap → Nat → Prop
  | .nrm => fun e h t => ∃ m', m' < m ∧ R m' e h t
  | x => Q x
structure AR (n : Nat) (e : Env) (a : Act) : Prop where
  defers : a.defers = []
  size : a.tmps.size = n
  get : ∀ i, a.tmps.getD i undef = e i
structure DrawVC (P : Program) (ops : Array Oper) (K : Env → Heap → Nat → Prop) (e : Env) (h : Heap) (t : Nat) : Prop where
  run : ∀ (n : Nat) (g : World) (a : Act) (w : World) (Q : Exit → Act → World → Prop), Rel g h t w → AR n e a →
    (∀ o ∈ ops.toList, ∀ d, o.dst = some d → d < n) →
    (∀ e' h' t' a' w', Rel g h' t' w' → t ≤ t' → AR n e' a' → K e' h' t' → Q .normal a' w') →
    ∀ m, wpOps P ops Q (Region.schedule (P.follows .mixedOrders) ops m) a w
abbrev Post := Ex → Env → Heap → Nat → Prop
def regionVC (P : Program) (ops : Array Oper) (d : Bool) (Q : Post) (e : Env) (h : Heap) (t : Nat) : Prop :=
  match d with
  | false => vcOps P ops (Q .nrm) ops.toList e h t
  | true => DrawVC P ops (Q .nrm) e h t
def condVC (c : Operand) (X Y : Post → Env → Heap → Nat → Prop) (Q : Post) (e : Env) (h : Heap) (t : Nat) : Prop :=
  match evalE e c with
  | .bool b => bsel b (X Q e h t) (Y Q e h t)
  | _ => False
def loopVC (X : Post → Env → Heap → Nat → Prop) (Q : Post) (e : Env) (h : Heap) (t : Nat) : Prop :=
  ∃ (R : Nat → Env → Heap → Nat → Prop), (∃ m, R m e h t) ∧ ∀ m e h t, Dom h t → R m e h t → X (loopK R m Q) e h t
noncomputable def vc (P : Program) (c : Code) : Post → Env → Heap → Nat → Prop :=
  Code.rec (motive := fun _ => Post → Env → Heap → Nat → Prop)
    (skip := fun Q e h t => Q .nrm e h t)
    (region := fun _ ops d Q e h t => regionVC P ops d Q e h t)
    (seq := fun _ _ X Y Q e h t => X (seqK (Y Q) Q) e h t)
    (cond := fun c _ _ X Y Q e h t => condVC c X Y Q e h t)
    (block := fun id _ X Q e h t => X (blockK id Q) e h t)
    (loop := fun _ X Q e h t => loopVC X Q e h t)
    (rangeFunc := fun _ _ _ _ _ _ _ _ _ _ => False)
    (exit := fun id Q e h t => Q (.exit id) e h t)
    (scope := fun _ X Q e h t => X Q e h t)
    (label := fun _ Q e h t => Q .nrm e h t)
    (goto := fun _ _ _ _ _ => False)
    (ret := fun Q e h t => Q .ret e h t)
    (refuse := fun _ _ _ _ _ => False) c
def dstsOk (n : Nat) : Code → Bool
  | .region _ ops _ => ops.toList.all fun o => match o.dst with | some d => Nat.blt d n | none => true
  | .seq x y => dstsOk n x && dstsOk n y
  | .cond _ x y => dstsOk n x && dstsOk n y
  | .block _ c => dstsOk n c
  | .loop c => dstsOk n c
  | .scope c => dstsOk n c
  | _ => true
theorem AR.eval {n e a} (h : AR n e a) (x : Operand) : a.eval x = evalE e x := by
  cases x <;> simp only [Act.eval, evalE]
  exact h.get _
theorem AR.eval' {n e a} (h : AR n e a) : a.eval = evalE e := funext h.eval
theorem AR.put {n e a} (h : AR n e a) (dst : Option Tmp) (hd : ∀ d, dst = some d → d < n) (v : Value) : AR n (putE e dst v) (a.put dst v) := by
  cases dst with
  | none => exact h
  | some d =>
    have hlt := hd d rfl
    refine ⟨h.defers, by simp [Act.put, h.size], fun i => ?_⟩
    simp only [Act.put, putE, upd]
    have h1 := h.get i
    by_cases e1 : i = d
    · subst e1; simp [h.size, hlt]
    · have : Nat.beq i d = false := by cases hbq : Nat.beq i d with | false => rfl | true => exact absurd (Nat.eq_of_beq_eq_true hbq) e1
      rw [this]
      simp only [cond_false]
      rw [← h1]
      simp [Ne.symm e1]
theorem AR.upd_same {n e a} (h : AR n e a) {d : Nat} {v : Value} (hv : e d = v) : AR n (upd e d v) a := by
  refine ⟨h.defers, h.size, fun i => ?_⟩
  rw [h.get i]
  unfold upd
  by_cases e1 : i = d
  · subst e1; simp [hv]
  · have : Nat.beq i d = false := by cases hbq : Nat.beq i d with | false => rfl | true => exact absurd (Nat.eq_of_beq_eq_true hbq) e1
    rw [this]; rfl
theorem vcOp_wp {n : Nat} {e : Env} {o : Oper} {K : Value → Heap → Nat → Prop} {h : Heap} {t : Nat} {g w : World} {a : Act} {next : Act → World → Prop} {Q : Exit → Act → World → Prop}
    (hv : vcOp P e o K h t) (hr : Rel g h t w) (ha : AR n e a) (hnext : ∀ v h' t' w', Rel g h' t' w' → t ≤ t' → K v h' t' → next (a.put o.dst v) w') : o.wp P a w next Q := by
  unfold Oper.wp
  rw [ha.eval']
  obtain ⟨nx, w', h', t', e1, e2, e3, e4⟩ := vcOp_ran hv hr
  rw [e1]
  cases nx <;> simp only [nextK] at e4 <;> try exact e4.elim
  · exact hnext _ _ _ _ e2 e3 e4
  · exact hnext _ _ _ _ e2 e3 e4
  · rename_i f args
    refine (e4.runs g w' e2).mono ?_
    rintro _ w'' ⟨v, h'', t'', rfl, r1, r2, r3⟩
    exact hnext _ _ _ _ r1 (Nat.le_trans e3 r2) r3
theorem yielded_eq {n e a} (ha : AR n e a) {ops : Array Oper} {j : Nat} {oj : Oper} {d : Nat} {b : Bool} (hj : ops[j]? = some oj) (hd : oj.dst = some d) (hdn : d < n) (hb : e d = .bool b) :
    yielded ops a.tmps j = some b := by
  have h1 := ha.get d
  have h2 : a.tmps[d]? = some (Value.bool b) := by
    have hlt : d < a.tmps.size := by rw [ha.size]; exact hdn
    rw [Array.getElem?_eq_getElem hlt]
    rw [Array.getD_eq_getD_getElem?, Array.getElem?_eq_getElem hlt, hb] at h1
    simpa using h1
  simp [yielded, hj, hd, h2]
theorem yielded_none {n e a} (ha : AR n e a) {ops : Array Oper} {j : Nat} {oj : Oper} {d : Nat} {x : Array Value} (hj : ops[j]? = some oj) (hd : oj.dst = some d) (hdn : d < n) (hb : e d = .tuple x) :
    yielded ops a.tmps j = none := by
  have h1 := ha.get d
  have h2 : a.tmps[d]? = some (Value.tuple x) := by
    have hlt : d < a.tmps.size := by rw [ha.size]; exact hdn
    rw [Array.getElem?_eq_getElem hlt]
    rw [Array.getD_eq_getD_getElem?, Array.getElem?_eq_getElem hlt, hb] at h1
    simpa using h1
  simp [yielded, hj, hd, h2]
theorem vcOps_sound {n : Nat} {ops : Array Oper} {K : Env → Heap → Nat → Prop} {g : World} {Q : Exit → Act → World → Prop} (hn : ∀ o ∈ ops.toList, ∀ d, o.dst = some d → d < n) :
    ∀ (l : List Oper), (∀ o ∈ l, o ∈ ops.toList) → ∀ {e : Env} {h : Heap} {t : Nat} {w : World} {a : Act}, vcOps P ops K l e h t → Rel g h t w → AR n e a →
      (∀ e' h' t' a' w', Rel g h' t' w' → t ≤ t' → AR n e' a' → K e' h' t' → Q .normal a' w') → wpList P ops Q l a w := by
  intro l
  induction l with
  | nil => intro _ e h t w a hv hr ha hq; exact hq _ _ _ _ _ hr (Nat.le_refl _) ha hv
  | cons o rest ih =>
    intro hsub e h t w a hv hr ha hq
    have hod := hn o (hsub o (by simp))
    have ih' : ∀ {e : Env} {h' : Heap} {t' : Nat} {w : World} {a : Act}, vcOps P ops K rest e h' t' → Rel g h' t' w → t ≤ t' → AR n e a → wpList P ops Q rest a w :=
      fun hv hr ht ha => ih (fun o ho => hsub o (by simp [ho])) hv hr ha (fun e' h' t' a' w' r ht' => hq e' h' t' a' w' r (Nat.le_trans ht ht'))
    have hgo : ∀ {e : Env}, AR n e a → vcOp P e o (fun v h t => putK e o.dst v (fun e => vcOps P ops K rest e h t)) h t → o.wp P a w (wpList P ops Q rest) Q :=
      fun ha hv => vcOp_wp hv hr ha (fun v h' t' w' r ht k => ih' (by rw [putK_eq] at k; exact k) r ht (ha.put o.dst hod v))
    rw [vcOps_cons] at hv
    unfold opStep at hv
    unfold wpList
    split at hv
    · rename_i hg
      rw [if_pos (by simp [Region.wanted, hg])]
      exact .inl (hgo ha hv)
    · rename_i j want hg
      split at hv
      · exact hv.elim
      · rename_i oj hj
        split at hv
        · exact hv.elim
        · rename_i d hd
          have hoj : oj ∈ ops.toList := by
            obtain ⟨hlt, he⟩ := Array.getElem?_eq_some_iff.1 hj
            rw [← he]; simp
          split at hv
          · rename_i b hb
            have hy := yielded_eq ha hj hd (hn oj hoj d hd) hb
            have hw : Region.wanted o (yielded ops a.tmps) = (b == want) := by
              simp only [Region.wanted, hg, hy]
              cases b <;> cases want <;> rfl
            rw [hw]
            unfold guardVC at hv
            cases b <;> cases want <;> simp only [bsel, putK_eq] at hv
            · rw [if_pos (by decide)]; exact .inl (hgo (ha.upd_same hb) (by simpa only [putK_eq] using hv))
            · rw [if_neg (by decide)]; exact ih' hv hr (Nat.le_refl _) ((ha.upd_same hb).put _ hod _)
            · rw [if_neg (by decide)]; exact ih' hv hr (Nat.le_refl _) ((ha.upd_same hb).put _ hod _)
            · rw [if_pos (by decide)]; exact .inl (hgo (ha.upd_same hb) (by simpa only [putK_eq] using hv))
          · rename_i x hb
            have hy := yielded_none ha hj hd (hn oj hoj d hd) hb
            have hw : Region.wanted o (yielded ops a.tmps) = false := by
              simp only [Region.wanted, hg, hy]; rfl
            rw [hw, if_neg (by decide)]
            rw [putK_eq] at hv
            exact ih' hv hr (Nat.le_refl _) (ha.put _ hod _)
          · exact hv.elim
def exOf : Ex → Exit
  | .nrm => .normal
  | .exit i => .exit i
  | .ret => .ret
theorem wp_loop_rel {c : Code} {Q : Exit → Act → World → Prop} {a : Act} {w : World} (R : Nat → Act → World → Prop) (m0 : Nat) (h0 : R m0 a w)
    (round : ∀ m a w, R m a w → c.wp P (Exit.then (fun a' w' => ∃ m', m' < m ∧ R m' a' w') Q) a w) : (Code.loop c).wp P Q a w := by
  intro b k cs
  have key : ∀ m a w, R m a w → ∃ e a' w', Q e a' w' ∧ Arrives P (lone (b.at a (.code c :: .inLoop c :: k)) cs w) b k cs e a' w' := by
    intro m
    induction m using Nat.strongRecOn with
    | _ m ih =>
      intro a w hR
      obtain ⟨e, a₁, w₁, hq, harr⟩ := round m a w hR b (.inLoop c :: k) cs
      cases e with
      | normal =>
        obtain ⟨m', hlt, hR'⟩ := hq
        obtain ⟨e₂, a₂, w₂, hq₂, harr₂⟩ := ih m' hlt a₁ w₁ hR'
        exact ⟨e₂, a₂, w₂, hq₂, .of_steps (Steps.trans harr (.one step_inLoop)) harr₂⟩
      | exit id => exact ⟨_, a₁, w₁, hq, .pass (x := .inLoop c) rfl (fun _ _ => .inl (by simp)) harr⟩
      | goto l => exact ⟨_, a₁, w₁, hq, .pass (x := .inLoop c) rfl (fun _ _ => .inl (by simp)) harr⟩
      | ret => exact ⟨_, a₁, w₁, hq, .pass (x := .inLoop c) rfl (fun _ _ => .inl (by simp)) harr⟩
      | panic ch => exact ⟨_, a₁, w₁, hq, .pass (x := .inLoop c) rfl (fun _ _ => .inl (by simp)) harr⟩
      | outgrown => exact ⟨_, a₁, w₁, hq, .pass (x := .inLoop c) rfl (fun _ _ => .inl (by simp)) harr⟩
  obtain ⟨e, a', w', hq, harr⟩ := key m0 a w h0
  exact ⟨e, a', w', hq, .of_steps (.one step_loop) harr⟩
theorem vc_sound {n : Nat} (c : Code) : ∀ {Q : Ex → Env → Heap → Nat → Prop} {e : Env} {h : Heap} {t : Nat} {g w : World} {a : Act} {Q' : Exit → Act → World → Prop}, dstsOk n c = true → vc P c Q e h t →
    Rel g h t w → AR n e a → (∀ x e' h' t' a' w', Rel g h' t' w' → t ≤ t' → AR n e' a' → Q x e' h' t' → Q' (exOf x) a' w') → c.wp P Q' a w := by
  induction c with
  | skip => intro Q e h t g w a Q' _ hv hr ha hq; exact wp_skip (hq .nrm _ _ _ _ _ hr (Nat.le_refl _) ha hv)
  | region id ops draw =>
    intro Q e h t g w a Q' hd hv hr ha hq
    have hn : ∀ o ∈ ops.toList, ∀ d, o.dst = some d → d < n := by
      intro o ho d hod
      simp only [dstsOk, List.all_eq_true] at hd
      have := hd o ho
      rw [hod] at this
      exact Nat.blt_eq ▸ this
    cases draw with
    | false => exact wp_region_list (vcOps_sound hn ops.toList (fun _ h => h) hv hr ha (fun e' h' t' a' w' r ht ar k => hq .nrm _ _ _ _ _ r ht ar k))
    | true => exact wp_region_draw (fun m => hv.run n g a _ Q' (hr.drawn _) ha hn (fun e' h' t' a' w' r ht ar k => hq .nrm _ _ _ _ _ r ht ar k) m)
  | seq x y ihx ihy =>
    intro Q e h t g w a Q' hd hv hr ha hq
    simp only [dstsOk, Bool.and_eq_true] at hd
    refine wp_seq (ihx hd.1 hv hr ha ?_)
    intro ex e' h' t' a' w' r ht ar k
    cases ex with
    | nrm => exact ihy hd.2 k r ar (fun x e'' h'' t'' a'' w'' r' ht' => hq x e'' h'' t'' a'' w'' r' (Nat.le_trans ht ht'))
    | exit i => exact hq (.exit i) _ _ _ _ _ r ht ar k
    | ret => exact hq .ret _ _ _ _ _ r ht ar k
  | cond c x y ihx ihy =>
    intro Q e h t g w a Q' hd hv hr ha hq
    simp only [dstsOk, Bool.and_eq_true] at hd
    replace hv : condVC c (vc P x) (vc P y) Q e h t := hv
    unfold condVC at hv
    split at hv
    · rename_i b hb
      have hc : a.eval c = .bool b := (ha.eval c).trans hb
      refine wp_cond hc ?_
      cases b with
      | true => exact ihx hd.1 hv hr ha hq
      | false => exact ihy hd.2 hv hr ha hq
    · exact hv.elim
  | block id c ih =>
    intro Q e h t g w a Q' hd hv hr ha hq
    refine wp_block (ih hd hv hr ha ?_)
    intro ex e' h' t' a' w' r ht ar k
    cases ex with
    | nrm => exact hq .nrm _ _ _ _ _ r ht ar k
    | exit i =>
      simp only [blockK] at k
      simp only [exOf, Exit.inBlock]
      by_cases e1 : i = id
      · subst e1; simp at k; rw [if_pos rfl]; exact hq .nrm _ _ _ _ _ r ht ar k
      · have : Nat.beq i id = false := by cases hbq : Nat.beq i id with | false => rfl | true => exact absurd (Nat.eq_of_beq_eq_true hbq) e1
        rw [this] at k
        rw [if_neg e1]; exact hq (.exit i) _ _ _ _ _ r ht ar k
    | ret => exact hq .ret _ _ _ _ _ r ht ar k
  | loop c ih =>
    intro Q e h t g w a Q' hd hv hr ha hq
    obtain ⟨R, ⟨m0, h0⟩, hround⟩ := hv
    refine wp_loop_rel (fun m a w => ∃ e h' t', t ≤ t' ∧ Rel g h' t' w ∧ AR n e a ∧ R m e h' t') m0 ⟨e, h, t, Nat.le_refl _, hr, ha, h0⟩ ?_
    rintro m a1 w1 ⟨e1, h1, t1, ht1, hr1, ha1, hI1⟩
    refine ih hd (hround m e1 h1 t1 hr1.dom hI1) hr1 ha1 ?_
    intro ex e' h' t' a' w' r ht ar k
    cases ex with
    | nrm =>
      obtain ⟨m', hm, hR⟩ := k
      exact ⟨m', hm, e', h', t', Nat.le_trans ht1 ht, r, ar, hR⟩
    | exit i => exact hq (.exit i) _ _ _ _ _ r (Nat.le_trans ht1 ht) ar k
    | ret => exact hq .ret _ _ _ _ _ r (Nat.le_trans ht1 ht) ar k
  | exit id => intro Q e h t g w a Q' _ hv hr ha hq; exact wp_exit (hq (.exit id) _ _ _ _ _ hr (Nat.le_refl _) ha hv)
  | ret => intro Q e h t g w a Q' _ hv hr ha hq; exact wp_ret (hq .ret _ _ _ _ _ hr (Nat.le_refl _) ha hv)
  | scope c ih =>
    intro Q e h t g w a Q' hd hv hr ha hq
    refine wp_scope_straight (ih hd hv hr ha ?_)
    intro ex e' h' t' a' w' r ht ar k
    cases ex <;> exact hq _ _ _ _ _ _ r ht ar k
  | rangeFunc f p x y _ _ => intro Q e h t g w a Q' _ hv; exact hv.elim
  | label l => intro Q e h t g w a Q' _ hv hr ha hq; exact wp_label (hq .nrm _ _ _ _ _ hr (Nat.le_refl _) ha hv)
  | goto l => intro Q e h t g w a Q' _ hv; exact hv.elim
  | refuse s => intro Q e h t g w a Q' _ hv; exact hv.elim
def genR (P : Program) {α : Type} : Sem α → (α → Prop) → Heap → Prop
  | .pure a, K, _ => K a
  | .load _ a k, K, h => ∃ v, Cell h a v ∧ genR P (k v) K h
  | .program k, K, h => genR P (k P) K h
  | .getObj r k, K, h => ∃ o, h r = some o ∧ notCells o = true ∧ genR P (k o) K h
  | .shape r k, K, h => ∃ o, h r = some o ∧ genR P (k (shapeO o)) K h
  | .frozen a k, K, h => ∃ o, h a.block = some o ∧ genR P (k (frozenO o a.off)) K h
  | .mark _ k, K, h => genR P k K h
  | _, _, _ => False
theorem genR_all {α : Type} (s : Sem α) : ∀ {K : α → Prop} {h : Heap}, genR P s K h → ∃ a, K a ∧ ∀ g t w, Rel g h t w → s.run P w = .ok a w := by
  induction s with
  | pure a => intro K h hg; exact ⟨a, hg, fun _ _ _ _ => rfl⟩
  | load m a k ih =>
    intro K h ⟨v, ⟨c, T, f, hb, hs, hv⟩, hg⟩
    obtain ⟨x, h1, h2⟩ := ih v hg
    refine ⟨x, h1, fun g t w hr => ?_⟩
    have hc := (cell_of_rel hr hb hs).trans hv
    simp only [Sem.run, hc]; exact h2 g t w hr
  | program k ih => intro K h hg; exact ih P hg
  | mark m k ih => intro K h hg; exact ih hg
  | getObj r k ih =>
    intro K h ⟨o, hb, hn, hg⟩
    obtain ⟨x, h1, h2⟩ := ih _ hg
    refine ⟨x, h1, fun g t w hr => ?_⟩
    have hblk := hr.blk _ _ hb
    cases o <;> first | (simp [notCells] at hn; done) | (simp only [Sem.run, hblk]; exact h2 g t w hr)
  | shape r k ih =>
    intro K h ⟨o, hb, hg⟩
    obtain ⟨x, h1, h2⟩ := ih _ hg
    refine ⟨x, h1, fun g t w hr => ?_⟩
    have hblk := hr.blk _ _ hb
    have : w.shape? r = shapeO o := by cases o <;> simp [World.shape?, hblk, shapeO]
    simp only [Sem.run, this]; exact h2 g t w hr
  | frozen a k ih =>
    intro K h ⟨o, hb, hg⟩
    obtain ⟨x, h1, h2⟩ := ih _ hg
    refine ⟨x, h1, fun g t w hr => ?_⟩
    have hblk := hr.blk _ _ hb
    have : w.frozen? a = frozenO o a.off := by cases o <;> simp [World.frozen?, hblk, frozenO]
    simp only [Sem.run, this]; exact h2 g t w hr
  | _ => intro K h hg; exact hg.elim
theorem genR_sound {g : World} {α : Type} (s : Sem α) {K : α → Prop} {h : Heap} {t : Nat} {w : World} (hs : genR P s K h) (hr : Rel g h t w) : ∃ a, s.run P w = .ok a w ∧ K a := by
  obtain ⟨a, h1, h2⟩ := genR_all s hs
  exact ⟨a, h2 g t w hr, h1⟩
end Go.Vc
namespace Go.Vc
open Go
variable {P : Program}
theorem genR_b {α β : Type} (s : Sem α) (f : α → Sem β) : ∀ {K : β → Prop} {h : Heap}, genR P (s >>= f) K h = genR P s (fun a => genR P (f a) K h) h := by
  show ∀ {K : β → Prop} {h : Heap}, genR P (s.bind f) K h = genR P s (fun a => genR P (f a) K h) h
  induction s with
  | pure a => intros; rfl
  | load m a k ih => intro K h; simp only [Sem.bind, genR, ih]
  | shape r k ih => intro K h; simp only [Sem.bind, genR, ih]
  | frozen a k ih => intro K h; simp only [Sem.bind, genR, ih]
  | getObj r k ih => intro K h; simp only [Sem.bind, genR, ih]
  | program k ih => intro K h; simp only [Sem.bind, genR, ih]
  | mark m k ih => intro K h; simp only [Sem.bind, genR, ih]
  | _ => intro K h; simp only [Sem.bind, genR]
theorem genR_p {α : Type} (a : α) (K : α → Prop) (h : Heap) : genR P (pure a) K h = K a := rfl
theorem genR_underlying {T : TypeId} {d : TypeDesc} (hd : P.underlying T = some d) (K : TypeDesc → Prop) (h : Heap) : genR P (underlying T) K h = K d := by
  simp only [underlying, program, genR_b, genR, hd, genR_p]
theorem genR_typeInfo {T : TypeId} {d : TypeInfo} (hd : P.info? T = some d) (K : TypeInfo → Prop) (h : Heap) : genR P (typeInfo T) K h = K d := by
  simp only [typeInfo, program, genR_b, genR, hd, genR_p]
theorem genR_sizeOf {T : TypeId} {d : TypeInfo} (hd : P.info? T = some d) (K : Nat → Prop) (h : Heap) : genR P (sizeOf T) K h = K d.size := by
  simp only [sizeOf, genR_b, genR_typeInfo hd, genR_p]
theorem idxAddr_genR {T : TypeId} {x ix : Value} {K : Value → Prop} {h : Heap}  (hv : idxAddrVC P T x ix K) : genR P (Instr.indexAt T x ix) K h := by
  unfold idxAddrVC at hv
  split at hv
  · rename_i elem a len cap k i hu
    split at hv
    · rename_i inf hi
      obtain ⟨hb, b, off, ha, hk⟩ := hv
      subst ha
      simp only [Instr.indexAt, asIntOf, genR_b, genR_p, genR_underlying hu]
      rw [if_pos hb]
      simp only [genR_b, genR_sizeOf hi, genR_p, addr_add]
      exact hk
    · exact hv.elim
  · rename_i len elem b off k i hu
    split at hv
    · rename_i inf hi
      obtain ⟨hb, hk⟩ := hv
      simp only [Instr.indexAt, asIntOf, genR_b, genR_p, genR_underlying hu, Instr.sureAddr]
      rw [if_pos hb]
      simp only [genR_b, genR_sizeOf hi, genR_p, addr_add]
      exact hk
    · exact hv.elim
  · exact hv.elim
theorem idx_genR {T : TypeId} {x ix : Value} {K : Value → Prop} {h : Heap}  (hv : idxVC P T x ix K) : genR P (Instr.index T x ix) K h := by
  unfold idxVC at hv
  split at hv
  · rename_i s k i hu
    obtain ⟨⟨h0, h1⟩, hk⟩ := hv
    simp only [Instr.index, asIntOf, genR_b, genR_p, genR_underlying hu]
    rw [if_pos h0]
    have hlt : i.toNat < s.size := by omega
    have : s[i.toNat]? = some s[i.toNat] := by simp [getElem?_pos, hlt]
    rw [this]
    simp only [genR_p]
    have e : byteAt s i.toNat = (s[i.toNat].toNat : Int) := by
      unfold byteAt
      have : i.toNat < s.data.size := hlt
      have e2 : s.data.getD i.toNat 0 = s.data[i.toNat] := by rw [Array.getD_eq_getD_getElem?, Array.getElem?_eq_getElem this]; rfl
      rw [e2]; rfl
    have hlt2 := s[i.toNat].toNat_lt
    rw [e] at hk; exact hk (by omega) (by omega)
  · exact hv.elim
theorem sliceBound_genR {k : IntKind} {i : Int} {y : Nat} {c : BoundsCode} {K : Nat → Prop} {h : Heap}  (hb : 0 ≤ i ∧ i ≤ y) : genR P (Instr.sliceBound (.int k i) y c) K h = K i.toNat := by
  simp only [Instr.sliceBound, asIntOf, genR_b, genR_p]
  rw [if_pos hb]; rfl
theorem slice_genR {T : TypeId} {x : Value} {lo hi : Option Value} {K : Value → Prop} {h : Heap}  (hv : sliceVC P T x lo hi K) : genR P (Instr.sliceAt T x lo hi none) K h := by
  unfold sliceVC at hv
  split at hv
  · rename_i s hu
    unfold Instr.sliceAt
    simp only [genR_b, genR_underlying hu, Instr.slice]
    split at hv <;> simp only [Instr.sliceBounds, Option.isSome, genR_b, genR_p, Bool.false_eq_true, if_false]
    · exact hv
    · obtain ⟨hb, hk⟩ := hv; rw [sliceBound_genR hb]; exact hk
    · obtain ⟨hb, hk⟩ := hv; rw [sliceBound_genR hb]; exact hk
    · obtain ⟨hb, hk⟩ := hv; rw [sliceBound_genR (by omega), sliceBound_genR (by omega)]; exact hk
    · exact hv.elim
  · rename_i elem a len cap hu
    unfold Instr.sliceAt
    simp only [genR_b, genR_underlying hu, Instr.slice]
    split at hv
    · exact hv.elim
    · rename_i inf hi
      split at hv <;> simp only [Instr.sliceBounds, Option.isSome, genR_b, genR_p, Bool.false_eq_true, if_false, if_true]
      · rw [genR_sizeOf hi, cutA_zero]; simpa using hv
      · obtain ⟨hb, hk⟩ := hv; rw [sliceBound_genR hb, genR_sizeOf hi, cutA_zero]; simpa using hk
      · obtain ⟨hb, hk⟩ := hv; rw [sliceBound_genR hb, genR_sizeOf hi]; exact hk _ rfl
      · obtain ⟨hb, hk⟩ := hv; rw [sliceBound_genR (by omega), sliceBound_genR (by omega), genR_sizeOf hi]; exact hk _ rfl
      · exact hv.elim
  · rename_i n elem b off hu
    unfold Instr.sliceAt
    simp only [genR_b, genR_underlying hu, Instr.sureAddr, genR_p]
    split at hv
    · exact hv.elim
    · rename_i inf hi
      split at hv <;> simp only [Instr.sliceBounds, Option.isSome, genR_b, genR_p, Bool.false_eq_true, if_false]
      · rw [genR_sizeOf hi, cut_zero']; simpa using hv
      · obtain ⟨hb, hk⟩ := hv; rw [sliceBound_genR hb, genR_sizeOf hi, cut_zero']; simpa using hk
      · obtain ⟨hb, hk⟩ := hv; rw [sliceBound_genR hb, genR_sizeOf hi]; exact hk _ (cutA_some _ _ _ _ _)
      · obtain ⟨hb, hk⟩ := hv; rw [sliceBound_genR (by omega), sliceBound_genR (by omega), genR_sizeOf hi]; exact hk _ (cutA_some _ _ _ _ _)
      · exact hv.elim
  · exact hv.elim
theorem loadBytes_genR (a : Addr) {h : Heap}  {K : Array Value → Prop} : ∀ (vs : List Value) (i : Nat) (acc : Array Value),
    (∀ j, j < vs.length → Cell h (a.add (i + j)) (vs.getD j undef)) → K (acc ++ vs.toArray) → genR P (loadCellsFrom a i vs.length acc) K h := by
  intro vs
  induction vs with
  | nil => intro i acc _ hk; simpa [loadCellsFrom, genR_p] using hk
  | cons v vs ih =>
    intro i acc hc hk
    have h0 := hc 0 (by simp)
    simp at h0
    simp only [List.length_cons, loadCellsFrom, load, genR_b, genR]
    refine ⟨v, h0, ?_⟩
    refine ih (i + 1) (acc.push v) ?_ ?_
    · intro j hj
      have := hc (j + 1) (by simp; omega)
      have e : i + (j + 1) = i + 1 + j := by omega
      rw [e] at this
      simpa using this
    · simpa using hk
theorem loadCells_genR {a : Addr} {h : Heap}  {K : Array Value → Prop} (vs : List Value)
    (hc : ∀ j, j < vs.length → Cell h (a.add j) (vs.getD j undef)) (hk : K vs.toArray) : genR P (loadCells a vs.length) K h := by
  unfold loadCells
  exact loadBytes_genR a vs 0 #[] (by simpa using hc) (by simpa using hk)
theorem bytesLoop_genR {h : Heap}  : ∀ (l : List UInt8) (s : ByteArray) (K : ByteArray → Prop), K (s ++ ⟨l.toArray⟩) →
    genR P (forIn (m := Sem) (l.map fun b => Value.int .u8 (b.toNat : Nat)) s (fun c r => do
      let .int .u8 n := c | stuck "bytesToString: byte expected"
      pure (ForInStep.yield (r.push (UInt8.ofNat n.toNat))))) K h := by
  intro l
  induction l with
  | nil =>
    intro s K hk
    simp only [List.map_nil, List.forIn_nil, genR_p]
    have e : s ++ (⟨([] : List UInt8).toArray⟩ : ByteArray) = s := by
      apply ByteArray.ext; simp [ByteArray.data_append]
    rw [e] at hk; exact hk
  | cons b l ih =>
    intro s K hk
    simp only [List.map_cons, List.forIn_cons, genR_b, genR_p]
    refine ih _ _ ?_
    have e : s.push (UInt8.ofNat ((b.toNat : Int)).toNat) ++ (⟨l.toArray⟩ : ByteArray) = s ++ ⟨(b :: l).toArray⟩ := by
      apply ByteArray.ext
      simp [ByteArray.push, ByteArray.data_append]
    rw [e]; exact hk
theorem bytesToString_genR {a : Addr} {n c : Nat} {h : Heap}  {K : Value → Prop} (l : List UInt8) (hr : ReadB h a n l) (hk : K (.string ⟨l.toArray⟩)) :
    genR P (Conv.bytesToString (.slice (some a) n c)) K h := by
  obtain ⟨hn, hc⟩ := hr
  subst hn
  unfold Conv.bytesToString
  simp only [genR_b]
  have hl : (l.map fun b => Value.int .u8 ((b.toNat : Nat) : Int)).length = l.length := by simp
  rw [← hl]
  refine loadCells_genR _ ?_ ?_
  · intro j hj
    simp at hj
    have := hc j hj
    simpa [hj] using this
  · simp only [List.forIn_toArray]
    refine bytesLoop_genR l ByteArray.empty _ ?_
    simpa [genR_p] using hk
def binQ (P : Program) (op : BinOp) (T : TypeId) (xo yo : Operand) (x y : Value) (K : Value → Prop) (h : Heap) : Prop :=
  match op, x, y with
  | .add, .string a, .string b => a.size + b.size ≤ 2 ^ 62 ∧ K (.string (a ++ b))
  | .eql, .string a, .string b => K (.bool (opq (decide (a = b))))
  | .neq, .string a, .string b => K (.bool (opq (decide (a ≠ b))))
  | .eql, .int k a, .int k' b => bif k == k' then K (.bool (opq (decide (a = b)))) else False
  | .neq, .int k a, .int k' b => bif k == k' then K (.bool (opq (decide (a ≠ b)))) else False
  | .lss, .int k a, .int k' b => bif k == k' then K (.bool (opq (decide (a < b)))) else False
  | .leq, .int k a, .int k' b => bif k == k' then K (.bool (opq (decide (a ≤ b)))) else False
  | .gtr, .int k a, .int k' b => bif k == k' then K (.bool (opq (decide (a > b)))) else False
  | .geq, .int k a, .int k' b => bif k == k' then K (.bool (opq (decide (a ≥ b)))) else False
  | .shl, .int k a, .int _ b => 0 ≤ b ∧ ∃ z, z = shlV k a b ∧ K (.int k z)
  | .shr, .int k a, .int _ b => 0 ≤ b ∧ ∃ z, z = shrV k a b ∧ K (.int k z)
  | .quo, .int k a, .int k' b => k = k' ∧ b ≠ 0 ∧ ∃ z, z = k.wrap (a.tdiv b) ∧ K (.int k z)
  | .rem, .int k a, .int k' b => k = k' ∧ b ≠ 0 ∧ ∃ z, z = a.tmod b ∧ K (.int k z)
  | .add, .int k a, .int k' b => bif k == k' then (∃ z, z = k.wrap (a + b) ∧ K (.int k z)) else False
  | .sub, .int k a, .int k' b => bif k == k' then (∃ z, z = k.wrap (a - b) ∧ K (.int k z)) else False
  | .mul, .int k a, .int k' b => bif k == k' then (∃ z, z = k.wrap (a * b) ∧ K (.int k z)) else False
  | .and, .int k a, .int k' b => bif k == k' then (∃ z, z = k.wrap (BitVec.ofInt k.bits a &&& BitVec.ofInt k.bits b).toNat ∧ K (.int k z)) else False
  | .or, .int k a, .int k' b => bif k == k' then (∃ z, z = k.wrap (BitVec.ofInt k.bits a ||| BitVec.ofInt k.bits b).toNat ∧ K (.int k z)) else False
  | .xor, .int k a, .int k' b => bif k == k' then (∃ z, z = k.wrap (BitVec.ofInt k.bits a ^^^ BitVec.ofInt k.bits b).toNat ∧ K (.int k z)) else False
  | .andNot, .int k a, .int k' b => bif k == k' then (∃ z, z = k.wrap (BitVec.ofInt k.bits a &&& ~~~(BitVec.ofInt k.bits b)).toNat ∧ K (.int k z)) else False
  | _, _, _ => genR P (do eqGuard op T xo yo x y; binOp op T x y) K h
theorem bin_genR {op : BinOp} {T : TypeId} {xo yo : Operand} {x y : Value} {K : Value → Prop} {h : Heap} (hv : binQ P op T xo yo x y K h) :
    genR P (do eqGuard op T xo yo x y; binOp op T x y) K h := by
  unfold binQ at hv
  split at hv
  · rename_i a b
    obtain ⟨h1, hk⟩ := hv
    simp only [eqGuard, genR_b, genR_p, binOp, Op.stringOp, Bool.not_false, if_true]
    rw [if_neg (by simp [IntKind.max, IntKind.signed, IntKind.bits]; omega)]
    exact hk
  · rw [opq_eq] at hv
    simp only [eqGuard, genR_b, genR_p, binOp, Op.stringOp, Bool.not_true, Bool.false_eq_true, if_false, stringOp_eq]; exact hv
  · rw [opq_eq, decide_not] at hv
    simp only [eqGuard, genR_b, genR_p, binOp, Op.stringOp, Bool.not_true, Bool.false_eq_true, if_false, stringOp_eq]; exact hv
  · rename_i k a k' b
    cases hkk : (k == k') with
    | false => rw [hkk] at hv; exact hv.elim
    | true =>
      rw [hkk, cond_true, opq_eq] at hv
      have : k = k' := by simpa using hkk
      subst this
      simp only [eqGuard, genR_b, genR_p, binOp, Op.intCmp, Bool.not_true, Bool.false_eq_true, if_false, ne_eq, not_true]
      rw [show (a == b) = decide (a = b) from rfl]; exact hv
  · rename_i k a k' b
    cases hkk : (k == k') with
    | false => rw [hkk] at hv; exact hv.elim
    | true =>
      rw [hkk, cond_true, opq_eq, decide_not] at hv
      have : k = k' := by simpa using hkk
      subst this
      simp only [eqGuard, genR_b, genR_p, binOp, Op.intCmp, Bool.not_true, Bool.false_eq_true, if_false, ne_eq, not_true]
      rw [show (a != b) = !decide (a = b) from rfl]; exact hv
  · rename_i k a k' b
    cases hkk : (k == k') with
    | false => rw [hkk] at hv; exact hv.elim
    | true =>
      rw [hkk, cond_true, opq_eq] at hv
      have : k = k' := by simpa using hkk
      subst this
      simp only [eqGuard, genR_b, genR_p, binOp, Op.intCmp, Bool.not_false, if_true, ne_eq, not_true, if_false]; exact hv
  · rename_i k a k' b
    cases hkk : (k == k') with
    | false => rw [hkk] at hv; exact hv.elim
    | true =>
      rw [hkk, cond_true, opq_eq] at hv
      have : k = k' := by simpa using hkk
      subst this
      simp only [eqGuard, genR_b, genR_p, binOp, Op.intCmp, Bool.not_false, if_true, ne_eq, not_true, if_false]; exact hv
  · rename_i k a k' b
    cases hkk : (k == k') with
    | false => rw [hkk] at hv; exact hv.elim
    | true =>
      rw [hkk, cond_true, opq_eq] at hv
      have : k = k' := by simpa using hkk
      subst this
      simp only [eqGuard, genR_b, genR_p, binOp, Op.intCmp, Bool.not_false, if_true, ne_eq, not_true, if_false]; exact hv
  · rename_i k a k' b
    cases hkk : (k == k') with
    | false => rw [hkk] at hv; exact hv.elim
    | true =>
      rw [hkk, cond_true, opq_eq] at hv
      have : k = k' := by simpa using hkk
      subst this
      simp only [eqGuard, genR_b, genR_p, binOp, Op.intCmp, Bool.not_false, if_true, ne_eq, not_true, if_false]; exact hv
  · rename_i k a k' b
    obtain ⟨h1, _, rfl, hk⟩ := hv
    simp only [eqGuard, genR_b, genR_p, binOp, Op.shift, Bool.not_false, if_true]
    rw [if_neg (by omega)]; exact hk
  · rename_i k a k' b
    obtain ⟨h1, _, rfl, hk⟩ := hv
    simp only [eqGuard, genR_b, genR_p, binOp, Op.shift, Bool.not_false, if_true]
    rw [if_neg (by omega)]; exact hk
  · rename_i k a k' b
    obtain ⟨rfl, h1, _, rfl, hk⟩ := hv
    simp only [eqGuard, genR_b, genR_p, binOp, Op.intDiv, Bool.not_false, if_true, ne_eq, not_true, if_false, h1]; exact hk
  · rename_i k a k' b
    obtain ⟨rfl, h1, _, rfl, hk⟩ := hv
    simp only [eqGuard, genR_b, genR_p, binOp, Op.intDiv, Bool.not_false, if_true, ne_eq, not_true, if_false, h1]; exact hk
  · rename_i k a k' b
    cases hkk : (k == k') with
    | false => rw [hkk] at hv; exact hv.elim
    | true =>
      rw [hkk, cond_true] at hv
      obtain ⟨_, rfl, hk⟩ := hv
      have : k = k' := by simpa using hkk
      subst this
      simp only [eqGuard, genR_b, genR_p, binOp, Op.intArith, ne_eq, not_true, if_false]; exact hk
  · rename_i k a k' b
    cases hkk : (k == k') with
    | false => rw [hkk] at hv; exact hv.elim
    | true =>
      rw [hkk, cond_true] at hv
      obtain ⟨_, rfl, hk⟩ := hv
      have : k = k' := by simpa using hkk
      subst this
      simp only [eqGuard, genR_b, genR_p, binOp, Op.intArith, ne_eq, not_true, if_false]; exact hk
  · rename_i k a k' b
    cases hkk : (k == k') with
    | false => rw [hkk] at hv; exact hv.elim
    | true =>
      rw [hkk, cond_true] at hv
      obtain ⟨_, rfl, hk⟩ := hv
      have : k = k' := by simpa using hkk
      subst this
      simp only [eqGuard, genR_b, genR_p, binOp, Op.intArith, ne_eq, not_true, if_false]; exact hk
  · rename_i k a k' b
    cases hkk : (k == k') with
    | false => rw [hkk] at hv; exact hv.elim
    | true =>
      rw [hkk, cond_true] at hv
      obtain ⟨_, rfl, hk⟩ := hv
      have : k = k' := by simpa using hkk
      subst this
      simp only [eqGuard, genR_b, genR_p, binOp, Op.intBits, ne_eq, not_true, if_false]; exact hk
  · rename_i k a k' b
    cases hkk : (k == k') with
    | false => rw [hkk] at hv; exact hv.elim
    | true =>
      rw [hkk, cond_true] at hv
      obtain ⟨_, rfl, hk⟩ := hv
      have : k = k' := by simpa using hkk
      subst this
      simp only [eqGuard, genR_b, genR_p, binOp, Op.intBits, ne_eq, not_true, if_false]; exact hk
  · rename_i k a k' b
    cases hkk : (k == k') with
    | false => rw [hkk] at hv; exact hv.elim
    | true =>
      rw [hkk, cond_true] at hv
      obtain ⟨_, rfl, hk⟩ := hv
      have : k = k' := by simpa using hkk
      subst this
      simp only [eqGuard, genR_b, genR_p, binOp, Op.intBits, ne_eq, not_true, if_false]; exact hk
  · rename_i k a k' b
    cases hkk : (k == k') with
    | false => rw [hkk] at hv; exact hv.elim
    | true =>
      rw [hkk, cond_true] at hv
      obtain ⟨_, rfl, hk⟩ := hv
      have : k = k' := by simpa using hkk
      subst this
      simp only [eqGuard, genR_b, genR_p, binOp, Op.intBits, ne_eq, not_true, if_false]; exact hk
  · exact hv
theorem un_genR {op : UnOp} {x : Value} {K : Value → Prop} {h : Heap} (hv : unVC P op x K) : genR P (Op.unary op x) K h := by
  unfold unVC at hv
  split at hv
  · obtain ⟨_, rfl, hk⟩ := hv; exact hk
  · obtain ⟨_, rfl, hk⟩ := hv; exact hk
  · exact hv
  · exact hv.elim
def convQ (P : Program) (S T : TypeId) (x : Value) (K : Value → Prop) (h : Heap) : Prop :=
  match P.underlying S, P.underlying T, x with
  | some _, some (.int k), .int _ n => ∃ z, z = k.wrap n ∧ K (.int k z)
  | some (.slice e), some .string, .slice none _ _ =>
    match P.underlying e with
    | some (.int .u8) => K (.string ByteArray.empty)
    | _ => False
  | some (.slice e), some .string, .slice (some a) n _ =>
    match P.underlying e with
    | some (.int .u8) => ∃ l, ReadB h a n l ∧ K (.string ⟨l.toArray⟩)
    | _ => False
  | _, _, _ => genR P (convert S T x) K h
theorem conv_genR {S T : TypeId} {x : Value} {K : Value → Prop} {h : Heap} (hv : convQ P S T x K h) : genR P (convert S T x) K h := by
  unfold convQ at hv
  split at hv
  · rename_i d k _ n hS hT
    obtain ⟨_, rfl, hk⟩ := hv
    simp only [convert, genR_b, genR_underlying hS, genR_underlying hT, Conv.intToInt, genR_p]; exact hk
  · rename_i e _ _ hS hT
    split at hv
    · rename_i he
      simp only [convert, genR_b, genR_underlying hS, genR_underlying hT, genR_underlying he, Conv.bytesToString, genR_p]
      exact hv
    · exact hv.elim
  · rename_i e a n _ hS hT
    split at hv
    · rename_i he
      obtain ⟨l, hl, hk⟩ := hv
      simp only [convert, genR_b, genR_underlying hS, genR_underlying hT, genR_underlying he]
      exact bytesToString_genR l hl hk
    · exact hv.elim
  · exact hv
theorem genR_zero {T : TypeId} {d : TypeInfo} {z : Value} (hd : P.info? T = some d) (hz : d.zero = some z) (K : Value → Prop) (h : Heap) : genR P (zeroValue T) K h = K z := by
  simp only [zeroValue, genR_b, genR_typeInfo hd, hz, genR_p]
theorem genR_map {α β : Type} (f : α → β) (s : Sem α) (K : β → Prop) (h : Heap) : genR P (f <$> s) K h = genR P s (fun a => K (f a)) h := by
  rw [map_eq_pure_bind, genR_b]; rfl
theorem places_eqR {fields : List Field} (hk : fieldsKnown P fields = true) : ∀ (K : List (Nat × Nat) → Prop) (h : Heap),
    (∀ pl, (∀ i, pl[i]? = placeF P fields i) → K pl) → genR P (fields.mapM fun f => (do pure (f.offset, ← sizeOf f.type) : Sem (Nat × Nat))) K h := by
  induction fields with
  | nil => intro K h hK; simp only [List.mapM_nil, genR_p]; exact hK [] (fun i => by simp [placeF])
  | cons f r ih =>
    intro K h hK
    simp only [fieldsKnown, Bool.and_eq_true] at hk
    obtain ⟨inf, hinf⟩ := Option.isSome_iff_exists.1 hk.1
    simp only [List.mapM_cons, genR_b, genR_sizeOf hinf, genR_p]
    refine ih hk.2 _ h ?_
    intro pl hpl
    refine hK _ ?_
    intro i
    cases i with
    | zero => simp [placeF, hinf]
    | succ i => simpa [placeF] using hpl i
theorem build_genR {T : TypeId} {parts : List (Nat × Value)} {K : Value → Prop} {h : Heap}  (hv : BuildX P T parts K) : genR P (Instr.build T parts.toArray) K h := by
  replace hv := buildX_vc hv
  unfold BuildVC at hv
  split at hv
  · exact hv.elim
  · rename_i inf hinf
    split at hv
    · exact hv.elim
    · rename_i z hz
      split at hv
      · rename_i fields hu
        split at hv
        · rename_i l hk hl
          simp only [forceL_eq] at hv
          simp only [Instr.build, genR_b, genR_zero hinf hz, genR_underlying hu]
          rw [Array.mapM_eq_mapM_toList, genR_map]
          refine places_eqR hk _ h ?_
          intro pl hpl
          have hf : (fun i => (pl.toArray)[i]?) = placeF P fields.toList := by
            funext i; rw [List.getElem?_toArray]; exact hpl i
          have := fill_eq _ _ _ _ hl
          have hzc : (cellsL z).toArray = z.cells := by rw [← cells_toList]
          rw [hzc] at this
          rw [hf]
          simp only [this]
          exact hv
        · exact hv.elim
      · rename_i n elem hu
        split at hv
        · exact hv.elim
        · rename_i ie hie
          split at hv
          · rename_i l hl
            simp only [forceL_eq] at hv
            simp only [Instr.build, genR_b, genR_zero hinf hz, genR_underlying hu, genR_sizeOf hie]
            have := fill_eq _ _ _ _ hl
            have hzc : (cellsL z).toArray = z.cells := by rw [← cells_toList]
            rw [hzc] at this
            simp only [this]
            exact hv
          · exact hv.elim
      · exact hv.elim
theorem loadCells_rowR {b off n : Nat} {c : Array Value} {T' : TypeId} {f : Nat × Nat} {h : Heap}  {K : Array Value → Prop} (hb : h b = some (.cells c T' f)) (hn : off + n ≤ c.size)
    (hk : K ((c.toList.drop off).take n).toArray) : genR P (loadCells ⟨b, off, none⟩ n) K h := by
  have hl : ((c.toList.drop off).take n).length = n := by simp; omega
  have := loadCells_genR (P := P) (a := ⟨b, off, none⟩) (h := h) (K := K) ((c.toList.drop off).take n) ?_ hk
  · rw [hl] at this; exact this
  · intro j hj
    rw [hl] at hj
    rw [addr_add]
    refine ⟨c, T', f, hb, rfl, ?_⟩
    have hlt : off + j < c.size := by omega
    show c[off + j]? = _
    rw [Array.getElem?_eq_getElem hlt]
    simp [List.getD_eq_getElem?_getD, hj, List.getElem?_drop, hlt]
theorem isRow_isAggR {T : TypeId} (hT : isRow P T = true) (K : Bool → Prop) (h : Heap) : genR P (isAgg T) K h = K true := by
  unfold isRow at hT
  split at hT
  · rename_i hu; simp only [isAgg, genR_b, genR_underlying hu, genR_p]
  · rename_i hu; simp only [isAgg, genR_b, genR_underlying hu, genR_p]
  · cases hT
theorem loadRow_genR {T : TypeId} {x : Value} {K : Value → Prop} {h : Heap}  (hT : isRow P T = true) (hv : LoadRowVC P T x K h) : genR P (Instr.loadAt T x) K h := by
  unfold LoadRowVC at hv
  split at hv
  · rename_i b off inf hinf
    obtain ⟨c, T', f, hb, hn, hk⟩ := hv
    simp only [Instr.loadAt, Instr.sureAddr, genR_b, genR_p, loadVar, isRow_isAggR hT, if_true, genR_sizeOf hinf]
    exact loadCells_rowR hb hn (by have := hk _ rfl; rw [forceL_eq] at this; exact this)
  · exact hv.elim
theorem genR_neg {α : Type} {c : Prop} [Decidable c] {a b : Sem α} {K : α → Prop} {h : Heap} (hc : ¬ c) (hg : genR P b K h) : genR P (if c then a else b) K h := by
  rw [if_neg hc]; exact hg
theorem fAddr_genR {T : TypeId} {x : Value} {i : Nat} {K : Value → Prop} {h : Heap}  (hv : fAddrVC P T x i K) : genR P (Instr.fieldAt T x i) K h := by
  unfold fAddrVC at hv
  split at hv
  · rename_i fields b off hu
    split at hv
    · exact hv.elim
    · rename_i f hf
      split at hv
      · exact hv.elim
      · rename_i inf hi
        rw [Array.getElem?_toList] at hf
        simp only [Instr.fieldAt, genR_b, genR_underlying hu, hf, Instr.sureAddr, genR_p, fieldPlace, genR_sizeOf hi]
        split at hv
        · exact hv.elim
        · rename_i m hs ho
          refine genR_neg (by omega) ?_
          simp only [genR_p, ho, addr_add]; exact hv
        · rename_i m o hs ho
          refine genR_neg (by omega) ?_
          simp only [genR_p, ho, addr_add]; exact hv
  · exact hv.elim
theorem nRow_isAggR {T : TypeId} (hT : isNRow P T = true) (K : Bool → Prop) (h : Heap) : genR P (isAgg T) K h = K false := by
  unfold isNRow at hT
  split at hT
  · cases hT
  · cases hT
  · cases hT
  · rename_i h1 h2 h3
    cases hu : P.underlying T with
    | none => exact absurd hu h3
    | some d =>
      simp only [isAgg, genR_b, genR_underlying hu]
      cases d <;> first | exact absurd hu (h1 _) | exact absurd hu (h2 _ _) | rfl
theorem idxAgg_genR {T : TypeId} {cs : Array Value} {ix : Value} {K : Value → Prop} {h : Heap} (hv : idxAggVC P T cs ix K) : genR P (Instr.index T (.agg cs) ix) K h := by
  unfold idxAggVC at hv
  split at hv
  · rename_i len elem k i hu
    split at hv
    · rename_i inf hi
      cases hb : isNRow P elem with
      | false => rw [hb] at hv; exact hv.elim
      | true =>
        rw [hb, cond_true] at hv
        obtain ⟨h0, v, hv1, hk⟩ := hv
        simp only [Instr.index, asIntOf, genR_b, genR_p, genR_underlying hu]
        rw [if_pos h0]
        simp only [genR_b, genR_sizeOf hi, part, nRow_isAggR hb, Bool.false_eq_true, if_false, hv1, genR_p]
        exact hk
    · exact hv.elim
  · exact hv.elim
theorem load_genR {T : TypeId} {x : Value} {K : Value → Prop} {h : Heap}  (hT : isNRow P T = true) (hv : LoadVC x K h) : genR P (Instr.loadAt T x) K h := by
  unfold LoadVC at hv
  split at hv
  · obtain ⟨v, hc, hk⟩ := hv
    simp only [Instr.loadAt, Instr.sureAddr, genR_b, genR_p, loadVar, nRow_isAggR hT, Bool.false_eq_true, if_false, load, genR]
    exact ⟨v, hc, hk⟩
  · exact hv.elim
structure LookQ (P : Program) (T : TypeId) (x k : Value) (ok : Bool) (K : Value → Prop) (h : Heap) : Prop where
  run : genR P (Instr.lookup T x k ok) K h
def nextQ (K : Value → Prop) : Next → Prop
  | .value v => K v
  | _ => False
def vcOpQ (P : Program) (e : Env) (o : Oper) (K : Value → Prop) (h : Heap) : Prop :=
  match o.op with
  | .indexAddr T x ix => idxAddrVC P T (evalE e x) (evalE e ix) K
  | .index T x ix =>
    match evalE e x with
    | .string _ => idxVC P T (evalE e x) (evalE e ix) K
    | .agg cs => idxAggVC P T cs (evalE e ix) K
    | _ => genR P (execOp (evalE e) o) (nextQ K) h
  | .slice T x lo hi none => sliceVC P T (evalE e x) (lo.map (evalE e)) (hi.map (evalE e)) K
  | .binOp op T x y _ => binQ P op T x y (evalE e x) (evalE e y) K h
  | .unOp op _ x => unVC P op (evalE e x) K
  | .convert S T x => convQ P S T (evalE e x) K h
  | .lookup T x ix ok => force (evalE e x) fun x => force (evalE e ix) fun k => LookQ P T x k ok K h
  | .makeFunc fn first captured => K (.func fn (first.toList.map (evalE e)).toArray (captured.toList.map (evalE e)).toArray)
  | .fieldAddr T x i => fAddrVC P T (evalE e x) i K
  | .load T x => bif isRow P T then force (evalE e x) (fun x => LoadRowVC P T x K h) else bif isNRow P T then LoadVC (evalE e x) K h else False
  | .build T parts => forceL (parts.toList.map fun p => evalE e p.2) fun vs => BuildX P T ((parts.toList.map (·.1)).zip vs) K
  | .call ⟨.builtin .print, _, _⟩ => False
  | .call ⟨.builtin .println, _, _⟩ => False
  | .call ⟨.builtin b, args, ats⟩ => genR P (builtin b ats o.type #[] (args.toList.map (evalE e)).toArray) (nextQ K) h
  | .call _ => False
  | _ => genR P (execOp (evalE e) o) (nextQ K) h
theorem genR_v (s : Sem Value) (K : Value → Prop) (h : Heap) : genR P (do pure (.value (← s)) : Sem Next) (nextQ K) h = genR P s K h := by
  rw [genR_b]; rfl
theorem vcOpQ_genR {e : Env} {o : Oper} {K : Value → Prop} {h : Heap} (hv : vcOpQ P e o K h) : genR P (execOp (evalE e) o) (nextQ K) h := by
  obtain ⟨dst, op, type, pos, after, guard⟩ := o
  unfold vcOpQ at hv
  split at hv
  · rename_i heq; have heq' : op = _ := heq; subst heq'
    simp only [execOp, genR_v]; exact idxAddr_genR hv
  · rename_i heq; have heq' : op = _ := heq; subst heq'
    split at hv
    · rename_i he
      simp only [execOp, genR_v]; exact idx_genR hv
    · rename_i cs he
      simp only [execOp, genR_v, he]; exact idxAgg_genR hv
    · exact hv
  · rename_i heq; have heq' : op = _ := heq; subst heq'
    simp only [execOp, genR_v]; exact slice_genR hv
  · rename_i heq; have heq' : op = _ := heq; subst heq'
    simp only [execOp, genR_v]; exact bin_genR hv
  · rename_i heq; have heq' : op = _ := heq; subst heq'
    simp only [execOp, genR_v]; exact un_genR hv
  · rename_i heq; have heq' : op = _ := heq; subst heq'
    simp only [execOp, genR_v]; exact conv_genR hv
  · rename_i heq; have heq' : op = _ := heq; subst heq'
    simp only [execOp, genR_v]; simp only [force_eq] at hv; exact hv.run
  · rename_i heq; have heq' : op = _ := heq; subst heq'
    simp only [execOp, genR_v, Instr.makeFunc, genR_p, args_map]; exact hv
  · rename_i heq; have heq' : op = _ := heq; subst heq'
    simp only [execOp, genR_v]; exact fAddr_genR hv
  · rename_i T x heq; have heq' : op = _ := heq; subst heq'
    simp only [execOp, genR_v]
    cases hb : isRow P T with
    | true => rw [hb] at hv; simp only [force_eq, cond_true] at hv; exact loadRow_genR hb hv
    | false =>
      rw [hb] at hv
      cases hb2 : isNRow P T with
      | true => rw [hb2] at hv; exact load_genR hb2 hv
      | false => rw [hb2] at hv; exact hv.elim
  · rename_i heq; have heq' : op = _ := heq; subst heq'
    simp only [execOp, genR_v]
    simp only [forceL_eq, zip_fst] at hv
    have := build_genR (h := h) hv
    rw [← List.map_toArray, Array.toArray_toList] at this; exact this
  · exact hv.elim
  · exact hv.elim
  · rename_i b args ats hb1 hb2 heq; have heq' : op = _ := heq; subst heq'
    simp only [execOp, resolve, genR_b, genR_p, invoke, args_map]
    rw [builtin_consts b hb1 hb2]
    exact hv
  · exact hv.elim
  · exact hv
theorem vcOpQ_all {e : Env} {o : Oper} {K : Value → Prop} {h : Heap} (hv : vcOpQ P e o K h) : ∃ v, K v ∧ ∀ g t w, Rel g h t w → (execOp (evalE e) o).run P w = .ok (.value v) w := by
  obtain ⟨nx, h1, h2⟩ := genR_all _ (vcOpQ_genR hv)
  cases nx <;> simp only [nextQ] at h1
  exact ⟨_, h1, h2⟩
def retVal (P : Program) (e : Env) (h : Heap) (x : ResultVar) (K : Value → Prop) : Prop :=
  match x with
  | .tmp x => force (e x) K
  | .cell x T => bif isRow P T then force (e x) (fun v => LoadRowVC P T v K h) else bif isNRow P T then force (e x) (fun v => LoadVC v K h) else False
noncomputable def retAll (P : Program) (e : Env) (h : Heap) (l : List ResultVar) : (List Value → Prop) → Prop :=
  List.rec (motive := fun _ => (List Value → Prop) → Prop) (fun K => K []) (fun x _ ih K => retVal P e h x (fun v => ih (fun l => K (v :: l)))) l
def retOne (R : Value → Prop) (l : List Value) : Prop :=
  match l with
  | [v] => R v
  | l => R (.tuple l.toArray)
noncomputable def retV (P : Program) (fn : Func) (R : Value → Heap → Nat → Prop) (e : Env) (h : Heap) (t : Nat) : Prop :=
  retAll P e h fn.results.toList (retOne fun v => R v h t)
noncomputable def retQ (P : Program) (fn : Func) (R : Value → Heap → Nat → Prop) : Ex → Env → Heap → Nat → Prop
  | .nrm => retV P fn R
  | .ret => retV P fn R
  | .exit _ => fun _ _ _ => False
theorem loadVar_genR {T : TypeId} {x : Value} {K : Value → Prop} {h : Heap} (hv : (bif isRow P T then LoadRowVC P T x K h else bif isNRow P T then LoadVC x K h else False)) : ∃ a, x = .pointer (some a) ∧ genR P (loadVar T a) K h := by
  have hp : (∃ a, x = .pointer (some a)) := by
    cases hb : isRow P T with
    | true =>
      rw [hb, cond_true] at hv
      unfold LoadRowVC at hv
      split at hv
      · exact ⟨_, rfl⟩
      · exact hv.elim
    | false =>
      rw [hb, cond_false] at hv
      cases hb2 : isNRow P T with
      | true =>
        rw [hb2, cond_true] at hv
        unfold LoadVC at hv
        split at hv
        · exact ⟨_, rfl⟩
        · exact hv.elim
      | false => rw [hb2] at hv; exact hv.elim
  obtain ⟨a, rfl⟩ := hp
  refine ⟨a, rfl, ?_⟩
  have hx : genR P (Instr.loadAt T (.pointer (some a))) K h := by
    cases hb : isRow P T with
    | true => rw [hb, cond_true] at hv; exact loadRow_genR hb hv
    | false =>
      rw [hb, cond_false] at hv
      cases hb2 : isNRow P T with
      | true => rw [hb2, cond_true] at hv; exact load_genR hb2 hv
      | false => rw [hb2] at hv; exact hv.elim
  simpa [Instr.loadAt, Instr.sureAddr, genR_b, genR_p] using hx
def resF (tmps : Array Value) (x : ResultVar) : Sem Value :=
  match x with
  | .tmp t => pure (tmps.getD t undef)
  | .cell a t => do loadVar t (← asAddr (tmps.getD a undef))
theorem results_eq (fn : Func) (tmps : Array Value) : results fn tmps = (do let vs ← fn.results.mapM (resF tmps); pure (if h : vs.size = 1 then vs[0] else .tuple vs)) := by
  unfold results
  have : (fun x : ResultVar => (match x with | .tmp t => pure (tmps.getD t undef) | .cell a t => do loadVar t (← asAddr (tmps.getD a undef)) : Sem Value)) = resF tmps := by
    funext x; cases x <;> rfl
  rw [← this]; rfl
theorem retAll_sound {e : Env} {h : Heap} {t : Nat} {g w : World} {n : Nat} {a : Act} (hr : Rel g h t w) (ha : AR n e a) : ∀ (l : List ResultVar) {K : List Value → Prop}, retAll P e h l K →
    ∃ vs, (l.mapM (resF a.tmps)).run P w = .ok vs w ∧ K vs := by
  intro l
  induction l with
  | nil => intro K hk; exact ⟨[], rfl, hk⟩
  | cons x r ih =>
    intro K hk
    have hk : retVal P e h x (fun v => retAll P e h r (fun l => K (v :: l))) := hk
    unfold retVal at hk
    cases x with
    | tmp x =>
      simp only [force_eq] at hk
      obtain ⟨vs, h1, h2⟩ := ih hk
      refine ⟨e x :: vs, ?_, h2⟩
      rw [List.mapM_cons]
      simp only [resF, pure_bind, Sem.run_bind, ha.get x, h1, Result.andThen_ok, Sem.run_pure]
    | cell x T =>
      simp only [force_eq] at hk
      obtain ⟨ad, he, hg⟩ := loadVar_genR hk
      obtain ⟨v, hv1, hv2⟩ := genR_sound _ hg hr
      obtain ⟨vs, h1, h2⟩ := ih hv2
      refine ⟨v :: vs, ?_, h2⟩
      have e1 : resF a.tmps (.cell x T) = loadVar T ad := by simp only [resF, ha.get x, he, asAddr, pure_bind]
      rw [List.mapM_cons, e1]
      simp only [Sem.run_bind, hv1, h1, Result.andThen_ok, Sem.run_pure]
theorem retV_results {n : Nat} {fn : Func} {R : Value → Heap → Nat → Prop} {e : Env} {h : Heap} {t : Nat} {g w : World} {a : Act} (hv : retV P fn R e h t) (hr : Rel g h t w) (ha : AR n e a) :
    ∃ v, (results fn a.tmps).run P w = .ok v w ∧ R v h t := by
  obtain ⟨vs, h1, h2⟩ := retAll_sound hr ha fn.results.toList hv
  rw [results_eq, Array.mapM_eq_mapM_toList, map_eq_pure_bind]
  simp only [Sem.run_bind, h1, Result.andThen_ok, Sem.run_pure]
  unfold retOne at h2
  split at h2
  · exact ⟨_, by simp, h2⟩
  · rename_i hne
    refine ⟨_, ?_, h2⟩
    split
    · rename_i hs
      have : vs.length = 1 := by simpa using hs
      match vs, this with
      | [v], _ => exact absurd rfl (hne v)
    · rfl
theorem spec_of_vc {f : FuncId} {fn : Func} {c : Code} {args : Array Value} {h : Heap} {t : Nat} {R : Value → Heap → Nat → Prop} (hf : P.funcs[f]? = some fn) (hb : fn.body = some c)
    (hname : (fn.name == "runtime.NumGoroutine") = false) (hd : dstsOk fn.ntmps c = true) (hsz : args.size ≤ fn.ntmps)
    (hv : Dom h t → vc P c (retQ P fn R) (fun i => args.getD i undef) h t) : CallSpec P f args h t R := by
  refine ⟨?_, ?_⟩
  · intro as w
    simp only [callFunc, Sem.run_bind, run_program, Result.andThen_ok, hf, hname, hb, Option.isNone, Bool.false_eq_true, if_false, Sem.run_pure]
  · intro g w hr
    refine calls_of_wp hf hb ?_
    have har : AR fn.ntmps (fun i => args.getD i undef) { tmps := args ++ Array.replicate (fn.ntmps - args.size) undef, defers := [] } := by
      refine ⟨rfl, by simp; omega, fun i => ?_⟩
      simp only [Array.getD_eq_getD_getElem?, Array.getElem?_append]
      split
      · rfl
      · rename_i hlt
        rw [Array.getElem?_eq_none (by omega : args.size ≤ i)]
        simp only [Option.getD_none]
        rw [Array.getElem?_replicate]
        split <;> rfl
    refine vc_sound c hd (hv hr.dom) hr har ?_
    intro x e' h' t' a' w' r ht ar k
    cases x with
    | nrm =>
      obtain ⟨v, hv1, hv2⟩ := retV_results k r ar
      exact ⟨ar.defers, v, hv1, v, h', t', rfl, r, ht, hv2⟩
    | ret =>
      obtain ⟨v, hv1, hv2⟩ := retV_results k r ar
      exact ⟨ar.defers, v, hv1, v, h', t', rfl, r, ht, hv2⟩
    | exit i => exact k.elim
end Go.Vc
namespace Go.Vc
open Go
variable {P : Program}
structure PI where
  i : Nat
  loud : Bool
  fl : Bool
  ns : Bool
  b : Nat
def Sub (h h' : Heap) : Prop := ∀ b o, h b = some o → h' b = some o
theorem Sub.refl (h : Heap) : Sub h h := fun _ _ x => x
theorem Sub.trans {a b c : Heap} (x : Sub a b) (y : Sub b c) : Sub a c := fun k o h => y k o (x k o h)
def runD (P : Program) (hs : Heap) (x : PI) (o : Oper) (next : Env → Heap → Nat → Prop) (e : Env) (h : Heap) (t : Nat) : Prop :=
  match x.loud with
  | true => vcOp P e o (fun v h' t' =>
      match x.ns with
      | true => Sub hs h' ∧ putK e o.dst v (fun e => next e h' t')
      | false => putK e o.dst v (fun e => next e h' t')) h t
  | false => vcOpQ P e o (fun v => putK e o.dst v (fun e => next e h t)) (match x.fl with | true => hs | false => h)
def planStep (P : Program) (ops : Array Oper) (hs : Heap) (x : PI) (rest : Env → Heap → Nat → Prop) (e : Env) (h : Heap) (t : Nat) : Prop :=
  match ops[x.i]? with
  | none => False
  | some o =>
    match o.guard with
    | none => runD P hs x o rest e h t
    | some (j, want) =>
      match ops[j]? with
      | none => False
      | some oj =>
        match oj.dst with
        | none => False
        | some d =>
          match e d with
          | .bool b => guardVC want d e (fun e => runD P hs x o rest e h t) (fun e => putK e o.dst undef (fun e => rest e h t)) b
          | .tuple _ => putK e o.dst undef (fun e => rest e h t)
          | _ => False
noncomputable def vcD (P : Program) (ops : Array Oper) (hs : Heap) (K : Env → Heap → Nat → Prop) (l : List PI) : Env → Heap → Nat → Prop :=
  List.rec (motive := fun _ => Env → Heap → Nat → Prop) K (fun x _ ih => planStep P ops hs x ih) l
def dstOf (ops : Array Oper) (i : Nat) : Option Tmp := (ops[i]?).bind (·.dst)
def looksOf (ops : Array Oper) (i : Nat) : List Tmp := ((ops[i]?).map (·.looksAt ops)).getD []
def edgesOf (ops : Array Oper) (i : Nat) : List Nat := ((ops[i]?).map fun o => (o.after.toList.filter (Region.binds .any)).map (·.on)).getD []
def hasD (d : Option Tmp) (l : List Tmp) : Bool := match d with | some s => l.contains s | none => false
def sameD (d d' : Option Tmp) : Bool := match d with | some s => d' == some s | none => false
def maskOf (plan : List PI) (i : Nat) : Nat := ((plan.find? (·.i == i)).map (·.b)).getD 0
def isSel : Op → Bool | .select .. => true | _ => false
def pairOk (ops : Array Oper) (x y : PI) : Bool :=
  (x.i != y.i) && !x.b.testBit y.i && !(edgesOf ops x.i).contains y.i && (!x.loud || y.b.testBit x.i) && !sameD (dstOf ops x.i) (dstOf ops y.i) &&
  (!hasD (dstOf ops x.i) (looksOf ops y.i) || y.b.testBit x.i) && (!hasD (dstOf ops y.i) (looksOf ops x.i) || y.b.testBit x.i) &&
  (!y.loud || x.loud || x.fl || y.b.testBit x.i) && (!y.loud || y.ns || !x.fl || y.b.testBit x.i) && (!x.loud || x.ns || !y.fl)
def pairsOk (ops : Array Oper) : List PI → Bool
  | [] => true
  | x :: r => r.all (pairOk ops x) && pairsOk ops r
def oneOk (ops : Array Oper) (plan : List PI) (x : PI) : Bool :=
  Nat.blt x.i ops.size && (!x.loud || !x.fl) && (edgesOf ops x.i).all (fun j => Nat.blt j ops.size && j != x.i) &&
  (List.range ops.size).all (fun j => !x.b.testBit j || (edgesOf ops x.i).any (fun k => k == j || (maskOf plan k).testBit j)) &&
  !((ops[x.i]?).map fun o => isSel o.op).getD true
def planOk (ops : Array Oper) (plan : List PI) : Bool :=
  Nat.beq plan.length ops.size && (pairsOk ops plan && plan.all (oneOk ops plan) && (List.range ops.size).all (fun j => plan.any (·.i == j)))
theorem pairsOk_append {ops : Array Oper} : ∀ (pre suf : List PI), pairsOk ops (pre ++ suf) = true → ∀ x ∈ pre, ∀ y ∈ suf, pairOk ops x y = true := by
  intro pre
  induction pre with
  | nil => intro suf _ x hx; cases hx
  | cons z pre ih =>
    intro suf h x hx y hy
    simp only [List.cons_append, pairsOk, Bool.and_eq_true, List.all_eq_true] at h
    rcases List.mem_cons.1 hx with rfl | hx
    · exact h.1 y (by simp [hy])
    · exact ih suf h.2 x hx y hy
theorem pairsOk_mem {ops : Array Oper} : ∀ (l : List PI), pairsOk ops l = true → ∀ x ∈ l, ∀ y ∈ l, x.i ≠ y.i → pairOk ops x y = true ∨ pairOk ops y x = true := by
  intro l
  induction l with
  | nil => intro _ x hx; cases hx
  | cons z l ih =>
    intro h x hx y hy hne
    simp only [pairsOk, Bool.and_eq_true, List.all_eq_true] at h
    rcases List.mem_cons.1 hx with hx1 | hx1 <;> rcases List.mem_cons.1 hy with hy1 | hy1
    · exact absurd (by rw [hx1, hy1]) hne
    · rw [hx1]; exact .inl (h.1 y hy1)
    · rw [hy1]; exact .inr (h.1 x hx1)
    · exact ih h.2 x hx1 y hy1 hne
theorem pairsOk_inj {ops : Array Oper} : ∀ (l : List PI), pairsOk ops l = true → ∀ x ∈ l, ∀ y ∈ l, x.i = y.i → x = y := by
  intro l
  induction l with
  | nil => intro _ x hx; cases hx
  | cons z l ih =>
    intro h x hx y hy he
    simp only [pairsOk, Bool.and_eq_true, List.all_eq_true] at h
    have key : ∀ u ∈ l, z.i ≠ u.i := by
      intro u hu
      have := h.1 u hu
      simp only [pairOk, Bool.and_eq_true, bne_iff_ne] at this
      exact this.1.1.1.1.1.1.1.1.1
    rcases List.mem_cons.1 hx with hx1 | hx1 <;> rcases List.mem_cons.1 hy with hy1 | hy1
    · rw [hx1, hy1]
    · exact absurd (hx1 ▸ he) (key y hy1)
    · exact absurd (hy1 ▸ he.symm) (key x hx1)
    · exact ih h.2 x hx1 y hy1 he
def lst (listed : Array Bool) (i : Nat) : Bool := listed.getD i false
theorem lst_set {listed : Array Bool} {i : Nat} (hi : i < listed.size) (j : Nat) : lst (listed.setIfInBounds i true) j = (lst listed j || j == i) := by
  unfold lst
  simp only [Array.getD_eq_getD_getElem?]
  by_cases e : j = i
  · subst e; simp [hi]
  · simp [Ne.symm e, e]
theorem bits_listed {ops : Array Oper} {plan : List PI} {listed : Array Bool} (hp : pairsOk ops plan = true) (ho : ∀ x ∈ plan, oneOk ops plan x = true)
    (hcl : ∀ x ∈ plan, lst listed x.i = true → ∀ j ∈ edgesOf ops x.i, lst listed j = true) :
    ∀ (n : Nat) (pre suf : List PI), pre.length = n → plan = pre ++ suf → ∀ x ∈ pre, (∀ j ∈ edgesOf ops x.i, lst listed j = true) → ∀ j, j < ops.size → x.b.testBit j = true → lst listed j = true := by
  intro n
  induction n with
  | zero => intro pre suf hl _ x hx; rw [List.length_eq_zero_iff.1 hl] at hx; cases hx
  | succ n ih0 =>
    intro pre0 suf hl hs x hx hedge j hj hb
    rcases List.eq_nil_or_concat pre0 with e0 | ⟨pre, z, e0⟩
    · rw [e0] at hx; cases hx
    rw [List.concat_eq_append] at e0
    subst e0
    have ih := fun suf => ih0 pre suf (by simpa using hl)
    have hs' : plan = pre ++ ([z] ++ suf) := by rw [hs]; simp
    rcases List.mem_append.1 hx with hx | hx
    · exact ih _ hs' x hx hedge j hj hb
    · have hxz : x = z := by simpa using hx
      subst hxz
      have hxp : x ∈ plan := by rw [hs]; simp
      have h1 := ho x hxp
      simp only [oneOk, Bool.and_eq_true, List.all_eq_true] at h1
      have h3 := h1.1.2 j (by simpa using hj)
      rw [hb] at h3
      simp only [Bool.not_true, Bool.false_or, List.any_eq_true, Bool.or_eq_true, beq_iff_eq] at h3
      obtain ⟨k, hk, hk2⟩ := h3
      rcases hk2 with rfl | hk2
      · exact hedge k hk
      · -- the mask of k
        unfold maskOf at hk2
        cases hf : plan.find? (·.i == k) with
        | none => rw [hf] at hk2; simp at hk2
        | some y =>
          rw [hf] at hk2
          simp only [Option.map_some, Option.getD_some] at hk2
          have hy := List.mem_of_find?_eq_some hf
          have hyk : y.i = k := by simpa using List.find?_some hf
          have hne : k ≠ x.i := by
            have := h1.1.1.2 k hk
            simpa using this.2
          have hyp : y ∈ pre := by
            rw [hs] at hy
            rcases List.mem_append.1 hy with hy | hy
            · rcases List.mem_append.1 hy with hy | hy
              · exact hy
              · simp at hy; subst hy; exact absurd hyk.symm hne
            · have := pairsOk_append (pre ++ [x]) suf (by rw [← hs]; exact hp) x (by simp) y hy
              simp only [pairOk, Bool.and_eq_true, Bool.not_eq_true'] at this
              have h5 := this.1.1.1.1.1.1.1.2
              rw [hyk] at h5
              rw [List.contains_iff_mem.2 hk] at h5; cases h5
          have hyl : lst listed y.i = true := by rw [hyk]; exact hedge k hk
          exact ih _ hs' y hyp (hcl y (by rw [hs']; simp [hyp]) hyl) j hj hk2
theorem countP_lt {α : Type} {p p' : α → Bool} : ∀ (l : List α), (∀ x ∈ l, p' x = true → p x = true) → (∃ x ∈ l, p x = true ∧ p' x = false) → l.countP p' < l.countP p := by
  intro l
  induction l with
  | nil => rintro _ ⟨x, hx, _⟩; cases hx
  | cons z l ih =>
    intro hle hex
    have hle' : ∀ x ∈ l, p' x = true → p x = true := fun x hx => hle x (by simp [hx])
    have hmono : l.countP p' ≤ l.countP p := List.countP_mono_left hle'
    obtain ⟨x, hx, h1, h2⟩ := hex
    rcases List.mem_cons.1 hx with rfl | hx
    · rw [List.countP_cons_of_neg (by simp [h2]), List.countP_cons_of_pos h1]; omega
    · have := ih hle' ⟨x, hx, h1, h2⟩
      cases h3 : p' z with
      | true => rw [List.countP_cons_of_pos h3, List.countP_cons_of_pos (hle z (by simp) h3)]; omega
      | false =>
        rw [List.countP_cons_of_neg (by simp [h3])]
        cases h4 : p z with
        | true => rw [List.countP_cons_of_pos h4]; omega
        | false => rw [List.countP_cons_of_neg (by simp [h4])]; exact this
def rS (ops : Array Oper) (plan : List PI) (e0 : Env) (x : PI) (e : Env) (s : Nat) : Value :=
  if plan.any (fun y => y.i != x.i && dstOf ops y.i == some s && x.b.testBit y.i) then e s else e0 s
def Pend (P : Program) (ops : Array Oper) (plan : List PI) (Q : Exit → Act → World → Prop) (g : World) (n : Nat) (e0 : Env) (x : PI) (e : Env) (hx : Heap) : Prop :=
  ∃ v, (∀ d, dstOf ops x.i = some d → e d = v) ∧ ∀ (a' : Act) (w' : World) (K' : Act → World → Prop) (tt : Nat), a'.tmps.size = n → (∀ s ∈ looksOf ops x.i, a'.tmps.getD s undef = rS ops plan e0 x e s) → Rel g hx tt w' →
    K' (a'.put (dstOf ops x.i) v) w' → wpOp P ops Q x.i K' a' w'
structure DInv (P : Program) (ops : Array Oper) (plan : List PI) (hs : Heap) (K : Env → Heap → Nat → Prop) (Q : Exit → Act → World → Prop) (g : World) (n : Nat) (e0 : Env) (t0 : Nat)
    (listed : Array Bool) (a : Act) (w : World) (pre suf : List PI) (e : Env) (h : Heap) (t : Nat) : Prop where
  split : plan = pre ++ suf
  lsz : listed.size = ops.size
  louds : ∀ x ∈ pre, x.loud = true → lst listed x.i = true
  sub : ∀ x ∈ plan, lst listed x.i = true → x ∈ pre
  closed : ∀ x ∈ plan, lst listed x.i = true → ∀ j ∈ edgesOf ops x.i, lst listed j = true
  vc : vcD P ops hs K suf e h t
  rel : Rel g h t w
  le : t0 ≤ t
  defers : a.defers = []
  size : a.tmps.size = n
  slots : ∀ s, (∀ x ∈ pre, lst listed x.i = false → dstOf ops x.i ≠ some s) → a.tmps.getD s undef = e s
  slotsP : ∀ x ∈ pre, lst listed x.i = false → ∀ s, dstOf ops x.i = some s → a.tmps.getD s undef = e0 s
  e0s : ∀ s, (∀ x ∈ pre, dstOf ops x.i ≠ some s) → e s = e0 s
  pend : ∀ x ∈ pre, lst listed x.i = false → Pend P ops plan Q g n e0 x e (if x.fl = true then hs else h)
  subh : (∃ x ∈ plan, x.fl = true ∧ lst listed x.i = false) → Sub hs h
theorem upd_eq_self {e : Env} {d : Nat} {v : Value} (hv : e d = v) : upd e d v = e := by
  funext i
  unfold upd
  cases hb : Nat.beq i d with
  | true => rw [Nat.eq_of_beq_eq_true hb, hv]; rfl
  | false => rfl
theorem upd_at (e : Env) (d : Nat) (v : Value) : upd e d v d = v := by simp [upd]
theorem upd_ne (e : Env) {d i : Nat} (v : Value) (h : i ≠ d) : upd e d v i = e i := by
  unfold upd
  have : Nat.beq i d = false := by cases hbq : Nat.beq i d with | false => rfl | true => exact absurd (Nat.eq_of_beq_eq_true hbq) h
  rw [this]; rfl
theorem guard_cases {want : Bool} {d : Nat} {e : Env} {go skip : Env → Prop} {b : Bool} (hb : e d = .bool b) (hv : guardVC want d e go skip b) :
    (b = want ∧ go e) ∨ (b ≠ want ∧ skip e) := by
  unfold guardVC at hv
  cases b <;> cases want <;> simp only [bsel] at hv
  · rw [upd_eq_self hb] at hv; exact .inl ⟨rfl, hv⟩
  · rw [upd_eq_self hb] at hv; exact .inr ⟨by simp, hv⟩
  · rw [upd_eq_self hb] at hv; exact .inr ⟨by simp, hv⟩
  · rw [upd_eq_self hb] at hv; exact .inl ⟨rfl, hv⟩
theorem vcD_cons {ops : Array Oper} {hs : Heap} {K : Env → Heap → Nat → Prop} {x : PI} {rest : List PI} {e : Env} {h : Heap} {t : Nat} {n : Nat} (hn : ∀ o ∈ ops.toList, ∀ d, o.dst = some d → d < n)
    (hv : vcD P ops hs K (x :: rest) e h t) :
    ∃ o, ops[x.i]? = some o ∧ ((∀ (a : Act), a.tmps.size = n → (∀ s ∈ looksOf ops x.i, a.tmps.getD s undef = e s) → Region.wanted o (yielded ops a.tmps) = true) ∧ runD P hs x o (vcD P ops hs K rest) e h t ∨
      (∀ (a : Act), a.tmps.size = n → (∀ s ∈ looksOf ops x.i, a.tmps.getD s undef = e s) → Region.wanted o (yielded ops a.tmps) = false) ∧ vcD P ops hs K rest (putE e o.dst undef) h t) := by
  replace hv : planStep P ops hs x (vcD P ops hs K rest) e h t := hv
  unfold planStep at hv
  split at hv
  · exact hv.elim
  · rename_i o ho
    refine ⟨o, ho, ?_⟩
    split at hv
    · rename_i hg
      exact .inl ⟨fun _ _ _ => by simp [Region.wanted, hg], hv⟩
    · rename_i j want hg
      split at hv
      · exact hv.elim
      · rename_i oj hj
        split at hv
        · exact hv.elim
        · rename_i d hd
          split at hv
          · rename_i b hb
            have hdl : d ∈ looksOf ops x.i := by
              simp [looksOf, ho, Oper.looksAt, hg, hj, hd]
            have hoj : oj ∈ ops.toList := by
              obtain ⟨hlt, he⟩ := Array.getElem?_eq_some_iff.1 hj
              rw [← he]; simp
            have hy : ∀ (a : Act), a.tmps.size = n → (∀ s ∈ looksOf ops x.i, a.tmps.getD s undef = e s) → Region.wanted o (yielded ops a.tmps) = (b == want) := by
              intro a hsz ha
              have h1 := ha d hdl
              have hlt' : d < a.tmps.size := by rw [hsz]; exact hn oj hoj d hd
              have h2 : a.tmps[d]? = some (Value.bool b) := by
                rw [Array.getElem?_eq_getElem hlt']
                rw [Array.getD_eq_getD_getElem?, Array.getElem?_eq_getElem hlt', hb] at h1
                simpa using h1
              simp only [Region.wanted, hg, yielded, hj, Option.bind_some, hd, h2]
              cases b <;> cases want <;> rfl
            rcases guard_cases hb hv with ⟨e1, hgo⟩ | ⟨e1, hsk⟩
            · exact .inl ⟨fun a h1 h2 => by rw [hy a h1 h2, e1]; simp, hgo⟩
            · exact .inr ⟨fun a h1 h2 => by rw [hy a h1 h2]; simpa using e1, by rw [putK_eq] at hsk; exact hsk⟩
          · rename_i y hb
            have hdl : d ∈ looksOf ops x.i := by
              simp [looksOf, ho, Oper.looksAt, hg, hj, hd]
            have hoj : oj ∈ ops.toList := by
              obtain ⟨hlt, he⟩ := Array.getElem?_eq_some_iff.1 hj
              rw [← he]; simp
            refine .inr ⟨fun a hsz ha => ?_, by rw [putK_eq] at hv; exact hv⟩
            have h1 := ha d hdl
            have hlt' : d < a.tmps.size := by rw [hsz]; exact hn oj hoj d hd
            have h2 : a.tmps[d]? = some (Value.tuple y) := by
              rw [Array.getElem?_eq_getElem hlt']
              rw [Array.getD_eq_getD_getElem?, Array.getElem?_eq_getElem hlt', hb] at h1
              simpa using h1
            simp only [Region.wanted, hg, yielded, hj, Option.bind_some, hd, h2]
            rfl
          · exact hv.elim
theorem put_get {a : Act} {dst : Option Tmp} {v : Value} {n : Nat} (hsz : a.tmps.size = n) (hd : ∀ d, dst = some d → d < n) (s : Nat) :
    (a.put dst v).tmps.getD s undef = putE (fun i => a.tmps.getD i undef) dst v s := by
  have := (AR.put (n := n) (e := fun i => a.tmps.getD i undef) (a := { a with defers := [] }) ⟨rfl, hsz, fun _ => rfl⟩ dst hd v).get s
  cases dst <;> exact this
theorem put_size (a : Act) (dst : Option Tmp) (v : Value) : (a.put dst v).tmps.size = a.tmps.size := by cases dst <;> simp [Act.put]
theorem put_defers (a : Act) (dst : Option Tmp) (v : Value) : (a.put dst v).defers = a.defers := by cases dst <;> rfl
theorem exec_agree {ops : Array Oper} {plan : List PI} {x : PI} {o : Oper} {a : Act} {e : Env} (ho : ops[x.i]? = some o) (h1 : oneOk ops plan x = true) (ha : ∀ s ∈ looksOf ops x.i, a.tmps.getD s undef = e s) :
    execOp a.eval o = execOp (evalE e) o := by
  refine execOp_congr o ?_ ?_
  · intro cs b he
    simp only [oneOk, Bool.and_eq_true] at h1
    have := h1.2
    simp [ho, he, isSel] at this
  · intro z hz
    cases z with
    | tmp s =>
      simp only [Act.eval, evalE]
      exact ha s (by
        simp only [looksOf, ho, Option.map_some, Option.getD_some, Oper.looksAt]
        exact List.mem_append_left _ (List.mem_filterMap.2 ⟨.tmp s, by simpa using hz, rfl⟩))
    | const v => rfl
    | global g => rfl
    | func f => rfl
theorem dst_lt {ops : Array Oper} {n : Nat} (hn : ∀ o ∈ ops.toList, ∀ d, o.dst = some d → d < n) {i d : Nat} (h : dstOf ops i = some d) : d < n := by
  unfold dstOf at h
  cases ho : ops[i]? with
  | none => rw [ho] at h; cases h
  | some o =>
    rw [ho] at h
    obtain ⟨hlt, he⟩ := Array.getElem?_eq_some_iff.1 ho
    exact hn o (by rw [← he]; simp) d h
theorem pair_ne {ops : Array Oper} {x y : PI} (h : pairOk ops x y = true) : x.i ≠ y.i := by
  simp only [pairOk, Bool.and_eq_true, bne_iff_ne] at h
  exact h.1.1.1.1.1.1.1.1.1
theorem pair_dst {ops : Array Oper} {x y : PI} (h : pairOk ops x y = true) {s : Nat} (hx : dstOf ops x.i = some s) : dstOf ops y.i ≠ some s := by
  simp only [pairOk, Bool.and_eq_true, Bool.not_eq_true'] at h
  have := h.1.1.1.1.1.2
  rw [hx] at this
  intro hy
  simp [sameD, hy] at this
section steps
variable {ops : Array Oper} {plan : List PI} {hs : Heap} {K : Env → Heap → Nat → Prop} {Q : Exit → Act → World → Prop} {g : World} {n : Nat} {e0 : Env} {t0 : Nat}
theorem looks_next (hp : pairsOk ops plan = true) {listed : Array Bool} {a : Act} {w : World} {pre rest : List PI} {x : PI} {e : Env} {h : Heap} {t : Nat}
    (I : DInv P ops plan hs K Q g n e0 t0 listed a w pre (x :: rest) e h t) : ∀ s ∈ looksOf ops x.i, e s = rS ops plan e0 x e s := by
  intro s hsl
  unfold rS
  split
  · rfl
  · rename_i hno
    refine I.e0s s fun y hy hd => ?_
    apply hno
    have hpy := pairsOk_append pre (x :: rest) (by rw [← I.split]; exact hp) y hy x (by simp)
    have hne := pair_ne hpy
    simp only [pairOk, Bool.and_eq_true] at hpy
    have h6 := hpy.1.1.1.1.2
    rw [hd] at h6
    simp only [hasD, List.contains_iff_mem.2 hsl, Bool.not_true, Bool.false_or] at h6
    simp only [List.any_eq_true, Bool.and_eq_true, bne_iff_ne, beq_iff_eq]
    exact ⟨y, by rw [I.split]; simp [hy], ⟨hne, hd⟩, h6⟩
theorem pend_later (hp : pairsOk ops plan = true) {x y : PI} {e : Env} {hx : Heap} {v : Value} (hpxy : pairOk ops x y = true) (hyp : y ∈ plan) (h : Pend P ops plan Q g n e0 x e hx) : Pend P ops plan Q g n e0 x (putE e (dstOf ops y.i) v) hx := by
  obtain ⟨u, h1, h2⟩ := h
  have hput : ∀ s, dstOf ops y.i ≠ some s → putE e (dstOf ops y.i) v s = e s := by
    intro s hd
    cases hdy : dstOf ops y.i with
    | none => rfl
    | some d => rw [hdy] at hd; exact upd_ne e v (fun he => hd (by rw [he]))
  refine ⟨u, ?_, ?_⟩
  · intro d hd
    rw [hput d (pair_dst hpxy hd)]; exact h1 d hd
  · intro a' w' K' tt hsz hag hr hk
    refine h2 a' w' K' tt hsz ?_ hr hk
    intro s hsl
    rw [hag s hsl]
    unfold rS
    split
    · rename_i hany
      refine hput s fun hd => ?_
      simp only [List.any_eq_true, Bool.and_eq_true, bne_iff_ne, beq_iff_eq] at hany
      obtain ⟨z, hz, ⟨hzx, hzd⟩, hzb⟩ := hany
      -- z writes what y writes: they are one
      have hzy : z = y := by
        refine pairsOk_inj plan hp z hz y hyp ?_
        apply Classical.byContradiction
        intro hne
        rcases pairsOk_mem plan hp z hz y hyp hne with hq | hq
        · exact pair_dst hq hzd hd
        · exact pair_dst hq hd hzd
      rw [hzy] at hzb
      simp only [pairOk, Bool.and_eq_true, Bool.not_eq_true'] at hpxy
      rw [hpxy.1.1.1.1.1.1.1.1.2] at hzb
      cases hzb
    · rfl
theorem tell (hp : pairsOk ops plan = true) (ho1 : ∀ x ∈ plan, oneOk ops plan x = true) (hn : ∀ o ∈ ops.toList, ∀ d, o.dst = some d → d < n)
    {listed : Array Bool} {a : Act} {w : World} {pre rest : List PI} {x : PI} {e : Env} {h : Heap} {t : Nat}
    (I : DInv P ops plan hs K Q g n e0 t0 listed a w pre (x :: rest) e h t) (hq : x.loud = false) :
    ∃ e1, DInv P ops plan hs K Q g n e0 t0 listed a w (pre ++ [x]) rest e1 h t := by
  have hxp : x ∈ plan := by rw [I.split]; simp
  have hul : lst listed x.i = false := by
    cases hl : lst listed x.i with
    | false => rfl
    | true =>
      have := I.sub x hxp hl
      exact absurd rfl (pair_ne (pairsOk_append pre (x :: rest) (by rw [← I.split]; exact hp) x this x (by simp)))
  have hlooks := looks_next hp I
  have hpx : ∀ y ∈ pre, pairOk ops y x = true := fun y hy => pairsOk_append pre (x :: rest) (by rw [← I.split]; exact hp) y hy x (by simp)
  -- the rest, once a value is fixed that the operation yields wherever it may run
  have main : ∀ v, vcD P ops hs K rest (putE e (dstOf ops x.i) v) h t →
      (∀ (a' : Act) (w' : World) (K' : Act → World → Prop) (tt : Nat), a'.tmps.size = n → (∀ s ∈ looksOf ops x.i, a'.tmps.getD s undef = e s) → Rel g (if x.fl = true then hs else h) tt w' →
        K' (a'.put (dstOf ops x.i) v) w' → wpOp P ops Q x.i K' a' w') → ∃ e1, DInv P ops plan hs K Q g n e0 t0 listed a w (pre ++ [x]) rest e1 h t := by
    intro v hv hrun
    have hput : ∀ s, dstOf ops x.i ≠ some s → putE e (dstOf ops x.i) v s = e s := by
      intro s hds
      cases hdy : dstOf ops x.i with
      | none => rfl
      | some d => rw [hdy] at hds; exact upd_ne e v (fun he => hds (by rw [he]))
    refine ⟨putE e (dstOf ops x.i) v, ?_⟩
    refine { split := by rw [I.split]; simp, lsz := I.lsz, louds := ?_, sub := fun y hy hl => List.mem_append_left _ (I.sub y hy hl), closed := I.closed, vc := hv, rel := I.rel, le := I.le, defers := I.defers, size := I.size, slots := ?_, slotsP := ?_, e0s := ?_, pend := ?_, subh := I.subh }
    · intro y hy hl
      rcases List.mem_append.1 hy with hy | hy
      · exact I.louds y hy hl
      · simp at hy; rw [hy, hq] at hl; cases hl
    · intro s hs
      have h1 : dstOf ops x.i ≠ some s := hs x (by simp) hul
      rw [hput s h1]
      exact I.slots s (fun y hy => hs y (by simp [hy]))
    · intro y hy hl s hds
      rcases List.mem_append.1 hy with hy | hy
      · exact I.slotsP y hy hl s hds
      · simp at hy
        rw [hy] at hds
        have hno : ∀ z ∈ pre, dstOf ops z.i ≠ some s := fun z hz hzd => pair_dst (hpx z hz) hzd hds
        rw [I.slots s (fun z hz _ => hno z hz), I.e0s s hno]
    · intro s hs
      rw [hput s (hs x (by simp))]
      exact I.e0s s (fun y hy => hs y (by simp [hy]))
    · intro y hy hl
      rcases List.mem_append.1 hy with hy | hy
      · exact pend_later hp (hpx y hy) hxp (I.pend y hy hl)
      · simp at hy
        rw [hy]
        refine ⟨v, fun d hd => by rw [hd]; exact upd_at _ _ _, ?_⟩
        intro a' w' K' tt hsz hag hr hk
        refine hrun a' w' K' tt hsz ?_ hr hk
        intro s hsl
        rw [hag s hsl, hlooks s hsl]
        unfold rS
        split
        · rename_i hany
          refine hput s fun hds => ?_
          simp only [List.any_eq_true, Bool.and_eq_true, bne_iff_ne, beq_iff_eq] at hany
          obtain ⟨z, hz, ⟨hzx, hzd⟩, hzb⟩ := hany
          rcases pairsOk_mem plan hp z hz x hxp hzx with hq2 | hq2
          · exact pair_dst hq2 hzd hds
          · exact pair_dst hq2 hds hzd
        · rfl
  obtain ⟨o, ho, hc⟩ := vcD_cons hn I.vc
  have hd : dstOf ops x.i = o.dst := by simp [dstOf, ho]
  rcases hc with ⟨hw, hv⟩ | ⟨hw, hv⟩
  · unfold runD at hv
    rw [hq] at hv
    simp only [putK_eq] at hv
    obtain ⟨v, hv1, hv2⟩ := vcOpQ_all hv
    refine main v (by rw [hd]; exact hv1) ?_
    intro a' w' K' tt hsz hag hr hk
    unfold wpOp
    rw [ho]
    simp only []
    rw [if_pos (hw a' hsz hag)]
    refine .inl ?_
    unfold Oper.wp
    rw [exec_agree ho (ho1 x hxp) hag]
    have hx2 : Rel g (match x.fl with | true => hs | false => h) tt w' := by
      cases hf : x.fl with
      | true => rw [hf] at hr; exact hr
      | false => rw [hf] at hr; exact hr
    rw [hv2 g tt w' hx2]
    rw [hd] at hk
    exact hk
  · refine main undef (by rw [hd]; exact hv) ?_
    intro a' w' K' tt hsz hag hr hk
    unfold wpOp
    rw [ho]
    simp only []
    rw [if_neg (by rw [hw a' hsz hag]; simp)]
    rw [hd] at hk
    exact hk
theorem advance (hp : pairsOk ops plan = true) (ho1 : ∀ x ∈ plan, oneOk ops plan x = true) (hn : ∀ o ∈ ops.toList, ∀ d, o.dst = some d → d < n)
    {listed : Array Bool} {a : Act} {w : World} : ∀ (suf pre : List PI) {e : Env} {h : Heap} {t : Nat}, DInv P ops plan hs K Q g n e0 t0 listed a w pre suf e h t →
      ∃ pre' suf' e', DInv P ops plan hs K Q g n e0 t0 listed a w pre' suf' e' h t ∧ ∀ m r, suf' = m :: r → m.loud = true := by
  intro suf
  induction suf with
  | nil => intro pre e h t I; exact ⟨pre, [], e, I, fun m r hh => by cases hh⟩
  | cons x rest ih =>
    intro pre e h t I
    cases hl : x.loud with
    | true => exact ⟨pre, x :: rest, e, I, fun m r hh => by cases hh; exact hl⟩
    | false =>
      obtain ⟨e1, I1⟩ := tell hp ho1 hn I hl
      exact ih _ I1
theorem bits (hp : pairsOk ops plan = true) (ho1 : ∀ x ∈ plan, oneOk ops plan x = true) {listed : Array Bool} {a : Act} {w : World} {pre suf : List PI} {e : Env} {h : Heap} {t : Nat}
    (I : DInv P ops plan hs K Q g n e0 t0 listed a w pre suf e h t) {x y : PI} (hx : x ∈ plan) (hy : y ∈ plan) (hedge : ∀ j ∈ edgesOf ops x.i, lst listed j = true) (hb : x.b.testBit y.i = true) : lst listed y.i = true := by
  have hlt : y.i < ops.size := by
    have := ho1 y hy
    simp only [oneOk, Bool.and_eq_true] at this
    exact Nat.blt_eq ▸ this.1.1.1.1
  exact bits_listed hp ho1 I.closed plan.length plan [] rfl (by simp) x hx hedge y.i hlt hb
theorem run_told (hp : pairsOk ops plan = true) (ho1 : ∀ x ∈ plan, oneOk ops plan x = true) (hn : ∀ o ∈ ops.toList, ∀ d, o.dst = some d → d < n)
    {listed : Array Bool} {a : Act} {w : World} {pre suf : List PI} {e : Env} {h : Heap} {t : Nat}
    (I : DInv P ops plan hs K Q g n e0 t0 listed a w pre suf e h t) {x : PI} (hx : x ∈ pre) (hul : lst listed x.i = false) (hedge : ∀ j ∈ edgesOf ops x.i, lst listed j = true) {N : Act → World → Prop}
    (hN : ∀ a1, DInv P ops plan hs K Q g n e0 t0 (listed.setIfInBounds x.i true) a1 w pre suf e h t → N a1 w) : wpOp P ops Q x.i N a w := by
  have hxp : x ∈ plan := by rw [I.split]; simp [hx]
  have hxlt : x.i < listed.size := by
    have := ho1 x hxp
    simp only [oneOk, Bool.and_eq_true] at this
    rw [I.lsz]; exact Nat.blt_eq ▸ this.1.1.1.1
  have hset := lst_set (listed := listed) hxlt
  obtain ⟨v, h1, h2⟩ := I.pend x hx hul
  have hrel : Rel g (if x.fl = true then hs else h) t w := by
    cases hf : x.fl with
    | true =>
      have hsub := I.subh ⟨x, hxp, hf, hul⟩
      exact ⟨I.rel.os, I.rel.tape, I.rel.output, fun b o hb => I.rel.blk b o (hsub b o hb), fun b o hb => I.rel.dom b o (hsub b o hb), I.rel.top⟩
    | false => exact I.rel
  refine h2 a w N t I.size ?_ hrel ?_
  · -- what it looks at
    intro s hsl
    unfold rS
    split
    · rename_i hany
      simp only [List.any_eq_true, Bool.and_eq_true, bne_iff_ne, beq_iff_eq] at hany
      obtain ⟨z, hz, ⟨hzx, hzd⟩, hzb⟩ := hany
      have hzl := bits hp ho1 I hxp hz hedge hzb
      refine I.slots s fun y hy hyl hyd => ?_
      have : y.i ≠ z.i := fun he => by rw [he, hzl] at hyl; cases hyl
      rcases pairsOk_mem plan hp y (by rw [I.split]; simp [hy]) z hz this with hq2 | hq2
      · exact pair_dst hq2 hyd hzd
      · exact pair_dst hq2 hzd hyd
    · rename_i hno
      by_cases hex : ∃ y ∈ pre, dstOf ops y.i = some s
      · obtain ⟨y, hy, hyd⟩ := hex
        have hyp : y ∈ plan := by rw [I.split]; simp [hy]
        by_cases hyx : y.i = x.i
        · have : y = x := pairsOk_inj plan hp y hyp x hxp hyx
          rw [this] at hyd
          exact I.slotsP x hx hul s hyd
        · -- y looks after x
          have hnb : x.b.testBit y.i = false := by
            cases hb : x.b.testBit y.i with
            | false => rfl
            | true => exact absurd (List.any_eq_true.2 ⟨y, hyp, by simp [hyx, hyd, hb]⟩) hno
          have hpxy : pairOk ops x y = true := by
            rcases pairsOk_mem plan hp x hxp y hyp (Ne.symm hyx) with hq2 | hq2
            · exact hq2
            · simp only [pairOk, Bool.and_eq_true] at hq2
              have h6 := hq2.1.1.1.1.2
              rw [hyd] at h6
              simp only [hasD, List.contains_iff_mem.2 hsl, Bool.not_true, Bool.false_or] at h6
              rw [h6] at hnb; cases hnb
          have hyb : y.b.testBit x.i = true := by
            simp only [pairOk, Bool.and_eq_true] at hpxy
            have h7 := hpxy.1.1.1.2
            rw [hyd] at h7
            simpa only [hasD, List.contains_iff_mem.2 hsl, Bool.not_true, Bool.false_or] using h7
          have hyl : lst listed y.i = false := by
            cases hl : lst listed y.i with
            | false => rfl
            | true =>
              have := bits hp ho1 I hyp hxp (I.closed y hyp hl) hyb
              rw [this] at hul; cases hul
          exact I.slotsP y hy hyl s hyd
      · have hno2 : ∀ y ∈ pre, dstOf ops y.i ≠ some s := fun y hy hd => hex ⟨y, hy, hd⟩
        rw [I.slots s (fun y hy _ => hno2 y hy), I.e0s s hno2]
  · refine hN _ ?_
    have hget := put_get (a := a) (dst := dstOf ops x.i) (v := v) I.size (fun d hd => dst_lt hn hd)
    have hother : ∀ s, dstOf ops x.i ≠ some s → (a.put (dstOf ops x.i) v).tmps.getD s undef = a.tmps.getD s undef := by
      intro s hds
      rw [hget s]
      cases hdy : dstOf ops x.i with
      | none => rfl
      | some d => rw [hdy] at hds; exact upd_ne (fun i => a.tmps.getD i undef) v (fun he => hds (by rw [he]))
    have hunl : ∀ y, lst (listed.setIfInBounds x.i true) y = false → lst listed y = false ∧ y ≠ x.i := by
      intro y hy
      rw [hset] at hy
      simp only [Bool.or_eq_false_iff, beq_eq_false_iff_ne] at hy
      exact hy
    refine { split := I.split, lsz := by simp [I.lsz], louds := ?_, sub := ?_, closed := ?_, vc := I.vc, rel := I.rel, le := I.le, defers := by rw [put_defers]; exact I.defers, size := by rw [put_size]; exact I.size, slots := ?_, slotsP := ?_, e0s := I.e0s, pend := ?_, subh := ?_ }
    · intro y hy hl; rw [hset, I.louds y hy hl]; rfl
    · intro y hy hl
      rw [hset] at hl
      simp only [Bool.or_eq_true, beq_iff_eq] at hl
      rcases hl with hl | hl
      · exact I.sub y hy hl
      · rw [pairsOk_inj plan hp y hy x hxp hl]; exact hx
    · intro y hy hl j hj
      rw [hset] at hl ⊢
      simp only [Bool.or_eq_true, beq_iff_eq] at hl ⊢
      rcases hl with hl | hl
      · exact .inl (I.closed y hy hl j hj)
      · rw [hl] at hj; exact .inl (hedge j hj)
    · intro s hs
      by_cases hds : dstOf ops x.i = some s
      · rw [hget s, hds, h1 s hds]; exact upd_at (fun i => a.tmps.getD i undef) s v
      · rw [hother s hds]
        refine I.slots s fun y hy hyl => ?_
        by_cases hyx : y.i = x.i
        · rw [hyx]; exact hds
        · exact hs y hy (by rw [hset, hyl]; simp [hyx])
    · intro y hy hyl s hds
      obtain ⟨hyl1, hyx⟩ := hunl y.i hyl
      rw [hother s ?_]
      · exact I.slotsP y hy hyl1 s hds
      · intro hxd
        have hyp : y ∈ plan := by rw [I.split]; simp [hy]
        rcases pairsOk_mem plan hp y hyp x hxp hyx with hq2 | hq2
        · exact pair_dst hq2 hds hxd
        · exact pair_dst hq2 hxd hds
    · intro y hy hyl; exact I.pend y hy (hunl y.i hyl).1
    · rintro ⟨y, hy, hf, hyl⟩; exact I.subh ⟨y, hy, hf, (hunl y.i hyl).1⟩
theorem run_loud (hp : pairsOk ops plan = true) (ho1 : ∀ x ∈ plan, oneOk ops plan x = true) (hn : ∀ o ∈ ops.toList, ∀ d, o.dst = some d → d < n)
    {listed : Array Bool} {a : Act} {w : World} {pre rest : List PI} {m : PI} {e : Env} {h : Heap} {t : Nat}
    (I : DInv P ops plan hs K Q g n e0 t0 listed a w pre (m :: rest) e h t) (hm : m.loud = true) (hedge : ∀ j ∈ edgesOf ops m.i, lst listed j = true) {N : Act → World → Prop}
    (hN : ∀ a1 w1 e1 h1 t1, DInv P ops plan hs K Q g n e0 t0 (listed.setIfInBounds m.i true) a1 w1 (pre ++ [m]) rest e1 h1 t1 → N a1 w1) : wpOp P ops Q m.i N a w := by
  have hmp : m ∈ plan := by rw [I.split]; simp
  have hpx : ∀ y ∈ pre, pairOk ops y m = true := fun y hy => pairsOk_append pre (m :: rest) (by rw [← I.split]; exact hp) y hy m (by simp)
  have hpr : ∀ y ∈ rest, pairOk ops m y = true := fun y hy => pairsOk_append (pre ++ [m]) rest (by rw [List.append_assoc]; rw [← show plan = pre ++ ([m] ++ rest) from I.split]; exact hp) m (by simp) y hy
  have hmlt : m.i < listed.size := by
    have := ho1 m hmp
    simp only [oneOk, Bool.and_eq_true] at this
    rw [I.lsz]; exact Nat.blt_eq ▸ this.1.1.1.1
  have hmfl : m.fl = false := by
    have := ho1 m hmp
    simp only [oneOk, Bool.and_eq_true, hm, Bool.not_true, Bool.false_or, Bool.not_eq_true'] at this
    exact this.1.1.1.2
  have hset := lst_set (listed := listed) hmlt
  have hunl : ∀ y, lst (listed.setIfInBounds m.i true) y = false → lst listed y = false ∧ y ≠ m.i := by
    intro y hy
    rw [hset] at hy
    simp only [Bool.or_eq_false_iff, beq_eq_false_iff_ne] at hy
    exact hy
  have hlooks : ∀ s ∈ looksOf ops m.i, a.tmps.getD s undef = e s := by
    intro s hsl
    refine I.slots s fun y hy hyl hyd => ?_
    have h6 := hpx y hy
    simp only [pairOk, Bool.and_eq_true] at h6
    have h6 := h6.1.1.1.1.2
    rw [hyd] at h6
    simp only [hasD, List.contains_iff_mem.2 hsl, Bool.not_true, Bool.false_or] at h6
    have := bits hp ho1 I hmp (by rw [I.split]; simp [hy]) hedge h6
    rw [this] at hyl; cases hyl
  -- once it has run
  have main : ∀ v w1 h1 t1, Rel g h1 t1 w1 → t ≤ t1 → ((∃ y ∈ plan, y.fl = true ∧ lst listed y.i = false) → Sub hs h1) → (∀ y ∈ pre, lst listed y.i = false → y.fl = true) →
      vcD P ops hs K rest (putE e (dstOf ops m.i) v) h1 t1 → N (a.put (dstOf ops m.i) v) w1 := by
    intro v w1 h1 t1 hr1 ht1 hns hfl hv
    have hget := put_get (a := a) (dst := dstOf ops m.i) (v := v) I.size (fun d hd => dst_lt hn hd)
    have hother : ∀ s, dstOf ops m.i ≠ some s → (a.put (dstOf ops m.i) v).tmps.getD s undef = a.tmps.getD s undef := by
      intro s hds
      rw [hget s]
      cases hdy : dstOf ops m.i with
      | none => rfl
      | some d => rw [hdy] at hds; exact upd_ne (fun i => a.tmps.getD i undef) v (fun he => hds (by rw [he]))
    have hput : ∀ s, dstOf ops m.i ≠ some s → putE e (dstOf ops m.i) v s = e s := by
      intro s hds
      cases hdy : dstOf ops m.i with
      | none => rfl
      | some d => rw [hdy] at hds; exact upd_ne e v (fun he => hds (by rw [he]))
    refine hN _ w1 (putE e (dstOf ops m.i) v) h1 t1 ?_
    refine { split := by rw [I.split]; simp, lsz := by simp [I.lsz], louds := ?_, sub := ?_, closed := ?_, vc := hv, rel := hr1, le := Nat.le_trans I.le ht1, defers := by rw [put_defers]; exact I.defers, size := by rw [put_size]; exact I.size, slots := ?_, slotsP := ?_, e0s := ?_, pend := ?_, subh := ?_ }
    · intro y hy hl
      rcases List.mem_append.1 hy with hy | hy
      · rw [hset, I.louds y hy hl]; rfl
      · simp at hy; rw [hset, hy]; simp
    · intro y hy hl
      rw [hset] at hl
      simp only [Bool.or_eq_true, beq_iff_eq] at hl
      rcases hl with hl | hl
      · exact List.mem_append_left _ (I.sub y hy hl)
      · rw [pairsOk_inj plan hp y hy m hmp hl]; simp
    · intro y hy hl j hj
      rw [hset] at hl ⊢
      simp only [Bool.or_eq_true, beq_iff_eq] at hl ⊢
      rcases hl with hl | hl
      · exact .inl (I.closed y hy hl j hj)
      · rw [hl] at hj; exact .inl (hedge j hj)
    · intro s hs
      by_cases hds : dstOf ops m.i = some s
      · rw [hget s, hds]
        exact (upd_at (fun i => a.tmps.getD i undef) s v).trans (upd_at e s v).symm
      · rw [hother s hds, hput s hds]
        refine I.slots s fun y hy hyl => ?_
        by_cases hyx : y.i = m.i
        · rw [hyx]; exact hds
        · exact hs y (by simp [hy]) (by rw [hset, hyl]; simp [hyx])
    · intro y hy hyl s hds
      obtain ⟨hyl1, hyx⟩ := hunl y.i hyl
      rcases List.mem_append.1 hy with hy | hy
      · rw [hother s (pair_dst (hpx y hy) hds)]
        exact I.slotsP y hy hyl1 s hds
      · simp at hy; rw [hy] at hyx; exact absurd rfl hyx
    · intro s hs
      rw [hput s (hs m (by simp))]
      exact I.e0s s (fun y hy => hs y (by simp [hy]))
    · intro y hy hyl
      obtain ⟨hyl1, hyx⟩ := hunl y.i hyl
      rcases List.mem_append.1 hy with hy | hy
      · have hf := hfl y hy hyl1
        have := I.pend y hy hyl1
        rw [hf] at this ⊢
        exact pend_later hp (hpx y hy) hmp this
      · simp at hy; rw [hy] at hyx; exact absurd rfl hyx
    · rintro ⟨y, hy, hf, hyl⟩; exact hns ⟨y, hy, hf, (hunl y.i hyl).1⟩
  have hflp : ∀ y ∈ pre, lst listed y.i = false → y.fl = true := by
    intro y hy hyl
    have hyq : y.loud = false := by
      cases hl : y.loud with
      | false => rfl
      | true => rw [I.louds y hy hl] at hyl; cases hyl
    cases hf : y.fl with
    | true => rfl
    | false =>
      have h8 := hpx y hy
      simp only [pairOk, Bool.and_eq_true] at h8
      have h8 := h8.1.1.2
      rw [hm, hyq, hf] at h8
      simp at h8
      have := bits hp ho1 I hmp (by rw [I.split]; simp [hy]) hedge h8
      rw [this] at hyl; cases hyl
  have hnsf : m.ns = false → ∀ y ∈ plan, y.fl = true → lst listed y.i = true := by
    intro hns y hy hf
    rw [I.split] at hy
    rcases List.mem_append.1 hy with hy | hy
    · have h9 := hpx y hy
      simp only [pairOk, Bool.and_eq_true] at h9
      have h9 := h9.1.2
      rw [hm, hns, hf] at h9
      simp at h9
      exact bits hp ho1 I hmp (by rw [I.split]; simp [hy]) hedge h9
    · rcases List.mem_cons.1 hy with hy | hy
      · rw [hy, hmfl] at hf; cases hf
      · have h10 := hpr y hy
        simp only [pairOk, Bool.and_eq_true] at h10
        have h10 := h10.2
        rw [hm, hns, hf] at h10
        simp at h10
  obtain ⟨o, ho, hc⟩ := vcD_cons hn I.vc
  have hd : dstOf ops m.i = o.dst := by simp [dstOf, ho]
  unfold wpOp
  rw [ho]
  simp only []
  rcases hc with ⟨hw, hv⟩ | ⟨hw, hv⟩
  · rw [if_pos (hw a I.size hlooks)]
    refine .inl ?_
    unfold runD at hv
    rw [hm] at hv
    simp only [putK_eq] at hv
    unfold Oper.wp
    rw [exec_agree ho (ho1 m hmp) hlooks]
    obtain ⟨nx, w', h', t', e1, e2, e3, e4⟩ := vcOp_ran hv I.rel
    rw [e1]
    have fin : ∀ v w1 h1 t1, Rel g h1 t1 w1 → t ≤ t1 → (match m.ns with | true => Sub hs h1 ∧ vcD P ops hs K rest (putE e o.dst v) h1 t1 | false => vcD P ops hs K rest (putE e o.dst v) h1 t1) → N (a.put o.dst v) w1 := by
      intro v w1 h1 t1 r1 r2 r3
      have := main v w1 h1 t1 r1 r2
      rw [hd] at this
      cases hns : m.ns with
      | true => rw [hns] at r3; exact this (fun _ => r3.1) hflp r3.2
      | false => rw [hns] at r3; exact this (fun ⟨y, hy, hf, hl⟩ => by rw [hnsf hns y hy hf] at hl; cases hl) hflp r3
    cases nx <;> simp only [nextK] at e4 <;> try exact e4.elim
    · exact fin _ _ _ _ e2 e3 e4
    · exact fin _ _ _ _ e2 e3 e4
    · rename_i f args
      refine (e4.runs g w' e2).mono ?_
      rintro _ w'' ⟨v, h'', t'', rfl, r1, r2, r3⟩
      exact fin _ _ _ _ r1 (Nat.le_trans e3 r2) r3
  · rw [if_neg (by rw [hw a I.size hlooks]; simp)]
    have := main undef w h t I.rel (Nat.le_refl _)
    rw [hd] at this
    exact this I.subh hflp hv
theorem any_sound (hpl : planOk ops plan = true) (hn : ∀ o ∈ ops.toList, ∀ d, o.dst = some d → d < n)
    (hq : ∀ e' h' t' a' w', Rel g h' t' w' → t0 ≤ t' → AR n e' a' → K e' h' t' → Q .normal a' w') :
    ∀ (fuel : Nat) {listed : Array Bool} {a : Act} {w : World} {pre suf : List PI} {e : Env} {h : Heap} {t : Nat}, plan.countP (fun x => !lst listed x.i) ≤ fuel →
      DInv P ops plan hs K Q g n e0 t0 listed a w pre suf e h t → wpAny P .any ops Q fuel listed a w := by
  simp only [planOk, Bool.and_eq_true, List.all_eq_true] at hpl
  obtain ⟨_, ⟨hp, ho1⟩, hcov⟩ := hpl
  have done : ∀ {listed : Array Bool} {a : Act} {w : World} {pre suf : List PI} {e : Env} {h : Heap} {t : Nat}, DInv P ops plan hs K Q g n e0 t0 listed a w pre suf e h t → (∀ x ∈ plan, lst listed x.i = true) → Q .normal a w := by
    intro listed a w pre suf e h t I hall
    obtain ⟨pre', suf', e', I', hhead⟩ := advance hp ho1 hn suf pre I
    cases hsf : suf' with
    | nil =>
      rw [hsf] at I'
      refine hq e' h t a w I'.rel I'.le ⟨I'.defers, I'.size, fun s => I'.slots s fun x hx hl => ?_⟩ I'.vc
      rw [hall x (by rw [I'.split]; simp [hx])] at hl; cases hl
    | cons m r =>
      rw [hsf] at I'
      have hmp : m ∈ plan := by rw [I'.split]; simp
      have := I'.sub m hmp (hall m hmp)
      exact absurd rfl (pair_ne (pairsOk_append pre' (m :: r) (by rw [← I'.split]; exact hp) m this m (by simp)))
  intro fuel
  induction fuel with
  | zero =>
    intro listed a w pre suf e h t hc I
    have hall : ∀ x ∈ plan, lst listed x.i = true := by
      intro x hx
      have h0 : plan.countP (fun x => !lst listed x.i) = 0 := by omega
      have := List.countP_eq_zero.1 h0 x hx
      simpa using this
    refine ⟨?_, done I hall⟩
    apply List.eq_nil_iff_forall_not_mem.2
    intro j hj
    obtain ⟨h1, o, ho, _⟩ := mem_ready.1 hj
    obtain ⟨hlt, _⟩ := Array.getElem?_eq_some_iff.1 ho
    obtain ⟨x, hx, hxj⟩ := List.any_eq_true.1 (hcov j (by simpa using hlt))
    have hl := hall x hx
    simp only [beq_iff_eq] at hxj
    rw [hxj] at hl
    have hlt2 : j < listed.size := by rw [I.lsz]; exact hlt
    simp only [lst, Array.getD_eq_getD_getElem?, Array.getElem?_eq_getElem hlt2, Option.getD_some] at hl h1
    rw [hl] at h1; cases h1
  | succ fuel ih =>
    intro listed a w pre suf e h t hc I
    have hone : ∀ x ∈ plan, x.i < ops.size ∧ (∀ j ∈ edgesOf ops x.i, j < ops.size ∧ j ≠ x.i) := by
      intro x hx
      have := ho1 x hx
      simp only [oneOk, Bool.and_eq_true, List.all_eq_true, bne_iff_ne] at this
      exact ⟨Nat.blt_eq ▸ this.1.1.1.1, fun j hj => ⟨Nat.blt_eq ▸ (this.1.1.2 j hj).1, (this.1.1.2 j hj).2⟩⟩
    have getD_of : ∀ j, j < ops.size → listed.getD j true = lst listed j := by
      intro j hj
      have hlt2 : j < listed.size := by rw [I.lsz]; exact hj
      simp only [lst, Array.getD_eq_getD_getElem?, Array.getElem?_eq_getElem hlt2, Option.getD_some]
    refine ⟨fun hnil => done I ?_, ?_⟩
    · -- the first that is not listed would be ready
      intro x0 hx0
      apply Classical.byContradiction
      intro hul0
      have hul0 : lst listed x0.i = false := by simpa using hul0
      cases hf : plan.find? (fun x => !lst listed x.i) with
      | none =>
        have := List.find?_eq_none.1 hf x0 hx0
        rw [hul0] at this; simp at this
      | some x =>
        obtain ⟨hxl, l1, l2, hpl, hl1⟩ := List.find?_eq_some_iff_append.1 hf
        have hxp : x ∈ plan := by rw [hpl]; simp
        obtain ⟨hxlt, hxe⟩ := hone x hxp
        have hxl : lst listed x.i = false := by simpa using hxl
        have hmem : x.i ∈ Region.ready .any ops listed := by
          refine mem_ready.2 ⟨by rw [getD_of _ hxlt]; exact hxl, ops[x.i], by simp [hxlt], ?_⟩
          intro ed hed hb
          have hin : ed.on ∈ edgesOf ops x.i := by
            simp only [edgesOf, Array.getElem?_eq_getElem hxlt, Option.map_some, Option.getD_some]
            exact List.mem_map.2 ⟨ed, List.mem_filter.2 ⟨by simpa using hed, hb⟩, rfl⟩
          obtain ⟨hjlt, hjne⟩ := hxe _ hin
          obtain ⟨y, hy, hyj⟩ := List.any_eq_true.1 (hcov ed.on (by simpa using hjlt))
          simp only [beq_iff_eq] at hyj
          rw [hpl] at hy
          rcases List.mem_append.1 hy with hy | hy
          · have := hl1 y hy
            have h2 : lst listed y.i = true := by simpa using this
            rw [hyj] at h2; exact h2
          · rcases List.mem_cons.1 hy with hy | hy
            · rw [hy] at hyj; exact absurd hyj.symm hjne
            · have h3 := pairsOk_append (l1 ++ [x]) l2 (by rw [List.append_assoc]; rw [← show plan = l1 ++ ([x] ++ l2) from hpl]; exact hp) x (by simp) y hy
              simp only [pairOk, Bool.and_eq_true, Bool.not_eq_true'] at h3
              have h5 := h3.1.1.1.1.1.1.1.2
              rw [hyj, List.contains_iff_mem.2 hin] at h5; cases h5
        rw [hnil] at hmem; cases hmem
    · intro i hi
      obtain ⟨h1, o, ho, hed⟩ := mem_ready.1 hi
      obtain ⟨hlt, _⟩ := Array.getElem?_eq_some_iff.1 ho
      obtain ⟨x, hx, hxi⟩ := List.any_eq_true.1 (hcov i (by simpa using hlt))
      simp only [beq_iff_eq] at hxi
      subst hxi
      have hul : lst listed x.i = false := by rw [← getD_of _ hlt]; exact h1
      have hedge : ∀ j ∈ edgesOf ops x.i, lst listed j = true := by
        intro j hj
        simp only [edgesOf, ho, Option.map_some, Option.getD_some] at hj
        obtain ⟨ed, hed1, rfl⟩ := List.mem_map.1 hj
        obtain ⟨hed2, hb⟩ := List.mem_filter.1 hed1
        exact hed ed (by simpa using hed2) hb
      have hcnt : plan.countP (fun y => !lst (listed.setIfInBounds x.i true) y.i) ≤ fuel := by
        have hset := lst_set (listed := listed) (i := x.i) (by rw [I.lsz]; exact hlt)
        have := countP_lt (p := fun y => !lst listed y.i) (p' := fun y => !lst (listed.setIfInBounds x.i true) y.i) plan (by
          intro y _ hy
          simp only [hset, Bool.not_eq_true', Bool.or_eq_false_iff] at hy ⊢
          exact hy.1) ⟨x, hx, by simp [hul], by simp [hset]⟩
        omega
      obtain ⟨pre', suf', e', I', hhead⟩ := advance hp ho1 hn suf pre I
      have hin : x ∈ pre' ∨ x ∈ suf' := by rw [I'.split] at hx; exact List.mem_append.1 hx
      rcases hin with hin | hin
      · exact run_told hp ho1 hn I' hin hul hedge (fun a1 I1 => ih hcnt I1)
      · cases hsf : suf' with
        | nil => rw [hsf] at hin; cases hin
        | cons m r =>
          rw [hsf] at hin I'
          have hml := hhead m r hsf
          have hxm : x = m := by
            rcases List.mem_cons.1 hin with h2 | h2
            · exact h2
            · have h4 := pairsOk_append (pre' ++ [m]) r (by rw [List.append_assoc]; rw [← show plan = pre' ++ ([m] ++ r) from I'.split]; exact hp) m (by simp) x h2
              simp only [pairOk, Bool.and_eq_true] at h4
              have h5 := h4.1.1.1.1.1.1.2
              rw [hml] at h5
              simp only [Bool.not_true, Bool.false_or] at h5
              have hmp : m ∈ plan := by rw [I'.split]; simp
              have hl := bits hp ho1 I' hx hmp hedge h5
              have := I'.sub m hmp hl
              exact absurd rfl (pair_ne (pairsOk_append pre' (m :: r) (by rw [← I'.split]; exact hp) m this m (by simp)))
          subst hxm
          exact run_loud hp ho1 hn I' hml hedge (fun a1 w1 e1 h1 t1 I1 => ih hcnt I1)
end steps
theorem draw_intro {ops : Array Oper} {K : Env → Heap → Nat → Prop} {e : Env} {h : Heap} {t : Nat} (plan : List PI) (hs : Heap) (hm : P.follows .mixedOrders = true) (hpl : planOk ops plan = true)
    (hsub : Sub hs h) (hv : vcD P ops hs K plan e h t) : DrawVC P ops K e h t := by
  refine ⟨?_⟩
  intro n g a w Q hr ha hn hq m
  simp only [Region.schedule, hm, Bool.true_or, if_true]
  have hp0 := hpl
  simp only [planOk, Bool.and_eq_true, List.all_eq_true] at hp0
  have hl0 : ∀ i, lst (Array.replicate ops.size false) i = false := by
    intro i; simp only [lst, Array.getD_eq_getD_getElem?, Array.getElem?_replicate]; split <;> rfl
  have hlen : plan.length = ops.size := Nat.eq_of_beq_eq_true hp0.1
  have hany : wpAny P .any ops Q ops.size (Array.replicate ops.size false) a w := by
    refine any_sound (t0 := t) (e0 := e) (K := K) (hs := hs) hpl hn hq ops.size (pre := []) (suf := plan) (e := e) (h := h) (t := t) ?_ ?_
    · rw [← hlen]; exact List.countP_le_length
    · refine { split := by simp, lsz := by simp, louds := (fun x hx => by cases hx), sub := (fun x _ hl => by rw [hl0] at hl; cases hl), closed := (fun x _ hl => by rw [hl0] at hl; cases hl), vc := hv, rel := hr, le := Nat.le_refl _, defers := ha.defers, size := ha.size, slots := (fun s _ => ha.get s), slotsP := (fun x hx => by cases hx), e0s := (fun s _ => rfl), pend := (fun x hx => by cases hx), subh := fun _ => hsub }
  exact wpAny_sound ops.size m _ a w hany
end Go.Vc
namespace Go.Vc
open Go
variable {P : Program}
def setL (g : Env) : List (Nat × Value) → Env
  | [] => g
  | (d, v) :: r => upd (setL g r) d v
def Has (e : Env) : List (Nat × Value) → Prop
  | [] => True
  | (d, v) :: r => e d = v ∧ Has e r
theorem setL_has {e : Env} : ∀ {L : List (Nat × Value)}, Has e L → setL e L = e := by
  intro L
  induction L with
  | nil => intro _; rfl
  | cons p r ih =>
    obtain ⟨d, v⟩ := p
    intro h
    simp only [setL]
    rw [ih h.2]
    exact upd_eq_self h.1
def loopR {α : Type} (L : α → List (Nat × Value)) (H : α → Heap → Nat → Prop) (μ : α → Nat) : Nat → Env → Heap → Nat → Prop :=
  fun m e h t => ∃ x, μ x = m ∧ Has e (L x) ∧ H x h t
theorem loop_intro {α : Type} (L : α → List (Nat × Value)) (H : α → Heap → Nat → Prop) (μ : α → Nat) {X : Post → Env → Heap → Nat → Prop} {Q : Post} {e : Env} {h : Heap} {t : Nat} (x0 : α)
    (h0 : Has e (L x0)) (hH : H x0 h t) (round : ∀ x g h t, Dom h t → H x h t → X (loopK (loopR L H μ) (μ x) Q) (setL g (L x)) h t) :
    ∃ R : Nat → Env → Heap → Nat → Prop, (∃ m, R m e h t) ∧ ∀ m e h t, Dom h t → R m e h t → X (loopK R m Q) e h t := by
  refine ⟨loopR L H μ, ⟨_, x0, rfl, h0, hH⟩, ?_⟩
  rintro m e h t hd ⟨x, rfl, hL, hH⟩
  have := round x e h t hd hH
  rw [setL_has hL] at this
  exact this
theorem round_end {α : Type} {L : α → List (Nat × Value)} {H : α → Heap → Nat → Prop} {μ : α → Nat} {m : Nat} {e : Env} {h : Heap} {t : Nat} (y : α) (hm : μ y < m) (hL : Has e (L y)) (hH : H y h t) :
    ∃ m', m' < m ∧ loopR L H μ m' e h t := ⟨_, hm, y, rfl, hL, hH⟩
theorem wi {x : Int} (h : -9223372036854775808 ≤ x) (h' : x ≤ 9223372036854775807) : IntKind.i64.wrap x = x := by
  simp [IntKind.wrap, IntKind.signed, IntKind.bits]; omega
theorem Dom.ne {h : Heap} {t : Nat} (hd : Dom h t) {b r : Nat} {o : Obj} (hb : h b = some o) (hr : t ≤ r) : b ≠ r := by
  have := hd b o hb; omega
theorem Dom.set {h : Heap} {t : Nat} (hd : Dom h t) (r : Nat) (o : Obj) (t' : Nat) (ht : t ≤ t') (hr : r < t') : Dom (hset h r o) t' := by
  intro b x hx
  unfold hset at hx
  split at hx
  · subst_vars; exact hr
  · exact Nat.lt_of_lt_of_le (hd b x hx) ht
theorem Dom.sub_new {h : Heap} {t : Nat} (hd : Dom h t) {r : Nat} (hr : t ≤ r) (o : Obj) : Sub h (hset h r o) := by
  intro b x hx
  rw [hset_ne _ _ (hd.ne hx hr)]; exact hx
theorem CallSpec.part {f : FuncId} {args : Array Value} {h : Heap} {t : Nat} {K : Value → Heap → Nat → Prop} (s : CallSpec P f args h t (fun v h' t' => ∃ h'', Sub h'' h' ∧ K v h'' t')) : CallSpec P f args h t K := by
  refine ⟨s.callable, fun g w hr => (s.runs g w hr).mono ?_⟩
  rintro _ w' ⟨v, h', t', e, r, ht, h'', hs, k⟩
  exact ⟨v, h'', t', e, ⟨r.os, r.tape, r.output, fun b o hb => r.blk b o (hs b o hb), fun b o hb => r.dom b o (hs b o hb), r.top⟩, ht, k⟩
def hdel (h : Heap) (b : Nat) : Heap := fun k => if k = b then none else h k
theorem sub_del (h : Heap) (b : Nat) : Sub (hdel h b) h := by
  intro k o hk
  unfold hdel at hk
  split at hk
  · cases hk
  · exact hk
def Sl {α : Type} (h : Heap) (a : Option Addr) (n : Nat) (f : α → Value) (l : List α) : Prop :=
  l.length = n ∧ (0 < n → ∃ b off cs T fr, a = some ⟨b, off, none⟩ ∧ h b = some (.cells cs T fr) ∧ ∀ i (hi : i < l.length), cs[off + i]? = some (f l[i]))
theorem Sl.nil {α : Type} (h : Heap) (a : Option Addr) (f : α → Value) : Sl h a 0 f [] := ⟨rfl, fun h => absurd h (by omega)⟩
theorem Sl.at {α : Type} {h : Heap} {a : Option Addr} {n : Nat} {f : α → Value} {l : List α} (s : Sl h a n f l) (d : α) {i : Int} (h0 : 0 ≤ i) (h1 : i < n) :
    ∃ b off, a = some ⟨b, off, none⟩ ∧ Cell h ⟨b, off + i.toNat * 1, none⟩ (f (l.getD i.toNat d)) := by
  obtain ⟨hl, hs⟩ := s
  obtain ⟨b, off, cs, T, fr, ha, hb, hc⟩ := hs (by omega)
  have hi : i.toNat < l.length := by omega
  refine ⟨b, off, ha, cs, T, fr, hb, rfl, ?_⟩
  have := hc i.toNat hi
  rw [Nat.mul_one]
  rw [show l.getD i.toNat d = l[i.toNat] from by simp [List.getD_eq_getElem?_getD, hi]]
  exact this
theorem Sl.sub {α : Type} {h h' : Heap} {a : Option Addr} {n : Nat} {f : α → Value} {l : List α} (s : Sl h a n f l) (hs : Sub h h') : Sl h' a n f l :=
  ⟨s.1, fun hn => let ⟨b, off, cs, T, fr, ha, hb, hc⟩ := s.2 hn; ⟨b, off, cs, T, fr, ha, hs b _ hb, hc⟩⟩
theorem Sl.take {α : Type} {h : Heap} {a : Option Addr} {n : Nat} {f : α → Value} {l : List α} (s : Sl h a n f l) {m : Nat} (hm : m ≤ n) : Sl h a m f (l.take m) := by
  refine ⟨by simp [s.1, hm], fun h0 => ?_⟩
  obtain ⟨b, off, cs, T, fr, ha, hb, hc⟩ := s.2 (by omega)
  refine ⟨b, off, cs, T, fr, ha, hb, fun i hi => ?_⟩
  simp at hi
  rw [hc i (by omega)]; simp
theorem Sl.drop {α : Type} {h : Heap} {a : Option Addr} {n : Nat} {f : α → Value} {l : List α} (s : Sl h a n f l) {m c : Nat} (hm : m ≤ n) (hc : n ≤ c) {a' : Option Addr} (ha' : a' = cutA a m 1 c) : Sl h a' (n - m) f (l.drop m) := by
  refine ⟨by simp [s.1], fun h0 => ?_⟩
  obtain ⟨b, off, cs, T, fr, ha, hb, hcs⟩ := s.2 (by omega)
  refine ⟨b, off + m, cs, T, fr, ?_, hb, fun i hi => ?_⟩
  · rw [ha', ha]; unfold cutA; rw [if_neg (by omega), Option.map_some, addr_add, Nat.mul_one]
  · simp at hi
    have := hcs (m + i) (by omega)
    rw [show off + m + i = off + (m + i) from by omega, this]; simp
def Own {α : Type} (h : Heap) (E : TypeId) (a : Option Addr) (n c : Nat) (f : α → Value) (l : List α) : Prop :=
  l.length = n ∧ ((a = none ∧ n = 0 ∧ c = 0) ∨ ∃ b off cs fr, a = some ⟨b, off, none⟩ ∧ n ≤ c ∧ h b = some (.cells cs E fr) ∧ off + c ≤ cs.size ∧ (∀ i, i < c → fz fr (off + i) = false) ∧ ∀ i (hi : i < l.length), cs[off + i]? = some (f l[i]))
def owner (a : Option Addr) : Option Nat := a.map (·.block)
theorem Own.nil {α : Type} (h : Heap) (E : TypeId) (f : α → Value) : Own h E none 0 0 f [] := ⟨rfl, .inl ⟨rfl, rfl, rfl⟩⟩
theorem Own.sl {α : Type} {h : Heap} {E : TypeId} {a : Option Addr} {n c : Nat} {f : α → Value} {l : List α} (o : Own h E a n c f l) : Sl h a n f l := by
  obtain ⟨hl, ho⟩ := o
  refine ⟨hl, fun h0 => ?_⟩
  rcases ho with ⟨_, h1, _⟩ | ⟨b, off, cs, fr, ha, hn, hb, _, _, hc⟩
  · omega
  · exact ⟨b, off, cs, E, fr, ha, hb, hc⟩
theorem Own.cap {α : Type} {h : Heap} {E : TypeId} {a : Option Addr} {n c : Nat} {f : α → Value} {l : List α} (o : Own h E a n c f l) : n ≤ c := by
  rcases o.2 with ⟨_, h1, h2⟩ | ⟨_, _, _, _, _, h, _⟩ <;> omega
theorem Own.keep {α : Type} {h h' : Heap} {E : TypeId} {a : Option Addr} {n c : Nat} {f : α → Value} {l : List α} (o : Own h E a n c f l) (hk : ∀ b, owner a = some b → h' b = h b) : Own h' E a n c f l := by
  refine ⟨o.1, ?_⟩
  rcases o.2 with h1 | ⟨b, off, cs, fr, ha, hn, hb, r⟩
  · exact .inl h1
  · exact .inr ⟨b, off, cs, fr, ha, hn, by rw [hk b (by simp [owner, ha])]; exact hb, r⟩
theorem setR_get : ∀ (vs cells : List Value) (off i : Nat), off + vs.length ≤ cells.length → (setR cells off vs)[i]? = if off ≤ i ∧ i < off + vs.length then vs[i - off]? else cells[i]? := by
  intro vs
  induction vs with
  | nil => intro cells off i _; simp only [setR, List.length_nil]; rw [if_neg (by omega)]
  | cons v r ih =>
    intro cells off i hl
    simp only [List.length_cons] at hl ⊢
    simp only [setR]
    rw [ih _ _ _ (by simp; omega)]
    by_cases h1 : off + 1 ≤ i ∧ i < off + 1 + r.length
    · rw [if_pos h1, if_pos (by omega)]
      rw [show i - off = (i - (off + 1)) + 1 from by omega]; simp
    · rw [if_neg h1]
      by_cases h2 : i = off
      · subst h2
        rw [if_pos (by omega)]
        have : i < cells.length := by omega
        simp [this]
      · rw [if_neg (by omega), List.getElem?_set_ne (by omega)]
theorem growBy_le (need : Nat) : ∀ (k c : Nat), c ≤ 2 * need + 200 → Builtin.growBy need k c ≤ 2 * need + 200 := by
  intro k
  induction k with
  | zero => intro c h; exact h
  | succ k ih =>
    intro c h
    unfold Builtin.growBy
    split
    · exact h
    · exact ih _ (by omega)
theorem nextcap_le {need c : Nat} (h : c < need) : Builtin.nextslicecap need c ≤ 2 * need + 200 := by
  unfold Builtin.nextslicecap
  split
  · omega
  · split
    · omega
    · exact growBy_le need 4 c (by omega)
def News {α : Type} (h : Heap) (x : Value) (m : Nat) (f : α → Value) (l : List α) : Prop :=
  ∃ a c, x = .slice a m c ∧ Sl h a m f l
theorem sl_load {α : Type} {h : Heap} {a : Option Addr} {n : Nat} {f : α → Value} {l : List α} (s : Sl h a n f l) {t : Nat} {K : Array Value → Heap → Nat → Prop} {c : Nat} (hk : K (l.map f).toArray h t) :
    gen P (Builtin.firstCells 1 n (.slice a n c)) K h t := by
  obtain ⟨hl, hs⟩ := s
  by_cases h0 : 0 < n
  · obtain ⟨b, off, cs, T, fr, ha, hb, hc⟩ := hs h0
    subst ha
    simp only [Builtin.firstCells, Nat.mul_one]
    have hlen : (l.map f).length = n := by simp [hl]
    have := loadCells_gen (P := P) (a := ⟨b, off, none⟩) (h := h) (t := t) (K := K) (l.map f) ?_ hk
    · rw [hlen] at this; exact this
    · intro j hj
      rw [hlen] at hj
      rw [addr_add]
      refine ⟨cs, T, fr, hb, rfl, ?_⟩
      have hj2 : j < l.length := by omega
      rw [show (Addr.mk b (off + j) none).off = off + j from rfl, hc j hj2]
      simp [List.getD_eq_getElem?_getD, hj2]
  · have hn : n = 0 := by omega
    have hl0 : l = [] := List.length_eq_zero_iff.1 (by omega)
    subst hn; subst hl0
    cases a with
    | none => simp only [Builtin.firstCells, gen_p]; exact hk
    | some a => simp only [Builtin.firstCells, loadCells, loadCellsFrom, gen_p]; exact hk
theorem app_body {α : Type} {E : TypeId} {inf : TypeInfo} {z : Value}
    (hi : P.info? E = some inf) (hz : inf.zero = some z) (hzc : z.cells.size = 1) {h : Heap} {t : Nat} {a : Option Addr} {n c : Nat} {f : α → Value} {l l2 : List α} {x : Value} {m : Nat}
    (ho : Own h E a n c f l) (hxl : l2.length = m) (hfc : ∀ (t : Nat) (K : Array Value → Heap → Nat → Prop), K (l2.map f).toArray h t → gen P (Builtin.firstCells 1 m x) K h t) (hf : ∀ y, oneC (f y) = true) (hb : (n + m) * inf.bytes ≤ 2 ^ 40) (hb2 : n + m ≤ 2 ^ 40) (hb3 : inf.bytes ≤ 1000) (hdm : Dom h t) {K : Value → Heap → Nat → Prop}
    (hK : ∀ a' c' h' t', Own h' E a' (n + m) c' f (l ++ l2) → t ≤ t' → Dom h' t' → (∀ k, k < t → owner a ≠ some k → h' k = h k) → (owner a' = owner a ∨ ∃ r, owner a' = some r ∧ t ≤ r) → K (.slice a' (n + m) c') h' t') :
    gen P (if n + m ≤ c then do
        let new ← Builtin.firstCells 1 m x
        if let some a := a then storeCells (a.add n) new.toList
        pure (.slice a (n + m) c)
      else do
        if ((n + m : Nat) : Int) > IntKind.i64.max ∧ (False ∨ (← typeInfo E).bytes = 0) then runtimePanic (.error "growslice: len out of range")
        if Builtin.nextslicecap (n + m) c * (← typeInfo E).bytes > 2 ^ 48 then (do
          if !(← Builtin.mayShare 1 n m a x) then mark .noRoom
          unsupported (.resourceLimit "append: a slice or a string whose bytes no memory bears"))
        let newCap ← choose (.appendCap (n + m) c E)
        askRoom (newCap * (← typeInfo E).bytes)
        let old ← Builtin.firstCells 1 n (.slice a n c)
        let new ← Builtin.firstCells 1 m x
        let rest := Builtin.zeroCells (← zeroValue E).cells (newCap - (n + m))
        pure (.slice (some (← newRow E (old ++ new ++ rest))) (n + m) newCap)) K h t := by
  have hcap := ho.cap
  have hll : (l2.map f).length = m := by simp [hxl]
  by_cases hle : n + m ≤ c
  · refine gen_pos hle ?_
    rw [gen_b]
    refine hfc _ _ ?_
    rcases ho with ⟨hl, ⟨rfl, h1, h2⟩ | ⟨b, off, cs, fr, rfl, hn, hbk, hsz, hfz, hc⟩⟩
    · have hm0 : m = 0 := by omega
      have hl2 : l2 = [] := List.length_eq_zero_iff.1 (by rw [hxl]; exact hm0)
      simp only [gen_p]
      refine hK none c h t ⟨by simp [hl, hl2, hm0], .inl ⟨rfl, by omega, h2⟩⟩ (Nat.le_refl _) hdm (fun _ _ _ => rfl) (.inl rfl)
    · simp only [gen_b, gen_p, addr_add]
      refine storeCells_gen (off + n) (l2.map f) 0 cs h hbk (by rw [hll]; omega) ?_ ?_ ?_
      · intro j hj
        rw [hll] at hj
        have := hfz (n + j) (by omega)
        rw [show off + n + 0 + j = off + (n + j) from by omega]; exact this
      · intro u hu
        obtain ⟨y, _, rfl⟩ := List.mem_map.1 hu
        exact hf y
      · refine hK _ c _ t ⟨by simp [hl, hxl], .inr ⟨b, off, _, fr, rfl, hle, hset_same _ _ _, by simp [setR_length]; exact hsz, hfz, ?_⟩⟩ (Nat.le_refl _) ?_ ?_ (.inl rfl)
        · intro i hi
          have hi2 : i < n + m := by simp [hl, hxl] at hi; exact hi
          rw [List.getElem?_toArray, setR_get _ _ _ _ (by rw [hll]; simp; omega)]
          by_cases hin : i < n
          · rw [if_neg (by omega), Array.getElem?_toList, hc i (by omega)]
            rw [List.getElem_append_left (by omega)]
          · rw [if_pos (by rw [hll]; omega)]
            rw [show off + i - (off + n + 0) = i - n from by omega]
            rw [List.getElem_append_right (by omega)]
            rw [List.getElem?_map]
            have h3 : i - n < l2.length := by rw [hxl]; omega
            rw [List.getElem?_eq_getElem h3]
            simp [hl]
        · exact hdm.set b _ t (Nat.le_refl _) (hdm b _ hbk)
        · intro k hk hne
          exact hset_ne _ _ (fun e => hne (by rw [e]; rfl))
  · refine gen_neg hle ?_
    simp only [gen_b, gen_typeInfo hi]
    refine gen_neg (by simp [IntKind.max, IntKind.signed, IntKind.bits]; omega) ?_
    simp only [gen_b, gen_typeInfo hi]
    have hcap2 : Builtin.nextslicecap (n + m) c * inf.bytes ≤ 2 ^ 48 := by
      have h1 := nextcap_le (need := n + m) (c := c) (by omega)
      have h2 : Builtin.nextslicecap (n + m) c * inf.bytes ≤ (2 * (n + m) + 200) * inf.bytes := Nat.mul_le_mul_right _ h1
      have h3 : (2 * (n + m) + 200) * inf.bytes = 2 * ((n + m) * inf.bytes) + 200 * inf.bytes := by rw [Nat.add_mul, Nat.mul_assoc]
      omega
    refine gen_neg (by omega) ?_
    simp only [gen_b, choose, gen]
    intro newCap hf1 hf2
    have hnc : n + m ≤ newCap := by
      obtain ⟨q, hq⟩ := hf2 rfl
      rw [hq]; exact appendCap_cut _ _ _ _
    have hask : ∀ (nb : Nat) (K' : Unit → Heap → Nat → Prop), K' () h t → gen P (askRoom nb) K' h t := by
      intro nb K' hk
      unfold askRoom
      split
      · simp only [mark, gen]; exact hk
      · exact hk
    simp only [gen_typeInfo hi]
    refine hask _ _ ?_
    refine sl_load ho.sl ?_
    refine hfc _ _ ?_
    rw [gen_zero hi hz]
    simp only [gen_b, newRow, newObj, gen, gen_p]
    intro r hr
    have hrest : (Builtin.zeroCells z.cells (newCap - (n + m))).size = newCap - (n + m) := by simp [Builtin.zeroCells, hzc]
    refine hK _ newCap _ (r + 1) ⟨by simp [ho.1, hxl], .inr ⟨r, 0, _, (0, 0), rfl, hnc, hset_same _ _ _, ?_, fun i _ => by simp [fz], ?_⟩⟩ (by omega) (hdm.set r _ _ (by omega) (by omega)) ?_ (.inr ⟨r, rfl, hr⟩)
    · simp only [Array.size_append, hrest]; simp [ho.1, hxl]; omega
    · intro i hi2
      have hi3 : i < n + m := by simp [ho.1, hxl] at hi2; exact hi2
      rw [Nat.zero_add, show (l.map f).toArray ++ (l2.map f).toArray = ((l ++ l2).map f).toArray from by simp, Array.getElem?_append_left (by simp [ho.1, hxl]; exact hi3)]
      rw [List.getElem?_toArray, List.getElem?_map, List.getElem?_eq_getElem hi2]
      rfl
    · intro k hk _
      exact hset_ne _ _ (by omega)
def notInt : TypeDesc → Bool
  | .int _ => false
  | _ => true
theorem app_vc {α : Type} {T U E ty : TypeId} {inf : TypeInfo} {z : Value} {d : TypeDesc} (hT : P.underlying T = some (.slice E)) (hU : P.underlying U = some d) (hd : notInt d = true)
    (hi : P.info? E = some inf) (hs : inf.size = 1) (hz : inf.zero = some z) (hzc : z.cells.size = 1) {h : Heap} {t : Nat} {a : Option Addr} {n c : Nat} {f : α → Value} {l l2 : List α} {x : Value} {m : Nat}
    (ho : Own h E a n c f l) (hx : News h x m f l2) (hf : ∀ y, oneC (f y) = true) (hb : (n + m) * inf.bytes ≤ 2 ^ 40) (hb2 : n + m ≤ 2 ^ 40) (hb3 : inf.bytes ≤ 1000) (hdm : Dom h t) {K : Value → Heap → Nat → Prop}
    (hK : ∀ a' c' h' t', Own h' E a' (n + m) c' f (l ++ l2) → t ≤ t' → Dom h' t' → (∀ k, k < t → owner a ≠ some k → h' k = h k) → (owner a' = owner a ∨ ∃ r, owner a' = some r ∧ t ≤ r) → K (.slice a' (n + m) c') h' t') :
    AppVC P #[T, U] ty (.slice a n c) x K h t := by
  obtain ⟨xa, xc, rfl, hxs⟩ := hx
  refine ⟨?_⟩
  unfold Builtin.append_
  simp only [List.getElem?_toArray, List.getElem?_cons_zero, List.getElem?_cons_succ, gen_b, gen_underlying hT, gen_sizeOf hi, gen_underlying hU, gen_p, hs]
  cases d
  case int => cases hd
  all_goals
    simp only [Bool.false_eq_true, if_false, Builtin.lenOf, gen_p, gen_b, Bool.not_false, if_true, Nat.mul_one]
    exact app_body hi hz hzc ho hxs.1 (fun _ _ hk => sl_load hxs hk) hf hb hb2 hb3 hdm hK
theorem Own.take {α : Type} {h : Heap} {E : TypeId} {a : Option Addr} {n c : Nat} {f : α → Value} {l : List α} (o : Own h E a n c f l) {m : Nat} (hm : m ≤ n) : Own h E a m c f (l.take m) := by
  obtain ⟨hl, ho⟩ := o
  refine ⟨by simp [hl, hm], ?_⟩
  rcases ho with ⟨h1, h2, h3⟩ | ⟨b, off, cs, fr, ha, hn, hb, hsz, hfz, hc⟩
  · exact .inl ⟨h1, by omega, h3⟩
  · refine .inr ⟨b, off, cs, fr, ha, by omega, hb, hsz, hfz, fun i hi => ?_⟩
    simp at hi
    rw [hc i (by omega)]; simp
theorem app_make {α : Type} {T U E ty : TypeId} {inf : TypeInfo} {d : α} {f : α → Value} {k : Int} (hT : P.underlying T = some (.slice E)) (hU : P.underlying U = some (.int .i64))
    (hi : P.info? E = some inf) (hs : inf.size = 1) (hz : inf.zero = some (f d)) (hzc : (f d).cells = #[f d]) {h : Heap} {t : Nat} (hk0 : 0 ≤ k) (hk1 : k * inf.bytes ≤ 2 ^ 40) (hk2 : k ≤ 2 ^ 40) (hdm : Dom h t) {K : Value → Heap → Nat → Prop}
    (hK : ∀ a' c' h' t', Own h' E a' k.toNat c' f (List.replicate k.toNat d) → t ≤ t' → Dom h' t' → Sub h h' → (∀ b, owner a' = some b → t ≤ b) → K (.slice a' k.toNat c') h' t') :
    AppVC P #[T, U] ty (.slice none 0 0) (.int .i64 k) K h t := by
  refine ⟨?_⟩
  have hw : IntKind.i64.wrap k = k := wi (by omega) (by omega)
  have hm : ((k.toNat : Nat) : Int) = k := by omega
  unfold Builtin.append_
  simp only [List.getElem?_toArray, List.getElem?_cons_zero, List.getElem?_cons_succ, gen_b, gen_underlying hT, gen_sizeOf hi, gen_underlying hU, gen_p, hs, if_true, asInt, asIntOf, hw]
  refine gen_neg (by omega) ?_
  simp only [gen_b, gen_typeInfo hi]
  refine gen_neg (by omega) ?_
  simp only [gen_p, Nat.zero_add, Nat.mul_one, Bool.not_true, Bool.false_eq_true, if_false, gen_b]
  by_cases h0 : k.toNat ≤ 0
  · refine gen_pos h0 ?_
    have : k.toNat = 0 := by omega
    rw [gen_b]
    refine gen_pos this ?_
    simp only [gen_p]
    have := hK none 0 h t (by rw [this]; exact Own.nil _ _ _) (Nat.le_refl _) hdm (Sub.refl _) (fun b hb => by cases hb)
    exact this
  · refine gen_neg h0 ?_
    simp only [gen_b, gen_typeInfo hi]
    refine gen_neg (by simp [IntKind.max, IntKind.signed, IntKind.bits]; omega) ?_
    simp only [gen_b, gen_typeInfo hi]
    have hcap : Builtin.nextslicecap k.toNat 0 = k.toNat := by unfold Builtin.nextslicecap; rw [if_pos (by omega)]
    rw [hcap]
    refine gen_neg (by
      have : ((k.toNat * inf.bytes : Nat) : Int) = k * inf.bytes := by rw [Int.natCast_mul, hm]
      omega) ?_
    simp only [gen_b, choose, gen]
    intro newCap _ hf2
    have hnc : k.toNat ≤ newCap := by
      obtain ⟨q, hq⟩ := hf2 rfl
      rw [hq]; exact appendCap_cut _ _ _ _
    have hask : ∀ (nb : Nat) (K' : Unit → Heap → Nat → Prop), K' () h t → gen P (askRoom nb) K' h t := by
      intro nb K' hk
      unfold askRoom
      split
      · simp only [mark, gen]; exact hk
      · exact hk
    simp only [gen_typeInfo hi]
    refine hask _ _ ?_
    simp only [Builtin.firstCells, gen_p]
    refine gen_neg (by omega) ?_
    simp only [gen_b, gen_zero hi hz, gen_p, newRow, newObj, gen]
    intro r hr
    have hzs : ∀ q, Builtin.zeroCells (f d).cells q = Array.replicate q (f d) := by
      intro q
      rw [hzc]
      simp only [Builtin.zeroCells]
      apply Array.ext
      · simp
      · intro i h1 h2; simp [Nat.mod_one]
    rw [hzs, hzs]
    refine hK _ newCap _ (r + 1) ⟨by simp, .inr ⟨r, 0, _, (0, 0), rfl, hnc, hset_same _ _ _, by simp; omega, fun i _ => by simp [fz], ?_⟩⟩ (by omega) (hdm.set r _ _ (by omega) (by omega)) (hdm.sub_new hr _) (fun b hb => by simp [owner] at hb; omega)
    intro i hi2
    simp at hi2
    rw [Nat.zero_add, Array.empty_append, Array.getElem?_append_left (by simp; exact hi2)]
    simp [hi2]
theorem wu8 {x : Int} : IntKind.u8.wrap x = x % 256 := by simp [IntKind.wrap, IntKind.signed, IntKind.bits]
theorem ba_beq (a b : ByteArray) : (a == b) = decide (a = b) := by
  have h : (a == b) = (a.data == b.data) := rfl
  rw [h]
  by_cases e : a = b
  · subst e; simp
  · have : a.data ≠ b.data := fun h2 => e (ByteArray.ext h2)
    simp [e, this]
theorem findNow_str {β : Type} (f : β → Value) (k : ByteArray) : ∀ (es : List MapEntry) (l : List (ByteArray × β)) (i : Nat), es.map (fun e => (e.key, e.val)) = l.map (fun p => (Value.string p.1, f p.2)) →
    Instr.findNow .string (.string k) es i = some ((l.findIdx? (fun p => decide (p.1 = k))).bind fun j => (l[j]?).map fun p => (i + j, f p.2)) := by
  intro es
  induction es with
  | nil => intro l i h; cases l with | nil => rfl | cons p l => simp at h
  | cons e es ih =>
    intro l i h
    cases l with
    | nil => simp at h
    | cons p l =>
      simp only [List.map_cons, List.cons.injEq, Prod.mk.injEq] at h
      obtain ⟨⟨h1, h2⟩, h3⟩ := h
      unfold Instr.findNow
      rw [h1]
      simp only [Instr.sameNow, ba_beq]
      by_cases hk : p.1 = k
      · subst hk
        simp [List.findIdx?_cons, h2]
      · rw [show decide (k = p.1) = false from by simp [Ne.symm hk]]
        show Instr.findNow _ _ es (i + 1) = _
        rw [ih l (i + 1) h3]
        simp only [List.findIdx?_cons, hk, decide_false, Bool.false_eq_true, if_false]
        cases hf : l.findIdx? (fun p => decide (p.1 = k)) with
        | none => simp
        | some j => simp [Nat.add_assoc, Nat.add_comm 1 j]
theorem findKey_strR {KT : TypeId} (hK : P.underlying KT = some .string) {β : Type} {f : β → Value} {k : ByteArray} {es : List MapEntry} {l : List (ByteArray × β)} (he : es.map (fun e => (e.key, e.val)) = l.map (fun p => (Value.string p.1, f p.2)))
    {K : Option (Nat × Value) → Prop} {h : Heap}  (hk : K ((l.findIdx? (fun p => decide (p.1 = k))).bind fun j => (l[j]?).map fun p => (j, f p.2))) : genR P (Instr.findKey KT (.string k) es) K h := by
  simp only [Instr.findKey, genR_b, genR_underlying hK, findNow_str f k es l 0 he, genR_p]
  simpa using hk
theorem checkKey_strR {KT : TypeId} (hK : P.underlying KT = some .string) (b : Bool) (k : ByteArray) {K : Unit → Prop} {h : Heap}  (hk : K ()) : genR P (Instr.checkKey b 10000 KT (.string k)) K h := by
  show genR P (Instr.checkKey b (9999 + 1) KT (.string k)) K h
  unfold Instr.checkKey
  rw [genR_b, genR_underlying hK]
  exact hk
attribute [simp] opq_eq
theorem wr_i64 {x : Int} {Q : Int → Prop} (h : -9223372036854775808 ≤ x ∧ x ≤ 9223372036854775807) (hk : Q x) : ∃ z, z = IntKind.i64.wrap x ∧ Q z := ⟨x, (wi h.1 h.2).symm, hk⟩
theorem wr_u8 {x : Int} {Q : Int → Prop} (h : 0 ≤ x ∧ x ≤ 255) (hk : Q x) : ∃ z, z = IntKind.u8.wrap x ∧ Q z := ⟨x, by simp [IntKind.wrap, IntKind.signed, IntKind.bits]; omega, hk⟩
theorem wr_u32 {x : Int} {Q : Int → Prop} (h : 0 ≤ x ∧ x ≤ 4294967295) (hk : Q x) : ∃ z, z = IntKind.u32.wrap x ∧ Q z := ⟨x, by simp [IntKind.wrap, IntKind.signed, IntKind.bits]; omega, hk⟩
theorem wr_u64 {x : Int} {Q : Int → Prop} (h : 0 ≤ x ∧ x ≤ 18446744073709551615) (hk : Q x) : ∃ z, z = IntKind.u64.wrap x ∧ Q z := ⟨x, by simp [IntKind.wrap, IntKind.signed, IntKind.bits]; omega, hk⟩
theorem shl1_i64 {a : Int} {Q : Int → Prop} (h : -4611686018427387904 ≤ a ∧ a ≤ 4611686018427387903) (hk : Q (a * 2)) : ∃ z, z = shlV .i64 a 1 ∧ Q z :=
  ⟨a * 2, (wi (by omega) (by omega)).symm, hk⟩
theorem quo_i {k : IntKind} {a b : Int} {Q : Int → Prop} (h : 0 ≤ a ∧ 0 < b ∧ k.wrap (a / b) = a / b) (hk : Q (a / b)) : ∃ z, z = k.wrap (a.tdiv b) ∧ Q z :=
  ⟨a / b, by rw [Int.tdiv_eq_ediv_of_nonneg h.1, h.2.2], hk⟩
theorem quo_i64 {a b : Int} {Q : Int → Prop} (h : 0 ≤ a ∧ a ≤ 9223372036854775807 ∧ 0 < b) (hk : Q (a / b)) : ∃ z, z = IntKind.i64.wrap (a.tdiv b) ∧ Q z := by
  refine quo_i ⟨h.1, h.2.2, ?_⟩ hk
  have h1 : 0 ≤ a / b := Int.ediv_nonneg h.1 (by omega)
  have h2 : a / b ≤ a := Int.ediv_le_self b h.1
  exact wi (by omega) (by omega)
theorem rem_i {a b : Int} {Q : Int → Prop} (h : 0 ≤ a) (hk : Q (a % b)) : ∃ z, z = a.tmod b ∧ Q z := ⟨a % b, by rw [Int.tmod_eq_emod_of_nonneg h], hk⟩
theorem ld_i {h : Heap} {b off : Nat} {c : Array Value} {T : TypeId} {f : Nat × Nat} {v : Value} {K : Value → Prop} (hb : h b = some (.cells c T f)) (hv : c[off]? = some v) (hk : K v) : ∃ v, Cell h ⟨b, off, none⟩ v ∧ K v :=
  ⟨v, ⟨c, T, f, hb, rfl, hv⟩, hk⟩
theorem st_i {h : Heap} {b off : Nat} {c : Array Value} {T : TypeId} {f : Nat × Nat} {v : Value} {Q : Array Value → TypeId → Nat × Nat → Prop} (hb : h b = some (.cells c T f)) (h1 : oneC v = true) (hlt : Nat.blt off c.size = true) (hf : fz f off = false)
    (hk : Q c T f) : oneC v = true ∧ ∃ c T f, h b = some (.cells c T f) ∧ off < c.size ∧ fz f off = false ∧ Q c T f :=
  ⟨h1, c, T, f, hb, Nat.blt_eq ▸ hlt, hf, hk⟩
theorem sl_ix {α : Type} {h : Heap} {a : Option Addr} {n : Nat} {f : α → Value} {l : List α} {i : Int} {Q : Nat → Nat → Prop} (s : Sl h a n f l) (h0 : 0 ≤ i ∧ i < n)
    (hk : ∀ x b off, l[i.toNat]? = some x → Cell h ⟨b, off + i.toNat * 1, none⟩ (f x) → Q b off) : (0 ≤ i ∧ i < n) ∧ ∃ b off, a = some ⟨b, off, none⟩ ∧ Q b off := by
  obtain ⟨hl, hs⟩ := s
  obtain ⟨b, off, cs, T, fr, ha, hb, hc⟩ := hs (by omega)
  have hi : i.toNat < l.length := by omega
  exact ⟨h0, b, off, ha, hk _ b off (List.getElem?_eq_getElem hi) ⟨cs, T, fr, hb, rfl, by rw [Nat.mul_one]; exact hc i.toNat hi⟩⟩
theorem and_leN {a b : Nat} {K : Prop} (h : a ≤ b) (hk : K) : a ≤ b ∧ K := ⟨h, hk⟩
theorem and_leI {a b : Int} {K : Prop} (h : a ≤ b) (hk : K) : a ≤ b ∧ K := ⟨h, hk⟩
theorem cell_i {h : Heap} {a : Addr} {v : Value} {K : Value → Prop} (hc : Cell h a v) (hk : K v) : ∃ v, Cell h a v ∧ K v := ⟨v, hc, hk⟩
def loopR2 {α0 α1 : Type} (L : α0 → α1 → List (Nat × Value)) (H : α0 → α1 → Heap → Nat → Prop) (μ : α0 → α1 → Nat) : Nat → Env → Heap → Nat → Prop :=
  loopR (α := α0 × α1) (fun s => L s.1 s.2) (fun s => H s.1 s.2) (fun s => μ s.1 s.2)
theorem loop_intro2 {α0 α1 : Type} (L : α0 → α1 → List (Nat × Value)) (H : α0 → α1 → Heap → Nat → Prop) (μ : α0 → α1 → Nat) {X : Post → Env → Heap → Nat → Prop} {Q : Post} {e : Env} {h : Heap} {t : Nat} (x0 : α0) (x1 : α1)
    (h0 : Has e (L x0 x1)) (hH : H x0 x1 h t) (round : ∀ x0 x1 g h t, Dom h t → H x0 x1 h t → X (loopK (loopR2 L H μ) (μ x0 x1) Q) (setL g (L x0 x1)) h t) :
    ∃ R : Nat → Env → Heap → Nat → Prop, (∃ m, R m e h t) ∧ ∀ m e h t, Dom h t → R m e h t → X (loopK R m Q) e h t :=
  loop_intro (α := α0 × α1) (fun s => L s.1 s.2) (fun s => H s.1 s.2) (fun s => μ s.1 s.2) (x0, x1) h0 hH (fun s g h t hd hH => round (s.1) (s.2) g h t hd hH)
theorem round_end2 {α0 α1 : Type} {L : α0 → α1 → List (Nat × Value)} {H : α0 → α1 → Heap → Nat → Prop} {μ : α0 → α1 → Nat} {m : Nat} {e : Env} {h : Heap} {t : Nat} (x0 : α0) (x1 : α1) (hm : μ x0 x1 < m) (hL : Has e (L x0 x1)) (hH : H x0 x1 h t) :
    ∃ m', m' < m ∧ loopR2 L H μ m' e h t := ⟨_, hm, (x0, x1), rfl, hL, hH⟩
def loopR3 {α0 α1 α2 : Type} (L : α0 → α1 → α2 → List (Nat × Value)) (H : α0 → α1 → α2 → Heap → Nat → Prop) (μ : α0 → α1 → α2 → Nat) : Nat → Env → Heap → Nat → Prop :=
  loopR (α := α0 × α1 × α2) (fun s => L s.1 s.2.1 s.2.2) (fun s => H s.1 s.2.1 s.2.2) (fun s => μ s.1 s.2.1 s.2.2)
theorem loop_intro3 {α0 α1 α2 : Type} (L : α0 → α1 → α2 → List (Nat × Value)) (H : α0 → α1 → α2 → Heap → Nat → Prop) (μ : α0 → α1 → α2 → Nat) {X : Post → Env → Heap → Nat → Prop} {Q : Post} {e : Env} {h : Heap} {t : Nat} (x0 : α0) (x1 : α1) (x2 : α2)
    (h0 : Has e (L x0 x1 x2)) (hH : H x0 x1 x2 h t) (round : ∀ x0 x1 x2 g h t, Dom h t → H x0 x1 x2 h t → X (loopK (loopR3 L H μ) (μ x0 x1 x2) Q) (setL g (L x0 x1 x2)) h t) :
    ∃ R : Nat → Env → Heap → Nat → Prop, (∃ m, R m e h t) ∧ ∀ m e h t, Dom h t → R m e h t → X (loopK R m Q) e h t :=
  loop_intro (α := α0 × α1 × α2) (fun s => L s.1 s.2.1 s.2.2) (fun s => H s.1 s.2.1 s.2.2) (fun s => μ s.1 s.2.1 s.2.2) (x0, x1, x2) h0 hH (fun s g h t hd hH => round (s.1) (s.2.1) (s.2.2) g h t hd hH)
theorem round_end3 {α0 α1 α2 : Type} {L : α0 → α1 → α2 → List (Nat × Value)} {H : α0 → α1 → α2 → Heap → Nat → Prop} {μ : α0 → α1 → α2 → Nat} {m : Nat} {e : Env} {h : Heap} {t : Nat} (x0 : α0) (x1 : α1) (x2 : α2) (hm : μ x0 x1 x2 < m) (hL : Has e (L x0 x1 x2)) (hH : H x0 x1 x2 h t) :
    ∃ m', m' < m ∧ loopR3 L H μ m' e h t := ⟨_, hm, (x0, x1, x2), rfl, hL, hH⟩
def loopR4 {α0 α1 α2 α3 : Type} (L : α0 → α1 → α2 → α3 → List (Nat × Value)) (H : α0 → α1 → α2 → α3 → Heap → Nat → Prop) (μ : α0 → α1 → α2 → α3 → Nat) : Nat → Env → Heap → Nat → Prop :=
  loopR (α := α0 × α1 × α2 × α3) (fun s => L s.1 s.2.1 s.2.2.1 s.2.2.2) (fun s => H s.1 s.2.1 s.2.2.1 s.2.2.2) (fun s => μ s.1 s.2.1 s.2.2.1 s.2.2.2)
theorem loop_intro4 {α0 α1 α2 α3 : Type} (L : α0 → α1 → α2 → α3 → List (Nat × Value)) (H : α0 → α1 → α2 → α3 → Heap → Nat → Prop) (μ : α0 → α1 → α2 → α3 → Nat) {X : Post → Env → Heap → Nat → Prop} {Q : Post} {e : Env} {h : Heap} {t : Nat} (x0 : α0) (x1 : α1) (x2 : α2) (x3 : α3)
    (h0 : Has e (L x0 x1 x2 x3)) (hH : H x0 x1 x2 x3 h t) (round : ∀ x0 x1 x2 x3 g h t, Dom h t → H x0 x1 x2 x3 h t → X (loopK (loopR4 L H μ) (μ x0 x1 x2 x3) Q) (setL g (L x0 x1 x2 x3)) h t) :
    ∃ R : Nat → Env → Heap → Nat → Prop, (∃ m, R m e h t) ∧ ∀ m e h t, Dom h t → R m e h t → X (loopK R m Q) e h t :=
  loop_intro (α := α0 × α1 × α2 × α3) (fun s => L s.1 s.2.1 s.2.2.1 s.2.2.2) (fun s => H s.1 s.2.1 s.2.2.1 s.2.2.2) (fun s => μ s.1 s.2.1 s.2.2.1 s.2.2.2) (x0, x1, x2, x3) h0 hH (fun s g h t hd hH => round (s.1) (s.2.1) (s.2.2.1) (s.2.2.2) g h t hd hH)
theorem round_end4 {α0 α1 α2 α3 : Type} {L : α0 → α1 → α2 → α3 → List (Nat × Value)} {H : α0 → α1 → α2 → α3 → Heap → Nat → Prop} {μ : α0 → α1 → α2 → α3 → Nat} {m : Nat} {e : Env} {h : Heap} {t : Nat} (x0 : α0) (x1 : α1) (x2 : α2) (x3 : α3) (hm : μ x0 x1 x2 x3 < m) (hL : Has e (L x0 x1 x2 x3)) (hH : H x0 x1 x2 x3 h t) :
    ∃ m', m' < m ∧ loopR4 L H μ m' e h t := ⟨_, hm, (x0, x1, x2, x3), rfl, hL, hH⟩
def loopR5 {α0 α1 α2 α3 α4 : Type} (L : α0 → α1 → α2 → α3 → α4 → List (Nat × Value)) (H : α0 → α1 → α2 → α3 → α4 → Heap → Nat → Prop) (μ : α0 → α1 → α2 → α3 → α4 → Nat) : Nat → Env → Heap → Nat → Prop :=
  loopR (α := α0 × α1 × α2 × α3 × α4) (fun s => L s.1 s.2.1 s.2.2.1 s.2.2.2.1 s.2.2.2.2) (fun s => H s.1 s.2.1 s.2.2.1 s.2.2.2.1 s.2.2.2.2) (fun s => μ s.1 s.2.1 s.2.2.1 s.2.2.2.1 s.2.2.2.2)
theorem loop_intro5 {α0 α1 α2 α3 α4 : Type} (L : α0 → α1 → α2 → α3 → α4 → List (Nat × Value)) (H : α0 → α1 → α2 → α3 → α4 → Heap → Nat → Prop) (μ : α0 → α1 → α2 → α3 → α4 → Nat) {X : Post → Env → Heap → Nat → Prop} {Q : Post} {e : Env} {h : Heap} {t : Nat} (x0 : α0) (x1 : α1) (x2 : α2) (x3 : α3) (x4 : α4)
    (h0 : Has e (L x0 x1 x2 x3 x4)) (hH : H x0 x1 x2 x3 x4 h t) (round : ∀ x0 x1 x2 x3 x4 g h t, Dom h t → H x0 x1 x2 x3 x4 h t → X (loopK (loopR5 L H μ) (μ x0 x1 x2 x3 x4) Q) (setL g (L x0 x1 x2 x3 x4)) h t) :
    ∃ R : Nat → Env → Heap → Nat → Prop, (∃ m, R m e h t) ∧ ∀ m e h t, Dom h t → R m e h t → X (loopK R m Q) e h t :=
  loop_intro (α := α0 × α1 × α2 × α3 × α4) (fun s => L s.1 s.2.1 s.2.2.1 s.2.2.2.1 s.2.2.2.2) (fun s => H s.1 s.2.1 s.2.2.1 s.2.2.2.1 s.2.2.2.2) (fun s => μ s.1 s.2.1 s.2.2.1 s.2.2.2.1 s.2.2.2.2) (x0, x1, x2, x3, x4) h0 hH (fun s g h t hd hH => round (s.1) (s.2.1) (s.2.2.1) (s.2.2.2.1) (s.2.2.2.2) g h t hd hH)
theorem round_end5 {α0 α1 α2 α3 α4 : Type} {L : α0 → α1 → α2 → α3 → α4 → List (Nat × Value)} {H : α0 → α1 → α2 → α3 → α4 → Heap → Nat → Prop} {μ : α0 → α1 → α2 → α3 → α4 → Nat} {m : Nat} {e : Env} {h : Heap} {t : Nat} (x0 : α0) (x1 : α1) (x2 : α2) (x3 : α3) (x4 : α4) (hm : μ x0 x1 x2 x3 x4 < m) (hL : Has e (L x0 x1 x2 x3 x4)) (hH : H x0 x1 x2 x3 x4 h t) :
    ∃ m', m' < m ∧ loopR5 L H μ m' e h t := ⟨_, hm, (x0, x1, x2, x3, x4), rfl, hL, hH⟩
def loopR6 {α0 α1 α2 α3 α4 α5 : Type} (L : α0 → α1 → α2 → α3 → α4 → α5 → List (Nat × Value)) (H : α0 → α1 → α2 → α3 → α4 → α5 → Heap → Nat → Prop) (μ : α0 → α1 → α2 → α3 → α4 → α5 → Nat) : Nat → Env → Heap → Nat → Prop :=
  loopR (α := α0 × α1 × α2 × α3 × α4 × α5) (fun s => L s.1 s.2.1 s.2.2.1 s.2.2.2.1 s.2.2.2.2.1 s.2.2.2.2.2) (fun s => H s.1 s.2.1 s.2.2.1 s.2.2.2.1 s.2.2.2.2.1 s.2.2.2.2.2) (fun s => μ s.1 s.2.1 s.2.2.1 s.2.2.2.1 s.2.2.2.2.1 s.2.2.2.2.2)
theorem loop_intro6 {α0 α1 α2 α3 α4 α5 : Type} (L : α0 → α1 → α2 → α3 → α4 → α5 → List (Nat × Value)) (H : α0 → α1 → α2 → α3 → α4 → α5 → Heap → Nat → Prop) (μ : α0 → α1 → α2 → α3 → α4 → α5 → Nat) {X : Post → Env → Heap → Nat → Prop} {Q : Post} {e : Env} {h : Heap} {t : Nat} (x0 : α0) (x1 : α1) (x2 : α2) (x3 : α3) (x4 : α4) (x5 : α5)
    (h0 : Has e (L x0 x1 x2 x3 x4 x5)) (hH : H x0 x1 x2 x3 x4 x5 h t) (round : ∀ x0 x1 x2 x3 x4 x5 g h t, Dom h t → H x0 x1 x2 x3 x4 x5 h t → X (loopK (loopR6 L H μ) (μ x0 x1 x2 x3 x4 x5) Q) (setL g (L x0 x1 x2 x3 x4 x5)) h t) :
    ∃ R : Nat → Env → Heap → Nat → Prop, (∃ m, R m e h t) ∧ ∀ m e h t, Dom h t → R m e h t → X (loopK R m Q) e h t :=
  loop_intro (α := α0 × α1 × α2 × α3 × α4 × α5) (fun s => L s.1 s.2.1 s.2.2.1 s.2.2.2.1 s.2.2.2.2.1 s.2.2.2.2.2) (fun s => H s.1 s.2.1 s.2.2.1 s.2.2.2.1 s.2.2.2.2.1 s.2.2.2.2.2) (fun s => μ s.1 s.2.1 s.2.2.1 s.2.2.2.1 s.2.2.2.2.1 s.2.2.2.2.2) (x0, x1, x2, x3, x4, x5) h0 hH (fun s g h t hd hH => round (s.1) (s.2.1) (s.2.2.1) (s.2.2.2.1) (s.2.2.2.2.1) (s.2.2.2.2.2) g h t hd hH)
theorem round_end6 {α0 α1 α2 α3 α4 α5 : Type} {L : α0 → α1 → α2 → α3 → α4 → α5 → List (Nat × Value)} {H : α0 → α1 → α2 → α3 → α4 → α5 → Heap → Nat → Prop} {μ : α0 → α1 → α2 → α3 → α4 → α5 → Nat} {m : Nat} {e : Env} {h : Heap} {t : Nat} (x0 : α0) (x1 : α1) (x2 : α2) (x3 : α3) (x4 : α4) (x5 : α5) (hm : μ x0 x1 x2 x3 x4 x5 < m) (hL : Has e (L x0 x1 x2 x3 x4 x5)) (hH : H x0 x1 x2 x3 x4 x5 h t) :
    ∃ m', m' < m ∧ loopR6 L H μ m' e h t := ⟨_, hm, (x0, x1, x2, x3, x4, x5), rfl, hL, hH⟩
end Go.Vc
