import Derived.Test.YtlkpgjicpjjlcaaGreatDoorVc12
/- Slices whose elements take W cells, further: reading an element, copying, making room. -/
namespace Go.Vc
open Go
set_option maxRecDepth 10000
set_option linter.unusedVariables false
set_option linter.unusedSimpArgs false
variable {P : Program}

/-- A run of cells. -/
def RowAt (h : Heap) (b o : Nat) (vs : List Value) : Prop := ∃ cs T fr, h b = some (.cells cs T fr) ∧ ∀ j (hj : j < vs.length), cs[o + j]? = some vs[j]
theorem RowAt.cell {h : Heap} {b o j : Nat} {vs : List Value} {v : Value} (r : RowAt h b o vs) (hv : vs[j]? = some v) : Cell h ⟨b, o + j, none⟩ v := by
  obtain ⟨cs, T, fr, hb, hc⟩ := r
  obtain ⟨hj, rfl⟩ := List.getElem?_eq_some_iff.1 hv
  exact ⟨cs, T, fr, hb, rfl, hc j hj⟩
theorem RowAt.cell0 {h : Heap} {b o : Nat} {vs : List Value} {v : Value} (r : RowAt h b o vs) (hv : vs[0]? = some v) : Cell h ⟨b, o, none⟩ v := r.cell hv
theorem RowAt.mono {h h' : Heap} {b o : Nat} {vs : List Value} (r : RowAt h b o vs) (hs : ∀ x, h b = some x → h' b = some x) : RowAt h' b o vs := by
  obtain ⟨cs, T, fr, hb, hc⟩ := r
  exact ⟨cs, T, fr, hs _ hb, hc⟩
theorem RowAt.row {h : Heap} {b o W : Nat} {vs : List Value} {K : List Value → Prop} (r : RowAt h b o vs) (hW : vs.length = W) (h1 : 0 < W) (hk : K vs) :
    ∃ c T' f, h b = some (.cells c T' f) ∧ o + W ≤ c.size ∧ ∀ l, l = (c.toList.drop o).take W → forceL l K := by
  obtain ⟨cs, T, fr, hb, hc⟩ := r
  have hlast := hc (W - 1) (by omega)
  have hsz : o + (W - 1) < cs.size := (Array.getElem?_eq_some_iff.1 hlast).1
  refine ⟨cs, T, fr, hb, by omega, ?_⟩
  intro l hl
  have : l = vs := by
    apply List.ext_getElem?
    intro i
    rw [hl, List.getElem?_take, List.getElem?_drop]
    by_cases hi : i < W
    · rw [if_pos hi, Array.getElem?_toList, hc i (by omega), List.getElem?_eq_getElem (by omega)]
    · rw [if_neg hi, List.getElem?_eq_none (by omega)]
  rw [forceL_eq, this]
  exact hk

theorem flat_len {α : Type} {enc : α → List Value} {W : Nat} (hE : ∀ x, (enc x).length = W) (l : List α) : (l.flatMap enc).length = l.length * W := by
  induction l with
  | nil => simp
  | cons p l ih => rw [List.flatMap_cons, List.length_append, ih, hE, List.length_cons, Nat.add_mul]; omega
theorem flat_get {α : Type} {enc : α → List Value} {W : Nat} (hE : ∀ x, (enc x).length = W) : ∀ {l : List α} {i j : Nat} {x : α}, l[i]? = some x → j < W → (l.flatMap enc)[i * W + j]? = (enc x)[j]?
  | [], i, j, x, h, _ => by simp at h
  | q :: l, 0, j, x, h, hj => by
    simp at h; subst h
    rw [List.flatMap_cons, Nat.zero_mul, Nat.zero_add, List.getElem?_append_left (by rw [hE]; exact hj)]
  | q :: l, i + 1, j, x, h, hj => by
    rw [List.flatMap_cons, List.getElem?_append_right (by rw [hE, Nat.add_mul]; omega), hE, show (i + 1) * W + j - W = i * W + j from by rw [Nat.add_mul]; omega]
    exact flat_get hE (by simpa using h) hj
theorem flat_take {α : Type} {enc : α → List Value} {W : Nat} (hE : ∀ x, (enc x).length = W) : ∀ (l : List α) (i : Nat), (l.flatMap enc).take (i * W) = (l.take i).flatMap enc
  | [], i => by simp
  | q :: l, 0 => by simp
  | q :: l, i + 1 => by
    rw [List.flatMap_cons, List.take_append, hE, List.take_of_length_le (by rw [hE, Nat.add_mul]; omega), show (i + 1) * W - W = i * W from by rw [Nat.add_mul]; omega, flat_take hE l i]
    simp
theorem flat_drop {α : Type} {enc : α → List Value} {W : Nat} (hE : ∀ x, (enc x).length = W) : ∀ (l : List α) (i : Nat), (l.flatMap enc).drop (i * W) = (l.drop i).flatMap enc
  | [], i => by simp
  | q :: l, 0 => by simp
  | q :: l, i + 1 => by
    rw [List.flatMap_cons, List.drop_append, hE, List.drop_of_length_le (by rw [hE, Nat.add_mul]; omega), show (i + 1) * W - W = i * W from by rw [Nat.add_mul]; omega, flat_drop hE l i]
    simp

theorem slW_row {α : Type} {h : Heap} {a : Option Addr} {n W : Nat} {enc : α → List Value} (hE : ∀ x, (enc x).length = W) {l : List α} {i : Nat} (s : Sl h a (n * W) id (l.flatMap enc)) (hW : 0 < W) (hi : i < n) :
    ∃ x b off, l[i]? = some x ∧ a = some ⟨b, off, none⟩ ∧ RowAt h b (off + i * W) (enc x) := by
  obtain ⟨hl, hs⟩ := s
  rw [flat_len hE] at hl
  have hl' : l.length = n := Nat.eq_of_mul_eq_mul_right hW hl
  have hi' : i < l.length := by omega
  obtain ⟨b, off, cs, T, fr, ha, hb, hc⟩ := hs (Nat.mul_pos (by omega) hW)
  refine ⟨l[i], b, off, List.getElem?_eq_getElem hi', ha, cs, T, fr, hb, ?_⟩
  intro j hj
  rw [hE] at hj
  have hlt : i * W + j < (l.flatMap enc).length := by
    rw [flat_len hE]
    have : (i + 1) * W ≤ l.length * W := Nat.mul_le_mul_right W hi'
    rw [Nat.add_mul] at this
    omega
  rw [Nat.add_assoc, hc _ hlt]
  have h1 := flat_get hE (List.getElem?_eq_getElem hi') hj
  rw [List.getElem?_eq_getElem hlt, List.getElem?_eq_getElem (by rw [hE]; exact hj)] at h1
  exact h1
theorem slW_ix {α : Type} {h : Heap} {a : Option Addr} {n W : Nat} {enc : α → List Value} {l : List α} {i : Int} {Q : Nat → Nat → Prop} (s : Sl h a (n * W) id (l.flatMap enc)) (hE : ∀ x, (enc x).length = W) (hW : 0 < W) (h0 : 0 ≤ i ∧ i < n)
    (hk : ∀ x b off, l[i.toNat]? = some x → a = some ⟨b, off, none⟩ → RowAt h b (off + i.toNat * W) (enc x) → Q b off) : (0 ≤ i ∧ i < n) ∧ ∃ b off, a = some ⟨b, off, none⟩ ∧ Q b off := by
  obtain ⟨x, b, off, hx, ha, hr⟩ := slW_row hE s hW (i := i.toNat) (by omega)
  exact ⟨h0, b, off, ha, hk x b off hx ha hr⟩

theorem cutA_W {a : Option Addr} {i W c : Nat} (hW : 0 < W) : cutA a i W c = cutA a (i * W) 1 (c * W) := by
  unfold cutA
  by_cases e : c = i
  · rw [if_pos e, if_pos (by rw [e])]
  · rw [if_neg e, if_neg (fun e' => e (Nat.eq_of_mul_eq_mul_right hW e')), Nat.mul_one]
theorem Own.dropW {α : Type} {h : Heap} {E : TypeId} {a a' : Option Addr} {n c m W : Nat} {f : α → Value} {l : List α} (o : Vc.Own h E a (n * W) (c * W) f l) (hW : 0 < W) (hm : m ≤ n) (ha' : a' = cutA a m W c) : Vc.Own h E a' ((n - m) * W) ((c - m) * W) f (l.drop (m * W)) := by
  rw [Nat.sub_mul, Nat.sub_mul]
  exact Own.drop o (Nat.mul_le_mul_right W hm) (by rw [ha', cutA_W hW])
/-- What lies behind the length, up to the room. -/
theorem Own.more {h : Heap} {E : TypeId} {a : Option Addr} {n c m : Nat} {l : List Value} (o : Vc.Own h E a n c id l) (h1 : n ≤ m) (h2 : m ≤ c) : ∃ l', l'.length = m - n ∧ Vc.Own h E a m c id (l ++ l') := by
  obtain ⟨hl, ⟨e1, e2, e3⟩ | ⟨b, off, cs, fr, ha, hn, hb, hsz, hfz, hc⟩⟩ := o
  · have hm : m = 0 := by omega
    subst e2 e3 hm
    exact ⟨[], by simp, by simpa using hl, .inl ⟨e1, rfl, rfl⟩⟩
  · refine ⟨(cs.toList.drop (off + n)).take (m - n), by simp; omega, by simp [hl]; omega, .inr ⟨b, off, cs, fr, ha, h2, hb, hsz, hfz, ?_⟩⟩
    intro i hi
    by_cases hin : i < l.length
    · rw [List.getElem_append_left hin]; exact hc i hin
    · rw [List.getElem_append_right (by omega)]
      simp only [List.getElem_take, List.getElem_drop, id]
      have hi2 : i < m := by simp [hl] at hi; omega
      rw [Array.getElem?_eq_getElem (by omega)]
      simp only [Array.getElem_toList]
      congr 1
      congr 1
      omega

/-- 'copy': into a row that one owns, from place j on. -/
theorem copy_own {T U E ty : TypeId} {inf : TypeInfo} {W : Nat} (hT : P.underlying T = some (.slice E)) (hi : P.info? E = some inf) (hs : inf.size = W) (hW : 0 < W) {h : Heap} {t : Nat} {a a' xa : Option Addr} {N C j n' c' m xc k : Nat} {L l2 : List Value}
    (ho : Vc.Own h E a (N * W) (C * W) id L) (ha' : a' = cutA a j W C) (hx : Sl h xa (m * W) id l2) (hk : k = min m n') (hj : j + k ≤ N) (hf : (l2.take (k * W)).all oneC = true) (hdm : Dom h t) {K : Value → Heap → Nat → Prop}
    (hK : ∀ h', Vc.Own h' E a (N * W) (C * W) id (L.take (j * W) ++ l2.take (k * W) ++ L.drop ((j + k) * W)) → Dom h' t → (∀ b, owner a ≠ some b → h' b = h b) → K (.int .i64 (k : Nat)) h' t) :
    CopyVC P #[T, U] ty (.slice a' n' c') (.slice xa m xc) K h t := by
  subst hs
  refine ⟨?_⟩
  unfold Builtin.copy_
  simp only [List.getElem?_toArray, List.getElem?_cons_zero, List.getElem?_cons_succ, gen_b, gen_underlying hT, gen_sizeOf hi, gen_p, Builtin.lenOf]
  have hmin : Nat.min m n' = k := by rw [hk]
  rw [hmin]
  have hkm : k ≤ m := by omega
  have hx2 : Sl h xa (k * inf.size) id (l2.take (k * inf.size)) := hx.take (Nat.mul_le_mul_right _ hkm)
  have hld : ∀ (K : Array Value → Heap → Nat → Prop), K (l2.take (k * inf.size)).toArray h t → gen P (Builtin.firstCells inf.size k (.slice xa m xc)) K h t := by
    intro K hk
    have h1 : gen P (Builtin.firstCells inf.size k (.slice xa k xc)) K h t := sl_loadW hx2 hk
    cases xa with
    | none => simpa only [Builtin.firstCells] using h1
    | some p => simpa only [Builtin.firstCells] using h1
  refine hld _ ?_
  have hLl : L.length = N * inf.size := ho.1
  have hjN : (j + k) * inf.size ≤ N * inf.size := Nat.mul_le_mul_right _ hj
  have hjk : (j + k) * inf.size = j * inf.size + k * inf.size := Nat.add_mul _ _ _
  rcases Nat.eq_zero_or_pos k with hk0 | hk0
  · -- nothing to copy
    have e1 : L.take (j * inf.size) ++ l2.take (k * inf.size) ++ L.drop ((j + k) * inf.size) = L := by rw [hk0]; simp
    have hfin := hK h (by rw [e1]; exact ho) hdm (fun _ _ => rfl)
    have e2 : l2.take (k * inf.size) = [] := by rw [hk0]; simp
    cases a' with
    | none => simp only [gen_p]; exact hfin
    | some p =>
      simp only [gen_b, e2, storeCells, gen_p]
      exact hfin
  · obtain ⟨hl, ⟨e1, e2, e3⟩ | ⟨b, off, cs, fr, rfl, hn, hb, hsz, hfz, hc⟩⟩ := ho
    · exfalso
      have : k * inf.size = 0 := by omega
      rcases Nat.mul_eq_zero.1 this with h | h <;> omega
    · have hjC : j ≠ C := by
        intro e
        have h1 : k * inf.size = 0 := by rw [← e] at hn; omega
        rcases Nat.mul_eq_zero.1 h1 with h | h <;> omega
      have : a' = some ⟨b, off + j * inf.size, none⟩ := by
        rw [ha']; unfold cutA; rw [if_neg (fun e => hjC e.symm), Option.map_some, addr_add]
      subst this
      have hlen : (l2.take (k * inf.size)).length = k * inf.size := hx2.1
      have hA : (L.take (j * inf.size)).length = j * inf.size := by rw [List.length_take]; omega
      have hC : (L.drop ((j + k) * inf.size)).length = N * inf.size - (j * inf.size + k * inf.size) := by rw [List.length_drop, hjk]; omega
      have hall : (L.take (j * inf.size) ++ l2.take (k * inf.size) ++ L.drop ((j + k) * inf.size)).length = N * inf.size := by rw [List.length_append, List.length_append, hA, hlen, hC]; omega
      simp only [gen_b]
      refine storeCells_gen (off + j * inf.size) (l2.take (k * inf.size)) 0 cs h hb (by rw [hlen]; omega) ?_ ?_ ?_
      · intro i hi
        rw [show off + j * inf.size + 0 + i = off + (j * inf.size + i) from by omega]
        exact hfz _ (by rw [hlen] at hi; omega)
      · intro u hu
        exact List.all_eq_true.1 hf u hu
      · refine hK _ ⟨hall, .inr ⟨b, off, _, fr, rfl, hn, hset_same _ _ _, by simp [setR_length]; exact hsz, hfz, ?_⟩⟩ (hdm.set b _ t (Nat.le_refl _) (hdm b _ hb)) (fun q hq => hset_ne _ _ (fun e => hq (by rw [e]; rfl)))
        intro i hi
        have hi2 : i < N * inf.size := by rw [hall] at hi; exact hi
        rw [List.getElem?_toArray, setR_get _ _ _ _ (by rw [hlen]; simp; omega)]
        have hget : (L.take (j * inf.size) ++ l2.take (k * inf.size) ++ L.drop ((j + k) * inf.size))[i]? = if off + j * inf.size + 0 ≤ off + i ∧ off + i < off + j * inf.size + 0 + (l2.take (k * inf.size)).length then (l2.take (k * inf.size))[off + i - (off + j * inf.size + 0)]? else L[i]? := by
          rw [hlen]
          by_cases c1 : i < j * inf.size
          · rw [if_neg (by omega), List.append_assoc, List.getElem?_append_left (by rw [hA]; omega), List.getElem?_take, if_pos c1]
          · by_cases c2 : i < j * inf.size + k * inf.size
            · rw [if_pos (by omega), List.getElem?_append_left (by rw [List.length_append, hA, hlen]; omega), List.getElem?_append_right (by rw [hA]; omega)]
              congr 1
              rw [hA]; omega
            · rw [if_neg (by omega), List.getElem?_append_right (by rw [List.length_append, hA, hlen]; omega), List.getElem?_drop]
              congr 1
              rw [List.length_append, hA, hlen, hjk]; omega
        rw [List.getElem?_eq_getElem hi] at hget
        have hcs : cs.toList[off + i]? = L[i]? := by
          rw [Array.getElem?_toList, hc i (by rw [hl]; exact hi2), List.getElem?_eq_getElem (by rw [hl]; exact hi2)]; rfl
        rw [hcs]
        exact hget.symm

/-- 'append(s, make([]T, k)...)' where there is no room. -/
theorem app_zW {T U E ty : TypeId} {inf : TypeInfo} {z : Value} {W : Nat} {k : Int} (hT : P.underlying T = some (.slice E)) (hU : P.underlying U = some (.int .i64))
    (hi : P.info? E = some inf) (hs : inf.size = W) (hW : 0 < W) (hz : inf.zero = some z) (hzc : z.cells.size = W) {h : Heap} {t : Nat} {a : Option Addr} {n c : Nat} {l : List Value}
    (ho : Vc.Own h E a (n * W) (c * W) id l) (hk0 : 0 ≤ k) (hb : (n + k.toNat) * inf.bytes ≤ 2 ^ 40) (hb2 : n + k.toNat ≤ 2 ^ 40) (hb3 : inf.bytes ≤ 1000) (hgt : c < n + k.toNat) (hdm : Dom h t) {K : Value → Heap → Nat → Prop}
    (hK2 : ∀ a' c' h' t' zs, zs.length = k.toNat * W → Vc.Own h' E a' ((n + k.toNat) * W) (c' * W) id (l ++ zs) → t ≤ t' → Dom h' t' → (∀ b, b < t → h' b = h b) → (∃ r, owner a' = some r ∧ t ≤ r) → K (.slice a' (n + k.toNat) c') h' t') :
    AppVC P #[T, U] ty (.slice a n c) (.int .i64 k) K h t := by
  refine ⟨?_⟩
  have hw : IntKind.i64.wrap k = k := wi (by omega) (by omega)
  have hm : ((k.toNat : Nat) : Int) = k := by omega
  generalize hM : k.toNat = m at *
  have hbm : m * inf.bytes ≤ (n + m) * inf.bytes := Nat.mul_le_mul_right _ (by omega)
  unfold Builtin.append_
  simp only [List.getElem?_toArray, List.getElem?_cons_zero, List.getElem?_cons_succ, gen_b, gen_underlying hT, gen_sizeOf hi, gen_underlying hU, gen_p, hs, if_true, asInt, asIntOf, hw]
  refine gen_neg (by omega) ?_
  simp only [gen_b, gen_typeInfo hi]
  refine gen_neg (by
    rw [← hm, ← Int.natCast_mul]
    omega) ?_
  simp only [gen_p, Bool.not_true, Bool.false_eq_true, if_false, gen_b, hM]
  refine gen_neg (by omega) ?_
  simp only [gen_b, gen_typeInfo hi]
  refine gen_neg (by simp [IntKind.max, IntKind.signed, IntKind.bits]; omega) ?_
  simp only [gen_b, gen_typeInfo hi]
  have hcap2 : Builtin.nextslicecap (n + m) c * inf.bytes ≤ 2 ^ 48 := by
    have h1 := nextcap_le (need := n + m) (c := c) (by omega)
    have h2 : Builtin.nextslicecap (n + m) c * inf.bytes ≤ (2 * (n + m) + 200) * inf.bytes := Nat.mul_le_mul_right _ h1
    have h3 : (2 * (n + m) + 200) * inf.bytes = 2 * ((n + m) * inf.bytes) + 200 * inf.bytes := by rw [Nat.add_mul, Nat.mul_assoc]
    omega
  refine gen_neg (by omega) ?_
  simp only [gen_b, choose, gen]
  intro newCap hf1 hf2
  have hnc : n + m ≤ newCap := by
    obtain ⟨q, hq⟩ := hf2 rfl
    rw [hq]; exact appendCap_cut _ _ _ _
  have hask : ∀ (nb : Nat) (K' : Unit → Heap → Nat → Prop), K' () h t → gen P (askRoom nb) K' h t := by
    intro nb K' hk
    unfold askRoom
    split
    · simp only [mark, gen]; exact hk
    · exact hk
  simp only [gen_typeInfo hi]
  refine hask _ _ ?_
  refine sl_loadW ho.sl ?_
  have hcap : n ≤ c := Nat.le_of_mul_le_mul_right ho.cap hW
  have hfin : ∀ zs : Array Value, zs.size = m * W → gen P (do
      let rest := Builtin.zeroCells (← zeroValue E).cells (newCap - (n + m))
      pure (.slice (some (← newRow E (l.toArray ++ zs ++ rest))) (n + m) newCap)) K h t := by
    intro zs hzs
    rw [gen_b, gen_zero hi hz]
    simp only [gen_b, newRow, newObj, gen, gen_p]
    intro r hr
    have hrest : (Builtin.zeroCells z.cells (newCap - (n + m))).size = (newCap - (n + m)) * W := by simp [Builtin.zeroCells, hzc]
    have hlW : (n + m) * W + (newCap - (n + m)) * W = newCap * W := by rw [← Nat.add_mul]; congr 1; omega
    have hl12 : (l ++ zs.toList).length = (n + m) * W := by rw [List.length_append, ho.1, Array.length_toList, hzs, Nat.add_mul]
    refine hK2 _ newCap _ (r + 1) zs.toList (by simpa using hzs) ⟨hl12, .inr ⟨r, 0, _, (0, 0), rfl, Nat.mul_le_mul_right W hnc, hset_same _ _ _, ?_, fun i _ => by simp [fz], ?_⟩⟩ (by omega) (hdm.set r _ _ (by omega) (by omega)) ?_ ⟨r, rfl, hr⟩
    · rw [Array.size_append, Array.size_append, hrest, hzs, List.size_toArray, ho.1]
      rw [Nat.add_mul] at hlW
      omega
    · intro i hi2
      rw [Nat.zero_add, show l.toArray ++ zs = (l ++ zs.toList).toArray from by simp, Array.getElem?_append_left (by simpa using hi2)]
      rw [List.getElem?_toArray, List.getElem?_eq_getElem hi2]
      rfl
    · intro k hk
      exact hset_ne _ _ (by omega)
  by_cases h0 : m * W = 0
  · refine gen_pos h0 ?_
    rw [gen_p]
    simpa only [gen_b] using hfin #[] (by simp [h0])
  · refine gen_neg h0 ?_
    rw [gen_b, gen_zero hi hz, gen_p]
    simpa only [gen_b] using hfin (Builtin.zeroCells z.cells m) (by simp [Builtin.zeroCells, hzc])

/-- A function of the model's own. -/
theorem ext_intro {f : FuncId} {fn : Func} {e : Array Value → Sem Value} (hf : P.funcs[f]? = some fn) (hn : (fn.name == "runtime.NumGoroutine") = false) (hbo : fn.body.isNone = true) (h1 : (Extern.findNext fn).isNone = true) (h2 : Extern.find fn = some e)
    {args : Array Value} {h : Heap} {t : Nat} {K : Value → Heap → Nat → Prop} (hg : gen P (e args) K h t) : ExtVC P f args K h t := by
  refine ⟨?_⟩
  have h1' : Extern.findNext fn = none := by cases e : Extern.findNext fn with | none => rfl | some x => rw [e] at h1; cases h1
  unfold callFunc
  simp only [gen_b, program, gen, hf, hn, hbo, Bool.false_eq_true, if_false, if_true, mark, h1', h2, gen_p, nextK]
  exact hg
theorem callable_of {f : FuncId} {fn : Func} {c : Code} (hf : P.funcs[f]? = some fn) (hb : fn.body = some c) (hname : (fn.name == "runtime.NumGoroutine") = false) : Callable P f := by
  intro args w
  simp only [callFunc, Sem.run_bind, run_program, Result.andThen_ok, hf, hname, hb, Option.isNone, Bool.false_eq_true, if_false, Sem.run_pure]
theorem same_bridge {f : FuncId} {args : Array Value} {v : Value} {h : Heap} {t : Nat} (hc : Callable P f) (hk : ∀ w, Calls P f args w (fun e w' => e = .returned v ∧ w' = w)) : CallSpec P f args h t (fun v' h' t' => v' = v ∧ h' = h ∧ t' = t) := by
  refine ⟨hc, fun g w hr => (hk w).mono ?_⟩
  rintro _ w' ⟨rfl, rfl⟩
  exact ⟨_, _, _, rfl, hr, Nat.le_refl _, rfl, rfl, rfl⟩
end Go.Vc
