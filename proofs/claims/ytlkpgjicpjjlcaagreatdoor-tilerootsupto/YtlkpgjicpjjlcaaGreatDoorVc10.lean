import Derived.Test.YtlkpgjicpjjlcaaGreatDoorVc9
/- Slices whose elements take W cells each: their cells lie flat. -/
namespace Go.Vc
open Go
set_option maxRecDepth 10000
set_option linter.unusedVariables false
set_option linter.unusedSimpArgs false
variable {P : Program}

theorem sl_loadW {h : Heap} {a : Option Addr} {n W : Nat} {L : List Value} (s : Sl h a (n * W) id L) {t : Nat} {K : Array Value → Heap → Nat → Prop} {c : Nat} (hk : K L.toArray h t) :
    gen P (Builtin.firstCells W n (.slice a n c)) K h t := by
  have h1 : gen P (Builtin.firstCells 1 (n * W) (.slice a (n * W) (c * W))) K h t := sl_load s (by rw [List.map_id]; exact hk)
  cases a with
  | none => simpa only [Builtin.firstCells] using h1
  | some p => simpa only [Builtin.firstCells, Nat.mul_one] using h1

theorem app_bodyW {E : TypeId} {inf : TypeInfo} {z : Value} {W : Nat} (hW : 0 < W)
    (hi : P.info? E = some inf) (hz : inf.zero = some z) (hzc : z.cells.size = W) {h : Heap} {t : Nat} {a : Option Addr} {n c : Nat} {l l2 : List Value} {x : Value} {m : Nat}
    (ho : Own h E a (n * W) (c * W) id l) (hxl : l2.length = m * W) (hfc : ∀ (t : Nat) (K : Array Value → Heap → Nat → Prop), K l2.toArray h t → gen P (Builtin.firstCells W m x) K h t) (hf : ∀ y ∈ l2, oneC y = true) (hb : (n + m) * inf.bytes ≤ 2 ^ 40) (hb2 : n + m ≤ 2 ^ 40) (hb3 : inf.bytes ≤ 1000) (hdm : Dom h t) {K : Value → Heap → Nat → Prop}
    (hK : ∀ a' c' h' t', Own h' E a' ((n + m) * W) (c' * W) id (l ++ l2) → t ≤ t' → Dom h' t' → (∀ k, k < t → owner a ≠ some k → h' k = h k) → (owner a' = owner a ∨ ∃ r, owner a' = some r ∧ t ≤ r) → K (.slice a' (n + m) c') h' t') :
    gen P (if n + m ≤ c then do
        let new ← Builtin.firstCells W m x
        if let some a := a then storeCells (a.add (n * W)) new.toList
        pure (.slice a (n + m) c)
      else do
        if ((n + m : Nat) : Int) > IntKind.i64.max ∧ (False ∨ (← typeInfo E).bytes = 0) then runtimePanic (.error "growslice: len out of range")
        if Builtin.nextslicecap (n + m) c * (← typeInfo E).bytes > 2 ^ 48 then (do
          if !(← Builtin.mayShare W n m a x) then mark .noRoom
          unsupported (.resourceLimit "append: a slice or a string whose bytes no memory bears"))
        let newCap ← choose (.appendCap (n + m) c E)
        askRoom (newCap * (← typeInfo E).bytes)
        let old ← Builtin.firstCells W n (.slice a n c)
        let new ← Builtin.firstCells W m x
        let rest := Builtin.zeroCells (← zeroValue E).cells (newCap - (n + m))
        pure (.slice (some (← newRow E (old ++ new ++ rest))) (n + m) newCap)) K h t := by
  have hcap : n ≤ c := Nat.le_of_mul_le_mul_right ho.cap hW
  by_cases hle : n + m ≤ c
  · refine gen_pos hle ?_
    have hleW : n * W + m * W ≤ c * W := by rw [← Nat.add_mul]; exact Nat.mul_le_mul_right W hle
    rw [gen_b]
    refine hfc _ _ ?_
    rcases ho with ⟨hl, ⟨rfl, h1, h2⟩ | ⟨b, off, cs, fr, rfl, hn, hbk, hsz, hfz, hc⟩⟩
    · have hm0 : m * W = 0 := by omega
      have hl2 : l2 = [] := List.length_eq_zero_iff.1 (by rw [hxl]; exact hm0)
      simp only [gen_p]
      refine hK none c h t ⟨by rw [Nat.add_mul]; simp [hl, hl2, hm0], .inl ⟨rfl, by rw [Nat.add_mul]; omega, h2⟩⟩ (Nat.le_refl _) hdm (fun _ _ _ => rfl) (.inl rfl)
    · simp only [gen_b, gen_p, addr_add]
      generalize hN : n * W = N at *
      generalize hM : m * W = M at *
      generalize hC : c * W = C at *
      refine storeCells_gen (off + N) l2 0 cs h hbk (by omega) ?_ ?_ ?_
      · intro j hj
        have := hfz (N + j) (by omega)
        rw [show off + N + 0 + j = off + (N + j) from by omega]; exact this
      · intro u hu
        exact hf u hu
      · refine hK _ c _ t ⟨by rw [Nat.add_mul, hN, hM]; simp [hl, hxl], .inr ⟨b, off, _, fr, rfl, by rw [Nat.add_mul, hN, hM, hC]; exact hleW, hset_same _ _ _, by rw [hC]; simp [setR_length]; exact hsz, by rw [hC]; exact hfz, ?_⟩⟩ (Nat.le_refl _) ?_ ?_ (.inl rfl)
        · intro i hi
          have hi2 : i < N + M := by simp [hl, hxl] at hi; exact hi
          rw [List.getElem?_toArray, setR_get _ _ _ _ (by simp; omega)]
          by_cases hin : i < N
          · rw [if_neg (by omega), Array.getElem?_toList, hc i (by omega)]
            rw [List.getElem_append_left (by omega)]
          · rw [if_pos (by omega)]
            rw [show off + i - (off + N + 0) = i - N from by omega]
            rw [List.getElem_append_right (by omega)]
            have h3 : i - N < l2.length := by rw [hxl]; omega
            rw [List.getElem?_eq_getElem h3]
            simp [hl]
        · exact hdm.set b _ t (Nat.le_refl _) (hdm b _ hbk)
        · intro k hk hne
          exact hset_ne _ _ (fun e => hne (by rw [e]; rfl))
  · refine gen_neg hle ?_
    simp only [gen_b, gen_typeInfo hi]
    refine gen_neg (by simp [IntKind.max, IntKind.signed, IntKind.bits]; omega) ?_
    simp only [gen_b, gen_typeInfo hi]
    have hcap2 : Builtin.nextslicecap (n + m) c * inf.bytes ≤ 2 ^ 48 := by
      have h1 := nextcap_le (need := n + m) (c := c) (by omega)
      have h2 : Builtin.nextslicecap (n + m) c * inf.bytes ≤ (2 * (n + m) + 200) * inf.bytes := Nat.mul_le_mul_right _ h1
      have h3 : (2 * (n + m) + 200) * inf.bytes = 2 * ((n + m) * inf.bytes) + 200 * inf.bytes := by rw [Nat.add_mul, Nat.mul_assoc]
      omega
    refine gen_neg (by omega) ?_
    simp only [gen_b, choose, gen]
    intro newCap hf1 hf2
    have hnc : n + m ≤ newCap := by
      obtain ⟨q, hq⟩ := hf2 rfl
      rw [hq]; exact appendCap_cut _ _ _ _
    have hask : ∀ (nb : Nat) (K' : Unit → Heap → Nat → Prop), K' () h t → gen P (askRoom nb) K' h t := by
      intro nb K' hk
      unfold askRoom
      split
      · simp only [mark, gen]; exact hk
      · exact hk
    simp only [gen_typeInfo hi]
    refine hask _ _ ?_
    refine sl_loadW ho.sl ?_
    refine hfc _ _ ?_
    rw [gen_zero hi hz]
    simp only [gen_b, newRow, newObj, gen, gen_p]
    intro r hr
    have hrest : (Builtin.zeroCells z.cells (newCap - (n + m))).size = (newCap - (n + m)) * W := by simp [Builtin.zeroCells, hzc]
    have hlW : (n + m) * W + (newCap - (n + m)) * W = newCap * W := by rw [← Nat.add_mul]; congr 1; omega
    have hl12 : (l ++ l2).length = (n + m) * W := by rw [List.length_append, ho.1, hxl, Nat.add_mul]
    refine hK _ newCap _ (r + 1) ⟨hl12, .inr ⟨r, 0, _, (0, 0), rfl, Nat.mul_le_mul_right W hnc, hset_same _ _ _, ?_, fun i _ => by simp [fz], ?_⟩⟩ (by omega) (hdm.set r _ _ (by omega) (by omega)) ?_ (.inr ⟨r, rfl, hr⟩)
    · simp only [Array.size_append, hrest, List.size_toArray]
      rw [List.length_append] at hl12
      omega
    · intro i hi2
      rw [Nat.zero_add, show l.toArray ++ l2.toArray = (l ++ l2).toArray from by simp, Array.getElem?_append_left (by simpa using hi2)]
      rw [List.getElem?_toArray, List.getElem?_eq_getElem hi2]
      rfl
    · intro k hk _
      exact hset_ne _ _ (by omega)

theorem app_vcW {T U E ty : TypeId} {inf : TypeInfo} {z : Value} {d : TypeDesc} {W : Nat} (hT : P.underlying T = some (.slice E)) (hU : P.underlying U = some d) (hd : notInt d = true)
    (hi : P.info? E = some inf) (hs : inf.size = W) (hW : 0 < W) (hz : inf.zero = some z) (hzc : z.cells.size = W) {h : Heap} {t : Nat} {a : Option Addr} {n c : Nat} {l l2 : List Value} {xa : Option Addr} {xc m : Nat}
    (ho : Own h E a (n * W) (c * W) id l) (hx : Sl h xa (m * W) id l2) (hf : l2.all oneC = true) (hb : (n + m) * inf.bytes ≤ 2 ^ 40) (hb2 : n + m ≤ 2 ^ 40) (hb3 : inf.bytes ≤ 1000) (hdm : Dom h t) {K : Value → Heap → Nat → Prop}
    (hK : ∀ a' c' h' t', Own h' E a' ((n + m) * W) (c' * W) id (l ++ l2) → t ≤ t' → Dom h' t' → (∀ k, k < t → owner a ≠ some k → h' k = h k) → (owner a' = owner a ∨ ∃ r, owner a' = some r ∧ t ≤ r) → K (.slice a' (n + m) c') h' t') :
    AppVC P #[T, U] ty (.slice a n c) (.slice xa m xc) K h t := by
  subst hs
  refine ⟨?_⟩
  unfold Builtin.append_
  simp only [List.getElem?_toArray, List.getElem?_cons_zero, List.getElem?_cons_succ, gen_b, gen_underlying hT, gen_sizeOf hi, gen_underlying hU, gen_p]
  cases d
  case int => cases hd
  all_goals
    simp only [Bool.false_eq_true, if_false, Builtin.lenOf, gen_p, gen_b, Bool.not_false, if_true]
    exact app_bodyW hW hi hz hzc ho hx.1 (fun _ _ hk => sl_loadW hx hk) (fun y hy => List.all_eq_true.1 hf y hy) hb hb2 hb3 hdm hK
/-- An element of two cells. -/
def two {α : Type} (f g : α → Value) (x : α) : List Value := [f x, g x]
theorem two_len {α : Type} {f g : α → Value} (w : List α) : (w.flatMap (two f g)).length = w.length * 2 := by
  induction w with
  | nil => rfl
  | cons p w ih => rw [List.flatMap_cons, List.length_append, ih, List.length_cons]; show 2 + _ = _; omega
theorem two_get {α : Type} {f g : α → Value} {p : α} : ∀ {w : List α} {k : Nat}, w[k]? = some p → (w.flatMap (two f g))[k * 2]? = some (f p) ∧ (w.flatMap (two f g))[k * 2 + 1]? = some (g p)
  | [], k, h => by simp at h
  | q :: w, 0, h => by simp at h; subst h; exact ⟨rfl, rfl⟩
  | q :: w, k + 1, h => by
    have := two_get (f := f) (g := g) (w := w) (k := k) (by simpa using h)
    rw [show (k + 1) * 2 = k * 2 + 1 + 1 from by omega]
    exact this
theorem sl2_ix {α : Type} {h : Heap} {a : Option Addr} {n : Nat} {f g : α → Value} {w : List α} {i : Int} {Q : Nat → Nat → Prop} (s : Sl h a (n * 2) id (w.flatMap (two f g))) (h0 : 0 ≤ i ∧ i < n)
    (hk : ∀ x b off, w[i.toNat]? = some x → Cell h ⟨b, off + i.toNat * 2, none⟩ (f x) → Cell h ⟨b, off + i.toNat * 2 + 1, none⟩ (g x) → Q b off) : (0 ≤ i ∧ i < n) ∧ ∃ b off, a = some ⟨b, off, none⟩ ∧ Q b off := by
  obtain ⟨hl, hs⟩ := s
  rw [two_len] at hl
  obtain ⟨b, off, cs, T, fr, ha, hb, hc⟩ := hs (by omega)
  have hi : i.toNat < w.length := by omega
  obtain ⟨g1, g2⟩ := two_get (f := f) (g := g) (List.getElem?_eq_getElem hi)
  have l1 : i.toNat * 2 < (w.flatMap (two f g)).length := by rw [two_len]; omega
  have l2 : i.toNat * 2 + 1 < (w.flatMap (two f g)).length := by rw [two_len]; omega
  refine ⟨h0, b, off, ha, hk _ b off (List.getElem?_eq_getElem hi) ⟨cs, T, fr, hb, rfl, ?_⟩ ⟨cs, T, fr, hb, rfl, ?_⟩⟩
  · show cs[off + i.toNat * 2]? = _
    rw [hc _ l1]; exact (List.getElem?_eq_getElem l1).symm.trans g1
  · show cs[off + i.toNat * 2 + 1]? = _
    rw [Nat.add_assoc, hc _ l2]; exact (List.getElem?_eq_getElem l2).symm.trans g2
theorem vl_sl {h : Heap} {b n : Nat} {L : List Value} {T : TypeId} {fr : Nat × Nat} (hb : h b = some (.cells L.toArray T fr)) (hn : L.length = n) : Sl h (some ⟨b, 0, none⟩) n id L :=
  ⟨hn, fun _ => ⟨b, 0, _, T, fr, rfl, hb, fun i hi => by simp [hi]⟩⟩
theorem Own.at {α : Type} {h : Heap} {E : TypeId} {a : Option Addr} {n c : Nat} {f : α → Value} {l : List α} (o : Own h E a n c f l) (hn : 0 < n) : ∃ b off, a = some ⟨b, off, none⟩ := by
  rcases o.2 with ⟨_, h1, _⟩ | ⟨b, off, _, _, ha, _⟩
  · omega
  · exact ⟨b, off, ha⟩
theorem Own.cell {α : Type} {h : Heap} {E : TypeId} {b off : Nat} {n c j : Nat} {f : α → Value} {l : List α} {x : α} (o : Own h E (some ⟨b, off, none⟩) n c f l) (hx : l[j]? = some x) : Cell h ⟨b, off + j * 1, none⟩ (f x) := by
  rcases o with ⟨hl, ⟨h1, _⟩ | ⟨b', off', cs, fr, ha, hn, hb, hsz, hfz, hc⟩⟩
  · cases h1
  · cases ha
    obtain ⟨hj, rfl⟩ := List.getElem?_eq_some_iff.1 hx
    exact ⟨cs, E, fr, hb, rfl, by show cs[off + j * 1]? = _; rw [Nat.mul_one]; exact hc j hj⟩
theorem Own.put {α : Type} {h : Heap} {E : TypeId} {b off : Nat} {n c j : Nat} {f : α → Value} {l : List α} (o : Own h E (some ⟨b, off, none⟩) n c f l) (hj : j < n) (x : α) :
    ∃ cs fr, h b = some (.cells cs E fr) ∧ off + j * 1 < cs.size ∧ fz fr (off + j * 1) = false ∧ Own (hset h b (.cells (cs.setIfInBounds (off + j * 1) (f x)) E fr)) E (some ⟨b, off, none⟩) n c f (l.set j x) := by
  rcases o with ⟨hl, ⟨h1, _⟩ | ⟨b', off', cs, fr, ha, hn, hb, hsz, hfz, hc⟩⟩
  · cases h1
  · cases ha
    refine ⟨cs, fr, hb, by omega, by rw [Nat.mul_one]; exact hfz j (by omega), by rw [List.length_set]; exact hl, .inr ⟨b, off, _, fr, rfl, hn, hset_same _ _ _, by simp; exact hsz, hfz, ?_⟩⟩
    intro i hi
    rw [List.length_set] at hi
    rw [Nat.mul_one, Array.getElem?_setIfInBounds]
    by_cases e : j = i
    · subst e
      rw [if_pos rfl, if_pos (by omega), List.getElem_set_self]
    · rw [if_neg (by omega), List.getElem_set_ne e]
      exact hc i hi
theorem shr_u64 {x y : Int} {Q : Int → Prop} (h : 0 ≤ x ∧ x ≤ 18446744073709551615) (hk : ∀ z, z = x / 2 ^ y.toNat → 0 ≤ z → z ≤ x → Q z) : ∃ z, z = shrV .u64 x y ∧ Q z := shr_i ⟨h.1, by show x < 18446744073709551616; omega⟩ hk
theorem one_shl {y : Int} {Q : Int → Prop} (h : 0 ≤ y ∧ y ≤ 61) (hk : ∀ z : Nat, z = 2 ^ y.toNat → 1 ≤ z → z ≤ 2305843009213693952 → Q (z : Int)) : ∃ z, z = shlV .i64 1 y ∧ Q z := by
  have h1 : 2 ^ y.toNat ≤ 2 ^ 61 := Nat.pow_le_pow_right (by decide) (by omega)
  have h2 : 1 ≤ 2 ^ y.toNat := Nat.pow_pos (by decide)
  have h3 : (2 : Nat) ^ 61 = 2305843009213693952 := by decide
  refine ⟨((2 ^ y.toNat : Nat) : Int), ?_, hk _ rfl h2 (by omega)⟩
  unfold shlV
  rw [show min y.toNat IntKind.i64.bits = y.toNat from Nat.min_eq_left (by show y.toNat ≤ 64; omega), Int.one_mul]
  have e : (2 : Int) ^ y.toNat = ((2 ^ y.toNat : Nat) : Int) := by rw [Int.natCast_pow]; rfl
  rw [e, wi (by omega) (by omega)]
def lenN (x : Nat) : Nat := if x = 0 then 0 else Nat.log2 x + 1
def tabOk (s : ByteArray) : Bool := s.size == 256 && (List.range 256).all fun v => (s.data.getD v 0).toNat == lenN v
theorem tab_ix {s : ByteArray} {v : Nat} (hs : tabOk s = true) (hv : v < 256) : byteAt s v = ((lenN v : Nat) : Int) := by
  unfold tabOk at hs
  rw [Bool.and_eq_true, List.all_eq_true] at hs
  have := hs.2 v (List.mem_range.2 hv)
  unfold byteAt
  rw [eq_of_beq this]
theorem tab_size {s : ByteArray} (hs : tabOk s = true) : s.size = 256 := by
  unfold tabOk at hs
  rw [Bool.and_eq_true] at hs
  exact eq_of_beq hs.1
def loopR7 {α0 α1 α2 α3 α4 α5 α6 : Type} (L : α0 → α1 → α2 → α3 → α4 → α5 → α6 → List (Nat × Value)) (H : α0 → α1 → α2 → α3 → α4 → α5 → α6 → Heap → Nat → Prop) (μ : α0 → α1 → α2 → α3 → α4 → α5 → α6 → Nat) : Nat → Env → Heap → Nat → Prop :=
  loopR (α := α0 × α1 × α2 × α3 × α4 × α5 × α6) (fun s => L s.1 s.2.1 s.2.2.1 s.2.2.2.1 s.2.2.2.2.1 s.2.2.2.2.2.1 s.2.2.2.2.2.2) (fun s => H s.1 s.2.1 s.2.2.1 s.2.2.2.1 s.2.2.2.2.1 s.2.2.2.2.2.1 s.2.2.2.2.2.2) (fun s => μ s.1 s.2.1 s.2.2.1 s.2.2.2.1 s.2.2.2.2.1 s.2.2.2.2.2.1 s.2.2.2.2.2.2)
theorem loop_intro7 {α0 α1 α2 α3 α4 α5 α6 : Type} (L : α0 → α1 → α2 → α3 → α4 → α5 → α6 → List (Nat × Value)) (H : α0 → α1 → α2 → α3 → α4 → α5 → α6 → Heap → Nat → Prop) (μ : α0 → α1 → α2 → α3 → α4 → α5 → α6 → Nat) {X : Post → Env → Heap → Nat → Prop} {Q : Post} {e : Env} {h : Heap} {t : Nat} (x0 : α0) (x1 : α1) (x2 : α2) (x3 : α3) (x4 : α4) (x5 : α5) (x6 : α6)
    (h0 : Has e (L x0 x1 x2 x3 x4 x5 x6)) (hH : H x0 x1 x2 x3 x4 x5 x6 h t) (round : ∀ x0 x1 x2 x3 x4 x5 x6 g h t, Dom h t → H x0 x1 x2 x3 x4 x5 x6 h t → X (loopK (loopR7 L H μ) (μ x0 x1 x2 x3 x4 x5 x6) Q) (setL g (L x0 x1 x2 x3 x4 x5 x6)) h t) :
    ∃ R : Nat → Env → Heap → Nat → Prop, (∃ m, R m e h t) ∧ ∀ m e h t, Dom h t → R m e h t → X (loopK R m Q) e h t :=
  loop_intro (α := α0 × α1 × α2 × α3 × α4 × α5 × α6) (fun s => L s.1 s.2.1 s.2.2.1 s.2.2.2.1 s.2.2.2.2.1 s.2.2.2.2.2.1 s.2.2.2.2.2.2) (fun s => H s.1 s.2.1 s.2.2.1 s.2.2.2.1 s.2.2.2.2.1 s.2.2.2.2.2.1 s.2.2.2.2.2.2) (fun s => μ s.1 s.2.1 s.2.2.1 s.2.2.2.1 s.2.2.2.2.1 s.2.2.2.2.2.1 s.2.2.2.2.2.2) (x0, x1, x2, x3, x4, x5, x6) h0 hH (fun s g h t hd hH => round (s.1) (s.2.1) (s.2.2.1) (s.2.2.2.1) (s.2.2.2.2.1) (s.2.2.2.2.2.1) (s.2.2.2.2.2.2) g h t hd hH)
theorem round_end7 {α0 α1 α2 α3 α4 α5 α6 : Type} {L : α0 → α1 → α2 → α3 → α4 → α5 → α6 → List (Nat × Value)} {H : α0 → α1 → α2 → α3 → α4 → α5 → α6 → Heap → Nat → Prop} {μ : α0 → α1 → α2 → α3 → α4 → α5 → α6 → Nat} {m : Nat} {e : Env} {h : Heap} {t : Nat} (x0 : α0) (x1 : α1) (x2 : α2) (x3 : α3) (x4 : α4) (x5 : α5) (x6 : α6) (hm : μ x0 x1 x2 x3 x4 x5 x6 < m) (hL : Has e (L x0 x1 x2 x3 x4 x5 x6)) (hH : H x0 x1 x2 x3 x4 x5 x6 h t) :
    ∃ m', m' < m ∧ loopR7 L H μ m' e h t := ⟨_, hm, (x0, x1, x2, x3, x4, x5, x6), rfl, hL, hH⟩
def loopR8 {α0 α1 α2 α3 α4 α5 α6 α7 : Type} (L : α0 → α1 → α2 → α3 → α4 → α5 → α6 → α7 → List (Nat × Value)) (H : α0 → α1 → α2 → α3 → α4 → α5 → α6 → α7 → Heap → Nat → Prop) (μ : α0 → α1 → α2 → α3 → α4 → α5 → α6 → α7 → Nat) : Nat → Env → Heap → Nat → Prop :=
  loopR (α := α0 × α1 × α2 × α3 × α4 × α5 × α6 × α7) (fun s => L s.1 s.2.1 s.2.2.1 s.2.2.2.1 s.2.2.2.2.1 s.2.2.2.2.2.1 s.2.2.2.2.2.2.1 s.2.2.2.2.2.2.2) (fun s => H s.1 s.2.1 s.2.2.1 s.2.2.2.1 s.2.2.2.2.1 s.2.2.2.2.2.1 s.2.2.2.2.2.2.1 s.2.2.2.2.2.2.2) (fun s => μ s.1 s.2.1 s.2.2.1 s.2.2.2.1 s.2.2.2.2.1 s.2.2.2.2.2.1 s.2.2.2.2.2.2.1 s.2.2.2.2.2.2.2)
theorem loop_intro8 {α0 α1 α2 α3 α4 α5 α6 α7 : Type} (L : α0 → α1 → α2 → α3 → α4 → α5 → α6 → α7 → List (Nat × Value)) (H : α0 → α1 → α2 → α3 → α4 → α5 → α6 → α7 → Heap → Nat → Prop) (μ : α0 → α1 → α2 → α3 → α4 → α5 → α6 → α7 → Nat) {X : Post → Env → Heap → Nat → Prop} {Q : Post} {e : Env} {h : Heap} {t : Nat} (x0 : α0) (x1 : α1) (x2 : α2) (x3 : α3) (x4 : α4) (x5 : α5) (x6 : α6) (x7 : α7)
    (h0 : Has e (L x0 x1 x2 x3 x4 x5 x6 x7)) (hH : H x0 x1 x2 x3 x4 x5 x6 x7 h t) (round : ∀ x0 x1 x2 x3 x4 x5 x6 x7 g h t, Dom h t → H x0 x1 x2 x3 x4 x5 x6 x7 h t → X (loopK (loopR8 L H μ) (μ x0 x1 x2 x3 x4 x5 x6 x7) Q) (setL g (L x0 x1 x2 x3 x4 x5 x6 x7)) h t) :
    ∃ R : Nat → Env → Heap → Nat → Prop, (∃ m, R m e h t) ∧ ∀ m e h t, Dom h t → R m e h t → X (loopK R m Q) e h t :=
  loop_intro (α := α0 × α1 × α2 × α3 × α4 × α5 × α6 × α7) (fun s => L s.1 s.2.1 s.2.2.1 s.2.2.2.1 s.2.2.2.2.1 s.2.2.2.2.2.1 s.2.2.2.2.2.2.1 s.2.2.2.2.2.2.2) (fun s => H s.1 s.2.1 s.2.2.1 s.2.2.2.1 s.2.2.2.2.1 s.2.2.2.2.2.1 s.2.2.2.2.2.2.1 s.2.2.2.2.2.2.2) (fun s => μ s.1 s.2.1 s.2.2.1 s.2.2.2.1 s.2.2.2.2.1 s.2.2.2.2.2.1 s.2.2.2.2.2.2.1 s.2.2.2.2.2.2.2) (x0, x1, x2, x3, x4, x5, x6, x7) h0 hH (fun s g h t hd hH => round (s.1) (s.2.1) (s.2.2.1) (s.2.2.2.1) (s.2.2.2.2.1) (s.2.2.2.2.2.1) (s.2.2.2.2.2.2.1) (s.2.2.2.2.2.2.2) g h t hd hH)
theorem round_end8 {α0 α1 α2 α3 α4 α5 α6 α7 : Type} {L : α0 → α1 → α2 → α3 → α4 → α5 → α6 → α7 → List (Nat × Value)} {H : α0 → α1 → α2 → α3 → α4 → α5 → α6 → α7 → Heap → Nat → Prop} {μ : α0 → α1 → α2 → α3 → α4 → α5 → α6 → α7 → Nat} {m : Nat} {e : Env} {h : Heap} {t : Nat} (x0 : α0) (x1 : α1) (x2 : α2) (x3 : α3) (x4 : α4) (x5 : α5) (x6 : α6) (x7 : α7) (hm : μ x0 x1 x2 x3 x4 x5 x6 x7 < m) (hL : Has e (L x0 x1 x2 x3 x4 x5 x6 x7)) (hH : H x0 x1 x2 x3 x4 x5 x6 x7 h t) :
    ∃ m', m' < m ∧ loopR8 L H μ m' e h t := ⟨_, hm, (x0, x1, x2, x3, x4, x5, x6, x7), rfl, hL, hH⟩
def loopR9 {α0 α1 α2 α3 α4 α5 α6 α7 α8 : Type} (L : α0 → α1 → α2 → α3 → α4 → α5 → α6 → α7 → α8 → List (Nat × Value)) (H : α0 → α1 → α2 → α3 → α4 → α5 → α6 → α7 → α8 → Heap → Nat → Prop) (μ : α0 → α1 → α2 → α3 → α4 → α5 → α6 → α7 → α8 → Nat) : Nat → Env → Heap → Nat → Prop :=
  loopR (α := α0 × α1 × α2 × α3 × α4 × α5 × α6 × α7 × α8) (fun s => L s.1 s.2.1 s.2.2.1 s.2.2.2.1 s.2.2.2.2.1 s.2.2.2.2.2.1 s.2.2.2.2.2.2.1 s.2.2.2.2.2.2.2.1 s.2.2.2.2.2.2.2.2) (fun s => H s.1 s.2.1 s.2.2.1 s.2.2.2.1 s.2.2.2.2.1 s.2.2.2.2.2.1 s.2.2.2.2.2.2.1 s.2.2.2.2.2.2.2.1 s.2.2.2.2.2.2.2.2) (fun s => μ s.1 s.2.1 s.2.2.1 s.2.2.2.1 s.2.2.2.2.1 s.2.2.2.2.2.1 s.2.2.2.2.2.2.1 s.2.2.2.2.2.2.2.1 s.2.2.2.2.2.2.2.2)
theorem loop_intro9 {α0 α1 α2 α3 α4 α5 α6 α7 α8 : Type} (L : α0 → α1 → α2 → α3 → α4 → α5 → α6 → α7 → α8 → List (Nat × Value)) (H : α0 → α1 → α2 → α3 → α4 → α5 → α6 → α7 → α8 → Heap → Nat → Prop) (μ : α0 → α1 → α2 → α3 → α4 → α5 → α6 → α7 → α8 → Nat) {X : Post → Env → Heap → Nat → Prop} {Q : Post} {e : Env} {h : Heap} {t : Nat} (x0 : α0) (x1 : α1) (x2 : α2) (x3 : α3) (x4 : α4) (x5 : α5) (x6 : α6) (x7 : α7) (x8 : α8)
    (h0 : Has e (L x0 x1 x2 x3 x4 x5 x6 x7 x8)) (hH : H x0 x1 x2 x3 x4 x5 x6 x7 x8 h t) (round : ∀ x0 x1 x2 x3 x4 x5 x6 x7 x8 g h t, Dom h t → H x0 x1 x2 x3 x4 x5 x6 x7 x8 h t → X (loopK (loopR9 L H μ) (μ x0 x1 x2 x3 x4 x5 x6 x7 x8) Q) (setL g (L x0 x1 x2 x3 x4 x5 x6 x7 x8)) h t) :
    ∃ R : Nat → Env → Heap → Nat → Prop, (∃ m, R m e h t) ∧ ∀ m e h t, Dom h t → R m e h t → X (loopK R m Q) e h t :=
  loop_intro (α := α0 × α1 × α2 × α3 × α4 × α5 × α6 × α7 × α8) (fun s => L s.1 s.2.1 s.2.2.1 s.2.2.2.1 s.2.2.2.2.1 s.2.2.2.2.2.1 s.2.2.2.2.2.2.1 s.2.2.2.2.2.2.2.1 s.2.2.2.2.2.2.2.2) (fun s => H s.1 s.2.1 s.2.2.1 s.2.2.2.1 s.2.2.2.2.1 s.2.2.2.2.2.1 s.2.2.2.2.2.2.1 s.2.2.2.2.2.2.2.1 s.2.2.2.2.2.2.2.2) (fun s => μ s.1 s.2.1 s.2.2.1 s.2.2.2.1 s.2.2.2.2.1 s.2.2.2.2.2.1 s.2.2.2.2.2.2.1 s.2.2.2.2.2.2.2.1 s.2.2.2.2.2.2.2.2) (x0, x1, x2, x3, x4, x5, x6, x7, x8) h0 hH (fun s g h t hd hH => round (s.1) (s.2.1) (s.2.2.1) (s.2.2.2.1) (s.2.2.2.2.1) (s.2.2.2.2.2.1) (s.2.2.2.2.2.2.1) (s.2.2.2.2.2.2.2.1) (s.2.2.2.2.2.2.2.2) g h t hd hH)
theorem round_end9 {α0 α1 α2 α3 α4 α5 α6 α7 α8 : Type} {L : α0 → α1 → α2 → α3 → α4 → α5 → α6 → α7 → α8 → List (Nat × Value)} {H : α0 → α1 → α2 → α3 → α4 → α5 → α6 → α7 → α8 → Heap → Nat → Prop} {μ : α0 → α1 → α2 → α3 → α4 → α5 → α6 → α7 → α8 → Nat} {m : Nat} {e : Env} {h : Heap} {t : Nat} (x0 : α0) (x1 : α1) (x2 : α2) (x3 : α3) (x4 : α4) (x5 : α5) (x6 : α6) (x7 : α7) (x8 : α8) (hm : μ x0 x1 x2 x3 x4 x5 x6 x7 x8 < m) (hL : Has e (L x0 x1 x2 x3 x4 x5 x6 x7 x8)) (hH : H x0 x1 x2 x3 x4 x5 x6 x7 x8 h t) :
    ∃ m', m' < m ∧ loopR9 L H μ m' e h t := ⟨_, hm, (x0, x1, x2, x3, x4, x5, x6, x7, x8), rfl, hL, hH⟩
end Go.Vc
