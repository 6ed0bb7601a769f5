import Derived.Test.YtlkpgjicpjjlcaaGreatDoorVc4
/- The words of the proofs: loops, slices, maps, integers. -/
namespace Go.Vc
open Go
/-! ### loops, slices, maps: the words of the proofs -/
variable {P : Program}

def setL (g : Env) : List (Nat × Value) → Env
  | [] => g
  | (d, v) :: r => upd (setL g r) d v
def Has (e : Env) : List (Nat × Value) → Prop
  | [] => True
  | (d, v) :: r => e d = v ∧ Has e r
theorem setL_has {e : Env} : ∀ {L : List (Nat × Value)}, Has e L → setL e L = e := by
  intro L
  induction L with
  | nil => intro _; rfl
  | cons p r ih =>
    obtain ⟨d, v⟩ := p
    intro h
    simp only [setL]
    rw [ih h.2]
    exact upd_eq_self h.1

def loopR {α : Type} (L : α → List (Nat × Value)) (H : α → Heap → Nat → Prop) (μ : α → Nat) : Nat → Env → Heap → Nat → Prop :=
  fun m e h t => ∃ x, μ x = m ∧ Has e (L x) ∧ H x h t

theorem loop_intro {α : Type} (L : α → List (Nat × Value)) (H : α → Heap → Nat → Prop) (μ : α → Nat) {X : Post → Env → Heap → Nat → Prop} {Q : Post} {e : Env} {h : Heap} {t : Nat} (x0 : α)
    (h0 : Has e (L x0)) (hH : H x0 h t) (round : ∀ x g h t, Dom h t → H x h t → X (loopK (loopR L H μ) (μ x) Q) (setL g (L x)) h t) :
    ∃ R : Nat → Env → Heap → Nat → Prop, (∃ m, R m e h t) ∧ ∀ m e h t, Dom h t → R m e h t → X (loopK R m Q) e h t := by
  refine ⟨loopR L H μ, ⟨_, x0, rfl, h0, hH⟩, ?_⟩
  rintro m e h t hd ⟨x, rfl, hL, hH⟩
  have := round x e h t hd hH
  rw [setL_has hL] at this
  exact this

theorem round_end {α : Type} {L : α → List (Nat × Value)} {H : α → Heap → Nat → Prop} {μ : α → Nat} {m : Nat} {e : Env} {h : Heap} {t : Nat} (y : α) (hm : μ y < m) (hL : Has e (L y)) (hH : H y h t) :
    ∃ m', m' < m ∧ loopR L H μ m' e h t := ⟨_, hm, y, rfl, hL, hH⟩

theorem wi {x : Int} (h : -9223372036854775808 ≤ x) (h' : x ≤ 9223372036854775807) : IntKind.i64.wrap x = x := by
  simp [IntKind.wrap, IntKind.signed, IntKind.bits]; omega
theorem wi_congr {x y : Int} (h : -9223372036854775808 ≤ x) (h' : x ≤ 9223372036854775807) (e : x = y) : Value.int .i64 (IntKind.i64.wrap x) = Value.int .i64 y := by
  rw [wi h h', e]

theorem lt_of_blt {a b : Nat} (h : Nat.blt a b = true) : a < b := Nat.blt_eq ▸ h

theorem Dom.ne {h : Heap} {t : Nat} (hd : Dom h t) {b r : Nat} {o : Obj} (hb : h b = some o) (hr : t ≤ r) : b ≠ r := by
  have := hd b o hb; omega
theorem Dom.set {h : Heap} {t : Nat} (hd : Dom h t) (r : Nat) (o : Obj) (t' : Nat) (ht : t ≤ t') (hr : r < t') : Dom (hset h r o) t' := by
  intro b x hx
  unfold hset at hx
  split at hx
  · subst_vars; exact hr
  · exact Nat.lt_of_lt_of_le (hd b x hx) ht
theorem Dom.sub_new {h : Heap} {t : Nat} (hd : Dom h t) {r : Nat} (hr : t ≤ r) (o : Obj) : Sub h (hset h r o) := by
  intro b x hx
  rw [hset_ne _ _ (hd.ne hx hr)]; exact hx
theorem hset_hset (h : Heap) (b : Nat) (o o' : Obj) : hset (hset h b o) b o' = hset h b o' := by
  funext k; unfold hset; split <;> rfl

/-- 'forget what was made besides': the contract's heap may be any part of what is known. -/
theorem CallSpec.part {f : FuncId} {args : Array Value} {h : Heap} {t : Nat} {K : Value → Heap → Nat → Prop} (s : CallSpec P f args h t (fun v h' t' => ∃ h'', Sub h'' h' ∧ K v h'' t')) : CallSpec P f args h t K := by
  refine ⟨s.callable, fun g w hr => (s.runs g w hr).mono ?_⟩
  rintro _ w' ⟨v, h', t', e, r, ht, h'', hs, k⟩
  exact ⟨v, h'', t', e, ⟨r.os, r.tape, r.output, fun b o hb => r.blk b o (hs b o hb), fun b o hb => r.dom b o (hs b o hb), r.top⟩, ht, k⟩

/-- All that is known but one block. -/
def hdel (h : Heap) (b : Nat) : Heap := fun k => if k = b then none else h k
theorem hdel_ne {h : Heap} {b k : Nat} (hk : k ≠ b) {o : Obj} (ho : h k = some o) : hdel h b k = some o := by unfold hdel; rw [if_neg hk]; exact ho
theorem sub_del (h : Heap) (b : Nat) : Sub (hdel h b) h := by
  intro k o hk
  unfold hdel at hk
  split at hk
  · cases hk
  · exact hk
theorem sub_del_set (h : Heap) (b : Nat) (o : Obj) : Sub (hdel h b) (hset h b o) := by
  intro k x hk
  unfold hdel at hk
  split at hk
  · cases hk
  · rename_i hne; rw [hset_ne _ _ hne]; exact hk
theorem sub_none (h : Heap) : Sub (fun _ => none) h := fun _ _ hk => nomatch hk

theorem CallSpec.args_eq {f : FuncId} {a a' : Array Value} {h : Heap} {t : Nat} {K : Value → Heap → Nat → Prop} (e : a = a') (s : CallSpec P f a h t K) : CallSpec P f a' h t K := e ▸ s

/-! #### slices of one cell an element -/
/-- The slice reads as l. -/
def Sl {α : Type} (h : Heap) (a : Option Addr) (n : Nat) (f : α → Value) (l : List α) : Prop :=
  l.length = n ∧ (0 < n → ∃ b off cs T fr, a = some ⟨b, off, none⟩ ∧ h b = some (.cells cs T fr) ∧ ∀ i (hi : i < l.length), cs[off + i]? = some (f l[i]))

theorem Sl.nil {α : Type} (h : Heap) (a : Option Addr) (f : α → Value) : Sl h a 0 f [] := ⟨rfl, fun h => absurd h (by omega)⟩
theorem Sl.at {α : Type} {h : Heap} {a : Option Addr} {n : Nat} {f : α → Value} {l : List α} (s : Sl h a n f l) (d : α) {i : Int} (h0 : 0 ≤ i) (h1 : i < n) :
    ∃ b off, a = some ⟨b, off, none⟩ ∧ Cell h ⟨b, off + i.toNat * 1, none⟩ (f (l.getD i.toNat d)) := by
  obtain ⟨hl, hs⟩ := s
  obtain ⟨b, off, cs, T, fr, ha, hb, hc⟩ := hs (by omega)
  have hi : i.toNat < l.length := by omega
  refine ⟨b, off, ha, cs, T, fr, hb, rfl, ?_⟩
  have := hc i.toNat hi
  rw [Nat.mul_one]
  rw [show l.getD i.toNat d = l[i.toNat] from by simp [List.getD_eq_getElem?_getD, hi]]
  exact this
theorem Sl.sub {α : Type} {h h' : Heap} {a : Option Addr} {n : Nat} {f : α → Value} {l : List α} (s : Sl h a n f l) (hs : Sub h h') : Sl h' a n f l :=
  ⟨s.1, fun hn => let ⟨b, off, cs, T, fr, ha, hb, hc⟩ := s.2 hn; ⟨b, off, cs, T, fr, ha, hs b _ hb, hc⟩⟩
theorem Sl.take {α : Type} {h : Heap} {a : Option Addr} {n : Nat} {f : α → Value} {l : List α} (s : Sl h a n f l) {m : Nat} (hm : m ≤ n) : Sl h a m f (l.take m) := by
  refine ⟨by simp [s.1, hm], fun h0 => ?_⟩
  obtain ⟨b, off, cs, T, fr, ha, hb, hc⟩ := s.2 (by omega)
  refine ⟨b, off, cs, T, fr, ha, hb, fun i hi => ?_⟩
  simp at hi
  rw [hc i (by omega)]; simp
theorem Sl.drop {α : Type} {h : Heap} {a : Option Addr} {n : Nat} {f : α → Value} {l : List α} (s : Sl h a n f l) {m c : Nat} (hm : m ≤ n) (hc : n ≤ c) {a' : Option Addr} (ha' : a' = cutA a m 1 c) : Sl h a' (n - m) f (l.drop m) := by
  refine ⟨by simp [s.1], fun h0 => ?_⟩
  obtain ⟨b, off, cs, T, fr, ha, hb, hcs⟩ := s.2 (by omega)
  refine ⟨b, off + m, cs, T, fr, ?_, hb, fun i hi => ?_⟩
  · rw [ha', ha]; unfold cutA; rw [if_neg (by omega), Option.map_some, addr_add, Nat.mul_one]
  · simp at hi
    have := hcs (m + i) (by omega)
    rw [show off + m + i = off + (m + i) from by omega, this]; simp

/-- A slice of the call's own: it may be appended to and written. -/
def Own {α : Type} (h : Heap) (E : TypeId) (a : Option Addr) (n c : Nat) (f : α → Value) (l : List α) : Prop :=
  l.length = n ∧ ((a = none ∧ n = 0 ∧ c = 0) ∨ ∃ b off cs fr, a = some ⟨b, off, none⟩ ∧ n ≤ c ∧ h b = some (.cells cs E fr) ∧ off + c ≤ cs.size ∧ (∀ i, i < c → fz fr (off + i) = false) ∧ ∀ i (hi : i < l.length), cs[off + i]? = some (f l[i]))
def owner (a : Option Addr) : Option Nat := a.map (·.block)

theorem Own.nil {α : Type} (h : Heap) (E : TypeId) (f : α → Value) : Own h E none 0 0 f [] := ⟨rfl, .inl ⟨rfl, rfl, rfl⟩⟩
theorem Own.sl {α : Type} {h : Heap} {E : TypeId} {a : Option Addr} {n c : Nat} {f : α → Value} {l : List α} (o : Own h E a n c f l) : Sl h a n f l := by
  obtain ⟨hl, ho⟩ := o
  refine ⟨hl, fun h0 => ?_⟩
  rcases ho with ⟨_, h1, _⟩ | ⟨b, off, cs, fr, ha, hn, hb, _, _, hc⟩
  · omega
  · exact ⟨b, off, cs, E, fr, ha, hb, hc⟩
theorem Own.cap {α : Type} {h : Heap} {E : TypeId} {a : Option Addr} {n c : Nat} {f : α → Value} {l : List α} (o : Own h E a n c f l) : n ≤ c := by
  rcases o.2 with ⟨_, h1, h2⟩ | ⟨_, _, _, _, _, h, _⟩ <;> omega
/-- Untouched while another block is written. -/
theorem Own.keep {α : Type} {h h' : Heap} {E : TypeId} {a : Option Addr} {n c : Nat} {f : α → Value} {l : List α} (o : Own h E a n c f l) (hk : ∀ b, owner a = some b → h' b = h b) : Own h' E a n c f l := by
  refine ⟨o.1, ?_⟩
  rcases o.2 with h1 | ⟨b, off, cs, fr, ha, hn, hb, r⟩
  · exact .inl h1
  · exact .inr ⟨b, off, cs, fr, ha, hn, by rw [hk b (by simp [owner, ha])]; exact hb, r⟩

theorem setR_get : ∀ (vs cells : List Value) (off i : Nat), off + vs.length ≤ cells.length → (setR cells off vs)[i]? = if off ≤ i ∧ i < off + vs.length then vs[i - off]? else cells[i]? := by
  intro vs
  induction vs with
  | nil => intro cells off i _; simp only [setR, List.length_nil]; rw [if_neg (by omega)]
  | cons v r ih =>
    intro cells off i hl
    simp only [List.length_cons] at hl ⊢
    simp only [setR]
    rw [ih _ _ _ (by simp; omega)]
    by_cases h1 : off + 1 ≤ i ∧ i < off + 1 + r.length
    · rw [if_pos h1, if_pos (by omega)]
      rw [show i - off = (i - (off + 1)) + 1 from by omega]; simp
    · rw [if_neg h1]
      by_cases h2 : i = off
      · subst h2
        rw [if_pos (by omega)]
        have : i < cells.length := by omega
        simp [this]
      · rw [if_neg (by omega), List.getElem?_set_ne (by omega)]

theorem growBy_le (need : Nat) : ∀ (k c : Nat), c ≤ 2 * need + 200 → Builtin.growBy need k c ≤ 2 * need + 200 := by
  intro k
  induction k with
  | zero => intro c h; exact h
  | succ k ih =>
    intro c h
    unfold Builtin.growBy
    split
    · exact h
    · exact ih _ (by omega)
theorem nextcap_le {need c : Nat} (h : c < need) : Builtin.nextslicecap need c ≤ 2 * need + 200 := by
  unfold Builtin.nextslicecap
  split
  · omega
  · split
    · omega
    · exact growBy_le need 4 c (by omega)

/-- What an append's second operand holds. -/
def News {α : Type} (h : Heap) (x : Value) (m : Nat) (f : α → Value) (l : List α) : Prop :=
  ∃ a c, x = .slice a m c ∧ Sl h a m f l

theorem sl_load {α : Type} {h : Heap} {a : Option Addr} {n : Nat} {f : α → Value} {l : List α} (s : Sl h a n f l) {t : Nat} {K : Array Value → Heap → Nat → Prop} {c : Nat} (hk : K (l.map f).toArray h t) :
    gen P (Builtin.firstCells 1 n (.slice a n c)) K h t := by
  obtain ⟨hl, hs⟩ := s
  by_cases h0 : 0 < n
  · obtain ⟨b, off, cs, T, fr, ha, hb, hc⟩ := hs h0
    subst ha
    simp only [Builtin.firstCells, Nat.mul_one]
    have hlen : (l.map f).length = n := by simp [hl]
    have := loadCells_gen (P := P) (a := ⟨b, off, none⟩) (h := h) (t := t) (K := K) (l.map f) ?_ hk
    · rw [hlen] at this; exact this
    · intro j hj
      rw [hlen] at hj
      rw [addr_add]
      refine ⟨cs, T, fr, hb, rfl, ?_⟩
      have hj2 : j < l.length := by omega
      rw [show (Addr.mk b (off + j) none).off = off + j from rfl, hc j hj2]
      simp [List.getD_eq_getElem?_getD, hj2]
  · have hn : n = 0 := by omega
    have hl0 : l = [] := List.length_eq_zero_iff.1 (by omega)
    subst hn; subst hl0
    cases a with
    | none => simp only [Builtin.firstCells, gen_p]; exact hk
    | some a => simp only [Builtin.firstCells, loadCells, loadCellsFrom, gen_p]; exact hk

theorem app_body {α : Type} {E : TypeId} {inf : TypeInfo} {z : Value}
    (hi : P.info? E = some inf) (hz : inf.zero = some z) (hzc : z.cells.size = 1) {h : Heap} {t : Nat} {a : Option Addr} {n c : Nat} {f : α → Value} {l l2 : List α} {x : Value} {m : Nat}
    (ho : Own h E a n c f l) (hxl : l2.length = m) (hfc : ∀ (t : Nat) (K : Array Value → Heap → Nat → Prop), K (l2.map f).toArray h t → gen P (Builtin.firstCells 1 m x) K h t) (hf : ∀ y, oneC (f y) = true) (hb : (n + m) * inf.bytes ≤ 2 ^ 40) (hb2 : n + m ≤ 2 ^ 40) (hb3 : inf.bytes ≤ 1000) (hdm : Dom h t) {K : Value → Heap → Nat → Prop}
    (hK : ∀ a' c' h' t', Own h' E a' (n + m) c' f (l ++ l2) → t ≤ t' → Dom h' t' → (∀ k, k < t → owner a ≠ some k → h' k = h k) → (owner a' = owner a ∨ ∃ r, owner a' = some r ∧ t ≤ r) → K (.slice a' (n + m) c') h' t') :
    gen P (if n + m ≤ c then do
        let new ← Builtin.firstCells 1 m x
        if let some a := a then storeCells (a.add n) new.toList
        pure (.slice a (n + m) c)
      else do
        if ((n + m : Nat) : Int) > IntKind.i64.max ∧ (False ∨ (← typeInfo E).bytes = 0) then runtimePanic (.error "growslice: len out of range")
        if Builtin.nextslicecap (n + m) c * (← typeInfo E).bytes > 2 ^ 48 then (do
          if !(← Builtin.mayShare 1 n m a x) then mark .noRoom
          unsupported (.resourceLimit "append: a slice or a string whose bytes no memory bears"))
        let newCap ← choose (.appendCap (n + m) c E)
        askRoom (newCap * (← typeInfo E).bytes)
        let old ← Builtin.firstCells 1 n (.slice a n c)
        let new ← Builtin.firstCells 1 m x
        let rest := Builtin.zeroCells (← zeroValue E).cells (newCap - (n + m))
        pure (.slice (some (← newRow E (old ++ new ++ rest))) (n + m) newCap)) K h t := by
  have hcap := ho.cap
  have hll : (l2.map f).length = m := by simp [hxl]
  by_cases hle : n + m ≤ c
  · refine gen_pos hle ?_
    rw [gen_b]
    refine hfc _ _ ?_
    rcases ho with ⟨hl, ⟨rfl, h1, h2⟩ | ⟨b, off, cs, fr, rfl, hn, hbk, hsz, hfz, hc⟩⟩
    · have hm0 : m = 0 := by omega
      have hl2 : l2 = [] := List.length_eq_zero_iff.1 (by rw [hxl]; exact hm0)
      simp only [gen_p]
      refine hK none c h t ⟨by simp [hl, hl2, hm0], .inl ⟨rfl, by omega, h2⟩⟩ (Nat.le_refl _) hdm (fun _ _ _ => rfl) (.inl rfl)
    · simp only [gen_b, gen_p, addr_add]
      refine storeCells_gen (off + n) (l2.map f) 0 cs h hbk (by rw [hll]; omega) ?_ ?_ ?_
      · intro j hj
        rw [hll] at hj
        have := hfz (n + j) (by omega)
        rw [show off + n + 0 + j = off + (n + j) from by omega]; exact this
      · intro u hu
        obtain ⟨y, _, rfl⟩ := List.mem_map.1 hu
        exact hf y
      · refine hK _ c _ t ⟨by simp [hl, hxl], .inr ⟨b, off, _, fr, rfl, hle, hset_same _ _ _, by simp [setR_length]; exact hsz, hfz, ?_⟩⟩ (Nat.le_refl _) ?_ ?_ (.inl rfl)
        · intro i hi
          have hi2 : i < n + m := by simp [hl, hxl] at hi; exact hi
          rw [List.getElem?_toArray, setR_get _ _ _ _ (by rw [hll]; simp; omega)]
          by_cases hin : i < n
          · rw [if_neg (by omega), Array.getElem?_toList, hc i (by omega)]
            rw [List.getElem_append_left (by omega)]
          · rw [if_pos (by rw [hll]; omega)]
            rw [show off + i - (off + n + 0) = i - n from by omega]
            rw [List.getElem_append_right (by omega)]
            rw [List.getElem?_map]
            have h3 : i - n < l2.length := by rw [hxl]; omega
            rw [List.getElem?_eq_getElem h3]
            simp [hl]
        · exact hdm.set b _ t (Nat.le_refl _) (hdm b _ hbk)
        · intro k hk hne
          exact hset_ne _ _ (fun e => hne (by rw [e]; rfl))
  · refine gen_neg hle ?_
    simp only [gen_b, gen_typeInfo hi]
    refine gen_neg (by simp [IntKind.max, IntKind.signed, IntKind.bits]; omega) ?_
    simp only [gen_b, gen_typeInfo hi]
    have hcap2 : Builtin.nextslicecap (n + m) c * inf.bytes ≤ 2 ^ 48 := by
      have h1 := nextcap_le (need := n + m) (c := c) (by omega)
      have h2 : Builtin.nextslicecap (n + m) c * inf.bytes ≤ (2 * (n + m) + 200) * inf.bytes := Nat.mul_le_mul_right _ h1
      have h3 : (2 * (n + m) + 200) * inf.bytes = 2 * ((n + m) * inf.bytes) + 200 * inf.bytes := by rw [Nat.add_mul, Nat.mul_assoc]
      omega
    refine gen_neg (by omega) ?_
    simp only [gen_b, choose, gen]
    intro newCap hf1 hf2
    have hnc : n + m ≤ newCap := by
      obtain ⟨q, hq⟩ := hf2 rfl
      rw [hq]; exact appendCap_cut _ _ _ _
    have hask : ∀ (nb : Nat) (K' : Unit → Heap → Nat → Prop), K' () h t → gen P (askRoom nb) K' h t := by
      intro nb K' hk
      unfold askRoom
      split
      · simp only [mark, gen]; exact hk
      · exact hk
    simp only [gen_typeInfo hi]
    refine hask _ _ ?_
    refine sl_load ho.sl ?_
    refine hfc _ _ ?_
    rw [gen_zero hi hz]
    simp only [gen_b, newRow, newObj, gen, gen_p]
    intro r hr
    have hrest : (Builtin.zeroCells z.cells (newCap - (n + m))).size = newCap - (n + m) := by simp [Builtin.zeroCells, hzc]
    refine hK _ newCap _ (r + 1) ⟨by simp [ho.1, hxl], .inr ⟨r, 0, _, (0, 0), rfl, hnc, hset_same _ _ _, ?_, fun i _ => by simp [fz], ?_⟩⟩ (by omega) (hdm.set r _ _ (by omega) (by omega)) ?_ (.inr ⟨r, rfl, hr⟩)
    · simp only [Array.size_append, hrest]; simp [ho.1, hxl]; omega
    · intro i hi2
      have hi3 : i < n + m := by simp [ho.1, hxl] at hi2; exact hi2
      rw [Nat.zero_add, show (l.map f).toArray ++ (l2.map f).toArray = ((l ++ l2).map f).toArray from by simp, Array.getElem?_append_left (by simp [ho.1, hxl]; exact hi3)]
      rw [List.getElem?_toArray, List.getElem?_map, List.getElem?_eq_getElem hi2]
      rfl
    · intro k hk _
      exact hset_ne _ _ (by omega)

def notInt : TypeDesc → Bool
  | .int _ => false
  | _ => true
theorem app_vc {α : Type} {T U E ty : TypeId} {inf : TypeInfo} {z : Value} {d : TypeDesc} (hT : P.underlying T = some (.slice E)) (hU : P.underlying U = some d) (hd : notInt d = true)
    (hi : P.info? E = some inf) (hs : inf.size = 1) (hz : inf.zero = some z) (hzc : z.cells.size = 1) {h : Heap} {t : Nat} {a : Option Addr} {n c : Nat} {f : α → Value} {l l2 : List α} {x : Value} {m : Nat}
    (ho : Own h E a n c f l) (hx : News h x m f l2) (hf : ∀ y, oneC (f y) = true) (hb : (n + m) * inf.bytes ≤ 2 ^ 40) (hb2 : n + m ≤ 2 ^ 40) (hb3 : inf.bytes ≤ 1000) (hdm : Dom h t) {K : Value → Heap → Nat → Prop}
    (hK : ∀ a' c' h' t', Own h' E a' (n + m) c' f (l ++ l2) → t ≤ t' → Dom h' t' → (∀ k, k < t → owner a ≠ some k → h' k = h k) → (owner a' = owner a ∨ ∃ r, owner a' = some r ∧ t ≤ r) → K (.slice a' (n + m) c') h' t') :
    AppVC P #[T, U] ty (.slice a n c) x K h t := by
  obtain ⟨xa, xc, rfl, hxs⟩ := hx
  refine ⟨?_⟩
  unfold Builtin.append_
  simp only [List.getElem?_toArray, List.getElem?_cons_zero, List.getElem?_cons_succ, gen_b, gen_underlying hT, gen_sizeOf hi, gen_underlying hU, gen_p, hs]
  cases d
  case int => cases hd
  all_goals
    simp only [Bool.false_eq_true, if_false, Builtin.lenOf, gen_p, gen_b, Bool.not_false, if_true, Nat.mul_one]
    exact app_body hi hz hzc ho hxs.1 (fun _ _ hk => sl_load hxs hk) hf hb hb2 hb3 hdm hK

theorem Own.take {α : Type} {h : Heap} {E : TypeId} {a : Option Addr} {n c : Nat} {f : α → Value} {l : List α} (o : Own h E a n c f l) {m : Nat} (hm : m ≤ n) : Own h E a m c f (l.take m) := by
  obtain ⟨hl, ho⟩ := o
  refine ⟨by simp [hl, hm], ?_⟩
  rcases ho with ⟨h1, h2, h3⟩ | ⟨b, off, cs, fr, ha, hn, hb, hsz, hfz, hc⟩
  · exact .inl ⟨h1, by omega, h3⟩
  · refine .inr ⟨b, off, cs, fr, ha, by omega, hb, hsz, hfz, fun i hi => ?_⟩
    simp at hi
    rw [hc i (by omega)]; simp

/-- 'append([]T(nil), make([]T, k)...)'. -/
theorem app_make {α : Type} {T U E ty : TypeId} {inf : TypeInfo} {d : α} {f : α → Value} {k : Int} (hT : P.underlying T = some (.slice E)) (hU : P.underlying U = some (.int .i64))
    (hi : P.info? E = some inf) (hs : inf.size = 1) (hz : inf.zero = some (f d)) (hzc : (f d).cells = #[f d]) {h : Heap} {t : Nat} (hk0 : 0 ≤ k) (hk1 : k * inf.bytes ≤ 2 ^ 40) (hk2 : k ≤ 2 ^ 40) (hdm : Dom h t) {K : Value → Heap → Nat → Prop}
    (hK : ∀ a' c' h' t', Own h' E a' k.toNat c' f (List.replicate k.toNat d) → t ≤ t' → Dom h' t' → Sub h h' → (∀ b, owner a' = some b → t ≤ b) → K (.slice a' k.toNat c') h' t') :
    AppVC P #[T, U] ty (.slice none 0 0) (.int .i64 k) K h t := by
  refine ⟨?_⟩
  have hw : IntKind.i64.wrap k = k := wi (by omega) (by omega)
  have hm : ((k.toNat : Nat) : Int) = k := by omega
  unfold Builtin.append_
  simp only [List.getElem?_toArray, List.getElem?_cons_zero, List.getElem?_cons_succ, gen_b, gen_underlying hT, gen_sizeOf hi, gen_underlying hU, gen_p, hs, if_true, asInt, asIntOf, hw]
  refine gen_neg (by omega) ?_
  simp only [gen_b, gen_typeInfo hi]
  refine gen_neg (by omega) ?_
  simp only [gen_p, Nat.zero_add, Nat.mul_one, Bool.not_true, Bool.false_eq_true, if_false, gen_b]
  by_cases h0 : k.toNat ≤ 0
  · refine gen_pos h0 ?_
    have : k.toNat = 0 := by omega
    rw [gen_b]
    refine gen_pos this ?_
    simp only [gen_p]
    have := hK none 0 h t (by rw [this]; exact Own.nil _ _ _) (Nat.le_refl _) hdm (Sub.refl _) (fun b hb => by cases hb)
    exact this
  · refine gen_neg h0 ?_
    simp only [gen_b, gen_typeInfo hi]
    refine gen_neg (by simp [IntKind.max, IntKind.signed, IntKind.bits]; omega) ?_
    simp only [gen_b, gen_typeInfo hi]
    have hcap : Builtin.nextslicecap k.toNat 0 = k.toNat := by unfold Builtin.nextslicecap; rw [if_pos (by omega)]
    rw [hcap]
    refine gen_neg (by
      have : ((k.toNat * inf.bytes : Nat) : Int) = k * inf.bytes := by rw [Int.natCast_mul, hm]
      omega) ?_
    simp only [gen_b, choose, gen]
    intro newCap _ hf2
    have hnc : k.toNat ≤ newCap := by
      obtain ⟨q, hq⟩ := hf2 rfl
      rw [hq]; exact appendCap_cut _ _ _ _
    have hask : ∀ (nb : Nat) (K' : Unit → Heap → Nat → Prop), K' () h t → gen P (askRoom nb) K' h t := by
      intro nb K' hk
      unfold askRoom
      split
      · simp only [mark, gen]; exact hk
      · exact hk
    simp only [gen_typeInfo hi]
    refine hask _ _ ?_
    simp only [Builtin.firstCells, gen_p]
    refine gen_neg (by omega) ?_
    simp only [gen_b, gen_zero hi hz, gen_p, newRow, newObj, gen]
    intro r hr
    have hzs : ∀ q, Builtin.zeroCells (f d).cells q = Array.replicate q (f d) := by
      intro q
      rw [hzc]
      simp only [Builtin.zeroCells]
      apply Array.ext
      · simp
      · intro i h1 h2; simp [Nat.mod_one]
    rw [hzs, hzs]
    refine hK _ newCap _ (r + 1) ⟨by simp, .inr ⟨r, 0, _, (0, 0), rfl, hnc, hset_same _ _ _, by simp; omega, fun i _ => by simp [fz], ?_⟩⟩ (by omega) (hdm.set r _ _ (by omega) (by omega)) (hdm.sub_new hr _) (fun b hb => by simp [owner] at hb; omega)
    intro i hi2
    simp at hi2
    rw [Nat.zero_add, Array.empty_append, Array.getElem?_append_left (by simp; exact hi2)]
    simp [hi2]

theorem readB_one {h : Heap} {r : Nat} {z : Int} {T : TypeId} {f : Nat × Nat} (hr : h r = some (.cells #[.int .u8 z] T f)) (h0 : 0 ≤ z) (h1 : z < 256) : ReadB h ⟨r, 0, none⟩ 1 [UInt8.ofNat z.toNat] := by
  refine ⟨rfl, fun i hi => ?_⟩
  have : i = 0 := by omega
  subst this
  refine ⟨_, _, _, hr, rfl, ?_⟩
  have : ((UInt8.ofNat z.toNat).toNat : Int) = z := by simp; omega
  have e1 : (Addr.add ⟨r, 0, none⟩ 0).off = 0 := rfl
  rw [e1]
  show some (Value.int .u8 z) = some (Value.int .u8 (((UInt8.ofNat z.toNat).toNat : Nat) : Int))
  rw [this]
theorem tmod_range (a : Int) {k : Int} (hk : 0 < k) : -k < a.tmod k ∧ a.tmod k < k := by
  rcases Int.le_total 0 a with h | h
  · rw [Int.tmod_eq_emod_of_nonneg h]
    have h1 := Int.emod_nonneg a (by omega : k ≠ 0)
    have h2 := Int.emod_lt_of_pos a hk
    omega
  · have e : a.tmod k = -((-a).tmod k) := by rw [Int.neg_tmod]; omega
    rw [e, Int.tmod_eq_emod_of_nonneg (by omega)]
    have h1 := Int.emod_nonneg (-a) (by omega : k ≠ 0)
    have h2 := Int.emod_lt_of_pos (-a) hk
    omega
theorem wu8 {x : Int} : IntKind.u8.wrap x = x % 256 := by simp [IntKind.wrap, IntKind.signed, IntKind.bits]
theorem wu8_range (x : Int) : 0 ≤ IntKind.u8.wrap x ∧ IntKind.u8.wrap x < 256 := by rw [wu8]; omega

/-! #### maps whose keys are strings -/
def MapObj {β : Type} (o : Obj) (f : β → Value) (l : List (ByteArray × β)) : Prop :=
  ∃ es clock, o = .map es clock ∧ es.toList.map (fun e => (e.key, e.val)) = l.map (fun p => (Value.string p.1, f p.2)) ∧ (l.map (·.1)).Nodup ∧ (es.toList.map (·.born)).Nodup ∧ ∀ e ∈ es.toList, e.born < clock
def aGet {β : Type} (l : List (ByteArray × β)) (k : ByteArray) : Option β := (l.find? (fun p => decide (p.1 = k))).map (·.2)
def aPut {β : Type} (l : List (ByteArray × β)) (k : ByteArray) (v : β) : List (ByteArray × β) :=
  if l.any (fun p => decide (p.1 = k)) then l.map (fun p => if p.1 = k then (k, v) else p) else l ++ [(k, v)]

theorem ba_beq (a b : ByteArray) : (a == b) = decide (a = b) := by
  have h : (a == b) = (a.data == b.data) := rfl
  rw [h]
  by_cases e : a = b
  · subst e; simp
  · have : a.data ≠ b.data := fun h2 => e (ByteArray.ext h2)
    simp [e, this]

theorem findNow_str {β : Type} (f : β → Value) (k : ByteArray) : ∀ (es : List MapEntry) (l : List (ByteArray × β)) (i : Nat), es.map (fun e => (e.key, e.val)) = l.map (fun p => (Value.string p.1, f p.2)) →
    Instr.findNow .string (.string k) es i = some ((l.findIdx? (fun p => decide (p.1 = k))).bind fun j => (l[j]?).map fun p => (i + j, f p.2)) := by
  intro es
  induction es with
  | nil => intro l i h; cases l with | nil => rfl | cons p l => simp at h
  | cons e es ih =>
    intro l i h
    cases l with
    | nil => simp at h
    | cons p l =>
      simp only [List.map_cons, List.cons.injEq, Prod.mk.injEq] at h
      obtain ⟨⟨h1, h2⟩, h3⟩ := h
      unfold Instr.findNow
      rw [h1]
      simp only [Instr.sameNow, ba_beq]
      by_cases hk : p.1 = k
      · subst hk
        simp [List.findIdx?_cons, h2]
      · rw [show decide (k = p.1) = false from by simp [Ne.symm hk]]
        show Instr.findNow _ _ es (i + 1) = _
        rw [ih l (i + 1) h3]
        simp only [List.findIdx?_cons, hk, decide_false, Bool.false_eq_true, if_false]
        cases hf : l.findIdx? (fun p => decide (p.1 = k)) with
        | none => simp
        | some j => simp [Nat.add_assoc, Nat.add_comm 1 j]

theorem find_findIdx {β : Type} (l : List (ByteArray × β)) (k : ByteArray) : aGet l k = (l.findIdx? (fun p => decide (p.1 = k))).bind fun j => (l[j]?).map (·.2) := by
  unfold aGet
  induction l with
  | nil => rfl
  | cons p l ih =>
    by_cases hk : p.1 = k
    · simp [List.findIdx?_cons, hk]
    · simp only [List.findIdx?_cons, List.find?_cons, hk, decide_false, Bool.false_eq_true, if_false]
      rw [ih]
      cases l.findIdx? (fun p => decide (p.1 = k)) with
      | none => rfl
      | some j => simp

theorem findKey_str {KT : TypeId} (hK : P.underlying KT = some .string) {β : Type} {f : β → Value} {k : ByteArray} {es : List MapEntry} {l : List (ByteArray × β)} (he : es.map (fun e => (e.key, e.val)) = l.map (fun p => (Value.string p.1, f p.2)))
    {K : Option (Nat × Value) → Heap → Nat → Prop} {h : Heap} {t : Nat} (hk : K ((l.findIdx? (fun p => decide (p.1 = k))).bind fun j => (l[j]?).map fun p => (j, f p.2)) h t) : gen P (Instr.findKey KT (.string k) es) K h t := by
  simp only [Instr.findKey, gen_b, gen_underlying hK, findNow_str f k es l 0 he, gen_p]
  simpa using hk

theorem checkKey_str {KT : TypeId} (hK : P.underlying KT = some .string) (b : Bool) (k : ByteArray) {K : Unit → Heap → Nat → Prop} {h : Heap} {t : Nat} (hk : K () h t) : gen P (Instr.checkKey b 10000 KT (.string k)) K h t := by
  show gen P (Instr.checkKey b (9999 + 1) KT (.string k)) K h t
  unfold Instr.checkKey
  rw [gen_b, gen_underlying hK]
  exact hk

theorem look_str {T KT ET : TypeId} (hT : P.underlying T = some (.map KT ET)) (hK : P.underlying KT = some .string) {inf : TypeInfo} (hE : P.info? ET = some inf) {β : Type} {f : β → Value} {d : β} (hz : inf.zero = some (f d))
    {h : Heap} {t : Nat} {r : Nat} {o : Obj} (hr : h r = some o) {l : List (ByteArray × β)} (hm : MapObj o f l) {k : ByteArray} {K : Value → Heap → Nat → Prop}
    (hk : K (.tuple #[f ((aGet l k).getD d), .bool (aGet l k).isSome]) h t) : LookVC P T (.map (some r)) (.string k) true K h t := by
  obtain ⟨es, clock, rfl, he, _⟩ := hm
  refine ⟨?_⟩
  simp only [Instr.lookup, gen_b, gen_underlying hT, getObj, gen]
  refine ⟨_, hr, rfl, ?_⟩
  simp only [gen_b, gen_p]
  refine checkKey_str hK _ _ ?_
  refine findKey_str hK he ?_
  rw [find_findIdx] at hk
  cases hf : l.findIdx? (fun p => decide (p.1 = k)) with
  | none => rw [hf] at hk; simp only [Option.bind_none, gen_b, gen_zero hE hz, gen_p, if_true]; exact hk
  | some j =>
    rw [hf] at hk
    have hj : j < l.length := (List.findIdx?_eq_some_iff_findIdx_eq.1 hf).1
    simp only [Option.bind_some, List.getElem?_eq_getElem hj, Option.map_some] at hk ⊢
    simp only [if_true]; exact hk

theorem findKey_strR {KT : TypeId} (hK : P.underlying KT = some .string) {β : Type} {f : β → Value} {k : ByteArray} {es : List MapEntry} {l : List (ByteArray × β)} (he : es.map (fun e => (e.key, e.val)) = l.map (fun p => (Value.string p.1, f p.2)))
    {K : Option (Nat × Value) → Prop} {h : Heap}  (hk : K ((l.findIdx? (fun p => decide (p.1 = k))).bind fun j => (l[j]?).map fun p => (j, f p.2))) : genR P (Instr.findKey KT (.string k) es) K h := by
  simp only [Instr.findKey, genR_b, genR_underlying hK, findNow_str f k es l 0 he, genR_p]
  simpa using hk

theorem checkKey_strR {KT : TypeId} (hK : P.underlying KT = some .string) (b : Bool) (k : ByteArray) {K : Unit → Prop} {h : Heap}  (hk : K ()) : genR P (Instr.checkKey b 10000 KT (.string k)) K h := by
  show genR P (Instr.checkKey b (9999 + 1) KT (.string k)) K h
  unfold Instr.checkKey
  rw [genR_b, genR_underlying hK]
  exact hk

theorem look_strR {T KT ET : TypeId} (hT : P.underlying T = some (.map KT ET)) (hK : P.underlying KT = some .string) {inf : TypeInfo} (hE : P.info? ET = some inf) {β : Type} {f : β → Value} {d : β} (hz : inf.zero = some (f d))
    {h : Heap}  {r : Nat} {o : Obj} (hr : h r = some o) {l : List (ByteArray × β)} (hm : MapObj o f l) {k : ByteArray} {K : Value → Prop}
    (hk : K (.tuple #[f ((aGet l k).getD d), .bool (aGet l k).isSome])) : LookQ P T (.map (some r)) (.string k) true K h := by
  obtain ⟨es, clock, rfl, he, _⟩ := hm
  refine ⟨?_⟩
  simp only [Instr.lookup, genR_b, genR_underlying hT, getObj, genR]
  refine ⟨_, hr, rfl, ?_⟩
  simp only [genR_b, genR_p]
  refine checkKey_strR hK _ _ ?_
  refine findKey_strR hK he ?_
  rw [find_findIdx] at hk
  cases hf : l.findIdx? (fun p => decide (p.1 = k)) with
  | none => rw [hf] at hk; simp only [Option.bind_none, genR_b, genR_zero hE hz, genR_p, if_true]; exact hk
  | some j =>
    rw [hf] at hk
    have hj : j < l.length := (List.findIdx?_eq_some_iff_findIdx_eq.1 hf).1
    simp only [Option.bind_some, List.getElem?_eq_getElem hj, Option.map_some] at hk ⊢
    simp only [if_true]; exact hk

theorem mapup_str {T KT ET : TypeId} (hT : P.underlying T = some (.map KT ET)) (hK : P.underlying KT = some .string) {β : Type} {f : β → Value}
    {h : Heap} {t : Nat} {r : Nat} {o : Obj} (hr : h r = some o) {l : List (ByteArray × β)} (hm : MapObj o f l) {k : ByteArray} {v : β} {K : Value → Heap → Nat → Prop}
    (hk : ∀ o', MapObj o' f (aPut l k v) → K undef (hset h r o') t) : MapUpVC P T (.map (some r)) (.string k) (f v) K h t := by
  obtain ⟨es, clock, rfl, he, hnd, hbn, hbc⟩ := hm
  refine ⟨?_⟩
  simp only [Instr.mapUpdate, gen_b, gen_underlying hT, getObj, gen]
  refine ⟨_, hr, rfl, ?_⟩
  simp only [gen_b]
  refine checkKey_str hK _ _ ?_
  refine findKey_str hK he ?_
  have hlen : es.size = l.length := by have := congrArg List.length he; simpa using this
  cases hf : l.findIdx? (fun p => decide (p.1 = k)) with
  | none =>
    have hno : l.any (fun p => decide (p.1 = k)) = false := by
      rw [List.any_eq_false]
      intro p hp
      exact List.findIdx?_eq_none_iff.1 hf p hp ▸ by simp
    simp only [Option.bind_none, setObj, gen]
    refine ⟨_, hr, rfl, ?_⟩
    refine hk _ ⟨_, _, rfl, ?_, ?_, ?_, ?_⟩
    · simp [aPut, hno, he]
    · simp only [aPut, hno, Bool.false_eq_true, if_false, List.map_append, List.map_cons, List.map_nil]
      rw [List.nodup_append]
      refine ⟨hnd, by simp, ?_⟩
      intro x hx y hy e
      simp at hy
      obtain ⟨p, hp, rfl⟩ := List.mem_map.1 hx
      have := List.any_eq_false.1 hno p hp
      simp [← hy, e] at this
    · simp only [Array.toList_push, List.map_append, List.map_cons, List.map_nil]
      rw [List.nodup_append]
      refine ⟨hbn, by simp, ?_⟩
      intro x hx y hy e
      simp at hy
      obtain ⟨p, hp, rfl⟩ := List.mem_map.1 hx
      have := hbc p hp
      omega
    · intro e hE
      simp at hE
      rcases hE with hE | rfl
      · have := hbc e (by simpa using hE); omega
      · simp
  | some j =>
    obtain ⟨hj, hpj⟩ := List.findIdx?_eq_some_iff_findIdx_eq.1 hf
    have hje : j < es.size := by omega
    have hjk : l[j].1 = k := by
      have := List.findIdx?_eq_some_iff_getElem.1 hf
      simpa using this.2.1
    have hyes : l.any (fun p => decide (p.1 = k)) = true := List.any_eq_true.2 ⟨l[j], List.getElem_mem hj, by simp [hjk]⟩
    have hek : es[j].key = .string k := by
      have := congrArg (fun z => z[j]?) he
      simp [hj, hje] at this
      rw [this.1, hjk]
    simp only [Option.bind_some, List.getElem?_eq_getElem hj, Option.map_some, Array.getElem?_eq_getElem hje, Option.getD_some, hek, gen_b, Instr.keyThatStays]
    rw [if_pos (show Instr.sameBits 10000 (.string k) (.string k) = true from by show (k == k) = true; rw [ba_beq]; simp)]
    simp only [gen_p, setObj, gen]
    refine ⟨_, hr, rfl, ?_⟩
    refine hk _ ⟨_, _, rfl, ?_, ?_, ?_, ?_⟩
    · simp only [aPut, hyes, if_true]
      apply List.ext_getElem
      · simp [hlen]
      · intro i h1 h2
        simp at h1 h2
        have hi := congrArg (fun z => z[i]?) he
        have hi1 : i < es.size := h1
        simp [h2, hi1] at hi
        simp only [List.getElem_map, Array.getElem_toList, Array.getElem_modify]
        by_cases hij : j = i
        · subst hij
          simp [hjk]
        · simp only [hij, if_false]
          have : l[i].1 ≠ k := by
            intro e
            have h2' : i < (l.map (·.1)).length := by simpa using h2
            have hj' : j < (l.map (·.1)).length := by simpa using hj
            have h3 : (l.map (·.1))[i] = (l.map (·.1))[j] := by simp [e, hjk]
            exact hij ((List.getElem_inj hnd).1 h3).symm
          simp [this, hi.1, hi.2]
    · simp only [aPut, hyes, if_true, List.map_map]
      have : (fun p : ByteArray × β => p.1) ∘ (fun p => if p.1 = k then (k, v) else p) = fun p => p.1 := by
        funext p; simp only [Function.comp]; split
        · rename_i e; exact e.symm
        · rfl
      rw [this]; exact hnd
    · have : ((es.modify j fun e => { e with key := .string k, val := f v }).toList.map (·.born)) = es.toList.map (·.born) := by
        apply List.ext_getElem
        · simp
        · intro i h1 h2
          simp only [List.getElem_map, Array.getElem_toList, Array.getElem_modify]
          split <;> simp_all
      rw [this]; exact hbn
    · intro e hE
      rw [Array.mem_toList_iff] at hE
      obtain ⟨i, hi, rfl⟩ := Array.mem_iff_getElem.1 hE
      simp only [Array.getElem_modify]
      have : i < es.size := by simpa using hi
      split
      · exact hbc es[i] (by simp)
      · exact hbc es[i] (by simp)

attribute [simp] opq_eq
/-! #### steps that a walk takes by itself -/
theorem wr_i64 {x : Int} {Q : Int → Prop} (h : -9223372036854775808 ≤ x ∧ x ≤ 9223372036854775807) (hk : Q x) : ∃ z, z = IntKind.i64.wrap x ∧ Q z := ⟨x, (wi h.1 h.2).symm, hk⟩
theorem wr_u8 {x : Int} {Q : Int → Prop} (h : 0 ≤ x ∧ x ≤ 255) (hk : Q x) : ∃ z, z = IntKind.u8.wrap x ∧ Q z := ⟨x, by simp [IntKind.wrap, IntKind.signed, IntKind.bits]; omega, hk⟩
theorem wr_u16 {x : Int} {Q : Int → Prop} (h : 0 ≤ x ∧ x ≤ 65535) (hk : Q x) : ∃ z, z = IntKind.u16.wrap x ∧ Q z := ⟨x, by simp [IntKind.wrap, IntKind.signed, IntKind.bits]; omega, hk⟩
theorem wr_u32 {x : Int} {Q : Int → Prop} (h : 0 ≤ x ∧ x ≤ 4294967295) (hk : Q x) : ∃ z, z = IntKind.u32.wrap x ∧ Q z := ⟨x, by simp [IntKind.wrap, IntKind.signed, IntKind.bits]; omega, hk⟩
theorem wr_u64 {x : Int} {Q : Int → Prop} (h : 0 ≤ x ∧ x ≤ 18446744073709551615) (hk : Q x) : ∃ z, z = IntKind.u64.wrap x ∧ Q z := ⟨x, by simp [IntKind.wrap, IntKind.signed, IntKind.bits]; omega, hk⟩
theorem wr_i32 {x : Int} {Q : Int → Prop} (h : -2147483648 ≤ x ∧ x ≤ 2147483647) (hk : Q x) : ∃ z, z = IntKind.i32.wrap x ∧ Q z := ⟨x, by simp [IntKind.wrap, IntKind.signed, IntKind.bits]; omega, hk⟩
theorem shl1_i64 {a : Int} {Q : Int → Prop} (h : -4611686018427387904 ≤ a ∧ a ≤ 4611686018427387903) (hk : Q (a * 2)) : ∃ z, z = shlV .i64 a 1 ∧ Q z :=
  ⟨a * 2, (wi (by omega) (by omega)).symm, hk⟩
theorem quo_i {k : IntKind} {a b : Int} {Q : Int → Prop} (h : 0 ≤ a ∧ 0 < b ∧ k.wrap (a / b) = a / b) (hk : Q (a / b)) : ∃ z, z = k.wrap (a.tdiv b) ∧ Q z :=
  ⟨a / b, by rw [Int.tdiv_eq_ediv_of_nonneg h.1, h.2.2], hk⟩
theorem quo_i64 {a b : Int} {Q : Int → Prop} (h : 0 ≤ a ∧ a ≤ 9223372036854775807 ∧ 0 < b) (hk : Q (a / b)) : ∃ z, z = IntKind.i64.wrap (a.tdiv b) ∧ Q z := by
  refine quo_i ⟨h.1, h.2.2, ?_⟩ hk
  have h1 : 0 ≤ a / b := Int.ediv_nonneg h.1 (by omega)
  have h2 : a / b ≤ a := Int.ediv_le_self b h.1
  exact wi (by omega) (by omega)
theorem rem_i {a b : Int} {Q : Int → Prop} (h : 0 ≤ a) (hk : Q (a % b)) : ∃ z, z = a.tmod b ∧ Q z := ⟨a % b, by rw [Int.tmod_eq_emod_of_nonneg h], hk⟩
theorem ld_i {h : Heap} {b off : Nat} {c : Array Value} {T : TypeId} {f : Nat × Nat} {v : Value} {K : Value → Prop} (hb : h b = some (.cells c T f)) (hv : c[off]? = some v) (hk : K v) : ∃ v, Cell h ⟨b, off, none⟩ v ∧ K v :=
  ⟨v, ⟨c, T, f, hb, rfl, hv⟩, hk⟩
theorem st_i {h : Heap} {b off : Nat} {c : Array Value} {T : TypeId} {f : Nat × Nat} {v : Value} {Q : Array Value → TypeId → Nat × Nat → Prop} (hb : h b = some (.cells c T f)) (h1 : oneC v = true) (hlt : Nat.blt off c.size = true) (hf : fz f off = false)
    (hk : Q c T f) : oneC v = true ∧ ∃ c T f, h b = some (.cells c T f) ∧ off < c.size ∧ fz f off = false ∧ Q c T f :=
  ⟨h1, c, T, f, hb, Nat.blt_eq ▸ hlt, hf, hk⟩
theorem sl_idx {α : Type} {h : Heap} {a : Option Addr} {n : Nat} {f : α → Value} {l : List α} (s : Sl h a n f l) (d : α) {i : Int} {Q : Nat → Nat → Prop} (h0 : 0 ≤ i ∧ i < n)
    (hk : ∀ b off, Cell h ⟨b, off + i.toNat * 1, none⟩ (f (l.getD i.toNat d)) → Q b off) : (0 ≤ i ∧ i < n) ∧ ∃ b off, a = some ⟨b, off, none⟩ ∧ Q b off := by
  obtain ⟨b, off, ha, hc⟩ := s.at d h0.1 h0.2
  exact ⟨h0, b, off, ha, hk b off hc⟩
theorem aGet_put {β : Type} (l : List (ByteArray × β)) (k : ByteArray) (v : β) (k' : ByteArray) : aGet (aPut l k v) k' = if k' = k then some v else aGet l k' := by
  unfold aGet aPut
  by_cases ha : l.any (fun p => decide (p.1 = k)) = true
  · rw [if_pos ha]
    induction l with
    | nil => simp at ha
    | cons p l ih =>
      rw [List.map_cons]
      by_cases hp : p.1 = k
      · rw [if_pos hp]
        by_cases hk : k' = k
        · subst hk; simp
        · rw [if_neg hk]
          simp only [List.find?_cons, hp]
          rw [decide_eq_false (Ne.symm hk)]
          by_cases ha2 : l.any (fun p => decide (p.1 = k)) = true
          · rw [ih ha2, if_neg hk]
          · have : l.map (fun p => if p.1 = k then (k, v) else p) = l := by
              rw [List.map_congr_left (g := id)]
              · simp
              · intro q hq
                have h3 : decide (q.1 = k) = false := by
                  have := List.any_eq_false.1 ((Bool.not_eq_true _).mp ha2) q hq
                  simpa using this
                rw [if_neg (of_decide_eq_false h3)]; rfl
            rw [this]
      · rw [if_neg hp]
        have ha2 : l.any (fun p => decide (p.1 = k)) = true := by simpa [hp] using ha
        by_cases hk : k' = k
        · subst hk
          simp only [List.find?_cons, decide_eq_false hp]
          rw [ih ha2]; simp
        · simp only [List.find?_cons]
          by_cases hpk : p.1 = k'
          · simp [hpk, hk]
          · simp only [decide_eq_false hpk]
            rw [ih ha2]
  · rw [if_neg ha, List.find?_append]
    have hn : ∀ q ∈ l, q.1 ≠ k := by
      intro q hq
      have := List.any_eq_false.1 ((Bool.not_eq_true _).mp ha) q hq
      simpa using this
    by_cases hk : k' = k
    · subst hk
      have : l.find? (fun p => decide (p.1 = k')) = none := by
        rw [List.find?_eq_none]; intro q hq; simpa using hn q hq
      simp [this]
    · rw [if_neg hk]
      simp [Ne.symm hk]
theorem sl_ix {α : Type} {h : Heap} {a : Option Addr} {n : Nat} {f : α → Value} {l : List α} {i : Int} {Q : Nat → Nat → Prop} (s : Sl h a n f l) (h0 : 0 ≤ i ∧ i < n)
    (hk : ∀ x b off, l[i.toNat]? = some x → Cell h ⟨b, off + i.toNat * 1, none⟩ (f x) → Q b off) : (0 ≤ i ∧ i < n) ∧ ∃ b off, a = some ⟨b, off, none⟩ ∧ Q b off := by
  obtain ⟨hl, hs⟩ := s
  obtain ⟨b, off, cs, T, fr, ha, hb, hc⟩ := hs (by omega)
  have hi : i.toNat < l.length := by omega
  exact ⟨h0, b, off, ha, hk _ b off (List.getElem?_eq_getElem hi) ⟨cs, T, fr, hb, rfl, by rw [Nat.mul_one]; exact hc i.toNat hi⟩⟩
theorem readB1 {h : Heap} {r : Nat} {z : Int} {T : TypeId} {f : Nat × Nat} {Q : List UInt8 → Prop} (hr : h r = some (.cells #[.int .u8 z] T f)) (h0 : 0 ≤ z ∧ z < 256) (hk : ∀ l, l = [UInt8.ofNat z.toNat] → Q l) : ∃ l, ReadB h ⟨r, 0, none⟩ 1 l ∧ Q l :=
  ⟨_, readB_one hr h0.1 h0.2, hk _ rfl⟩
theorem and_leN {a b : Nat} {K : Prop} (h : a ≤ b) (hk : K) : a ≤ b ∧ K := ⟨h, hk⟩
theorem and_leI {a b : Int} {K : Prop} (h : a ≤ b) (hk : K) : a ≤ b ∧ K := ⟨h, hk⟩
theorem cell_i {h : Heap} {a : Addr} {v : Value} {K : Value → Prop} (hc : Cell h a v) (hk : K v) : ∃ v, Cell h a v ∧ K v := ⟨v, hc, hk⟩
def loopR2 {α0 α1 : Type} (L : α0 → α1 → List (Nat × Value)) (H : α0 → α1 → Heap → Nat → Prop) (μ : α0 → α1 → Nat) : Nat → Env → Heap → Nat → Prop :=
  loopR (α := α0 × α1) (fun s => L s.1 s.2) (fun s => H s.1 s.2) (fun s => μ s.1 s.2)
theorem loop_intro2 {α0 α1 : Type} (L : α0 → α1 → List (Nat × Value)) (H : α0 → α1 → Heap → Nat → Prop) (μ : α0 → α1 → Nat) {X : Post → Env → Heap → Nat → Prop} {Q : Post} {e : Env} {h : Heap} {t : Nat} (x0 : α0) (x1 : α1)
    (h0 : Has e (L x0 x1)) (hH : H x0 x1 h t) (round : ∀ x0 x1 g h t, Dom h t → H x0 x1 h t → X (loopK (loopR2 L H μ) (μ x0 x1) Q) (setL g (L x0 x1)) h t) :
    ∃ R : Nat → Env → Heap → Nat → Prop, (∃ m, R m e h t) ∧ ∀ m e h t, Dom h t → R m e h t → X (loopK R m Q) e h t :=
  loop_intro (α := α0 × α1) (fun s => L s.1 s.2) (fun s => H s.1 s.2) (fun s => μ s.1 s.2) (x0, x1) h0 hH (fun s g h t hd hH => round (s.1) (s.2) g h t hd hH)
theorem round_end2 {α0 α1 : Type} {L : α0 → α1 → List (Nat × Value)} {H : α0 → α1 → Heap → Nat → Prop} {μ : α0 → α1 → Nat} {m : Nat} {e : Env} {h : Heap} {t : Nat} (x0 : α0) (x1 : α1) (hm : μ x0 x1 < m) (hL : Has e (L x0 x1)) (hH : H x0 x1 h t) :
    ∃ m', m' < m ∧ loopR2 L H μ m' e h t := ⟨_, hm, (x0, x1), rfl, hL, hH⟩

def loopR3 {α0 α1 α2 : Type} (L : α0 → α1 → α2 → List (Nat × Value)) (H : α0 → α1 → α2 → Heap → Nat → Prop) (μ : α0 → α1 → α2 → Nat) : Nat → Env → Heap → Nat → Prop :=
  loopR (α := α0 × α1 × α2) (fun s => L s.1 s.2.1 s.2.2) (fun s => H s.1 s.2.1 s.2.2) (fun s => μ s.1 s.2.1 s.2.2)
theorem loop_intro3 {α0 α1 α2 : Type} (L : α0 → α1 → α2 → List (Nat × Value)) (H : α0 → α1 → α2 → Heap → Nat → Prop) (μ : α0 → α1 → α2 → Nat) {X : Post → Env → Heap → Nat → Prop} {Q : Post} {e : Env} {h : Heap} {t : Nat} (x0 : α0) (x1 : α1) (x2 : α2)
    (h0 : Has e (L x0 x1 x2)) (hH : H x0 x1 x2 h t) (round : ∀ x0 x1 x2 g h t, Dom h t → H x0 x1 x2 h t → X (loopK (loopR3 L H μ) (μ x0 x1 x2) Q) (setL g (L x0 x1 x2)) h t) :
    ∃ R : Nat → Env → Heap → Nat → Prop, (∃ m, R m e h t) ∧ ∀ m e h t, Dom h t → R m e h t → X (loopK R m Q) e h t :=
  loop_intro (α := α0 × α1 × α2) (fun s => L s.1 s.2.1 s.2.2) (fun s => H s.1 s.2.1 s.2.2) (fun s => μ s.1 s.2.1 s.2.2) (x0, x1, x2) h0 hH (fun s g h t hd hH => round (s.1) (s.2.1) (s.2.2) g h t hd hH)
theorem round_end3 {α0 α1 α2 : Type} {L : α0 → α1 → α2 → List (Nat × Value)} {H : α0 → α1 → α2 → Heap → Nat → Prop} {μ : α0 → α1 → α2 → Nat} {m : Nat} {e : Env} {h : Heap} {t : Nat} (x0 : α0) (x1 : α1) (x2 : α2) (hm : μ x0 x1 x2 < m) (hL : Has e (L x0 x1 x2)) (hH : H x0 x1 x2 h t) :
    ∃ m', m' < m ∧ loopR3 L H μ m' e h t := ⟨_, hm, (x0, x1, x2), rfl, hL, hH⟩

def loopR4 {α0 α1 α2 α3 : Type} (L : α0 → α1 → α2 → α3 → List (Nat × Value)) (H : α0 → α1 → α2 → α3 → Heap → Nat → Prop) (μ : α0 → α1 → α2 → α3 → Nat) : Nat → Env → Heap → Nat → Prop :=
  loopR (α := α0 × α1 × α2 × α3) (fun s => L s.1 s.2.1 s.2.2.1 s.2.2.2) (fun s => H s.1 s.2.1 s.2.2.1 s.2.2.2) (fun s => μ s.1 s.2.1 s.2.2.1 s.2.2.2)
theorem loop_intro4 {α0 α1 α2 α3 : Type} (L : α0 → α1 → α2 → α3 → List (Nat × Value)) (H : α0 → α1 → α2 → α3 → Heap → Nat → Prop) (μ : α0 → α1 → α2 → α3 → Nat) {X : Post → Env → Heap → Nat → Prop} {Q : Post} {e : Env} {h : Heap} {t : Nat} (x0 : α0) (x1 : α1) (x2 : α2) (x3 : α3)
    (h0 : Has e (L x0 x1 x2 x3)) (hH : H x0 x1 x2 x3 h t) (round : ∀ x0 x1 x2 x3 g h t, Dom h t → H x0 x1 x2 x3 h t → X (loopK (loopR4 L H μ) (μ x0 x1 x2 x3) Q) (setL g (L x0 x1 x2 x3)) h t) :
    ∃ R : Nat → Env → Heap → Nat → Prop, (∃ m, R m e h t) ∧ ∀ m e h t, Dom h t → R m e h t → X (loopK R m Q) e h t :=
  loop_intro (α := α0 × α1 × α2 × α3) (fun s => L s.1 s.2.1 s.2.2.1 s.2.2.2) (fun s => H s.1 s.2.1 s.2.2.1 s.2.2.2) (fun s => μ s.1 s.2.1 s.2.2.1 s.2.2.2) (x0, x1, x2, x3) h0 hH (fun s g h t hd hH => round (s.1) (s.2.1) (s.2.2.1) (s.2.2.2) g h t hd hH)
theorem round_end4 {α0 α1 α2 α3 : Type} {L : α0 → α1 → α2 → α3 → List (Nat × Value)} {H : α0 → α1 → α2 → α3 → Heap → Nat → Prop} {μ : α0 → α1 → α2 → α3 → Nat} {m : Nat} {e : Env} {h : Heap} {t : Nat} (x0 : α0) (x1 : α1) (x2 : α2) (x3 : α3) (hm : μ x0 x1 x2 x3 < m) (hL : Has e (L x0 x1 x2 x3)) (hH : H x0 x1 x2 x3 h t) :
    ∃ m', m' < m ∧ loopR4 L H μ m' e h t := ⟨_, hm, (x0, x1, x2, x3), rfl, hL, hH⟩

def loopR5 {α0 α1 α2 α3 α4 : Type} (L : α0 → α1 → α2 → α3 → α4 → List (Nat × Value)) (H : α0 → α1 → α2 → α3 → α4 → Heap → Nat → Prop) (μ : α0 → α1 → α2 → α3 → α4 → Nat) : Nat → Env → Heap → Nat → Prop :=
  loopR (α := α0 × α1 × α2 × α3 × α4) (fun s => L s.1 s.2.1 s.2.2.1 s.2.2.2.1 s.2.2.2.2) (fun s => H s.1 s.2.1 s.2.2.1 s.2.2.2.1 s.2.2.2.2) (fun s => μ s.1 s.2.1 s.2.2.1 s.2.2.2.1 s.2.2.2.2)
theorem loop_intro5 {α0 α1 α2 α3 α4 : Type} (L : α0 → α1 → α2 → α3 → α4 → List (Nat × Value)) (H : α0 → α1 → α2 → α3 → α4 → Heap → Nat → Prop) (μ : α0 → α1 → α2 → α3 → α4 → Nat) {X : Post → Env → Heap → Nat → Prop} {Q : Post} {e : Env} {h : Heap} {t : Nat} (x0 : α0) (x1 : α1) (x2 : α2) (x3 : α3) (x4 : α4)
    (h0 : Has e (L x0 x1 x2 x3 x4)) (hH : H x0 x1 x2 x3 x4 h t) (round : ∀ x0 x1 x2 x3 x4 g h t, Dom h t → H x0 x1 x2 x3 x4 h t → X (loopK (loopR5 L H μ) (μ x0 x1 x2 x3 x4) Q) (setL g (L x0 x1 x2 x3 x4)) h t) :
    ∃ R : Nat → Env → Heap → Nat → Prop, (∃ m, R m e h t) ∧ ∀ m e h t, Dom h t → R m e h t → X (loopK R m Q) e h t :=
  loop_intro (α := α0 × α1 × α2 × α3 × α4) (fun s => L s.1 s.2.1 s.2.2.1 s.2.2.2.1 s.2.2.2.2) (fun s => H s.1 s.2.1 s.2.2.1 s.2.2.2.1 s.2.2.2.2) (fun s => μ s.1 s.2.1 s.2.2.1 s.2.2.2.1 s.2.2.2.2) (x0, x1, x2, x3, x4) h0 hH (fun s g h t hd hH => round (s.1) (s.2.1) (s.2.2.1) (s.2.2.2.1) (s.2.2.2.2) g h t hd hH)
theorem round_end5 {α0 α1 α2 α3 α4 : Type} {L : α0 → α1 → α2 → α3 → α4 → List (Nat × Value)} {H : α0 → α1 → α2 → α3 → α4 → Heap → Nat → Prop} {μ : α0 → α1 → α2 → α3 → α4 → Nat} {m : Nat} {e : Env} {h : Heap} {t : Nat} (x0 : α0) (x1 : α1) (x2 : α2) (x3 : α3) (x4 : α4) (hm : μ x0 x1 x2 x3 x4 < m) (hL : Has e (L x0 x1 x2 x3 x4)) (hH : H x0 x1 x2 x3 x4 h t) :
    ∃ m', m' < m ∧ loopR5 L H μ m' e h t := ⟨_, hm, (x0, x1, x2, x3, x4), rfl, hL, hH⟩

def loopR6 {α0 α1 α2 α3 α4 α5 : Type} (L : α0 → α1 → α2 → α3 → α4 → α5 → List (Nat × Value)) (H : α0 → α1 → α2 → α3 → α4 → α5 → Heap → Nat → Prop) (μ : α0 → α1 → α2 → α3 → α4 → α5 → Nat) : Nat → Env → Heap → Nat → Prop :=
  loopR (α := α0 × α1 × α2 × α3 × α4 × α5) (fun s => L s.1 s.2.1 s.2.2.1 s.2.2.2.1 s.2.2.2.2.1 s.2.2.2.2.2) (fun s => H s.1 s.2.1 s.2.2.1 s.2.2.2.1 s.2.2.2.2.1 s.2.2.2.2.2) (fun s => μ s.1 s.2.1 s.2.2.1 s.2.2.2.1 s.2.2.2.2.1 s.2.2.2.2.2)
theorem loop_intro6 {α0 α1 α2 α3 α4 α5 : Type} (L : α0 → α1 → α2 → α3 → α4 → α5 → List (Nat × Value)) (H : α0 → α1 → α2 → α3 → α4 → α5 → Heap → Nat → Prop) (μ : α0 → α1 → α2 → α3 → α4 → α5 → Nat) {X : Post → Env → Heap → Nat → Prop} {Q : Post} {e : Env} {h : Heap} {t : Nat} (x0 : α0) (x1 : α1) (x2 : α2) (x3 : α3) (x4 : α4) (x5 : α5)
    (h0 : Has e (L x0 x1 x2 x3 x4 x5)) (hH : H x0 x1 x2 x3 x4 x5 h t) (round : ∀ x0 x1 x2 x3 x4 x5 g h t, Dom h t → H x0 x1 x2 x3 x4 x5 h t → X (loopK (loopR6 L H μ) (μ x0 x1 x2 x3 x4 x5) Q) (setL g (L x0 x1 x2 x3 x4 x5)) h t) :
    ∃ R : Nat → Env → Heap → Nat → Prop, (∃ m, R m e h t) ∧ ∀ m e h t, Dom h t → R m e h t → X (loopK R m Q) e h t :=
  loop_intro (α := α0 × α1 × α2 × α3 × α4 × α5) (fun s => L s.1 s.2.1 s.2.2.1 s.2.2.2.1 s.2.2.2.2.1 s.2.2.2.2.2) (fun s => H s.1 s.2.1 s.2.2.1 s.2.2.2.1 s.2.2.2.2.1 s.2.2.2.2.2) (fun s => μ s.1 s.2.1 s.2.2.1 s.2.2.2.1 s.2.2.2.2.1 s.2.2.2.2.2) (x0, x1, x2, x3, x4, x5) h0 hH (fun s g h t hd hH => round (s.1) (s.2.1) (s.2.2.1) (s.2.2.2.1) (s.2.2.2.2.1) (s.2.2.2.2.2) g h t hd hH)
theorem round_end6 {α0 α1 α2 α3 α4 α5 : Type} {L : α0 → α1 → α2 → α3 → α4 → α5 → List (Nat × Value)} {H : α0 → α1 → α2 → α3 → α4 → α5 → Heap → Nat → Prop} {μ : α0 → α1 → α2 → α3 → α4 → α5 → Nat} {m : Nat} {e : Env} {h : Heap} {t : Nat} (x0 : α0) (x1 : α1) (x2 : α2) (x3 : α3) (x4 : α4) (x5 : α5) (hm : μ x0 x1 x2 x3 x4 x5 < m) (hL : Has e (L x0 x1 x2 x3 x4 x5)) (hH : H x0 x1 x2 x3 x4 x5 h t) :
    ∃ m', m' < m ∧ loopR6 L H μ m' e h t := ⟨_, hm, (x0, x1, x2, x3, x4, x5), rfl, hL, hH⟩
end Go.Vc
