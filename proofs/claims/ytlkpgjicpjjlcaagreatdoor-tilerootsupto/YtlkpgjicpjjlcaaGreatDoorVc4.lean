import Derived.Test.YtlkpgjicpjjlcaaGreatDoorVc3
/- A region whose order is drawn: a plan met once serves every order. -/
namespace Go.Vc
open Go
/-! ### a region that draws its order: one order that stands for all -/
variable {P : Program}

/-- One operation's part of a plan: its number; does it act; may it be put off past an act; is what stands still to be held behind it; the operations that are surely ahead of it. -/
structure PI where
  i : Nat
  loud : Bool
  fl : Bool
  ns : Bool
  b : Nat

def Sub (h h' : Heap) : Prop := ∀ b o, h b = some o → h' b = some o
theorem Sub.refl (h : Heap) : Sub h h := fun _ _ x => x
theorem Sub.trans {a b c : Heap} (x : Sub a b) (y : Sub b c) : Sub a c := fun k o h => y k o (x k o h)

def runD (P : Program) (hs : Heap) (x : PI) (o : Oper) (next : Env → Heap → Nat → Prop) (e : Env) (h : Heap) (t : Nat) : Prop :=
  match x.loud with
  | true => vcOp P e o (fun v h' t' =>
      match x.ns with
      | true => Sub hs h' ∧ putK e o.dst v (fun e => next e h' t')
      | false => putK e o.dst v (fun e => next e h' t')) h t
  | false => vcOpQ P e o (fun v => putK e o.dst v (fun e => next e h t)) (match x.fl with | true => hs | false => h)

def planStep (P : Program) (ops : Array Oper) (hs : Heap) (x : PI) (rest : Env → Heap → Nat → Prop) (e : Env) (h : Heap) (t : Nat) : Prop :=
  match ops[x.i]? with
  | none => False
  | some o =>
    match o.guard with
    | none => runD P hs x o rest e h t
    | some (j, want) =>
      match ops[j]? with
      | none => False
      | some oj =>
        match oj.dst with
        | none => False
        | some d =>
          match e d with
          | .bool b => guardVC want d e (fun e => runD P hs x o rest e h t) (fun e => putK e o.dst undef (fun e => rest e h t)) b
          | .tuple _ => putK e o.dst undef (fun e => rest e h t)
          | _ => False
noncomputable def vcD (P : Program) (ops : Array Oper) (hs : Heap) (K : Env → Heap → Nat → Prop) (l : List PI) : Env → Heap → Nat → Prop :=
  List.rec (motive := fun _ => Env → Heap → Nat → Prop) K (fun x _ ih => planStep P ops hs x ih) l

def dstOf (ops : Array Oper) (i : Nat) : Option Tmp := (ops[i]?).bind (·.dst)
def looksOf (ops : Array Oper) (i : Nat) : List Tmp := ((ops[i]?).map (·.looksAt ops)).getD []
def edgesOf (ops : Array Oper) (i : Nat) : List Nat := ((ops[i]?).map fun o => (o.after.toList.filter (Region.binds .any)).map (·.on)).getD []
def hasD (d : Option Tmp) (l : List Tmp) : Bool := match d with | some s => l.contains s | none => false
def sameD (d d' : Option Tmp) : Bool := match d with | some s => d' == some s | none => false
def maskOf (plan : List PI) (i : Nat) : Nat := ((plan.find? (·.i == i)).map (·.b)).getD 0
def isSel : Op → Bool | .select .. => true | _ => false

/-- x stands ahead of y. -/
def pairOk (ops : Array Oper) (x y : PI) : Bool :=
  (x.i != y.i) && !x.b.testBit y.i && !(edgesOf ops x.i).contains y.i && (!x.loud || y.b.testBit x.i) && !sameD (dstOf ops x.i) (dstOf ops y.i) &&
  (!hasD (dstOf ops x.i) (looksOf ops y.i) || y.b.testBit x.i) && (!hasD (dstOf ops y.i) (looksOf ops x.i) || y.b.testBit x.i) &&
  (!y.loud || x.loud || x.fl || y.b.testBit x.i) && (!y.loud || y.ns || !x.fl || y.b.testBit x.i) && (!x.loud || x.ns || !y.fl)
def pairsOk (ops : Array Oper) : List PI → Bool
  | [] => true
  | x :: r => r.all (pairOk ops x) && pairsOk ops r
def oneOk (ops : Array Oper) (plan : List PI) (x : PI) : Bool :=
  Nat.blt x.i ops.size && (!x.loud || !x.fl) && (edgesOf ops x.i).all (fun j => Nat.blt j ops.size && j != x.i) &&
  (List.range ops.size).all (fun j => !x.b.testBit j || (edgesOf ops x.i).any (fun k => k == j || (maskOf plan k).testBit j)) &&
  !((ops[x.i]?).map fun o => isSel o.op).getD true
def planOk (ops : Array Oper) (plan : List PI) : Bool :=
  Nat.beq plan.length ops.size && (pairsOk ops plan && plan.all (oneOk ops plan) && (List.range ops.size).all (fun j => plan.any (·.i == j)))

theorem pairsOk_append {ops : Array Oper} : ∀ (pre suf : List PI), pairsOk ops (pre ++ suf) = true → ∀ x ∈ pre, ∀ y ∈ suf, pairOk ops x y = true := by
  intro pre
  induction pre with
  | nil => intro suf _ x hx; cases hx
  | cons z pre ih =>
    intro suf h x hx y hy
    simp only [List.cons_append, pairsOk, Bool.and_eq_true, List.all_eq_true] at h
    rcases List.mem_cons.1 hx with rfl | hx
    · exact h.1 y (by simp [hy])
    · exact ih suf h.2 x hx y hy

theorem pairsOk_mem {ops : Array Oper} : ∀ (l : List PI), pairsOk ops l = true → ∀ x ∈ l, ∀ y ∈ l, x.i ≠ y.i → pairOk ops x y = true ∨ pairOk ops y x = true := by
  intro l
  induction l with
  | nil => intro _ x hx; cases hx
  | cons z l ih =>
    intro h x hx y hy hne
    simp only [pairsOk, Bool.and_eq_true, List.all_eq_true] at h
    rcases List.mem_cons.1 hx with hx1 | hx1 <;> rcases List.mem_cons.1 hy with hy1 | hy1
    · exact absurd (by rw [hx1, hy1]) hne
    · rw [hx1]; exact .inl (h.1 y hy1)
    · rw [hy1]; exact .inr (h.1 x hx1)
    · exact ih h.2 x hx1 y hy1 hne

theorem pairsOk_inj {ops : Array Oper} : ∀ (l : List PI), pairsOk ops l = true → ∀ x ∈ l, ∀ y ∈ l, x.i = y.i → x = y := by
  intro l
  induction l with
  | nil => intro _ x hx; cases hx
  | cons z l ih =>
    intro h x hx y hy he
    simp only [pairsOk, Bool.and_eq_true, List.all_eq_true] at h
    have key : ∀ u ∈ l, z.i ≠ u.i := by
      intro u hu
      have := h.1 u hu
      simp only [pairOk, Bool.and_eq_true, bne_iff_ne] at this
      exact this.1.1.1.1.1.1.1.1.1
    rcases List.mem_cons.1 hx with hx1 | hx1 <;> rcases List.mem_cons.1 hy with hy1 | hy1
    · rw [hx1, hy1]
    · exact absurd (hx1 ▸ he) (key y hy1)
    · exact absurd (hy1 ▸ he.symm) (key x hx1)
    · exact ih h.2 x hx1 y hy1 he

def lst (listed : Array Bool) (i : Nat) : Bool := listed.getD i false

theorem lst_set {listed : Array Bool} {i : Nat} (hi : i < listed.size) (j : Nat) : lst (listed.setIfInBounds i true) j = (lst listed j || j == i) := by
  unfold lst
  simp only [Array.getD_eq_getD_getElem?]
  by_cases e : j = i
  · subst e; simp [hi]
  · simp [Ne.symm e, e]

/-- All that the masks say is ahead is listed. -/
theorem bits_listed {ops : Array Oper} {plan : List PI} {listed : Array Bool} (hp : pairsOk ops plan = true) (ho : ∀ x ∈ plan, oneOk ops plan x = true)
    (hcl : ∀ x ∈ plan, lst listed x.i = true → ∀ j ∈ edgesOf ops x.i, lst listed j = true) :
    ∀ (n : Nat) (pre suf : List PI), pre.length = n → plan = pre ++ suf → ∀ x ∈ pre, (∀ j ∈ edgesOf ops x.i, lst listed j = true) → ∀ j, j < ops.size → x.b.testBit j = true → lst listed j = true := by
  intro n
  induction n with
  | zero => intro pre suf hl _ x hx; rw [List.length_eq_zero_iff.1 hl] at hx; cases hx
  | succ n ih0 =>
    intro pre0 suf hl hs x hx hedge j hj hb
    rcases List.eq_nil_or_concat pre0 with e0 | ⟨pre, z, e0⟩
    · rw [e0] at hx; cases hx
    rw [List.concat_eq_append] at e0
    subst e0
    have ih := fun suf => ih0 pre suf (by simpa using hl)
    have hs' : plan = pre ++ ([z] ++ suf) := by rw [hs]; simp
    rcases List.mem_append.1 hx with hx | hx
    · exact ih _ hs' x hx hedge j hj hb
    · have hxz : x = z := by simpa using hx
      subst hxz
      have hxp : x ∈ plan := by rw [hs]; simp
      have h1 := ho x hxp
      simp only [oneOk, Bool.and_eq_true, List.all_eq_true] at h1
      have h3 := h1.1.2 j (by simpa using hj)
      rw [hb] at h3
      simp only [Bool.not_true, Bool.false_or, List.any_eq_true, Bool.or_eq_true, beq_iff_eq] at h3
      obtain ⟨k, hk, hk2⟩ := h3
      rcases hk2 with rfl | hk2
      · exact hedge k hk
      · -- the mask of k
        unfold maskOf at hk2
        cases hf : plan.find? (·.i == k) with
        | none => rw [hf] at hk2; simp at hk2
        | some y =>
          rw [hf] at hk2
          simp only [Option.map_some, Option.getD_some] at hk2
          have hy := List.mem_of_find?_eq_some hf
          have hyk : y.i = k := by simpa using List.find?_some hf
          have hne : k ≠ x.i := by
            have := h1.1.1.2 k hk
            simpa using this.2
          have hyp : y ∈ pre := by
            rw [hs] at hy
            rcases List.mem_append.1 hy with hy | hy
            · rcases List.mem_append.1 hy with hy | hy
              · exact hy
              · simp at hy; subst hy; exact absurd hyk.symm hne
            · have := pairsOk_append (pre ++ [x]) suf (by rw [← hs]; exact hp) x (by simp) y hy
              simp only [pairOk, Bool.and_eq_true, Bool.not_eq_true'] at this
              have h5 := this.1.1.1.1.1.1.1.2
              rw [hyk] at h5
              rw [List.contains_iff_mem.2 hk] at h5; cases h5
          have hyl : lst listed y.i = true := by rw [hyk]; exact hedge k hk
          exact ih _ hs' y hyp (hcl y (by rw [hs']; simp [hyp]) hyl) j hj hk2

theorem countP_lt {α : Type} {p p' : α → Bool} : ∀ (l : List α), (∀ x ∈ l, p' x = true → p x = true) → (∃ x ∈ l, p x = true ∧ p' x = false) → l.countP p' < l.countP p := by
  intro l
  induction l with
  | nil => rintro _ ⟨x, hx, _⟩; cases hx
  | cons z l ih =>
    intro hle hex
    have hle' : ∀ x ∈ l, p' x = true → p x = true := fun x hx => hle x (by simp [hx])
    have hmono : l.countP p' ≤ l.countP p := List.countP_mono_left hle'
    obtain ⟨x, hx, h1, h2⟩ := hex
    rcases List.mem_cons.1 hx with rfl | hx
    · rw [List.countP_cons_of_neg (by simp [h2]), List.countP_cons_of_pos h1]; omega
    · have := ih hle' ⟨x, hx, h1, h2⟩
      cases h3 : p' z with
      | true => rw [List.countP_cons_of_pos h3, List.countP_cons_of_pos (hle z (by simp) h3)]; omega
      | false =>
        rw [List.countP_cons_of_neg (by simp [h3])]
        cases h4 : p z with
        | true => rw [List.countP_cons_of_pos h4]; omega
        | false => rw [List.countP_cons_of_neg (by simp [h4])]; exact this

def rS (ops : Array Oper) (plan : List PI) (e0 : Env) (x : PI) (e : Env) (s : Nat) : Value :=
  if plan.any (fun y => y.i != x.i && dstOf ops y.i == some s && x.b.testBit y.i) then e s else e0 s

/-- An operation that was told ahead and may run later. -/
def Pend (P : Program) (ops : Array Oper) (plan : List PI) (Q : Exit → Act → World → Prop) (g : World) (n : Nat) (e0 : Env) (x : PI) (e : Env) (hx : Heap) : Prop :=
  ∃ v, (∀ d, dstOf ops x.i = some d → e d = v) ∧ ∀ (a' : Act) (w' : World) (K' : Act → World → Prop) (tt : Nat), a'.tmps.size = n → (∀ s ∈ looksOf ops x.i, a'.tmps.getD s undef = rS ops plan e0 x e s) → Rel g hx tt w' →
    K' (a'.put (dstOf ops x.i) v) w' → wpOp P ops Q x.i K' a' w'

structure DInv (P : Program) (ops : Array Oper) (plan : List PI) (hs : Heap) (K : Env → Heap → Nat → Prop) (Q : Exit → Act → World → Prop) (g : World) (n : Nat) (e0 : Env) (t0 : Nat)
    (listed : Array Bool) (a : Act) (w : World) (pre suf : List PI) (e : Env) (h : Heap) (t : Nat) : Prop where
  split : plan = pre ++ suf
  lsz : listed.size = ops.size
  louds : ∀ x ∈ pre, x.loud = true → lst listed x.i = true
  sub : ∀ x ∈ plan, lst listed x.i = true → x ∈ pre
  closed : ∀ x ∈ plan, lst listed x.i = true → ∀ j ∈ edgesOf ops x.i, lst listed j = true
  vc : vcD P ops hs K suf e h t
  rel : Rel g h t w
  le : t0 ≤ t
  defers : a.defers = []
  size : a.tmps.size = n
  slots : ∀ s, (∀ x ∈ pre, lst listed x.i = false → dstOf ops x.i ≠ some s) → a.tmps.getD s undef = e s
  slotsP : ∀ x ∈ pre, lst listed x.i = false → ∀ s, dstOf ops x.i = some s → a.tmps.getD s undef = e0 s
  e0s : ∀ s, (∀ x ∈ pre, dstOf ops x.i ≠ some s) → e s = e0 s
  pend : ∀ x ∈ pre, lst listed x.i = false → Pend P ops plan Q g n e0 x e (if x.fl = true then hs else h)
  subh : (∃ x ∈ plan, x.fl = true ∧ lst listed x.i = false) → Sub hs h

theorem upd_eq_self {e : Env} {d : Nat} {v : Value} (hv : e d = v) : upd e d v = e := by
  funext i
  unfold upd
  cases hb : Nat.beq i d with
  | true => rw [Nat.eq_of_beq_eq_true hb, hv]; rfl
  | false => rfl

theorem upd_at (e : Env) (d : Nat) (v : Value) : upd e d v d = v := by simp [upd]
theorem upd_ne (e : Env) {d i : Nat} (v : Value) (h : i ≠ d) : upd e d v i = e i := by
  unfold upd
  have : Nat.beq i d = false := by cases hbq : Nat.beq i d with | false => rfl | true => exact absurd (Nat.eq_of_beq_eq_true hbq) h
  rw [this]; rfl

theorem guard_cases {want : Bool} {d : Nat} {e : Env} {go skip : Env → Prop} {b : Bool} (hb : e d = .bool b) (hv : guardVC want d e go skip b) :
    (b = want ∧ go e) ∨ (b ≠ want ∧ skip e) := by
  unfold guardVC at hv
  cases b <;> cases want <;> simp only [bsel] at hv
  · rw [upd_eq_self hb] at hv; exact .inl ⟨rfl, hv⟩
  · rw [upd_eq_self hb] at hv; exact .inr ⟨by simp, hv⟩
  · rw [upd_eq_self hb] at hv; exact .inr ⟨by simp, hv⟩
  · rw [upd_eq_self hb] at hv; exact .inl ⟨rfl, hv⟩

/-- What the next operation of the plan does: it is skipped, or it runs. -/
theorem vcD_cons {ops : Array Oper} {hs : Heap} {K : Env → Heap → Nat → Prop} {x : PI} {rest : List PI} {e : Env} {h : Heap} {t : Nat} {n : Nat} (hn : ∀ o ∈ ops.toList, ∀ d, o.dst = some d → d < n)
    (hv : vcD P ops hs K (x :: rest) e h t) :
    ∃ o, ops[x.i]? = some o ∧ ((∀ (a : Act), a.tmps.size = n → (∀ s ∈ looksOf ops x.i, a.tmps.getD s undef = e s) → Region.wanted o (yielded ops a.tmps) = true) ∧ runD P hs x o (vcD P ops hs K rest) e h t ∨
      (∀ (a : Act), a.tmps.size = n → (∀ s ∈ looksOf ops x.i, a.tmps.getD s undef = e s) → Region.wanted o (yielded ops a.tmps) = false) ∧ vcD P ops hs K rest (putE e o.dst undef) h t) := by
  replace hv : planStep P ops hs x (vcD P ops hs K rest) e h t := hv
  unfold planStep at hv
  split at hv
  · exact hv.elim
  · rename_i o ho
    refine ⟨o, ho, ?_⟩
    split at hv
    · rename_i hg
      exact .inl ⟨fun _ _ _ => by simp [Region.wanted, hg], hv⟩
    · rename_i j want hg
      split at hv
      · exact hv.elim
      · rename_i oj hj
        split at hv
        · exact hv.elim
        · rename_i d hd
          split at hv
          · rename_i b hb
            have hdl : d ∈ looksOf ops x.i := by
              simp [looksOf, ho, Oper.looksAt, hg, hj, hd]
            have hoj : oj ∈ ops.toList := by
              obtain ⟨hlt, he⟩ := Array.getElem?_eq_some_iff.1 hj
              rw [← he]; simp
            have hy : ∀ (a : Act), a.tmps.size = n → (∀ s ∈ looksOf ops x.i, a.tmps.getD s undef = e s) → Region.wanted o (yielded ops a.tmps) = (b == want) := by
              intro a hsz ha
              have h1 := ha d hdl
              have hlt' : d < a.tmps.size := by rw [hsz]; exact hn oj hoj d hd
              have h2 : a.tmps[d]? = some (Value.bool b) := by
                rw [Array.getElem?_eq_getElem hlt']
                rw [Array.getD_eq_getD_getElem?, Array.getElem?_eq_getElem hlt', hb] at h1
                simpa using h1
              simp only [Region.wanted, hg, yielded, hj, Option.bind_some, hd, h2]
              cases b <;> cases want <;> rfl
            rcases guard_cases hb hv with ⟨e1, hgo⟩ | ⟨e1, hsk⟩
            · exact .inl ⟨fun a h1 h2 => by rw [hy a h1 h2, e1]; simp, hgo⟩
            · exact .inr ⟨fun a h1 h2 => by rw [hy a h1 h2]; simpa using e1, by rw [putK_eq] at hsk; exact hsk⟩
          · rename_i y hb
            have hdl : d ∈ looksOf ops x.i := by
              simp [looksOf, ho, Oper.looksAt, hg, hj, hd]
            have hoj : oj ∈ ops.toList := by
              obtain ⟨hlt, he⟩ := Array.getElem?_eq_some_iff.1 hj
              rw [← he]; simp
            refine .inr ⟨fun a hsz ha => ?_, by rw [putK_eq] at hv; exact hv⟩
            have h1 := ha d hdl
            have hlt' : d < a.tmps.size := by rw [hsz]; exact hn oj hoj d hd
            have h2 : a.tmps[d]? = some (Value.tuple y) := by
              rw [Array.getElem?_eq_getElem hlt']
              rw [Array.getD_eq_getD_getElem?, Array.getElem?_eq_getElem hlt', hb] at h1
              simpa using h1
            simp only [Region.wanted, hg, yielded, hj, Option.bind_some, hd, h2]
            rfl
          · exact hv.elim

theorem put_get {a : Act} {dst : Option Tmp} {v : Value} {n : Nat} (hsz : a.tmps.size = n) (hd : ∀ d, dst = some d → d < n) (s : Nat) :
    (a.put dst v).tmps.getD s undef = putE (fun i => a.tmps.getD i undef) dst v s := by
  have := (AR.put (n := n) (e := fun i => a.tmps.getD i undef) (a := { a with defers := [] }) ⟨rfl, hsz, fun _ => rfl⟩ dst hd v).get s
  cases dst <;> exact this

theorem put_size (a : Act) (dst : Option Tmp) (v : Value) : (a.put dst v).tmps.size = a.tmps.size := by cases dst <;> simp [Act.put]
theorem put_defers (a : Act) (dst : Option Tmp) (v : Value) : (a.put dst v).defers = a.defers := by cases dst <;> rfl

theorem exec_agree {ops : Array Oper} {plan : List PI} {x : PI} {o : Oper} {a : Act} {e : Env} (ho : ops[x.i]? = some o) (h1 : oneOk ops plan x = true) (ha : ∀ s ∈ looksOf ops x.i, a.tmps.getD s undef = e s) :
    execOp a.eval o = execOp (evalE e) o := by
  refine execOp_congr o ?_ ?_
  · intro cs b he
    simp only [oneOk, Bool.and_eq_true] at h1
    have := h1.2
    simp [ho, he, isSel] at this
  · intro z hz
    cases z with
    | tmp s =>
      simp only [Act.eval, evalE]
      exact ha s (by
        simp only [looksOf, ho, Option.map_some, Option.getD_some, Oper.looksAt]
        exact List.mem_append_left _ (List.mem_filterMap.2 ⟨.tmp s, by simpa using hz, rfl⟩))
    | const v => rfl
    | global g => rfl
    | func f => rfl

theorem dst_lt {ops : Array Oper} {n : Nat} (hn : ∀ o ∈ ops.toList, ∀ d, o.dst = some d → d < n) {i d : Nat} (h : dstOf ops i = some d) : d < n := by
  unfold dstOf at h
  cases ho : ops[i]? with
  | none => rw [ho] at h; cases h
  | some o =>
    rw [ho] at h
    obtain ⟨hlt, he⟩ := Array.getElem?_eq_some_iff.1 ho
    exact hn o (by rw [← he]; simp) d h

theorem pair_ne {ops : Array Oper} {x y : PI} (h : pairOk ops x y = true) : x.i ≠ y.i := by
  simp only [pairOk, Bool.and_eq_true, bne_iff_ne] at h
  exact h.1.1.1.1.1.1.1.1.1

theorem pair_dst {ops : Array Oper} {x y : PI} (h : pairOk ops x y = true) {s : Nat} (hx : dstOf ops x.i = some s) : dstOf ops y.i ≠ some s := by
  simp only [pairOk, Bool.and_eq_true, Bool.not_eq_true'] at h
  have := h.1.1.1.1.1.2
  rw [hx] at this
  intro hy
  simp [sameD, hy] at this

section steps
variable {ops : Array Oper} {plan : List PI} {hs : Heap} {K : Env → Heap → Nat → Prop} {Q : Exit → Act → World → Prop} {g : World} {n : Nat} {e0 : Env} {t0 : Nat}

/-- What an operation that stands next looks at is what the one order says. -/
theorem looks_next (hp : pairsOk ops plan = true) {listed : Array Bool} {a : Act} {w : World} {pre rest : List PI} {x : PI} {e : Env} {h : Heap} {t : Nat}
    (I : DInv P ops plan hs K Q g n e0 t0 listed a w pre (x :: rest) e h t) : ∀ s ∈ looksOf ops x.i, e s = rS ops plan e0 x e s := by
  intro s hsl
  unfold rS
  split
  · rfl
  · rename_i hno
    refine I.e0s s fun y hy hd => ?_
    apply hno
    have hpy := pairsOk_append pre (x :: rest) (by rw [← I.split]; exact hp) y hy x (by simp)
    have hne := pair_ne hpy
    simp only [pairOk, Bool.and_eq_true] at hpy
    have h6 := hpy.1.1.1.1.2
    rw [hd] at h6
    simp only [hasD, List.contains_iff_mem.2 hsl, Bool.not_true, Bool.false_or] at h6
    simp only [List.any_eq_true, Bool.and_eq_true, bne_iff_ne, beq_iff_eq]
    exact ⟨y, by rw [I.split]; simp [hy], ⟨hne, hd⟩, h6⟩

/-- A told operation stays told while a later one is told. -/
theorem pend_later (hp : pairsOk ops plan = true) {x y : PI} {e : Env} {hx : Heap} {v : Value} (hpxy : pairOk ops x y = true) (hyp : y ∈ plan) (h : Pend P ops plan Q g n e0 x e hx) : Pend P ops plan Q g n e0 x (putE e (dstOf ops y.i) v) hx := by
  obtain ⟨u, h1, h2⟩ := h
  have hput : ∀ s, dstOf ops y.i ≠ some s → putE e (dstOf ops y.i) v s = e s := by
    intro s hd
    cases hdy : dstOf ops y.i with
    | none => rfl
    | some d => rw [hdy] at hd; exact upd_ne e v (fun he => hd (by rw [he]))
  refine ⟨u, ?_, ?_⟩
  · intro d hd
    rw [hput d (pair_dst hpxy hd)]; exact h1 d hd
  · intro a' w' K' tt hsz hag hr hk
    refine h2 a' w' K' tt hsz ?_ hr hk
    intro s hsl
    rw [hag s hsl]
    unfold rS
    split
    · rename_i hany
      refine hput s fun hd => ?_
      simp only [List.any_eq_true, Bool.and_eq_true, bne_iff_ne, beq_iff_eq] at hany
      obtain ⟨z, hz, ⟨hzx, hzd⟩, hzb⟩ := hany
      -- z writes what y writes: they are one
      have hzy : z = y := by
        refine pairsOk_inj plan hp z hz y hyp ?_
        apply Classical.byContradiction
        intro hne
        rcases pairsOk_mem plan hp z hz y hyp hne with hq | hq
        · exact pair_dst hq hzd hd
        · exact pair_dst hq hd hzd
      rw [hzy] at hzb
      simp only [pairOk, Bool.and_eq_true, Bool.not_eq_true'] at hpxy
      rw [hpxy.1.1.1.1.1.1.1.1.2] at hzb
      cases hzb
    · rfl
/-- The next operation that only reads (or is skipped) is told ahead. -/
theorem tell (hp : pairsOk ops plan = true) (ho1 : ∀ x ∈ plan, oneOk ops plan x = true) (hn : ∀ o ∈ ops.toList, ∀ d, o.dst = some d → d < n)
    {listed : Array Bool} {a : Act} {w : World} {pre rest : List PI} {x : PI} {e : Env} {h : Heap} {t : Nat}
    (I : DInv P ops plan hs K Q g n e0 t0 listed a w pre (x :: rest) e h t) (hq : x.loud = false) :
    ∃ e1, DInv P ops plan hs K Q g n e0 t0 listed a w (pre ++ [x]) rest e1 h t := by
  have hxp : x ∈ plan := by rw [I.split]; simp
  have hul : lst listed x.i = false := by
    cases hl : lst listed x.i with
    | false => rfl
    | true =>
      have := I.sub x hxp hl
      exact absurd rfl (pair_ne (pairsOk_append pre (x :: rest) (by rw [← I.split]; exact hp) x this x (by simp)))
  have hlooks := looks_next hp I
  have hpx : ∀ y ∈ pre, pairOk ops y x = true := fun y hy => pairsOk_append pre (x :: rest) (by rw [← I.split]; exact hp) y hy x (by simp)
  -- the rest, once a value is fixed that the operation yields wherever it may run
  have main : ∀ v, vcD P ops hs K rest (putE e (dstOf ops x.i) v) h t →
      (∀ (a' : Act) (w' : World) (K' : Act → World → Prop) (tt : Nat), a'.tmps.size = n → (∀ s ∈ looksOf ops x.i, a'.tmps.getD s undef = e s) → Rel g (if x.fl = true then hs else h) tt w' →
        K' (a'.put (dstOf ops x.i) v) w' → wpOp P ops Q x.i K' a' w') → ∃ e1, DInv P ops plan hs K Q g n e0 t0 listed a w (pre ++ [x]) rest e1 h t := by
    intro v hv hrun
    have hput : ∀ s, dstOf ops x.i ≠ some s → putE e (dstOf ops x.i) v s = e s := by
      intro s hds
      cases hdy : dstOf ops x.i with
      | none => rfl
      | some d => rw [hdy] at hds; exact upd_ne e v (fun he => hds (by rw [he]))
    refine ⟨putE e (dstOf ops x.i) v, ?_⟩
    refine { split := by rw [I.split]; simp, lsz := I.lsz, louds := ?_, sub := fun y hy hl => List.mem_append_left _ (I.sub y hy hl), closed := I.closed, vc := hv, rel := I.rel, le := I.le, defers := I.defers, size := I.size, slots := ?_, slotsP := ?_, e0s := ?_, pend := ?_, subh := I.subh }
    · intro y hy hl
      rcases List.mem_append.1 hy with hy | hy
      · exact I.louds y hy hl
      · simp at hy; rw [hy, hq] at hl; cases hl
    · intro s hs
      have h1 : dstOf ops x.i ≠ some s := hs x (by simp) hul
      rw [hput s h1]
      exact I.slots s (fun y hy => hs y (by simp [hy]))
    · intro y hy hl s hds
      rcases List.mem_append.1 hy with hy | hy
      · exact I.slotsP y hy hl s hds
      · simp at hy
        rw [hy] at hds
        have hno : ∀ z ∈ pre, dstOf ops z.i ≠ some s := fun z hz hzd => pair_dst (hpx z hz) hzd hds
        rw [I.slots s (fun z hz _ => hno z hz), I.e0s s hno]
    · intro s hs
      rw [hput s (hs x (by simp))]
      exact I.e0s s (fun y hy => hs y (by simp [hy]))
    · intro y hy hl
      rcases List.mem_append.1 hy with hy | hy
      · exact pend_later hp (hpx y hy) hxp (I.pend y hy hl)
      · simp at hy
        rw [hy]
        refine ⟨v, fun d hd => by rw [hd]; exact upd_at _ _ _, ?_⟩
        intro a' w' K' tt hsz hag hr hk
        refine hrun a' w' K' tt hsz ?_ hr hk
        intro s hsl
        rw [hag s hsl, hlooks s hsl]
        unfold rS
        split
        · rename_i hany
          refine hput s fun hds => ?_
          simp only [List.any_eq_true, Bool.and_eq_true, bne_iff_ne, beq_iff_eq] at hany
          obtain ⟨z, hz, ⟨hzx, hzd⟩, hzb⟩ := hany
          rcases pairsOk_mem plan hp z hz x hxp hzx with hq2 | hq2
          · exact pair_dst hq2 hzd hds
          · exact pair_dst hq2 hds hzd
        · rfl
  obtain ⟨o, ho, hc⟩ := vcD_cons hn I.vc
  have hd : dstOf ops x.i = o.dst := by simp [dstOf, ho]
  rcases hc with ⟨hw, hv⟩ | ⟨hw, hv⟩
  · unfold runD at hv
    rw [hq] at hv
    simp only [putK_eq] at hv
    obtain ⟨v, hv1, hv2⟩ := vcOpQ_all hv
    refine main v (by rw [hd]; exact hv1) ?_
    intro a' w' K' tt hsz hag hr hk
    unfold wpOp
    rw [ho]
    simp only []
    rw [if_pos (hw a' hsz hag)]
    refine .inl ?_
    unfold Oper.wp
    rw [exec_agree ho (ho1 x hxp) hag]
    have hx2 : Rel g (match x.fl with | true => hs | false => h) tt w' := by
      cases hf : x.fl with
      | true => rw [hf] at hr; exact hr
      | false => rw [hf] at hr; exact hr
    rw [hv2 g tt w' hx2]
    rw [hd] at hk
    exact hk
  · refine main undef (by rw [hd]; exact hv) ?_
    intro a' w' K' tt hsz hag hr hk
    unfold wpOp
    rw [ho]
    simp only []
    rw [if_neg (by rw [hw a' hsz hag]; simp)]
    rw [hd] at hk
    exact hk
/-- Told ahead as far as may be: up to an operation that acts, and has not run. -/
theorem advance (hp : pairsOk ops plan = true) (ho1 : ∀ x ∈ plan, oneOk ops plan x = true) (hn : ∀ o ∈ ops.toList, ∀ d, o.dst = some d → d < n)
    {listed : Array Bool} {a : Act} {w : World} : ∀ (suf pre : List PI) {e : Env} {h : Heap} {t : Nat}, DInv P ops plan hs K Q g n e0 t0 listed a w pre suf e h t →
      ∃ pre' suf' e', DInv P ops plan hs K Q g n e0 t0 listed a w pre' suf' e' h t ∧ ∀ m r, suf' = m :: r → m.loud = true := by
  intro suf
  induction suf with
  | nil => intro pre e h t I; exact ⟨pre, [], e, I, fun m r hh => by cases hh⟩
  | cons x rest ih =>
    intro pre e h t I
    cases hl : x.loud with
    | true => exact ⟨pre, x :: rest, e, I, fun m r hh => by cases hh; exact hl⟩
    | false =>
      obtain ⟨e1, I1⟩ := tell hp ho1 hn I hl
      exact ih _ I1

theorem bits (hp : pairsOk ops plan = true) (ho1 : ∀ x ∈ plan, oneOk ops plan x = true) {listed : Array Bool} {a : Act} {w : World} {pre suf : List PI} {e : Env} {h : Heap} {t : Nat}
    (I : DInv P ops plan hs K Q g n e0 t0 listed a w pre suf e h t) {x y : PI} (hx : x ∈ plan) (hy : y ∈ plan) (hedge : ∀ j ∈ edgesOf ops x.i, lst listed j = true) (hb : x.b.testBit y.i = true) : lst listed y.i = true := by
  have hlt : y.i < ops.size := by
    have := ho1 y hy
    simp only [oneOk, Bool.and_eq_true] at this
    exact Nat.blt_eq ▸ this.1.1.1.1
  exact bits_listed hp ho1 I.closed plan.length plan [] rfl (by simp) x hx hedge y.i hlt hb

/-- One told operation runs. -/
theorem run_told (hp : pairsOk ops plan = true) (ho1 : ∀ x ∈ plan, oneOk ops plan x = true) (hn : ∀ o ∈ ops.toList, ∀ d, o.dst = some d → d < n)
    {listed : Array Bool} {a : Act} {w : World} {pre suf : List PI} {e : Env} {h : Heap} {t : Nat}
    (I : DInv P ops plan hs K Q g n e0 t0 listed a w pre suf e h t) {x : PI} (hx : x ∈ pre) (hul : lst listed x.i = false) (hedge : ∀ j ∈ edgesOf ops x.i, lst listed j = true) {N : Act → World → Prop}
    (hN : ∀ a1, DInv P ops plan hs K Q g n e0 t0 (listed.setIfInBounds x.i true) a1 w pre suf e h t → N a1 w) : wpOp P ops Q x.i N a w := by
  have hxp : x ∈ plan := by rw [I.split]; simp [hx]
  have hxlt : x.i < listed.size := by
    have := ho1 x hxp
    simp only [oneOk, Bool.and_eq_true] at this
    rw [I.lsz]; exact Nat.blt_eq ▸ this.1.1.1.1
  have hset := lst_set (listed := listed) hxlt
  obtain ⟨v, h1, h2⟩ := I.pend x hx hul
  have hrel : Rel g (if x.fl = true then hs else h) t w := by
    cases hf : x.fl with
    | true =>
      have hsub := I.subh ⟨x, hxp, hf, hul⟩
      exact ⟨I.rel.os, I.rel.tape, I.rel.output, fun b o hb => I.rel.blk b o (hsub b o hb), fun b o hb => I.rel.dom b o (hsub b o hb), I.rel.top⟩
    | false => exact I.rel
  refine h2 a w N t I.size ?_ hrel ?_
  · -- what it looks at
    intro s hsl
    unfold rS
    split
    · rename_i hany
      simp only [List.any_eq_true, Bool.and_eq_true, bne_iff_ne, beq_iff_eq] at hany
      obtain ⟨z, hz, ⟨hzx, hzd⟩, hzb⟩ := hany
      have hzl := bits hp ho1 I hxp hz hedge hzb
      refine I.slots s fun y hy hyl hyd => ?_
      have : y.i ≠ z.i := fun he => by rw [he, hzl] at hyl; cases hyl
      rcases pairsOk_mem plan hp y (by rw [I.split]; simp [hy]) z hz this with hq2 | hq2
      · exact pair_dst hq2 hyd hzd
      · exact pair_dst hq2 hzd hyd
    · rename_i hno
      by_cases hex : ∃ y ∈ pre, dstOf ops y.i = some s
      · obtain ⟨y, hy, hyd⟩ := hex
        have hyp : y ∈ plan := by rw [I.split]; simp [hy]
        by_cases hyx : y.i = x.i
        · have : y = x := pairsOk_inj plan hp y hyp x hxp hyx
          rw [this] at hyd
          exact I.slotsP x hx hul s hyd
        · -- y looks after x
          have hnb : x.b.testBit y.i = false := by
            cases hb : x.b.testBit y.i with
            | false => rfl
            | true => exact absurd (List.any_eq_true.2 ⟨y, hyp, by simp [hyx, hyd, hb]⟩) hno
          have hpxy : pairOk ops x y = true := by
            rcases pairsOk_mem plan hp x hxp y hyp (Ne.symm hyx) with hq2 | hq2
            · exact hq2
            · simp only [pairOk, Bool.and_eq_true] at hq2
              have h6 := hq2.1.1.1.1.2
              rw [hyd] at h6
              simp only [hasD, List.contains_iff_mem.2 hsl, Bool.not_true, Bool.false_or] at h6
              rw [h6] at hnb; cases hnb
          have hyb : y.b.testBit x.i = true := by
            simp only [pairOk, Bool.and_eq_true] at hpxy
            have h7 := hpxy.1.1.1.2
            rw [hyd] at h7
            simpa only [hasD, List.contains_iff_mem.2 hsl, Bool.not_true, Bool.false_or] using h7
          have hyl : lst listed y.i = false := by
            cases hl : lst listed y.i with
            | false => rfl
            | true =>
              have := bits hp ho1 I hyp hxp (I.closed y hyp hl) hyb
              rw [this] at hul; cases hul
          exact I.slotsP y hy hyl s hyd
      · have hno2 : ∀ y ∈ pre, dstOf ops y.i ≠ some s := fun y hy hd => hex ⟨y, hy, hd⟩
        rw [I.slots s (fun y hy _ => hno2 y hy), I.e0s s hno2]
  · refine hN _ ?_
    have hget := put_get (a := a) (dst := dstOf ops x.i) (v := v) I.size (fun d hd => dst_lt hn hd)
    have hother : ∀ s, dstOf ops x.i ≠ some s → (a.put (dstOf ops x.i) v).tmps.getD s undef = a.tmps.getD s undef := by
      intro s hds
      rw [hget s]
      cases hdy : dstOf ops x.i with
      | none => rfl
      | some d => rw [hdy] at hds; exact upd_ne (fun i => a.tmps.getD i undef) v (fun he => hds (by rw [he]))
    have hunl : ∀ y, lst (listed.setIfInBounds x.i true) y = false → lst listed y = false ∧ y ≠ x.i := by
      intro y hy
      rw [hset] at hy
      simp only [Bool.or_eq_false_iff, beq_eq_false_iff_ne] at hy
      exact hy
    refine { split := I.split, lsz := by simp [I.lsz], louds := ?_, sub := ?_, closed := ?_, vc := I.vc, rel := I.rel, le := I.le, defers := by rw [put_defers]; exact I.defers, size := by rw [put_size]; exact I.size, slots := ?_, slotsP := ?_, e0s := I.e0s, pend := ?_, subh := ?_ }
    · intro y hy hl; rw [hset, I.louds y hy hl]; rfl
    · intro y hy hl
      rw [hset] at hl
      simp only [Bool.or_eq_true, beq_iff_eq] at hl
      rcases hl with hl | hl
      · exact I.sub y hy hl
      · rw [pairsOk_inj plan hp y hy x hxp hl]; exact hx
    · intro y hy hl j hj
      rw [hset] at hl ⊢
      simp only [Bool.or_eq_true, beq_iff_eq] at hl ⊢
      rcases hl with hl | hl
      · exact .inl (I.closed y hy hl j hj)
      · rw [hl] at hj; exact .inl (hedge j hj)
    · intro s hs
      by_cases hds : dstOf ops x.i = some s
      · rw [hget s, hds, h1 s hds]; exact upd_at (fun i => a.tmps.getD i undef) s v
      · rw [hother s hds]
        refine I.slots s fun y hy hyl => ?_
        by_cases hyx : y.i = x.i
        · rw [hyx]; exact hds
        · exact hs y hy (by rw [hset, hyl]; simp [hyx])
    · intro y hy hyl s hds
      obtain ⟨hyl1, hyx⟩ := hunl y.i hyl
      rw [hother s ?_]
      · exact I.slotsP y hy hyl1 s hds
      · intro hxd
        have hyp : y ∈ plan := by rw [I.split]; simp [hy]
        rcases pairsOk_mem plan hp y hyp x hxp hyx with hq2 | hq2
        · exact pair_dst hq2 hds hxd
        · exact pair_dst hq2 hxd hds
    · intro y hy hyl; exact I.pend y hy (hunl y.i hyl).1
    · rintro ⟨y, hy, hf, hyl⟩; exact I.subh ⟨y, hy, hf, (hunl y.i hyl).1⟩
/-- The next operation that acts runs. -/
theorem run_loud (hp : pairsOk ops plan = true) (ho1 : ∀ x ∈ plan, oneOk ops plan x = true) (hn : ∀ o ∈ ops.toList, ∀ d, o.dst = some d → d < n)
    {listed : Array Bool} {a : Act} {w : World} {pre rest : List PI} {m : PI} {e : Env} {h : Heap} {t : Nat}
    (I : DInv P ops plan hs K Q g n e0 t0 listed a w pre (m :: rest) e h t) (hm : m.loud = true) (hedge : ∀ j ∈ edgesOf ops m.i, lst listed j = true) {N : Act → World → Prop}
    (hN : ∀ a1 w1 e1 h1 t1, DInv P ops plan hs K Q g n e0 t0 (listed.setIfInBounds m.i true) a1 w1 (pre ++ [m]) rest e1 h1 t1 → N a1 w1) : wpOp P ops Q m.i N a w := by
  have hmp : m ∈ plan := by rw [I.split]; simp
  have hpx : ∀ y ∈ pre, pairOk ops y m = true := fun y hy => pairsOk_append pre (m :: rest) (by rw [← I.split]; exact hp) y hy m (by simp)
  have hpr : ∀ y ∈ rest, pairOk ops m y = true := fun y hy => pairsOk_append (pre ++ [m]) rest (by rw [List.append_assoc]; rw [← show plan = pre ++ ([m] ++ rest) from I.split]; exact hp) m (by simp) y hy
  have hmlt : m.i < listed.size := by
    have := ho1 m hmp
    simp only [oneOk, Bool.and_eq_true] at this
    rw [I.lsz]; exact Nat.blt_eq ▸ this.1.1.1.1
  have hmfl : m.fl = false := by
    have := ho1 m hmp
    simp only [oneOk, Bool.and_eq_true, hm, Bool.not_true, Bool.false_or, Bool.not_eq_true'] at this
    exact this.1.1.1.2
  have hset := lst_set (listed := listed) hmlt
  have hunl : ∀ y, lst (listed.setIfInBounds m.i true) y = false → lst listed y = false ∧ y ≠ m.i := by
    intro y hy
    rw [hset] at hy
    simp only [Bool.or_eq_false_iff, beq_eq_false_iff_ne] at hy
    exact hy
  have hlooks : ∀ s ∈ looksOf ops m.i, a.tmps.getD s undef = e s := by
    intro s hsl
    refine I.slots s fun y hy hyl hyd => ?_
    have h6 := hpx y hy
    simp only [pairOk, Bool.and_eq_true] at h6
    have h6 := h6.1.1.1.1.2
    rw [hyd] at h6
    simp only [hasD, List.contains_iff_mem.2 hsl, Bool.not_true, Bool.false_or] at h6
    have := bits hp ho1 I hmp (by rw [I.split]; simp [hy]) hedge h6
    rw [this] at hyl; cases hyl
  -- once it has run
  have main : ∀ v w1 h1 t1, Rel g h1 t1 w1 → t ≤ t1 → ((∃ y ∈ plan, y.fl = true ∧ lst listed y.i = false) → Sub hs h1) → (∀ y ∈ pre, lst listed y.i = false → y.fl = true) →
      vcD P ops hs K rest (putE e (dstOf ops m.i) v) h1 t1 → N (a.put (dstOf ops m.i) v) w1 := by
    intro v w1 h1 t1 hr1 ht1 hns hfl hv
    have hget := put_get (a := a) (dst := dstOf ops m.i) (v := v) I.size (fun d hd => dst_lt hn hd)
    have hother : ∀ s, dstOf ops m.i ≠ some s → (a.put (dstOf ops m.i) v).tmps.getD s undef = a.tmps.getD s undef := by
      intro s hds
      rw [hget s]
      cases hdy : dstOf ops m.i with
      | none => rfl
      | some d => rw [hdy] at hds; exact upd_ne (fun i => a.tmps.getD i undef) v (fun he => hds (by rw [he]))
    have hput : ∀ s, dstOf ops m.i ≠ some s → putE e (dstOf ops m.i) v s = e s := by
      intro s hds
      cases hdy : dstOf ops m.i with
      | none => rfl
      | some d => rw [hdy] at hds; exact upd_ne e v (fun he => hds (by rw [he]))
    refine hN _ w1 (putE e (dstOf ops m.i) v) h1 t1 ?_
    refine { split := by rw [I.split]; simp, lsz := by simp [I.lsz], louds := ?_, sub := ?_, closed := ?_, vc := hv, rel := hr1, le := Nat.le_trans I.le ht1, defers := by rw [put_defers]; exact I.defers, size := by rw [put_size]; exact I.size, slots := ?_, slotsP := ?_, e0s := ?_, pend := ?_, subh := ?_ }
    · intro y hy hl
      rcases List.mem_append.1 hy with hy | hy
      · rw [hset, I.louds y hy hl]; rfl
      · simp at hy; rw [hset, hy]; simp
    · intro y hy hl
      rw [hset] at hl
      simp only [Bool.or_eq_true, beq_iff_eq] at hl
      rcases hl with hl | hl
      · exact List.mem_append_left _ (I.sub y hy hl)
      · rw [pairsOk_inj plan hp y hy m hmp hl]; simp
    · intro y hy hl j hj
      rw [hset] at hl ⊢
      simp only [Bool.or_eq_true, beq_iff_eq] at hl ⊢
      rcases hl with hl | hl
      · exact .inl (I.closed y hy hl j hj)
      · rw [hl] at hj; exact .inl (hedge j hj)
    · intro s hs
      by_cases hds : dstOf ops m.i = some s
      · rw [hget s, hds]
        exact (upd_at (fun i => a.tmps.getD i undef) s v).trans (upd_at e s v).symm
      · rw [hother s hds, hput s hds]
        refine I.slots s fun y hy hyl => ?_
        by_cases hyx : y.i = m.i
        · rw [hyx]; exact hds
        · exact hs y (by simp [hy]) (by rw [hset, hyl]; simp [hyx])
    · intro y hy hyl s hds
      obtain ⟨hyl1, hyx⟩ := hunl y.i hyl
      rcases List.mem_append.1 hy with hy | hy
      · rw [hother s (pair_dst (hpx y hy) hds)]
        exact I.slotsP y hy hyl1 s hds
      · simp at hy; rw [hy] at hyx; exact absurd rfl hyx
    · intro s hs
      rw [hput s (hs m (by simp))]
      exact I.e0s s (fun y hy => hs y (by simp [hy]))
    · intro y hy hyl
      obtain ⟨hyl1, hyx⟩ := hunl y.i hyl
      rcases List.mem_append.1 hy with hy | hy
      · have hf := hfl y hy hyl1
        have := I.pend y hy hyl1
        rw [hf] at this ⊢
        exact pend_later hp (hpx y hy) hmp this
      · simp at hy; rw [hy] at hyx; exact absurd rfl hyx
    · rintro ⟨y, hy, hf, hyl⟩; exact hns ⟨y, hy, hf, (hunl y.i hyl).1⟩
  have hflp : ∀ y ∈ pre, lst listed y.i = false → y.fl = true := by
    intro y hy hyl
    have hyq : y.loud = false := by
      cases hl : y.loud with
      | false => rfl
      | true => rw [I.louds y hy hl] at hyl; cases hyl
    cases hf : y.fl with
    | true => rfl
    | false =>
      have h8 := hpx y hy
      simp only [pairOk, Bool.and_eq_true] at h8
      have h8 := h8.1.1.2
      rw [hm, hyq, hf] at h8
      simp at h8
      have := bits hp ho1 I hmp (by rw [I.split]; simp [hy]) hedge h8
      rw [this] at hyl; cases hyl
  have hnsf : m.ns = false → ∀ y ∈ plan, y.fl = true → lst listed y.i = true := by
    intro hns y hy hf
    rw [I.split] at hy
    rcases List.mem_append.1 hy with hy | hy
    · have h9 := hpx y hy
      simp only [pairOk, Bool.and_eq_true] at h9
      have h9 := h9.1.2
      rw [hm, hns, hf] at h9
      simp at h9
      exact bits hp ho1 I hmp (by rw [I.split]; simp [hy]) hedge h9
    · rcases List.mem_cons.1 hy with hy | hy
      · rw [hy, hmfl] at hf; cases hf
      · have h10 := hpr y hy
        simp only [pairOk, Bool.and_eq_true] at h10
        have h10 := h10.2
        rw [hm, hns, hf] at h10
        simp at h10
  obtain ⟨o, ho, hc⟩ := vcD_cons hn I.vc
  have hd : dstOf ops m.i = o.dst := by simp [dstOf, ho]
  unfold wpOp
  rw [ho]
  simp only []
  rcases hc with ⟨hw, hv⟩ | ⟨hw, hv⟩
  · rw [if_pos (hw a I.size hlooks)]
    refine .inl ?_
    unfold runD at hv
    rw [hm] at hv
    simp only [putK_eq] at hv
    unfold Oper.wp
    rw [exec_agree ho (ho1 m hmp) hlooks]
    obtain ⟨nx, w', h', t', e1, e2, e3, e4⟩ := vcOp_ran hv I.rel
    rw [e1]
    have fin : ∀ v w1 h1 t1, Rel g h1 t1 w1 → t ≤ t1 → (match m.ns with | true => Sub hs h1 ∧ vcD P ops hs K rest (putE e o.dst v) h1 t1 | false => vcD P ops hs K rest (putE e o.dst v) h1 t1) → N (a.put o.dst v) w1 := by
      intro v w1 h1 t1 r1 r2 r3
      have := main v w1 h1 t1 r1 r2
      rw [hd] at this
      cases hns : m.ns with
      | true => rw [hns] at r3; exact this (fun _ => r3.1) hflp r3.2
      | false => rw [hns] at r3; exact this (fun ⟨y, hy, hf, hl⟩ => by rw [hnsf hns y hy hf] at hl; cases hl) hflp r3
    cases nx <;> simp only [nextK] at e4 <;> try exact e4.elim
    · exact fin _ _ _ _ e2 e3 e4
    · exact fin _ _ _ _ e2 e3 e4
    · rename_i f args
      refine (e4.runs g w' e2).mono ?_
      rintro _ w'' ⟨v, h'', t'', rfl, r1, r2, r3⟩
      exact fin _ _ _ _ r1 (Nat.le_trans e3 r2) r3
  · rw [if_neg (by rw [hw a I.size hlooks]; simp)]
    have := main undef w h t I.rel (Nat.le_refl _)
    rw [hd] at this
    exact this I.subh hflp hv

theorem any_sound (hpl : planOk ops plan = true) (hn : ∀ o ∈ ops.toList, ∀ d, o.dst = some d → d < n)
    (hq : ∀ e' h' t' a' w', Rel g h' t' w' → t0 ≤ t' → AR n e' a' → K e' h' t' → Q .normal a' w') :
    ∀ (fuel : Nat) {listed : Array Bool} {a : Act} {w : World} {pre suf : List PI} {e : Env} {h : Heap} {t : Nat}, plan.countP (fun x => !lst listed x.i) ≤ fuel →
      DInv P ops plan hs K Q g n e0 t0 listed a w pre suf e h t → wpAny P .any ops Q fuel listed a w := by
  simp only [planOk, Bool.and_eq_true, List.all_eq_true] at hpl
  obtain ⟨_, ⟨hp, ho1⟩, hcov⟩ := hpl
  have done : ∀ {listed : Array Bool} {a : Act} {w : World} {pre suf : List PI} {e : Env} {h : Heap} {t : Nat}, DInv P ops plan hs K Q g n e0 t0 listed a w pre suf e h t → (∀ x ∈ plan, lst listed x.i = true) → Q .normal a w := by
    intro listed a w pre suf e h t I hall
    obtain ⟨pre', suf', e', I', hhead⟩ := advance hp ho1 hn suf pre I
    cases hsf : suf' with
    | nil =>
      rw [hsf] at I'
      refine hq e' h t a w I'.rel I'.le ⟨I'.defers, I'.size, fun s => I'.slots s fun x hx hl => ?_⟩ I'.vc
      rw [hall x (by rw [I'.split]; simp [hx])] at hl; cases hl
    | cons m r =>
      rw [hsf] at I'
      have hmp : m ∈ plan := by rw [I'.split]; simp
      have := I'.sub m hmp (hall m hmp)
      exact absurd rfl (pair_ne (pairsOk_append pre' (m :: r) (by rw [← I'.split]; exact hp) m this m (by simp)))
  intro fuel
  induction fuel with
  | zero =>
    intro listed a w pre suf e h t hc I
    have hall : ∀ x ∈ plan, lst listed x.i = true := by
      intro x hx
      have h0 : plan.countP (fun x => !lst listed x.i) = 0 := by omega
      have := List.countP_eq_zero.1 h0 x hx
      simpa using this
    refine ⟨?_, done I hall⟩
    apply List.eq_nil_iff_forall_not_mem.2
    intro j hj
    obtain ⟨h1, o, ho, _⟩ := mem_ready.1 hj
    obtain ⟨hlt, _⟩ := Array.getElem?_eq_some_iff.1 ho
    obtain ⟨x, hx, hxj⟩ := List.any_eq_true.1 (hcov j (by simpa using hlt))
    have hl := hall x hx
    simp only [beq_iff_eq] at hxj
    rw [hxj] at hl
    have hlt2 : j < listed.size := by rw [I.lsz]; exact hlt
    simp only [lst, Array.getD_eq_getD_getElem?, Array.getElem?_eq_getElem hlt2, Option.getD_some] at hl h1
    rw [hl] at h1; cases h1
  | succ fuel ih =>
    intro listed a w pre suf e h t hc I
    have hone : ∀ x ∈ plan, x.i < ops.size ∧ (∀ j ∈ edgesOf ops x.i, j < ops.size ∧ j ≠ x.i) := by
      intro x hx
      have := ho1 x hx
      simp only [oneOk, Bool.and_eq_true, List.all_eq_true, bne_iff_ne] at this
      exact ⟨Nat.blt_eq ▸ this.1.1.1.1, fun j hj => ⟨Nat.blt_eq ▸ (this.1.1.2 j hj).1, (this.1.1.2 j hj).2⟩⟩
    have getD_of : ∀ j, j < ops.size → listed.getD j true = lst listed j := by
      intro j hj
      have hlt2 : j < listed.size := by rw [I.lsz]; exact hj
      simp only [lst, Array.getD_eq_getD_getElem?, Array.getElem?_eq_getElem hlt2, Option.getD_some]
    refine ⟨fun hnil => done I ?_, ?_⟩
    · -- the first that is not listed would be ready
      intro x0 hx0
      apply Classical.byContradiction
      intro hul0
      have hul0 : lst listed x0.i = false := by simpa using hul0
      cases hf : plan.find? (fun x => !lst listed x.i) with
      | none =>
        have := List.find?_eq_none.1 hf x0 hx0
        rw [hul0] at this; simp at this
      | some x =>
        obtain ⟨hxl, l1, l2, hpl, hl1⟩ := List.find?_eq_some_iff_append.1 hf
        have hxp : x ∈ plan := by rw [hpl]; simp
        obtain ⟨hxlt, hxe⟩ := hone x hxp
        have hxl : lst listed x.i = false := by simpa using hxl
        have hmem : x.i ∈ Region.ready .any ops listed := by
          refine mem_ready.2 ⟨by rw [getD_of _ hxlt]; exact hxl, ops[x.i], by simp [hxlt], ?_⟩
          intro ed hed hb
          have hin : ed.on ∈ edgesOf ops x.i := by
            simp only [edgesOf, Array.getElem?_eq_getElem hxlt, Option.map_some, Option.getD_some]
            exact List.mem_map.2 ⟨ed, List.mem_filter.2 ⟨by simpa using hed, hb⟩, rfl⟩
          obtain ⟨hjlt, hjne⟩ := hxe _ hin
          obtain ⟨y, hy, hyj⟩ := List.any_eq_true.1 (hcov ed.on (by simpa using hjlt))
          simp only [beq_iff_eq] at hyj
          rw [hpl] at hy
          rcases List.mem_append.1 hy with hy | hy
          · have := hl1 y hy
            have h2 : lst listed y.i = true := by simpa using this
            rw [hyj] at h2; exact h2
          · rcases List.mem_cons.1 hy with hy | hy
            · rw [hy] at hyj; exact absurd hyj.symm hjne
            · have h3 := pairsOk_append (l1 ++ [x]) l2 (by rw [List.append_assoc]; rw [← show plan = l1 ++ ([x] ++ l2) from hpl]; exact hp) x (by simp) y hy
              simp only [pairOk, Bool.and_eq_true, Bool.not_eq_true'] at h3
              have h5 := h3.1.1.1.1.1.1.1.2
              rw [hyj, List.contains_iff_mem.2 hin] at h5; cases h5
        rw [hnil] at hmem; cases hmem
    · intro i hi
      obtain ⟨h1, o, ho, hed⟩ := mem_ready.1 hi
      obtain ⟨hlt, _⟩ := Array.getElem?_eq_some_iff.1 ho
      obtain ⟨x, hx, hxi⟩ := List.any_eq_true.1 (hcov i (by simpa using hlt))
      simp only [beq_iff_eq] at hxi
      subst hxi
      have hul : lst listed x.i = false := by rw [← getD_of _ hlt]; exact h1
      have hedge : ∀ j ∈ edgesOf ops x.i, lst listed j = true := by
        intro j hj
        simp only [edgesOf, ho, Option.map_some, Option.getD_some] at hj
        obtain ⟨ed, hed1, rfl⟩ := List.mem_map.1 hj
        obtain ⟨hed2, hb⟩ := List.mem_filter.1 hed1
        exact hed ed (by simpa using hed2) hb
      have hcnt : plan.countP (fun y => !lst (listed.setIfInBounds x.i true) y.i) ≤ fuel := by
        have hset := lst_set (listed := listed) (i := x.i) (by rw [I.lsz]; exact hlt)
        have := countP_lt (p := fun y => !lst listed y.i) (p' := fun y => !lst (listed.setIfInBounds x.i true) y.i) plan (by
          intro y _ hy
          simp only [hset, Bool.not_eq_true', Bool.or_eq_false_iff] at hy ⊢
          exact hy.1) ⟨x, hx, by simp [hul], by simp [hset]⟩
        omega
      obtain ⟨pre', suf', e', I', hhead⟩ := advance hp ho1 hn suf pre I
      have hin : x ∈ pre' ∨ x ∈ suf' := by rw [I'.split] at hx; exact List.mem_append.1 hx
      rcases hin with hin | hin
      · exact run_told hp ho1 hn I' hin hul hedge (fun a1 I1 => ih hcnt I1)
      · cases hsf : suf' with
        | nil => rw [hsf] at hin; cases hin
        | cons m r =>
          rw [hsf] at hin I'
          have hml := hhead m r hsf
          have hxm : x = m := by
            rcases List.mem_cons.1 hin with h2 | h2
            · exact h2
            · have h4 := pairsOk_append (pre' ++ [m]) r (by rw [List.append_assoc]; rw [← show plan = pre' ++ ([m] ++ r) from I'.split]; exact hp) m (by simp) x h2
              simp only [pairOk, Bool.and_eq_true] at h4
              have h5 := h4.1.1.1.1.1.1.2
              rw [hml] at h5
              simp only [Bool.not_true, Bool.false_or] at h5
              have hmp : m ∈ plan := by rw [I'.split]; simp
              have hl := bits hp ho1 I' hx hmp hedge h5
              have := I'.sub m hmp hl
              exact absurd rfl (pair_ne (pairsOk_append pre' (m :: r) (by rw [← I'.split]; exact hp) m this m (by simp)))
          subst hxm
          exact run_loud hp ho1 hn I' hml hedge (fun a1 w1 e1 h1 t1 I1 => ih hcnt I1)

end steps

/-- A region that draws its order: by one order. -/
theorem draw_intro {ops : Array Oper} {K : Env → Heap → Nat → Prop} {e : Env} {h : Heap} {t : Nat} (plan : List PI) (hs : Heap) (hm : P.follows .mixedOrders = true) (hpl : planOk ops plan = true)
    (hsub : Sub hs h) (hv : vcD P ops hs K plan e h t) : DrawVC P ops K e h t := by
  refine ⟨?_⟩
  intro n g a w Q hr ha hn hq m
  simp only [Region.schedule, hm, Bool.true_or, if_true]
  have hp0 := hpl
  simp only [planOk, Bool.and_eq_true, List.all_eq_true] at hp0
  have hl0 : ∀ i, lst (Array.replicate ops.size false) i = false := by
    intro i; simp only [lst, Array.getD_eq_getD_getElem?, Array.getElem?_replicate]; split <;> rfl
  have hlen : plan.length = ops.size := Nat.eq_of_beq_eq_true hp0.1
  have hany : wpAny P .any ops Q ops.size (Array.replicate ops.size false) a w := by
    refine any_sound (t0 := t) (e0 := e) (K := K) (hs := hs) hpl hn hq ops.size (pre := []) (suf := plan) (e := e) (h := h) (t := t) ?_ ?_
    · rw [← hlen]; exact List.countP_le_length
    · refine { split := by simp, lsz := by simp, louds := (fun x hx => by cases hx), sub := (fun x _ hl => by rw [hl0] at hl; cases hl), closed := (fun x _ hl => by rw [hl0] at hl; cases hl), vc := hv, rel := hr, le := Nat.le_refl _, defers := ha.defers, size := ha.size, slots := (fun s _ => ha.get s), slotsP := (fun x hx => by cases hx), e0s := (fun s _ => rfl), pend := (fun x hx => by cases hx), subh := fun _ => hsub }
  exact wpAny_sound ops.size m _ a w hany
end Go.Vc
