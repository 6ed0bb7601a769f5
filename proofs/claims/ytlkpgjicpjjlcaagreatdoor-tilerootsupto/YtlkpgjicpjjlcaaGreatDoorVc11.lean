import Derived.Test.YtlkpgjicpjjlcaaGreatDoorVc10
import Derived.RangeFuncLeaves
import Derived.RangeFuncCalls
import Derived.RangeFuncIn
import Derived.TacticsIn
/- Code with a range over a function, and calls of its rounds: the VC generator once more, sound in the kit's fenced walk at the widest fence. -/
namespace Go.Vc
open Go
set_option maxRecDepth 10000
set_option linter.unusedVariables false
set_option linter.unusedSimpArgs false
variable {P : Program}

def FW (ro : Option Nat) : Fence := { fn := fun _ => True, depth := none, alive := false, round := ro }
theorem fw_room (ro : Option Nat) (n : Nat) : (FW ro).room n := fun _ h => by simp [FW] at h
theorem fw_calls {ro : Option Nat} {n : Nat} {f : FuncId} {args : Array Value} {w : World} {R : Ending → World → Prop} (h : Calls P f args w R) : CallsIn (FW ro) n P f args w R := by
  have h1 : CallsIn Fence.wide n P f args w R := callsIn_wide.2 h
  cases ro with
  | none => exact h1
  | some l => exact CallsIn.inRound l h1
theorem fw_depth {ro : Option Nat} {n : Nat} : (FW ro).depth.isSome = true → 1 ≤ n := fun h => by simp [FW] at h

/-- A frame whose deferred calls are marks alone. -/
structure ARd (n : Nat) (ds : List Nat) (e : Env) (a : Act) : Prop where
  defers : a.defers = ds.map fun D => ({ target := .collected D, args := #[] } : Deferred)
  size : a.tmps.size = n
  get : ∀ i, a.tmps.getD i undef = e i
theorem ARd.ar {n : Nat} {ds : List Nat} {e : Env} {a : Act} (h : ARd n ds e a) : AR n e { a with defers := [] } := ⟨rfl, h.size, h.get⟩
theorem ARd.eval {n : Nat} {ds : List Nat} {e : Env} {a : Act} (h : ARd n ds e a) (x : Operand) : a.eval x = evalE e x := by
  cases x <;> simp only [Act.eval, evalE]
  exact h.get _
theorem ARd.eval' {n : Nat} {ds : List Nat} {e : Env} {a : Act} (h : ARd n ds e a) : a.eval = evalE e := funext h.eval
theorem put_tmps (a : Act) (dst : Option Tmp) (v : Value) : (a.put dst v).tmps = (({ a with defers := [] } : Act).put dst v).tmps := by cases dst <;> rfl
theorem ARd.put {n : Nat} {ds : List Nat} {e : Env} {a : Act} (h : ARd n ds e a) (dst : Option Tmp) (hd : ∀ d, dst = some d → d < n) (v : Value) : ARd n ds (putE e dst v) (a.put dst v) := by
  have h1 := h.ar.put dst hd v
  refine ⟨by rw [put_defers]; exact h.defers, by rw [put_tmps]; exact h1.size, fun i => by rw [put_tmps]; exact h1.get i⟩
theorem ARd.upd_same {n : Nat} {ds : List Nat} {e : Env} {a : Act} (h : ARd n ds e a) {d : Nat} {v : Value} (hv : e d = v) : ARd n ds (upd e d v) a := by
  have h1 := h.ar.upd_same hv
  exact ⟨h.defers, h.size, h1.get⟩

/-- A call of a round: what it asks, and what it leaves. -/
structure YieldSpec (P : Program) (l : Nat) (args : Array Value) (h : Heap) (t : Nat) (K : Value → Heap → Nat → Prop) : Prop where
  run : ∀ (g w : World), Rel g h t w → ∃ f tmps assign body, (Instr.yield l args).run P w = .ok (.round l f tmps assign body) w ∧
    ∀ ro n, RoundIn (FW ro) n P l f tmps assign body w (fun e w' => ∃ v h' t', e = .returned v ∧ Rel g h' t' w' ∧ t ≤ t' ∧ K v h' t')
theorem YieldSpec.mono {l : Nat} {args : Array Value} {h : Heap} {t : Nat} {K K' : Value → Heap → Nat → Prop} (s : YieldSpec P l args h t K)
    (hk : ∀ v h' t', Dom h' t' → t ≤ t' → K v h' t' → K' v h' t') : YieldSpec P l args h t K' := by
  refine ⟨fun g w hr => ?_⟩
  obtain ⟨f, tmps, assign, body, hy, hround⟩ := s.run g w hr
  exact ⟨f, tmps, assign, body, hy, fun ro n => (hround ro n).mono fun e w' ⟨v, h', t', he, r, ht, k⟩ => ⟨v, h', t', he, r, ht, hk v h' t' r.dom ht k⟩⟩

def notDefer (o : Oper) : Bool := match o.op with | .defer _ => false | _ => true
theorem notDefer_ne {o : Oper} (h : notDefer o = true) : ∀ c, o.op ≠ .defer c := by
  intro c e; unfold notDefer at h; rw [e] at h; cases h

structure EntryVC (P : Program) (it : Value) (K : Value → Heap → Nat → Prop) (h : Heap) (t : Nat) : Prop where
  run : gen P (Instr.entry it) K h t
structure RangeMVC (P : Program) (T : TypeId) (x : Value) (K : Value → Heap → Nat → Prop) (h : Heap) (t : Nat) : Prop where
  run : gen P (Instr.range T x) K h t
def vcOpI (P : Program) (e : Env) (o : Oper) (K : Value → Heap → Nat → Prop) (h : Heap) (t : Nat) : Prop :=
  match o.op with
  | .call ⟨.value f, args, _⟩ =>
    match evalE e f with
    | .func (.yield l) first _ => forceL (first.toList ++ args.toList.map (evalE e)) fun xs => YieldSpec P l xs.toArray h t K
    | _ => vcOp P e o K h t
  | .entry it => force (evalE e it) fun it => EntryVC P it K h t
  | .range T x => force (evalE e x) fun x => RangeMVC P T x K h t
  | _ => vcOp P e o K h t
def opStepI (P : Program) (ops : Array Oper) (o : Oper) (rest : Env → Heap → Nat → Prop) (e : Env) (h : Heap) (t : Nat) : Prop :=
  match o.guard with
  | none => vcOpI P e o (fun v h t => putK e o.dst v (fun e => rest e h t)) h t
  | some (j, want) =>
    match ops[j]? with
    | none => False
    | some oj =>
      match oj.dst with
      | none => False
      | some d =>
        match e d with
        | .bool b => guardVC want d e (fun e => vcOpI P e o (fun v h t => putK e o.dst v (fun e => rest e h t)) h t) (fun e => putK e o.dst undef (fun e => rest e h t)) b
        | .tuple _ => putK e o.dst undef (fun e => rest e h t)
        | _ => False
noncomputable def vcOpsI (P : Program) (ops : Array Oper) (K : Env → Heap → Nat → Prop) (l : List Oper) : Env → Heap → Nat → Prop :=
  List.rec (motive := fun _ => Env → Heap → Nat → Prop) K (fun o _ ih => opStepI P ops o ih) l
theorem vcOpsI_cons (P : Program) (ops : Array Oper) (K : Env → Heap → Nat → Prop) (o : Oper) (rest : List Oper) : vcOpsI P ops K (o :: rest) = opStepI P ops o (vcOpsI P ops K rest) := rfl

theorem vcOpI_wp {n : Nat} {ds : List Nat} {e : Env} {o : Oper} {K : Value → Heap → Nat → Prop} {h : Heap} {t : Nat} {g w : World} {a : Act} {next : Act → World → Prop} {Q : Exit → Act → World → Prop} {ro : Option Nat} {m : Nat} (hnd : notDefer o = true)
    (hv : vcOpI P e o K h t) (hr : Rel g h t w) (ha : ARd n ds e a) (hnext : ∀ v h' t' w', Rel g h' t' w' → t ≤ t' → K v h' t' → next (a.put o.dst v) w') : o.wpIn (FW ro) m P a w next Q := by
  refine ⟨fun _ _ => trivial, ?_⟩
  have hsem : o.semAt (FW ro).round a.eval = execOp (evalE e) o := by
    rw [ha.eval']
    cases ro with
    | none => rfl
    | some l => exact Oper.semAt_some l _ o (notDefer_ne hnd)
  rw [hsem]
  have ran : Ran P g K t ((execOp (evalE e) o).run P w) → o.uponIn (FW ro) m P a next Q ((execOp (evalE e) o).run P w) := by
    intro hv
    obtain ⟨nx, w', h', t', e1, e2, e3, e4⟩ := hv
    rw [e1]
    cases nx <;> simp only [nextK] at e4 <;> try exact e4.elim
    · exact hnext _ _ _ _ e2 e3 e4
    · exact hnext _ _ _ _ e2 e3 e4
    · rename_i f args
      refine ⟨fw_depth, fw_calls ((e4.runs g w' e2).mono ?_)⟩
      rintro _ w'' ⟨v, h'', t'', rfl, r1, r2, r3⟩
      exact hnext _ _ _ _ r1 (Nat.le_trans e3 r2) r3
  have plain : vcOp P e o K h t → o.uponIn (FW ro) m P a next Q ((execOp (evalE e) o).run P w) := fun hv => ran (vcOp_ran hv hr)
  unfold vcOpI at hv
  split at hv
  · rename_i f args ats heq
    split at hv
    · rename_i l first caps hf
      rw [forceL_eq] at hv
      obtain ⟨fn, tmps, assign, body, hy, hround⟩ := hv.run g w hr
      obtain ⟨dst, op, type, pos, after, guard⟩ := o
      have heq' : op = _ := heq
      subst heq'
      have hex : (execOp (evalE e) { dst := dst, op := .call ⟨.value f, args, ats⟩, type := type, pos := pos, after := after, guard := guard }).run P w = .ok (.round l fn tmps assign body) w := by
        have ea : first ++ args.map (evalE e) = (first.toList ++ args.toList.map (evalE e)).toArray := by
          apply Array.toList_inj.1; simp
        simp only [execOp, resolve, hf, Deferred.ofValue]
        rw [← hy, ← ea]
        rfl
      rw [hex]
      refine ⟨fw_depth, (hround ro (m - 1)).mono ?_⟩
      rintro _ w'' ⟨v, h'', t'', rfl, r1, r2, r3⟩
      exact hnext _ _ _ _ r1 r2 r3
    · exact plain hv
  · rename_i it heq
    rw [force_eq] at hv
    obtain ⟨dst, op, type, pos, after, guard⟩ := o
    have heq' : op = _ := heq
    subst heq'
    refine ran (Ran.of_gen ?_ hr)
    simp only [execOp, gen_v]
    exact hv.run
  · rename_i T x heq
    rw [force_eq] at hv
    obtain ⟨dst, op, type, pos, after, guard⟩ := o
    have heq' : op = _ := heq
    subst heq'
    refine ran (Ran.of_gen ?_ hr)
    simp only [execOp, gen_v]
    exact hv.run
  · exact plain hv

theorem yieldedD_eq {n : Nat} {ds : List Nat} {e : Env} {a : Act} (ha : ARd n ds e a) {ops : Array Oper} {j : Nat} {oj : Oper} {d : Nat} {b : Bool} (hj : ops[j]? = some oj) (hd : oj.dst = some d) (hdn : d < n) (hb : e d = .bool b) :
    yielded ops a.tmps j = some b := yielded_eq ha.ar hj hd hdn hb
theorem yieldedD_none {n : Nat} {ds : List Nat} {e : Env} {a : Act} (ha : ARd n ds e a) {ops : Array Oper} {j : Nat} {oj : Oper} {d : Nat} {x : Array Value} (hj : ops[j]? = some oj) (hd : oj.dst = some d) (hdn : d < n) (hb : e d = .tuple x) :
    yielded ops a.tmps j = none := yielded_none ha.ar hj hd hdn hb

theorem vcOpsI_sound {n : Nat} {ds : List Nat} {ops : Array Oper} {K : Env → Heap → Nat → Prop} {g : World} {Q : Exit → Act → World → Prop} {ro : Option Nat} {m : Nat} (hn : ∀ o ∈ ops.toList, (∀ d, o.dst = some d → d < n) ∧ notDefer o = true) :
    ∀ (l : List Oper), (∀ o ∈ l, o ∈ ops.toList) → ∀ {e : Env} {h : Heap} {t : Nat} {w : World} {a : Act}, vcOpsI P ops K l e h t → Rel g h t w → ARd n ds e a →
      (∀ e' h' t' a' w', Rel g h' t' w' → t ≤ t' → ARd n ds e' a' → K e' h' t' → Q .normal a' w') → wpListIn (FW ro) m P ops Q l a w := by
  intro l
  induction l with
  | nil => intro _ e h t w a hv hr ha hq; exact hq _ _ _ _ _ hr (Nat.le_refl _) ha hv
  | cons o rest ih =>
    intro hsub e h t w a hv hr ha hq
    have hod := (hn o (hsub o (by simp))).1
    have hnd := (hn o (hsub o (by simp))).2
    have ih' : ∀ {e : Env} {h' : Heap} {t' : Nat} {w : World} {a : Act}, vcOpsI P ops K rest e h' t' → Rel g h' t' w → t ≤ t' → ARd n ds e a → wpListIn (FW ro) m P ops Q rest a w :=
      fun hv hr ht ha => ih (fun o ho => hsub o (by simp [ho])) hv hr ha (fun e' h' t' a' w' r ht' => hq e' h' t' a' w' r (Nat.le_trans ht ht'))
    have hgo : ∀ {e : Env}, ARd n ds e a → vcOpI P e o (fun v h t => putK e o.dst v (fun e => vcOpsI P ops K rest e h t)) h t → o.wpIn (FW ro) m P a w (wpListIn (FW ro) m P ops Q rest) Q :=
      fun ha hv => vcOpI_wp hnd hv hr ha (fun v h' t' w' r ht k => ih' (by rw [putK_eq] at k; exact k) r ht (ha.put o.dst hod v))
    rw [vcOpsI_cons] at hv
    unfold opStepI at hv
    unfold wpListIn
    split at hv
    · rename_i hg
      rw [if_pos (by simp [Region.wanted, hg])]
      exact hgo ha hv
    · rename_i j want hg
      split at hv
      · exact hv.elim
      · rename_i oj hj
        split at hv
        · exact hv.elim
        · rename_i d hd
          have hoj : oj ∈ ops.toList := by
            obtain ⟨hlt, he⟩ := Array.getElem?_eq_some_iff.1 hj
            rw [← he]; simp
          split at hv
          · rename_i b hb
            have hy := yieldedD_eq ha hj hd ((hn oj hoj).1 d hd) hb
            have hw : Region.wanted o (yielded ops a.tmps) = (b == want) := by
              simp only [Region.wanted, hg, hy]
              cases b <;> cases want <;> rfl
            rw [hw]
            unfold guardVC at hv
            cases b <;> cases want <;> simp only [bsel, putK_eq] at hv
            · rw [if_pos (by decide)]; exact hgo (ha.upd_same hb) (by simpa only [putK_eq] using hv)
            · rw [if_neg (by decide)]; exact ⟨fun _ _ => trivial, ih' hv hr (Nat.le_refl _) ((ha.upd_same hb).put _ hod _)⟩
            · rw [if_neg (by decide)]; exact ⟨fun _ _ => trivial, ih' hv hr (Nat.le_refl _) ((ha.upd_same hb).put _ hod _)⟩
            · rw [if_pos (by decide)]; exact hgo (ha.upd_same hb) (by simpa only [putK_eq] using hv)
          · rename_i x hb
            have hy := yieldedD_none ha hj hd ((hn oj hoj).1 d hd) hb
            have hw : Region.wanted o (yielded ops a.tmps) = false := by
              simp only [Region.wanted, hg, hy]; rfl
            rw [hw, if_neg (by decide)]
            rw [putK_eq] at hv
            exact ⟨fun _ _ => trivial, ih' hv hr (Nat.le_refl _) (ha.put _ hod _)⟩
          · exact hv.elim

/-- A plain walk of a region (no order told) is one at the widest fence, whatever marks the frame bears. -/
theorem wpOps_in {ops : Array Oper} {Q Q' : Exit → Act → World → Prop} {ro : Option Nat} {m : Nat} {df : List Deferred} (hnd : ∀ o ∈ ops.toList, notDefer o = true) (hout : ∀ a w, ¬ Q .outgrown a w)
    (hQ : ∀ e (a : Act) w, Q e a w → Q' e { a with defers := a.defers ++ df } w) : ∀ (l : List Nat) (a : Act) (w : World), wpOps P ops Q l a w → wpOpsIn (FW ro) m P ops Q' l { a with defers := a.defers ++ df } w := by
  intro l
  induction l with
  | nil => intro a w h; exact hQ _ _ _ h
  | cons i rest ih =>
    intro a w h
    unfold wpOps at h
    unfold wpOpsIn
    cases ho : ops[i]? with
    | none => rw [ho] at h; exact ih a w h
    | some o =>
      rw [ho] at h
      have hmem : o ∈ ops.toList := by
        obtain ⟨hlt, he⟩ := Array.getElem?_eq_some_iff.1 ho
        rw [← he]; simp
      have hd := hnd o hmem
      have hput : ∀ v, ({ a with defers := a.defers ++ df } : Act).put o.dst v = { a.put o.dst v with defers := (a.put o.dst v).defers ++ df } := by intro v; cases o.dst <;> rfl
      have hev : ({ a with defers := a.defers ++ df } : Act).eval = a.eval := by funext x; cases x <;> rfl
      simp only at h ⊢
      by_cases hw : Region.wanted o (yielded ops a.tmps) = true
      · rw [if_pos hw] at h
        rw [if_pos hw]
        refine ⟨fun _ _ => trivial, ?_⟩
        have hsem : o.semAt (FW ro).round ({ a with defers := a.defers ++ df } : Act).eval = execOp a.eval o := by
          rw [hev]
          cases ro with
          | none => rfl
          | some l => exact Oper.semAt_some l _ o (notDefer_ne hd)
        rw [hsem]
        rcases h with h | ⟨_, a0, w0, h0⟩
        · unfold Oper.wp Oper.upon at h
          split at h
          · rename_i v w' hr; rw [hr]; show wpOpsIn _ _ _ _ _ _ _ _; rw [hput]; exact ih _ _ h
          · rename_i w' hr; rw [hr]; show wpOpsIn _ _ _ _ _ _ _ _; rw [hput]; exact ih _ _ h
          · rename_i d w' hr
            rw [hr]
            have hput2 : ({ ({ a with defers := a.defers ++ df } : Act) with defers := d :: (a.defers ++ df) } : Act).put o.dst undef = { ({ a with defers := d :: a.defers } : Act).put o.dst undef with defers := (({ a with defers := d :: a.defers } : Act).put o.dst undef).defers ++ df } := by cases o.dst <;> rfl
            show wpOpsIn _ _ _ _ _ _ (({ ({ a with defers := a.defers ++ df } : Act) with defers := d :: (a.defers ++ df) } : Act).put o.dst undef) _
            rw [hput2]; exact ih _ _ h
          · rename_i f args w' hr
            rw [hr]
            refine ⟨fw_depth, fw_calls (h.mono ?_)⟩
            intro e w'' hh
            cases e with
            | returned v => show wpOpsIn _ _ _ _ _ _ _ _; rw [hput]; exact ih _ _ hh
            | panicked ch => exact hQ _ _ _ hh
            | outgrown => obtain ⟨a0, w0, h0⟩ := hh; exact absurd h0 (hout _ _)
          · rename_i row args w' hr
            rw [hr]
            refine ⟨fw_depth, fun c cs _ => ?_⟩
            obtain ⟨v, w'', hh, hs⟩ := h ({ c with } ) cs
            refine ⟨v, w'', ?_, stepsIn_wide.2 hs⟩
            show wpOpsIn _ _ _ _ _ _ _ _; rw [hput]; exact ih _ _ hh
          · rename_i v w' hr
            rw [hr]; exact hQ _ _ _ h
          · exact h.elim
        · exact absurd h0 (hout _ _)
      · rw [if_neg hw] at h
        rw [if_neg hw]
        refine ⟨fun _ _ => trivial, ?_⟩
        rw [hput]; exact ih _ _ h

/-! ### code -/
abbrev PostI := Ex → Env → Heap → Nat → List Nat → Prop
def seqI (K : List Nat → Env → Heap → Nat → Prop) (Q : PostI) : PostI
  | .nrm => fun e h t ds => K ds e h t
  | x => Q x
def blockI (id : Nat) (Q : PostI) : PostI
  | .exit i => bif Nat.beq i id then Q .nrm else Q (.exit i)
  | x => Q x
def regionI (P : Program) (ops : Array Oper) (d : Bool) (Q : PostI) (ds : List Nat) (e : Env) (h : Heap) (t : Nat) : Prop :=
  match d with
  | false => vcOpsI P ops (fun e h t => Q .nrm e h t ds) ops.toList e h t
  | true => DrawVC P ops (fun e h t => Q .nrm e h t ds) e h t
def condI (c : Operand) (X Y : PostI → List Nat → Env → Heap → Nat → Prop) (Q : PostI) (ds : List Nat) (e : Env) (h : Heap) (t : Nat) : Prop :=
  match evalE e c with
  | .bool b => bsel b (X Q ds e h t) (Y Q ds e h t)
  | _ => False

def loopKI (R : Nat → Env → Heap → Nat → Prop) (m : Nat) (ds : List Nat) (Q : PostI) : PostI
  | .nrm => fun e h t ds' => ds' = ds ∧ ∃ m', m' < m ∧ R m' e h t
  | x => Q x
def loopI (X : PostI → List Nat → Env → Heap → Nat → Prop) (Q : PostI) (ds : List Nat) (e : Env) (h : Heap) (t : Nat) : Prop :=
  ∃ (R : Nat → Env → Heap → Nat → Prop), (∃ m, R m e h t) ∧ ∀ m e h t, Dom h t → R m e h t → X (loopKI R m ds Q) ds e h t
def dstsI (n : Nat) : Code → Bool
  | .region _ ops _ => ops.toList.all fun o => (match o.dst with | some d => Nat.blt d n | none => true) && notDefer o
  | .seq x y => dstsI n x && dstsI n y
  | .cond _ x y => dstsI n x && dstsI n y
  | .block _ c => dstsI n c
  | .loop c => dstsI n c
  | .scope c => dstsI n c
  | .rangeFunc _ ps x y => (ps.toList.all fun p => Nat.blt p n) && (dstsI n x && dstsI n y)
  | _ => true
/-- The temporaries that a loop's record keeps. -/
structure LoopR (n : Nat) (e : Env) (ps : Array Tmp) (assign body : Code) (T : Array Value) : Prop where
  size : T.size = n
  get : ∀ i, T.getD i undef = e i
  ps : ∀ p ∈ ps.toList, p < n
  d1 : dstsI n assign = true
  d2 : dstsI n body = true
/-- A range over a function: the call of the iterator, with the loop's record laid. -/
structure RangeVC (P : Program) (ro : Option Nat) (f : Operand) (ps : Array Tmp) (assign body : Code) (Q : PostI) (ds : List Nat) (e : Env) (h : Heap) (t : Nat) : Prop where
  none : ro = none
  run : ∃ k first caps, evalE e f = .func (.func k) first caps ∧ ∀ D l, t ≤ D → D < l → ∀ n fn T, LoopR n e ps assign body T →
    CallSpec P k (first.toList ++ [Value.func (.yield l) #[] #[]] ++ caps.toList).toArray (hset (hset h D (.deferred (some []))) l (.loop ⟨.ready, Option.none, fn, T, ps, assign, body, D⟩)) (l + 1)
      (fun _ h' t' => ∃ r : Loop, h' l = some (.loop r) ∧ r.state ≠ .busy ∧ ∀ r' : Loop, r' = { r with state := .exhausted } →
        match r.pending with
        | .none => Q .nrm e (hset h' l (.loop r')) t' (D :: ds)
        | some .ret => Q .ret e (hset h' l (.loop r')) t' (D :: ds)
        | some (.exit i) => Q (.exit i) e (hset h' l (.loop r')) t' (D :: ds)
        | _ => False)
noncomputable def vcI (P : Program) (ro : Option Nat) (c : Code) : PostI → List Nat → Env → Heap → Nat → Prop :=
  Code.rec (motive := fun _ => PostI → List Nat → Env → Heap → Nat → Prop)
    (skip := fun Q ds e h t => Q .nrm e h t ds)
    (region := fun _ ops d Q ds e h t => regionI P ops d Q ds e h t)
    (seq := fun _ _ X Y Q ds e h t => X (seqI (Y Q) Q) ds e h t)
    (cond := fun c _ _ X Y Q ds e h t => condI c X Y Q ds e h t)
    (block := fun id _ X Q ds e h t => X (blockI id Q) ds e h t)
    (loop := fun _ X Q ds e h t => loopI X Q ds e h t)
    (rangeFunc := fun f ps a b _ _ Q ds e h t => RangeVC P ro f ps a b Q ds e h t)
    (exit := fun id Q ds e h t => Q (.exit id) e h t ds)
    (scope := fun _ X Q ds e h t => X Q ds e h t)
    (label := fun _ Q ds e h t => Q .nrm e h t ds)
    (goto := fun _ _ _ _ _ _ => False)
    (ret := fun Q ds e h t => Q .ret e h t ds)
    (refuse := fun _ _ _ _ _ _ => False) c

theorem wpIn_loop_rel {F : Fence} {n : Nat} {c : Code} {Q : Exit → Act → World → Prop} {a : Act} {w : World} (R : Nat → Act → World → Prop) (m0 : Nat) (h0 : R m0 a w)
    (round : ∀ m a w, R m a w → c.wpIn F n P (Exit.then (fun a' w' => ∃ m', m' < m ∧ R m' a' w') Q) a w) : (Code.loop c).wpIn F n P Q a w := by
  intro b k cs hro hb hr
  have key : ∀ m a w, R m a w → ∃ e a' w', Q e a' w' ∧ ArrivesIn (Machine.fenced P F) P (lone (b.atR a (.code c :: .inLoop c :: k)) cs w) b k cs e a' w' := by
    intro m
    induction m using Nat.strongRecOn with
    | _ m ih =>
      intro a w hR
      obtain ⟨e, a₁, w₁, hq, harr⟩ := round m a w hR b (.inLoop c :: k) cs hro hb hr
      cases e with
      | normal =>
        obtain ⟨m', hlt, hR'⟩ := hq
        obtain ⟨e₂, a₂, w₂, hq₂, harr₂⟩ := ih m' hlt a₁ w₁ hR'
        exact ⟨e₂, a₂, w₂, hq₂, .of_steps (StepsIn.trans harr (.one (fenced_calm hb hr rfl) stepR_inLoop)) harr₂⟩
      | exit id => exact ⟨_, a₁, w₁, hq, .pass (x := .inLoop c) rfl (fun _ _ => .inl (by simp)) harr⟩
      | goto l => exact ⟨_, a₁, w₁, hq, .pass (x := .inLoop c) rfl (fun _ _ => .inl (by simp)) harr⟩
      | ret => exact ⟨_, a₁, w₁, hq, .pass (x := .inLoop c) rfl (fun _ _ => .inl (by simp)) harr⟩
      | panic ch => exact ⟨_, a₁, w₁, hq, .pass (x := .inLoop c) rfl (fun _ _ => .inl (by simp)) harr⟩
      | outgrown => exact ⟨_, a₁, w₁, hq, .pass (x := .inLoop c) rfl (fun _ _ => .inl (by simp)) harr⟩
  obtain ⟨e, a', w', hq, harr⟩ := key m0 a w h0
  exact ⟨e, a', w', hq, .of_steps (.one (fenced_calm hb hr rfl) stepR_loop) harr⟩

theorem stepR_scope {b : Frame} {a : Act} {k : List Item} {cs : List Frame} {w : World} {c : Code} : step P (lone (b.atR a (.code (.scope c) :: k)) cs w) = .next (lone (b.atR a (.code c :: .inScope c :: k)) cs w) :=
  step_lone_go (by simp [stepG, stepG.exec, Frame.atR])
theorem stepR_inScope {b : Frame} {a : Act} {k : List Item} {cs : List Frame} {w : World} {c : Code} : step P (lone (b.atR a (.inScope c :: k)) cs w) = .next (lone (b.atR a k) cs w) :=
  step_lone_go (by simp [stepG, stepG.exec, Frame.atR])
theorem wpIn_scope {F : Fence} {n : Nat} {c : Code} {Q : Exit → Act → World → Prop} {a : Act} {w : World} (h : c.wpIn F n P (Exit.noGoto Q) a w) : (Code.scope c).wpIn F n P Q a w := by
  intro b k cs hro hb hr
  have h0 : (lone (b.atR a (.code (.scope c) :: k)) cs w).fenced P F := fenced_calm hb hr rfl
  obtain ⟨e, a₁, w₁, hq, harr⟩ := h b (.inScope c :: k) cs hro hb hr
  cases e with
  | normal => exact ⟨.normal, a₁, w₁, hq, .head h0 stepR_scope (StepsIn.trans harr (.one (fenced_calm hb hr rfl) stepR_inScope))⟩
  | exit id =>
    have hx : exitTo id (.inScope c :: k) = exitTo id k := by simp [exitTo]
    exact ⟨.exit id, a₁, w₁, hq, fun k' hk => .head h0 stepR_scope (harr.1 k' (by rw [hx]; exact hk)),
      fun hr' hk => let ⟨k₁, h1, h2⟩ := harr.2 hr' (by rw [hx]; exact hk); ⟨k₁, h1, .head h0 stepR_scope h2⟩⟩
  | goto l => exact hq.elim
  | ret => exact ⟨_, a₁, w₁, hq, .of_steps (.one h0 stepR_scope) harr⟩
  | panic ch => exact ⟨_, a₁, w₁, hq, .of_steps (.one h0 stepR_scope) harr⟩
  | outgrown => exact ⟨_, a₁, w₁, hq, .of_steps (.one h0 stepR_scope) harr⟩
theorem vcI_sound {n : Nat} {ro : Option Nat} {m : Nat} (c : Code) : ∀ {Q : PostI} {ds : List Nat} {e : Env} {h : Heap} {t : Nat} {g w : World} {a : Act} {Q' : Exit → Act → World → Prop}, dstsI n c = true → vcI P ro c Q ds e h t →
    Rel g h t w → ARd n ds e a → (∀ x e' h' t' ds' a' w', Rel g h' t' w' → t ≤ t' → ARd n ds' e' a' → Q x e' h' t' ds' → Q' (exOf x) a' w') → c.wpIn (FW ro) m P Q' a w := by
  induction c with
  | skip => intro Q ds e h t g w a Q' _ hv hr ha hq; exact wpIn_skip (hq .nrm _ _ _ _ _ _ hr (Nat.le_refl _) ha hv)
  | region id ops draw =>
    intro Q ds e h t g w a Q' hd hv hr ha hq
    have hn : ∀ o ∈ ops.toList, (∀ d, o.dst = some d → d < n) ∧ notDefer o = true := by
      intro o ho
      simp only [dstsI, List.all_eq_true, Bool.and_eq_true] at hd
      have := hd o ho
      refine ⟨fun d hod => ?_, this.2⟩
      have h1 := this.1
      rw [hod] at h1
      exact Nat.blt_eq ▸ h1
    cases draw with
    | false => exact wpIn_region_list (vcOpsI_sound hn ops.toList (fun _ h => h) hv hr ha (fun e' h' t' a' w' r ht ar k => hq .nrm _ _ _ _ _ _ r ht ar k))
    | true =>
      replace hv : DrawVC P ops (fun e h t => Q .nrm e h t ds) e h t := hv
      refine wpIn_region_draw (fun k => ?_)
      have h1 := hv.run n g { a with defers := [] } _ (fun ex a w => ex = .normal ∧ ∃ e' h' t', Rel g h' t' w ∧ t ≤ t' ∧ AR n e' a ∧ Q .nrm e' h' t' ds) (hr.drawn (w.drawn + 1)) ha.ar (fun o ho d hod => (hn o ho).1 d hod)
        (fun e' h' t' a' w' r ht ar k => ⟨rfl, e', h', t', r, ht, ar, k⟩) k
      refine wpOps_in (df := a.defers) (fun o ho => (hn o ho).2) (fun a w hh => by cases hh.1) ?_ _ _ _ h1
      rintro ex a1 w1 ⟨rfl, e', h', t', r, ht, ar, k⟩
      refine hq .nrm _ _ _ _ _ _ r ht ⟨?_, ar.size, ar.get⟩ k
      show a1.defers ++ a.defers = _
      rw [ar.defers]; exact ha.defers
  | seq x y ihx ihy =>
    intro Q ds e h t g w a Q' hd hv hr ha hq
    simp only [dstsI, Bool.and_eq_true] at hd
    refine wpIn_seq (ihx hd.1 hv hr ha ?_)
    intro ex e' h' t' ds' a' w' r ht ar k
    cases ex with
    | nrm => exact ihy hd.2 k r ar (fun x e'' h'' t'' ds'' a'' w'' r' ht' => hq x e'' h'' t'' ds'' a'' w'' r' (Nat.le_trans ht ht'))
    | exit i => exact hq (.exit i) _ _ _ _ _ _ r ht ar k
    | ret => exact hq .ret _ _ _ _ _ _ r ht ar k
  | cond c x y ihx ihy =>
    intro Q ds e h t g w a Q' hd hv hr ha hq
    simp only [dstsI, Bool.and_eq_true] at hd
    replace hv : condI c (vcI P ro x) (vcI P ro y) Q ds e h t := hv
    unfold condI at hv
    split at hv
    · rename_i b hb
      have hc : a.eval c = .bool b := (ha.eval c).trans hb
      refine wpIn_cond hc ?_
      cases b with
      | true => exact ihx hd.1 hv hr ha hq
      | false => exact ihy hd.2 hv hr ha hq
    · exact hv.elim
  | block id c ih =>
    intro Q ds e h t g w a Q' hd hv hr ha hq
    refine wpIn_block (ih hd hv hr ha ?_)
    intro ex e' h' t' ds' a' w' r ht ar k
    cases ex with
    | nrm => exact hq .nrm _ _ _ _ _ _ r ht ar k
    | exit i =>
      simp only [blockI] at k
      simp only [exOf, Exit.inBlock]
      by_cases e1 : i = id
      · subst e1; simp at k; rw [if_pos rfl]; exact hq .nrm _ _ _ _ _ _ r ht ar k
      · have : Nat.beq i id = false := by cases hbq : Nat.beq i id with | false => rfl | true => exact absurd (Nat.eq_of_beq_eq_true hbq) e1
        rw [this] at k
        rw [if_neg e1]; exact hq (.exit i) _ _ _ _ _ _ r ht ar k
    | ret => exact hq .ret _ _ _ _ _ _ r ht ar k
  | loop c ih =>
    intro Q ds e h t g w a Q' hd hv hr ha hq
    obtain ⟨R, ⟨m0, h0⟩, hround⟩ := hv
    refine wpIn_loop_rel (fun m a w => ∃ e h' t', t ≤ t' ∧ Rel g h' t' w ∧ ARd n ds e a ∧ R m e h' t') m0 ⟨e, h, t, Nat.le_refl _, hr, ha, h0⟩ ?_
    rintro m1 a1 w1 ⟨e1, h1, t1, ht1, hr1, ha1, hI1⟩
    refine ih hd (hround m1 e1 h1 t1 hr1.dom hI1) hr1 ha1 ?_
    intro ex e' h' t' ds' a' w' r ht ar k
    cases ex with
    | nrm =>
      obtain ⟨rfl, m', hm, hR⟩ := k
      exact ⟨m', hm, e', h', t', Nat.le_trans ht1 ht, r, ar, hR⟩
    | exit i => exact hq (.exit i) _ _ _ _ _ _ r (Nat.le_trans ht1 ht) ar k
    | ret => exact hq .ret _ _ _ _ _ _ r (Nat.le_trans ht1 ht) ar k
  | exit id => intro Q ds e h t g w a Q' _ hv hr ha hq; exact wpIn_exit (hq (.exit id) _ _ _ _ _ _ hr (Nat.le_refl _) ha hv)
  | ret => intro Q ds e h t g w a Q' _ hv hr ha hq; exact wpIn_ret (hq .ret _ _ _ _ _ _ hr (Nat.le_refl _) ha hv)
  | scope c ih =>
    intro Q ds e h t g w a Q' hd hv hr ha hq
    refine wpIn_scope (ih hd hv hr ha ?_)
    intro ex e' h' t' ds' a' w' r ht ar k
    cases ex <;> exact hq _ _ _ _ _ _ _ r ht ar k
  | rangeFunc f ps x y _ _ =>
    intro Q ds e h t g w a Q' hd hv hr ha hq
    replace hv : RangeVC P ro f ps x y Q ds e h t := hv
    obtain ⟨rfl, k, first, caps, hf, hrun⟩ := hv
    simp only [dstsI, Bool.and_eq_true, List.all_eq_true] at hd
    refine wpIn_rangeFunc (fun fn _ => ?_)
    have LR : LoopR n e ps x y a.tmps := ⟨ha.size, ha.get, fun p hp => Nat.blt_eq ▸ (hd.1 p hp), hd.2.1, hd.2.2⟩
    have hgenE : gen P (Instr.enterLoop fn a.tmps ps x y (FW none).round) (fun lm h' t' => ∃ D l, lm = (l, [({ target := .collected D, args := #[] } : Deferred)]) ∧ t ≤ D ∧ D < l ∧ h' = hset (hset h D (.deferred (some []))) l (.loop ⟨.ready, none, fn, a.tmps, ps, x, y, D⟩) ∧ t' = l + 1) h t := by
      unfold Instr.enterLoop
      simp only [FW, gen_b, newObj, gen, gen_p]
      intro D hD l hl
      exact ⟨D, l, rfl, hD, hl, rfl, rfl⟩
    obtain ⟨_, w1, h1, t1, hent, hr3, _, D, l, rfl, hD, hDl, rfl, rfl⟩ := gen_sound _ hgenE hr
    have hs := hrun D l hD hDl n fn a.tmps LR
    have hres : (resolve a.eval (rangeCall f l) 0).run P w1 = .ok { target := .fn (.func k) caps, args := first ++ #[Value.func (.yield l) #[] #[]] } w1 := by
      have hf' : a.eval f = .func (.func k) first caps := (ha.eval f).trans hf
      have hm : Array.map a.eval #[Operand.const (Value.func (.yield l) #[] #[])] = #[Value.func (.yield l) #[] #[]] := by simp [Act.eval]
      simp only [resolve, rangeCall, hf', Deferred.ofValue, hm, Sem.run_pure]
    have hea : (first ++ #[Value.func (.yield l) #[] #[]]) ++ caps = (first.toList ++ [Value.func (.yield l) #[] #[]] ++ caps.toList).toArray := by
      apply Array.toList_inj.1; simp
    refine ⟨l, [{ target := .collected D, args := #[] }], w1, { target := .fn (.func k) caps, args := first ++ #[Value.func (.yield l) #[] #[]] }, w1, k, (first.toList ++ [Value.func (.yield l) #[] #[]] ++ caps.toList).toArray, w1, hent, hres, fun _ _ => trivial, ?_, fw_depth, fw_calls ((hs.runs g w1 hr3).mono ?_)⟩
    · show (callFunc k ((first ++ #[Value.func (.yield l) #[] #[]]) ++ caps)).run P w1 = _
      rw [hea]
      exact hs.callable _ _
    · rintro _ w3 ⟨v, h3, t3, rfl, r3, ht3, r, hl, hst, hk⟩
      have hgen : gen P (Instr.endLoop l) (fun j h' t' => j = r.pending ∧ h' = hset h3 l (.loop { r with state := .exhausted }) ∧ t' = t3) h3 t3 := by
        unfold Instr.endLoop Instr.getLoop
        simp only [gen_b, getObj, gen]
        refine ⟨_, hl, rfl, ?_⟩
        simp only [gen_p]
        have hb : (r.state == LoopState.busy) = false := by
          cases hs : r.state <;> first | rfl | exact absurd hs hst
        rw [hb]
        simp only [Bool.false_eq_true, if_false, gen_b, gen_p, setObj, gen]
        exact ⟨_, hl, rfl, by trivial, by trivial, by trivial⟩
      obtain ⟨j, w4, h4, t4, hj, r4, ht4, rfl, rfl, rfl⟩ := gen_sound _ hgen r3
      have hle : t ≤ t4 := by omega
      have ar : ARd n (D :: ds) e { a with defers := [{ target := .collected D, args := #[] }] ++ a.defers } := by
        refine ⟨?_, ha.size, ha.get⟩
        show _ ++ a.defers = _
        rw [ha.defers]; rfl
      refine ⟨_, w4, hj, ?_⟩
      clear hgen hj hl
      replace hk := hk _ rfl
      obtain ⟨st, pd, rfn, rt, rp, ra, rb, rd⟩ := r
      cases pd with
      | none => exact hq .nrm _ _ _ _ _ _ r4 hle ar hk
      | some c =>
        cases c <;> first | exact hk.elim | skip
        · exact wpIn_exit (hq (.exit _) _ _ _ _ _ _ r4 hle ar hk)
        · exact wpIn_ret (hq .ret _ _ _ _ _ _ r4 hle ar hk)
  | label l => intro Q ds e h t g w a Q' _ hv hr ha hq; exact wpIn_label (hq .nrm _ _ _ _ _ _ hr (Nat.le_refl _) ha hv)
  | goto l => intro Q ds e h t g w a Q' _ hv; exact hv.elim
  | refuse s => intro Q ds e h t g w a Q' _ hv; exact hv.elim

theorem loop_introI {α0 : Type} (L : α0 → List (Nat × Value)) (H : α0 → Heap → Nat → Prop) (μ : α0 → Nat) {X : PostI → List Nat → Env → Heap → Nat → Prop} {Q : PostI} {ds : List Nat} {e : Env} {h : Heap} {t : Nat} (x0 : α0)
    (h0 : Has e (L x0)) (hH : H x0 h t) (round : ∀ x0 g h t, Dom h t → H x0 h t → X (loopKI (loopR L H μ) (μ x0) ds Q) ds (setL g (L x0)) h t) :
    ∃ R : Nat → Env → Heap → Nat → Prop, (∃ m, R m e h t) ∧ ∀ m e h t, Dom h t → R m e h t → X (loopKI R m ds Q) ds e h t := by
  refine ⟨loopR L H μ, ⟨_, x0, rfl, h0, hH⟩, ?_⟩
  rintro m e h t hd ⟨s, rfl, hL, hH⟩
  have := round (s) e h t hd hH
  rw [setL_has hL] at this
  exact this
theorem loop_introI2 {α0 α1 : Type} (L : α0 → α1 → List (Nat × Value)) (H : α0 → α1 → Heap → Nat → Prop) (μ : α0 → α1 → Nat) {X : PostI → List Nat → Env → Heap → Nat → Prop} {Q : PostI} {ds : List Nat} {e : Env} {h : Heap} {t : Nat} (x0 : α0) (x1 : α1)
    (h0 : Has e (L x0 x1)) (hH : H x0 x1 h t) (round : ∀ x0 x1 g h t, Dom h t → H x0 x1 h t → X (loopKI (loopR2 L H μ) (μ x0 x1) ds Q) ds (setL g (L x0 x1)) h t) :
    ∃ R : Nat → Env → Heap → Nat → Prop, (∃ m, R m e h t) ∧ ∀ m e h t, Dom h t → R m e h t → X (loopKI R m ds Q) ds e h t := by
  refine ⟨loopR2 L H μ, ⟨_, (x0, x1), rfl, h0, hH⟩, ?_⟩
  rintro m e h t hd ⟨s, rfl, hL, hH⟩
  have := round (s.1) (s.2) e h t hd hH
  rw [setL_has hL] at this
  exact this
theorem loop_introI3 {α0 α1 α2 : Type} (L : α0 → α1 → α2 → List (Nat × Value)) (H : α0 → α1 → α2 → Heap → Nat → Prop) (μ : α0 → α1 → α2 → Nat) {X : PostI → List Nat → Env → Heap → Nat → Prop} {Q : PostI} {ds : List Nat} {e : Env} {h : Heap} {t : Nat} (x0 : α0) (x1 : α1) (x2 : α2)
    (h0 : Has e (L x0 x1 x2)) (hH : H x0 x1 x2 h t) (round : ∀ x0 x1 x2 g h t, Dom h t → H x0 x1 x2 h t → X (loopKI (loopR3 L H μ) (μ x0 x1 x2) ds Q) ds (setL g (L x0 x1 x2)) h t) :
    ∃ R : Nat → Env → Heap → Nat → Prop, (∃ m, R m e h t) ∧ ∀ m e h t, Dom h t → R m e h t → X (loopKI R m ds Q) ds e h t := by
  refine ⟨loopR3 L H μ, ⟨_, (x0, x1, x2), rfl, h0, hH⟩, ?_⟩
  rintro m e h t hd ⟨s, rfl, hL, hH⟩
  have := round (s.1) (s.2.1) (s.2.2) e h t hd hH
  rw [setL_has hL] at this
  exact this
theorem loop_introI4 {α0 α1 α2 α3 : Type} (L : α0 → α1 → α2 → α3 → List (Nat × Value)) (H : α0 → α1 → α2 → α3 → Heap → Nat → Prop) (μ : α0 → α1 → α2 → α3 → Nat) {X : PostI → List Nat → Env → Heap → Nat → Prop} {Q : PostI} {ds : List Nat} {e : Env} {h : Heap} {t : Nat} (x0 : α0) (x1 : α1) (x2 : α2) (x3 : α3)
    (h0 : Has e (L x0 x1 x2 x3)) (hH : H x0 x1 x2 x3 h t) (round : ∀ x0 x1 x2 x3 g h t, Dom h t → H x0 x1 x2 x3 h t → X (loopKI (loopR4 L H μ) (μ x0 x1 x2 x3) ds Q) ds (setL g (L x0 x1 x2 x3)) h t) :
    ∃ R : Nat → Env → Heap → Nat → Prop, (∃ m, R m e h t) ∧ ∀ m e h t, Dom h t → R m e h t → X (loopKI R m ds Q) ds e h t := by
  refine ⟨loopR4 L H μ, ⟨_, (x0, x1, x2, x3), rfl, h0, hH⟩, ?_⟩
  rintro m e h t hd ⟨s, rfl, hL, hH⟩
  have := round (s.1) (s.2.1) (s.2.2.1) (s.2.2.2) e h t hd hH
  rw [setL_has hL] at this
  exact this
theorem loop_introI5 {α0 α1 α2 α3 α4 : Type} (L : α0 → α1 → α2 → α3 → α4 → List (Nat × Value)) (H : α0 → α1 → α2 → α3 → α4 → Heap → Nat → Prop) (μ : α0 → α1 → α2 → α3 → α4 → Nat) {X : PostI → List Nat → Env → Heap → Nat → Prop} {Q : PostI} {ds : List Nat} {e : Env} {h : Heap} {t : Nat} (x0 : α0) (x1 : α1) (x2 : α2) (x3 : α3) (x4 : α4)
    (h0 : Has e (L x0 x1 x2 x3 x4)) (hH : H x0 x1 x2 x3 x4 h t) (round : ∀ x0 x1 x2 x3 x4 g h t, Dom h t → H x0 x1 x2 x3 x4 h t → X (loopKI (loopR5 L H μ) (μ x0 x1 x2 x3 x4) ds Q) ds (setL g (L x0 x1 x2 x3 x4)) h t) :
    ∃ R : Nat → Env → Heap → Nat → Prop, (∃ m, R m e h t) ∧ ∀ m e h t, Dom h t → R m e h t → X (loopKI R m ds Q) ds e h t := by
  refine ⟨loopR5 L H μ, ⟨_, (x0, x1, x2, x3, x4), rfl, h0, hH⟩, ?_⟩
  rintro m e h t hd ⟨s, rfl, hL, hH⟩
  have := round (s.1) (s.2.1) (s.2.2.1) (s.2.2.2.1) (s.2.2.2.2) e h t hd hH
  rw [setL_has hL] at this
  exact this
theorem loop_introI6 {α0 α1 α2 α3 α4 α5 : Type} (L : α0 → α1 → α2 → α3 → α4 → α5 → List (Nat × Value)) (H : α0 → α1 → α2 → α3 → α4 → α5 → Heap → Nat → Prop) (μ : α0 → α1 → α2 → α3 → α4 → α5 → Nat) {X : PostI → List Nat → Env → Heap → Nat → Prop} {Q : PostI} {ds : List Nat} {e : Env} {h : Heap} {t : Nat} (x0 : α0) (x1 : α1) (x2 : α2) (x3 : α3) (x4 : α4) (x5 : α5)
    (h0 : Has e (L x0 x1 x2 x3 x4 x5)) (hH : H x0 x1 x2 x3 x4 x5 h t) (round : ∀ x0 x1 x2 x3 x4 x5 g h t, Dom h t → H x0 x1 x2 x3 x4 x5 h t → X (loopKI (loopR6 L H μ) (μ x0 x1 x2 x3 x4 x5) ds Q) ds (setL g (L x0 x1 x2 x3 x4 x5)) h t) :
    ∃ R : Nat → Env → Heap → Nat → Prop, (∃ m, R m e h t) ∧ ∀ m e h t, Dom h t → R m e h t → X (loopKI R m ds Q) ds e h t := by
  refine ⟨loopR6 L H μ, ⟨_, (x0, x1, x2, x3, x4, x5), rfl, h0, hH⟩, ?_⟩
  rintro m e h t hd ⟨s, rfl, hL, hH⟩
  have := round (s.1) (s.2.1) (s.2.2.1) (s.2.2.2.1) (s.2.2.2.2.1) (s.2.2.2.2.2) e h t hd hH
  rw [setL_has hL] at this
  exact this

/-! ### rounds -/
def updL (e : Env) : List (Nat × Value) → Env
  | [] => e
  | (p, v) :: r => updL (upd e p v) r
/-- A round's end: the loop's record is turned, and the round answers whether it goes on. -/
def roundK (l : Nat) (K : Value → Heap → Nat → Prop) : PostI := fun x _ h t _ => ∃ r : Loop, h l = some (.loop r) ∧
  match x with
  | .nrm => ∀ r' : Loop, r' = { r with state := .ready, pending := none } → K (.bool true) (hset h l (.loop r')) t
  | .ret => ∀ r' : Loop, r' = { r with state := .done, pending := some .ret } → K (.bool false) (hset h l (.loop r')) t
  | .exit i => ∀ r' : Loop, r' = { r with state := .done, pending := some (.exit i) } → K (.bool false) (hset h l (.loop r')) t
theorem endRound_gen {l : Nat} {h : Heap} {t : Nat} {r : Loop} (hl : h l = some (.loop r)) (j : Option Code) : gen P (Instr.endRound l j) (fun v h' t' => v = .bool j.isNone ∧ h' = hset h l (.loop { r with state := if j.isNone then .ready else .done, pending := j }) ∧ t' = t) h t := by
  unfold Instr.endRound Instr.getLoop
  simp only [gen_b, getObj, gen]
  refine ⟨_, hl, rfl, ?_⟩
  simp only [gen_b, gen_p, setObj, gen]
  exact ⟨_, hl, rfl, by trivial, by trivial, by trivial⟩
theorem beginRound_gen {l : Nat} {h : Heap} {t : Nat} {r : Loop} (hl : h l = some (.loop r)) (hs : r.state = .ready) : gen P (Instr.beginRound l) (fun _ h' t' => h' = hset h l (.loop { r with state := .busy }) ∧ t' = t) h t := by
  unfold Instr.beginRound Instr.getLoop
  simp only [gen_b, getObj, gen]
  refine ⟨_, hl, rfl, ?_⟩
  simp only [gen_b, gen_p, setObj, gen]
  refine ⟨_, hl, rfl, ?_⟩
  rw [hs]
  exact ⟨by trivial, by trivial⟩
theorem updL_ar {n : Nat} : ∀ (L : List (Nat × Value)) {e : Env} {T : Array Value}, T.size = n → (∀ i, T.getD i undef = e i) → (∀ p ∈ L, p.1 < n) →
    (L.foldl (fun tmps (p : Nat × Value) => tmps.setIfInBounds p.1 p.2) T).size = n ∧ ∀ i, (L.foldl (fun tmps (p : Nat × Value) => tmps.setIfInBounds p.1 p.2) T).getD i undef = updL e L i := by
  intro L
  induction L with
  | nil => intro e T hs hg _; exact ⟨hs, hg⟩
  | cons p r ih =>
    intro e T hs hg hp
    have h0 : AR n e { tmps := T, defers := [] } := ⟨rfl, hs, hg⟩
    have h1 := h0.put (some p.1) (fun d hd => by cases hd; exact hp p (by simp)) p.2
    exact ih h1.size h1.get (fun q hq => hp q (by simp [hq]))
theorem yield_i {l : Nat} {h : Heap} {t : Nat} {args : Array Value} {K : Value → Heap → Nat → Prop} {r : Loop} {n : Nat} {e : Env} {A B : Code} {ps : Array Tmp} (hl : h l = some (.loop r)) (hs : r.state = .ready) (hps : ps = r.params) (hA : A = r.assign) (hB : B = r.body) (LR : LoopR n e ps A B r.tmps)
    (hsz : args.size = ps.size)
    (hv : Dom h t → vcI P (some l) A (fun x e1 h1 t1 ds1 => x = .nrm ∧ ds1 = [] ∧ ∃ r1 : Loop, h1 l = some (.loop r1) ∧ r1.state = .ready ∧ ∀ rb : Loop, rb = { r1 with state := .busy } → vcI P (some l) B (roundK l K) [] e1 (hset h1 l (.loop rb)) t1) [] (updL e (ps.toList.zip args.toList)) h t) :
    YieldSpec P l args h t K := by
  subst hps
  subst hA
  subst hB
  refine ⟨fun g w hr => ?_⟩
  have hblk := hr.blk _ _ hl
  refine ⟨r.fn, (r.params.zip args).foldl (fun tmps (p : Nat × Value) => tmps.setIfInBounds p.1 p.2) r.tmps, r.assign, r.body, ?_, fun ro m => ?_⟩
  · unfold Instr.yield Instr.getLoop
    simp only [getObj, Sem.run_bind, Sem.run, hblk, Result.andThen_ok, Sem.run_pure]
    rw [if_neg (by simpa using hsz)]
    rfl
  · refine roundIn_of_wpIn (F := FW ro) trivial ?_
    have hzl : ∀ p ∈ r.params.toList.zip args.toList, p.1 < n := fun p hp => LR.ps p.1 (List.of_mem_zip hp).1
    have hT := updL_ar (r.params.toList.zip args.toList) LR.size LR.get hzl
    have hfold : (r.params.zip args).foldl (fun tmps (p : Nat × Value) => tmps.setIfInBounds p.1 p.2) r.tmps = (r.params.toList.zip args.toList).foldl (fun tmps (p : Nat × Value) => tmps.setIfInBounds p.1 p.2) r.tmps := by
      rw [← Array.foldl_toList, Array.toList_zip]
    rw [hfold]
    refine vcI_sound (ro := some l) r.assign LR.d1 (hv hr.dom) hr ⟨rfl, hT.1, hT.2⟩ ?_
    rintro x e1 h1 t1 ds1 a1 w1 r1 ht1 ar1 ⟨rfl, rfl, q, hq, hqs, hbody⟩
    obtain ⟨_, w2, h2, t2, hb2, r2, ht2, rfl, rfl⟩ := gen_sound _ (beginRound_gen (t := t1) hq hqs) r1
    refine ⟨w2, hb2, ?_⟩
    refine vcI_sound (ro := some l) r.body LR.d2 (hbody _ rfl) r2 ar1 ?_
    rintro x e3 h3 t3 ds3 a3 w3 r3 ht3 ar3 ⟨q3, hq3, hk⟩
    cases x with
    | nrm =>
      obtain ⟨v, w4, h4, t4, he, r4, ht4, rfl, rfl, rfl⟩ := gen_sound _ (endRound_gen (t := t3) hq3 none) r3
      exact ⟨_, w4, he, _, _, _, rfl, r4, by omega, hk _ rfl⟩
    | ret =>
      obtain ⟨v, w4, h4, t4, he, r4, ht4, rfl, rfl, rfl⟩ := gen_sound _ (endRound_gen (t := t3) hq3 (some .ret)) r3
      exact ⟨_, w4, he, _, _, _, rfl, r4, by omega, hk _ rfl⟩
    | exit i =>
      obtain ⟨v, w4, h4, t4, he, r4, ht4, rfl, rfl, rfl⟩ := gen_sound _ (endRound_gen (t := t3) hq3 (some (.exit i))) r3
      exact ⟨_, w4, he, _, _, _, rfl, r4, by omega, hk _ rfl⟩

/-! ### a function's contract -/
def shutD : List Nat → (Heap → Prop) → Heap → Prop
  | [], K, h => K h
  | D :: ds, K, h => h D = some (.deferred (some [])) ∧ shutD ds K (hset h D (.deferred none))
def retI (P : Program) (fn : Func) (R : Value → Heap → Nat → Prop) : PostI
  | .nrm => fun e h t ds => shutD ds (fun h => retV P fn R e h t) h
  | .ret => fun e h t ds => shutD ds (fun h => retV P fn R e h t) h
  | .exit _ => fun _ _ _ _ => False
theorem leaves_marks {n m : Nat} {fn : Func} {R : Value → Heap → Nat → Prop} {e : Env} {g : World} {T : Array Value} {t : Nat} {R' : Ending → World → Prop} (hT : AR n e { tmps := T, defers := [] }) : ∀ (ds : List Nat) {h : Heap} {w : World}, shutD ds (fun h => retV P fn R e h t) h → Rel g h t w →
    (∀ v h' w', Rel g h' t w' → R v h' t → R' (.returned v) w') → LeavesInM (FW none) m P fn T R' (ds.map fun D => ({ target := .collected D, args := #[] } : Deferred)) .returning w := by
  intro ds
  induction ds with
  | nil =>
    intro h w hv hr hR
    obtain ⟨v, hv1, hv2⟩ := retV_results (a := { tmps := T, defers := [] }) hv hr hT
    exact ⟨v, hv1, hR _ _ _ hr hv2⟩
  | cons D ds ih =>
    rintro h w ⟨hD, hv⟩ hr hR
    have hgen : gen P (Instr.takeDeferred D) (fun x h' t' => x = [] ∧ h' = hset h D (.deferred none) ∧ t' = t) h t := by
      unfold Instr.takeDeferred
      simp only [gen_b, getObj, gen]
      refine ⟨_, hD, rfl, ?_⟩
      simp only [gen_b, gen_p, setObj, gen]
      exact ⟨_, hD, rfl, by trivial, by trivial, by trivial⟩
    obtain ⟨_, w2, h2, t2, ht, r2, _, rfl, rfl, rfl⟩ := gen_sound _ hgen hr
    exact ⟨(fun hh => by cases hh), .inl ⟨D, w2, rfl, ht, ih hv r2 hR⟩⟩
theorem spec_of_vcI {f : FuncId} {fn : Func} {c : Code} {args : Array Value} {h : Heap} {t : Nat} {R : Value → Heap → Nat → Prop} (hf : P.funcs[f]? = some fn) (hb : fn.body = some c)
    (hname : (fn.name == "runtime.NumGoroutine") = false) (hd : dstsI fn.ntmps c = true) (hsz : args.size ≤ fn.ntmps)
    (hv : Dom h t → vcI P none c (retI P fn R) [] (fun i => args.getD i undef) h t) : CallSpec P f args h t R := by
  refine ⟨?_, ?_⟩
  · intro as w
    simp only [callFunc, Sem.run_bind, run_program, Result.andThen_ok, hf, hname, hb, Option.isNone, Bool.false_eq_true, if_false, Sem.run_pure]
  · intro g w hr
    have hin : CallsIn (FW none) 0 P f args w (fun e w' => ∃ v h' t', e = .returned v ∧ Rel g h' t' w' ∧ t ≤ t' ∧ R v h' t') := by
      refine callsIn_of_wp_marks hf hb trivial ?_
      have har : ARd fn.ntmps [] (fun i => args.getD i undef) { tmps := args ++ Array.replicate (fn.ntmps - args.size) undef, defers := [] } := by
        refine ⟨rfl, by simp; omega, fun i => ?_⟩
        simp only [Array.getD_eq_getD_getElem?, Array.getElem?_append]
        split
        · rfl
        · rename_i hlt
          rw [Array.getElem?_eq_none (by omega : args.size ≤ i)]
          simp only [Option.getD_none]
          rw [Array.getElem?_replicate]
          split <;> rfl
      refine vcI_sound c hd (hv hr.dom) hr har ?_
      intro x e' h' t' ds' a' w' r ht ar k
      have fin : shutD ds' (fun h => retV P fn R e' h t') h' → LeavesInM (FW none) 0 P fn a'.tmps (fun e w' => ∃ v h' t', e = .returned v ∧ Rel g h' t' w' ∧ t ≤ t' ∧ R v h' t') a'.defers .returning w' := by
        intro k
        rw [ar.defers]
        exact leaves_marks (T := a'.tmps) ⟨rfl, ar.size, ar.get⟩ ds' k r (fun v h'' w'' r' hR => ⟨v, h'', t', rfl, r', ht, hR⟩)
      cases x with
      | nrm => exact fin k
      | ret => exact fin k
      | exit i => exact k.elim
    exact callsIn_wide.1 hin
end Go.Vc
