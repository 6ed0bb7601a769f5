import Derived.Test.YtlkpgjicpjjlcaaGreatDoorVc5
/- Maps by any kind of keys; arrays; more words of the walks. -/
set_option linter.unusedVariables false
set_option linter.unusedSimpArgs false
namespace Go.Vc
open Go
variable {P : Program}

theorem gen_of_genR {α : Type} (s : Sem α) : ∀ {R : α → Prop} {K : α → Heap → Nat → Prop} {h : Heap} {t : Nat}, genR P s R h → (∀ a, R a → K a h t) → gen P s K h t := by
  induction s with
  | pure a => intro R K h t hg hk; exact hk a hg
  | load m a k ih => intro R K h t ⟨v, hc, hg⟩ hk; exact ⟨v, hc, ih v hg hk⟩
  | program k ih => intro R K h t hg hk; exact ih P hg hk
  | mark m k ih => intro R K h t hg hk; exact ih hg hk
  | getObj r k ih => intro R K h t ⟨o, hb, hn, hg⟩ hk; exact ⟨o, hb, hn, ih _ hg hk⟩
  | shape r k ih => intro R K h t ⟨o, hb, hg⟩ hk; exact ⟨o, hb, ih _ hg hk⟩
  | frozen a k ih => intro R K h t ⟨o, hb, hg⟩ hk; exact ⟨o, hb, ih _ hg hk⟩
  | _ => intro R K h t hg hk; exact hg.elim

theorem genR_mono {α : Type} (s : Sem α) : ∀ {R R' : α → Prop} {h : Heap}, genR P s R h → (∀ a, R a → R' a) → genR P s R' h := by
  induction s with
  | pure a => intro R R' h hg hk; exact hk a hg
  | load m a k ih => intro R R' h ⟨v, hc, hg⟩ hk; exact ⟨v, hc, ih v hg hk⟩
  | program k ih => intro R R' h hg hk; exact ih P hg hk
  | mark m k ih => intro R R' h hg hk; exact ih hg hk
  | getObj r k ih => intro R R' h ⟨o, hb, hn, hg⟩ hk; exact ⟨o, hb, hn, ih _ hg hk⟩
  | shape r k ih => intro R R' h ⟨o, hb, hg⟩ hk; exact ⟨o, hb, ih _ hg hk⟩
  | frozen a k ih => intro R R' h ⟨o, hb, hg⟩ hk; exact ⟨o, hb, ih _ hg hk⟩
  | _ => intro R R' h hg hk; exact hg.elim

/-! #### maps by any kind of keys -/
section maps
set_option linter.unusedSectionVars false
variable {κ β : Type} [DecidableEq κ]
def MapG (o : Obj) (kv : κ → Value) (f : β → Value) (l : List (κ × β)) : Prop :=
  ∃ es clock, o = .map es clock ∧ es.toList.map (fun e => (e.key, e.val)) = l.map (fun p => (kv p.1, f p.2)) ∧ (l.map (·.1)).Nodup ∧ (es.toList.map (·.born)).Nodup ∧ ∀ e ∈ es.toList, e.born < clock
def gGet (l : List (κ × β)) (k : κ) : Option β := (l.find? (fun p => decide (p.1 = k))).map (·.2)
def gPut (l : List (κ × β)) (k : κ) (v : β) : List (κ × β) :=
  if l.any (fun p => decide (p.1 = k)) then l.map (fun p => if p.1 = k then (k, v) else p) else l ++ [(k, v)]
def gAt (l : List (κ × β)) (k : κ) (f : β → Value) : Option (Nat × Value) := (l.findIdx? (fun p => decide (p.1 = k))).bind fun j => (l[j]?).map fun p => (j, f p.2)

structure KeyOk (P : Program) (KT : TypeId) (kv : κ → Value) : Prop where
  find : ∀ {β : Type} (f : β → Value) (k : κ) (es : List MapEntry) (l : List (κ × β)) {h : Heap}, es.map (fun e => (e.key, e.val)) = l.map (fun p => (kv p.1, f p.2)) → genR P (Instr.findKey KT (kv k) es) (fun r => gAt l k f = r) h
  check : ∀ (b : Bool) (k : κ) {h : Heap}, genR P (Instr.checkKey b 10000 KT (kv k)) (fun _ => True) h
  same : ∀ k, Instr.sameBits 10000 (kv k) (kv k) = true

theorem gGet_find (l : List (κ × β)) (k : κ) : gGet l k = (l.findIdx? (fun p => decide (p.1 = k))).bind fun j => (l[j]?).map (·.2) := by
  unfold gGet
  induction l with
  | nil => rfl
  | cons p l ih =>
    by_cases hk : p.1 = k
    · simp [List.findIdx?_cons, hk]
    · simp only [List.findIdx?_cons, List.find?_cons, hk, decide_false, Bool.false_eq_true, if_false]
      rw [ih]
      cases l.findIdx? (fun p => decide (p.1 = k)) with
      | none => rfl
      | some j => simp
theorem gAt_none {l : List (κ × β)} {k : κ} {f : β → Value} (h : gAt l k f = none) : gGet l k = none := by
  rw [gGet_find]; unfold gAt at h
  cases hf : l.findIdx? (fun p => decide (p.1 = k)) with
  | none => rfl
  | some j =>
    rw [hf] at h
    have hj : j < l.length := (List.findIdx?_eq_some_iff_findIdx_eq.1 hf).1
    simp [hj] at h
theorem gAt_some {l : List (κ × β)} {k : κ} {f : β → Value} {i : Nat} {v : Value} (h : gAt l k f = some (i, v)) : ∃ y, gGet l k = some y ∧ v = f y := by
  rw [gGet_find]; unfold gAt at h
  cases hf : l.findIdx? (fun p => decide (p.1 = k)) with
  | none => rw [hf] at h; cases h
  | some j =>
    rw [hf] at h
    have hj : j < l.length := (List.findIdx?_eq_some_iff_findIdx_eq.1 hf).1
    simp [hj] at h ⊢
    exact h.2.symm
theorem gGet_put (l : List (κ × β)) (k : κ) (v : β) (k' : κ) : gGet (gPut l k v) k' = if k' = k then some v else gGet l k' := by
  unfold gGet gPut
  by_cases ha : l.any (fun p => decide (p.1 = k)) = true
  · rw [if_pos ha]
    induction l with
    | nil => simp at ha
    | cons p l ih =>
      rw [List.map_cons]
      by_cases hp : p.1 = k
      · rw [if_pos hp]
        by_cases hk : k' = k
        · subst hk; simp
        · rw [if_neg hk]
          simp only [List.find?_cons, hp]
          rw [decide_eq_false (Ne.symm hk)]
          by_cases ha2 : l.any (fun p => decide (p.1 = k)) = true
          · rw [ih ha2, if_neg hk]
          · have : l.map (fun p => if p.1 = k then (k, v) else p) = l := by
              rw [List.map_congr_left (g := id)]
              · simp
              · intro q hq
                have h3 : decide (q.1 = k) = false := by
                  have := List.any_eq_false.1 ((Bool.not_eq_true _).mp ha2) q hq
                  simpa using this
                rw [if_neg (of_decide_eq_false h3)]; rfl
            rw [this]
      · rw [if_neg hp]
        have ha2 : l.any (fun p => decide (p.1 = k)) = true := by simpa [hp] using ha
        by_cases hk : k' = k
        · subst hk
          simp only [List.find?_cons, decide_eq_false hp]
          rw [ih ha2]; simp
        · simp only [List.find?_cons]
          by_cases hpk : p.1 = k'
          · simp [hpk, hk]
          · simp only [decide_eq_false hpk]
            rw [ih ha2]
  · rw [if_neg ha, List.find?_append]
    have hn : ∀ q ∈ l, q.1 ≠ k := by
      intro q hq
      have := List.any_eq_false.1 ((Bool.not_eq_true _).mp ha) q hq
      simpa using this
    by_cases hk : k' = k
    · subst hk
      have : l.find? (fun p => decide (p.1 = k')) = none := by
        rw [List.find?_eq_none]; intro q hq; simpa using hn q hq
      simp [this]
    · rw [if_neg hk]
      simp [Ne.symm hk]

theorem gPut_new {l : List (κ × β)} {k : κ} {v : β} (h : gGet l k = none) : gPut l k v = l ++ [(k, v)] := by
  unfold gPut
  rw [if_neg]
  intro ha
  obtain ⟨p, hp, he⟩ := List.any_eq_true.1 ha
  unfold gGet at h
  rw [Option.map_eq_none_iff, List.find?_eq_none] at h
  exact h p hp he
theorem gPut_length (l : List (κ × β)) (k : κ) (v : β) : (gPut l k v).length = if gGet l k = none then l.length + 1 else l.length := by
  by_cases h : gGet l k = none
  · rw [gPut_new h, if_pos h]; simp
  · rw [if_neg h]
    unfold gPut
    split
    · simp
    · rename_i ha
      exfalso; apply h
      unfold gGet
      rw [Option.map_eq_none_iff, List.find?_eq_none]
      intro q hq
      have := List.any_eq_false.1 ((Bool.not_eq_true _).mp ha) q hq
      simpa using this

theorem look_g {T KT ET : TypeId} {kv : κ → Value} (hT : P.underlying T = some (.map KT ET)) (hK : KeyOk P KT kv) {inf : TypeInfo} (hE : P.info? ET = some inf) {f : β → Value} {d : β} (hz : inf.zero = some (f d))
    {h : Heap} {r : Nat} {o : Obj} (hr : h r = some o) {l : List (κ × β)} (hm : MapG o kv f l) {k : κ} {ok : Bool} {K : Value → Prop}
    (hk : K (if ok then .tuple #[f ((gGet l k).getD d), .bool (gGet l k).isSome] else f ((gGet l k).getD d))) : genR P (Instr.lookup T (.map (some r)) (kv k) ok) K h := by
  obtain ⟨es, clock, rfl, he, _⟩ := hm
  simp only [Instr.lookup, genR_b, genR_underlying hT, getObj, genR]
  refine ⟨_, hr, rfl, ?_⟩
  simp only [genR_b, genR_p]
  refine genR_mono _ (hK.check _ _) (fun _ _ => ?_)
  refine genR_mono _ (hK.find f k es.toList l he) (fun x hx => ?_)
  cases x with
  | none =>
    rw [gAt_none hx] at hk
    simp only [genR_b, genR_zero hE hz, genR_p]
    simpa using hk
  | some p =>
    obtain ⟨i, v⟩ := p
    obtain ⟨y, hy, rfl⟩ := gAt_some hx
    rw [hy] at hk
    simpa [genR_p] using hk
theorem look_gV {T KT ET : TypeId} {kv : κ → Value} (hT : P.underlying T = some (.map KT ET)) (hK : KeyOk P KT kv) {inf : TypeInfo} (hE : P.info? ET = some inf) {f : β → Value} {d : β} (hz : inf.zero = some (f d))
    {h : Heap} {t : Nat} {r : Nat} {o : Obj} (hr : h r = some o) {l : List (κ × β)} (hm : MapG o kv f l) {k : κ} {ok : Bool} {K : Value → Heap → Nat → Prop}
    (hk : K (if ok then .tuple #[f ((gGet l k).getD d), .bool (gGet l k).isSome] else f ((gGet l k).getD d)) h t) : LookVC P T (.map (some r)) (kv k) ok K h t :=
  ⟨gen_of_genR _ (look_g hT hK hE hz hr hm (K := fun v => K v h t) hk) (fun _ h => h)⟩
theorem look_gQ {T KT ET : TypeId} {kv : κ → Value} (hT : P.underlying T = some (.map KT ET)) (hK : KeyOk P KT kv) {inf : TypeInfo} (hE : P.info? ET = some inf) {f : β → Value} {d : β} (hz : inf.zero = some (f d))
    {h : Heap} {r : Nat} {o : Obj} (hr : h r = some o) {l : List (κ × β)} (hm : MapG o kv f l) {k : κ} {ok : Bool} {K : Value → Prop}
    (hk : K (if ok then .tuple #[f ((gGet l k).getD d), .bool (gGet l k).isSome] else f ((gGet l k).getD d))) : LookQ P T (.map (some r)) (kv k) ok K h :=
  ⟨look_g hT hK hE hz hr hm hk⟩

theorem mapup_g {T KT ET : TypeId} {kv : κ → Value} (hT : P.underlying T = some (.map KT ET)) (hK : KeyOk P KT kv) {f : β → Value}
    {h : Heap} {t : Nat} {r : Nat} {o : Obj} (hr : h r = some o) {l : List (κ × β)} (hm : MapG o kv f l) {k : κ} {v : β} {K : Value → Heap → Nat → Prop}
    (hk : ∀ o', MapG o' kv f (gPut l k v) → K undef (hset h r o') t) : MapUpVC P T (.map (some r)) (kv k) (f v) K h t := by
  obtain ⟨es, clock, rfl, he, hnd, hbn, hbc⟩ := hm
  refine ⟨?_⟩
  simp only [Instr.mapUpdate, gen_b, gen_underlying hT, getObj, gen]
  refine ⟨_, hr, rfl, ?_⟩
  simp only [gen_b]
  refine gen_of_genR _ (hK.check _ _) (fun _ _ => ?_)
  refine gen_of_genR _ (hK.find f _ _ _ he) (fun _ hx => ?_)
  subst hx
  unfold gAt
  have hlen : es.size = l.length := by have := congrArg List.length he; simpa using this
  cases hf : l.findIdx? (fun p => decide (p.1 = k)) with
  | none =>
    have hno : l.any (fun p => decide (p.1 = k)) = false := by
      rw [List.any_eq_false]
      intro p hp
      exact List.findIdx?_eq_none_iff.1 hf p hp ▸ by simp
    simp only [Option.bind_none, setObj, gen]
    refine ⟨_, hr, rfl, ?_⟩
    refine hk _ ⟨_, _, rfl, ?_, ?_, ?_, ?_⟩
    · simp [gPut, hno, he]
    · simp only [gPut, hno, Bool.false_eq_true, if_false, List.map_append, List.map_cons, List.map_nil]
      rw [List.nodup_append]
      refine ⟨hnd, by simp, ?_⟩
      intro x hx y hy e
      simp at hy
      obtain ⟨p, hp, rfl⟩ := List.mem_map.1 hx
      have := List.any_eq_false.1 hno p hp
      simp [← hy, e] at this
    · simp only [Array.toList_push, List.map_append, List.map_cons, List.map_nil]
      rw [List.nodup_append]
      refine ⟨hbn, by simp, ?_⟩
      intro x hx y hy e
      simp at hy
      obtain ⟨p, hp, rfl⟩ := List.mem_map.1 hx
      have := hbc p hp
      omega
    · intro e hE
      simp at hE
      rcases hE with hE | rfl
      · have := hbc e (by simpa using hE); omega
      · simp
  | some j =>
    obtain ⟨hj, hpj⟩ := List.findIdx?_eq_some_iff_findIdx_eq.1 hf
    have hje : j < es.size := by omega
    have hjk : l[j].1 = k := by
      have := List.findIdx?_eq_some_iff_getElem.1 hf
      simpa using this.2.1
    have hyes : l.any (fun p => decide (p.1 = k)) = true := List.any_eq_true.2 ⟨l[j], List.getElem_mem hj, by simp [hjk]⟩
    have hek : es[j].key = kv k := by
      have := congrArg (fun z => z[j]?) he
      simp [hj, hje] at this
      rw [this.1, hjk]
    simp only [Option.bind_some, List.getElem?_eq_getElem hj, Option.map_some, Array.getElem?_eq_getElem hje, Option.getD_some, hek, gen_b, Instr.keyThatStays]
    rw [if_pos (hK.same k)]
    simp only [gen_p, setObj, gen]
    refine ⟨_, hr, rfl, ?_⟩
    refine hk _ ⟨_, _, rfl, ?_, ?_, ?_, ?_⟩
    · simp only [gPut, hyes, if_true]
      apply List.ext_getElem
      · simp [hlen]
      · intro i h1 h2
        simp at h1 h2
        have hi := congrArg (fun z => z[i]?) he
        have hi1 : i < es.size := h1
        simp [h2, hi1] at hi
        simp only [List.getElem_map, Array.getElem_toList, Array.getElem_modify]
        by_cases hij : j = i
        · subst hij
          simp [hjk]
        · simp only [hij, if_false]
          have : l[i].1 ≠ k := by
            intro e
            have h2' : i < (l.map (·.1)).length := by simpa using h2
            have hj' : j < (l.map (·.1)).length := by simpa using hj
            have h3 : (l.map (·.1))[i] = (l.map (·.1))[j] := by simp [e, hjk]
            exact hij ((List.getElem_inj hnd).1 h3).symm
          simp [this, hi.1, hi.2]
    · simp only [gPut, hyes, if_true, List.map_map]
      have : (fun p : κ × β => p.1) ∘ (fun p => if p.1 = k then (k, v) else p) = fun p => p.1 := by
        funext p; simp only [Function.comp]; split
        · rename_i e; exact e.symm
        · rfl
      rw [this]; exact hnd
    · have : ((es.modify j fun e => { e with key := kv k, val := f v }).toList.map (·.born)) = es.toList.map (·.born) := by
        apply List.ext_getElem
        · simp
        · intro i h1 h2
          simp only [List.getElem_map, Array.getElem_toList, Array.getElem_modify]
          split <;> simp_all
      rw [this]; exact hbn
    · intro e hE
      rw [Array.mem_toList_iff] at hE
      obtain ⟨i, hi, rfl⟩ := Array.mem_iff_getElem.1 hE
      simp only [Array.getElem_modify]
      have : i < es.size := by simpa using hi
      split
      · exact hbc es[i] (by simp)
      · exact hbc es[i] (by simp)


theorem mapg_new (kv : κ → Value) (f : β → Value) : MapG (.map #[] 0) kv f ([] : List (κ × β)) := ⟨_, _, rfl, by simp, by simp, by simp, by simp⟩
theorem mapg_len {o : Obj} {kv : κ → Value} {f : β → Value} {l : List (κ × β)} (hm : MapG o kv f l) : ∃ es c, o = .map es c ∧ es.size = l.length := by
  obtain ⟨es, clock, rfl, he, _⟩ := hm
  exact ⟨es, clock, rfl, by have := congrArg List.length he; simpa using this⟩

/-- Keys that are asked one by one (structs). -/
theorem findAsking_g {KT : TypeId} {kv : κ → Value} (heq : ∀ (a b : κ) (K : Bool → Prop) (h : Heap), K (decide (a = b)) → genR P (Op.equal KT (kv a) (kv b)) K h) (f : β → Value) (k : κ) :
    ∀ (es : List MapEntry) (l : List (κ × β)) (i : Nat) {h : Heap} {K : Option (Nat × Value) → Prop}, es.map (fun e => (e.key, e.val)) = l.map (fun p => (kv p.1, f p.2)) →
    K ((l.findIdx? (fun p => decide (p.1 = k))).bind fun j => (l[j]?).map fun p => (i + j, f p.2)) → genR P (Instr.findAsking KT (kv k) es i) K h := by
  intro es
  induction es with
  | nil =>
    intro l i h K he hk
    cases l with
    | nil => simpa [Instr.findAsking, genR_p] using hk
    | cons p l => simp at he
  | cons e es ih =>
    intro l i h K he hk
    cases l with
    | nil => simp at he
    | cons p l =>
      simp only [List.map_cons, List.cons.injEq, Prod.mk.injEq] at he
      obtain ⟨⟨h1, h2⟩, h3⟩ := he
      simp only [Instr.findAsking, genR_b, h1]
      refine heq _ _ _ _ ?_
      by_cases hp : p.1 = k
      · subst hp
        simp only [decide_true, if_true, genR_p]
        simpa [List.findIdx?_cons, h2] using hk
      · have hp2 : ¬ k = p.1 := fun e => hp e.symm
        simp only [hp2, decide_false, Bool.false_eq_true, if_false]
        refine ih l (i + 1) h3 ?_
        simp only [List.findIdx?_cons, hp, decide_false, Bool.false_eq_true, if_false] at hk
        cases hf : l.findIdx? (fun p => decide (p.1 = k)) with
        | none => rw [hf] at hk; simpa using hk
        | some j => rw [hf] at hk; simpa [Nat.add_assoc, Nat.add_comm 1 j] using hk
end maps

theorem keyOk_string {KT : TypeId} (hK : P.underlying KT = some .string) : KeyOk P KT Value.string where
  find f k es l h he := by
    refine findKey_strR hK he ?_
    rfl
  check b k h := checkKey_strR hK b k trivial
  same k := by show (k == k) = true; rw [ba_beq]; simp
theorem keyOk_int {KT : TypeId} {ik : IntKind} (hK : P.underlying KT = some (.int ik)) : KeyOk P KT (Value.int ik) where
  find f k es l h he := by
    simp only [Instr.findKey, genR_b, genR_underlying hK]
    have : ∀ (es : List MapEntry) (l : List (Int × _)) (i : Nat), es.map (fun e => (e.key, e.val)) = l.map (fun p => (Value.int ik p.1, f p.2)) →
        Instr.findNow (.int ik) (.int ik k) es i = some ((l.findIdx? (fun p => decide (p.1 = k))).bind fun j => (l[j]?).map fun p => (i + j, f p.2)) := by
      intro es
      induction es with
      | nil => intro l i h; cases l with | nil => rfl | cons p l => simp at h
      | cons e es ih =>
        intro l i h
        cases l with
        | nil => simp at h
        | cons p l =>
          simp only [List.map_cons, List.cons.injEq, Prod.mk.injEq] at h
          obtain ⟨⟨h1, h2⟩, h3⟩ := h
          unfold Instr.findNow
          rw [h1]
          simp only [Instr.sameNow, if_true]
          by_cases hk : p.1 = k
          · subst hk
            simp [List.findIdx?_cons, h2]
          · have hk2 : (k == p.1) = false := by simp; exact fun e => hk e.symm
            rw [hk2]
            show Instr.findNow _ _ es (i + 1) = _
            rw [ih l (i + 1) h3]
            simp only [List.findIdx?_cons, hk, decide_false, Bool.false_eq_true, if_false]
            cases hf : l.findIdx? (fun p => decide (p.1 = k)) with
            | none => simp
            | some j => simp [Nat.add_assoc, Nat.add_comm 1 j]
    rw [this es l 0 he]
    simp only [genR_p, gAt]
    simp
  check b k h := by
    show genR P (Instr.checkKey b (9999 + 1) KT (.int ik k)) _ h
    unfold Instr.checkKey
    rw [genR_b, genR_underlying hK]
    trivial
  same k := by show (ik == ik && k == k) = true; simp

/-! #### rows of cells that are a list's -/
/-- A byte's value. -/
def bv (x : UInt8) : Value := .int .u8 ((x.toNat : Nat) : Int)
theorem zc {α : Type} (f : α → Value) (d : α) (n : Nat) : zcells #[f d] (n * 1) = ((List.replicate n d).map f).toArray := by
  apply Array.ext
  · simp [zcells]
  · intro i h1 h2; simp [zcells, Nat.mod_one]
theorem mk_b {n c : Int} {b : Nat} {Q : Prop} (h0 : 0 ≤ n ∧ n ≤ c) (hb : Nat.ble b 1024 = true) (hc : c ≤ 1073741824) (hk : Q) : (0 ≤ n ∧ n ≤ c ∧ c * b ≤ 2 ^ 46 ∧ c ≤ 2 ^ 46) ∧ Q := by
  have h1 := Nat.le_of_ble_eq_true hb
  have h2 : c * (b : Int) ≤ 1073741824 * 1024 := Int.mul_le_mul hc (by omega) (by omega) (by omega)
  exact ⟨⟨h0.1, h0.2, by omega, by omega⟩, hk⟩
theorem Own.fr {α : Type} {h h' : Heap} {E : TypeId} {a : Option Addr} {n c : Nat} {f : α → Value} {l : List α} (o : Own h E a n c f l) (hk : ∀ b x, owner a = some b → h b = some x → h' b = some x) : Own h' E a n c f l := by
  refine ⟨o.1, ?_⟩
  rcases o.2 with h1 | ⟨b, off, cs, fr, ha, hn, hb, r⟩
  · exact .inl h1
  · exact .inr ⟨b, off, cs, fr, ha, hn, hk b _ (by simp [owner, ha]) hb, r⟩
theorem owner_cut' {a : Option Addr} {l size c : Nat} : owner (cutA a l size c) = owner a := by
  unfold cutA owner
  split
  · rfl
  · cases a with
    | none => rfl
    | some a => simp [Addr.add]; split <;> rfl
theorem Own.drop {α : Type} {h : Heap} {E : TypeId} {a a' : Option Addr} {n c m : Nat} {f : α → Value} {l : List α} (o : Own h E a n c f l) (hm : m ≤ n) (ha' : a' = cutA a m 1 c) : Own h E a' (n - m) (c - m) f (l.drop m) := by
  refine ⟨by simp [o.1], ?_⟩
  rcases o.2 with ⟨h1, h2, h3⟩ | ⟨b, off, cs, fr, ha, hn, hb, hs, hf, hc⟩
  · left
    refine ⟨?_, by omega, by omega⟩
    rw [ha', h1]; unfold cutA; split <;> rfl
  · right
    by_cases hcm : c = m
    · have hmn : m = n := by omega
      refine ⟨b, off, cs, fr, ?_, by omega, hb, by omega, fun i hi => by omega, fun i hi => ?_⟩
      · rw [ha', ha]; unfold cutA; rw [if_pos hcm]
      · simp [o.1] at hi; omega
    · refine ⟨b, off + m, cs, fr, ?_, by omega, hb, by omega, fun i hi => ?_, fun i hi => ?_⟩
      · rw [ha', ha]; unfold cutA; rw [if_neg hcm, Option.map_some, addr_add, Nat.mul_one]
      · have := hf (m + i) (by omega)
        rw [show off + m + i = off + (m + i) from by omega]; exact this
      · simp at hi
        have := hc (m + i) (by omega)
        rw [show off + m + i = off + (m + i) from by omega, this]; simp
/-- append(b, s...) of a string. -/
theorem app_str {T U E ty : TypeId} {inf : TypeInfo} (hT : P.underlying T = some (.slice E)) (hU : P.underlying U = some .string)
    (hi : P.info? E = some inf) (hs : inf.size = 1) (hz : inf.zero = some (.int .u8 0)) {h : Heap} {t : Nat} {a : Option Addr} {n c : Nat} {l : List UInt8} {s : ByteArray}
    (ho : Own h E a n c bv l) (hb : (n + s.size) * inf.bytes ≤ 2 ^ 40) (hb2 : n + s.size ≤ 2 ^ 40) (hb3 : inf.bytes ≤ 1000) (hdm : Dom h t) {K : Value → Heap → Nat → Prop}
    (hK : ∀ a' c' h' t', Own h' E a' (n + s.size) c' bv (l ++ s.data.toList) → t ≤ t' → Dom h' t' → (∀ k, k < t → owner a ≠ some k → h' k = h k) → (owner a' = owner a ∨ ∃ r, owner a' = some r ∧ t ≤ r) → K (.slice a' (n + s.size) c') h' t') :
    AppVC P #[T, U] ty (.slice a n c) (.string s) K h t := by
  refine ⟨?_⟩
  unfold Builtin.append_
  simp only [List.getElem?_toArray, List.getElem?_cons_zero, List.getElem?_cons_succ, gen_b, gen_underlying hT, gen_sizeOf hi, gen_underlying hU, gen_p, hs]
  simp only [Bool.false_eq_true, if_false, Builtin.lenOf, gen_p, gen_b, Bool.not_false, if_true, Nat.mul_one]
  have hsl : s.data.toList.length = s.size := by rw [Array.length_toList]; rfl
  refine app_body (z := .int .u8 0) (l2 := s.data.toList) hi hz rfl ho hsl ?_ (fun _ => rfl) hb hb2 hb3 hdm hK
  intro t K hk
  simp only [Builtin.firstCells, gen_p]
  have e : (s.extract 0 s.size).data.map (fun b => Value.int .u8 ((b.toNat : Nat) : Int)) = (s.data.toList.map bv).toArray := by
    apply Array.toList_inj.1
    simp [bv, Function.comp_def]
  rw [e]; exact hk
theorem ldrow {h : Heap} {b off sz : Nat} {c : Array Value} {T : TypeId} {f : Nat × Nat} {Q : Array Value → TypeId → Nat × Nat → Prop} (hb : h b = some (.cells c T f)) (h1 : Nat.ble (off + sz) c.size = true) (hk : Q c T f) :
    ∃ c T' f, h b = some (.cells c T' f) ∧ off + sz ≤ c.size ∧ Q c T' f := ⟨c, T, f, hb, Nat.le_of_ble_eq_true h1, hk⟩
theorem strow {h : Heap} {b off sz : Nat} {c cs : Array Value} {T : TypeId} {Q : Array Value → TypeId → Nat × Nat → Prop} (hb : h b = some (.cells c T (0, 0))) (h0 : cs.size = sz) (h2 : cs.toList.all oneC = true) (h1 : Nat.ble (off + sz) c.size = true) (hk : Q c T (0, 0)) :
    cs.size = sz ∧ (∀ u ∈ cs.toList, oneC u = true) ∧ ∃ c T' f, h b = some (.cells c T' f) ∧ off + sz ≤ c.size ∧ (∀ i, i < sz → fz f (off + i) = false) ∧ Q c T' f :=
  ⟨h0, fun u hu => List.all_eq_true.1 h2 u hu, c, T, (0, 0), hb, Nat.le_of_ble_eq_true h1, fun i _ => by simp [fz], hk⟩
theorem own_ix {b off n : Nat} {i : Int} {Q : Nat → Nat → Prop} (h0 : 0 ≤ i ∧ i < n) (hk : Q b off) : (0 ≤ i ∧ i < n) ∧ ∃ b' off', some (⟨b, off, none⟩ : Addr) = some ⟨b', off', none⟩ ∧ Q b' off' := ⟨h0, b, off, rfl, hk⟩
theorem ar_ld {α : Type} {h : Heap} {b j s : Nat} {l : List α} {f : α → Value} {T : TypeId} {fr : Nat × Nat} {K : Value → Prop} (hb : h b = some (.cells (l.map f).toArray T fr)) (hs : s = 1) (hj : j < l.length) (hk : ∀ x, l[j]? = some x → K (f x)) :
    ∃ v, Cell h ⟨b, 0 + j * s, none⟩ v ∧ K v := by
  subst hs
  refine ⟨f l[j], ⟨_, _, _, hb, rfl, ?_⟩, hk _ (List.getElem?_eq_getElem hj)⟩
  show (List.map f l).toArray[0 + j * 1]? = _
  rw [Nat.mul_one, Nat.zero_add]; simp [hj]
theorem agg_ld {α : Type} {l : List α} {f : α → Value} {j s : Nat} {Q : Value → Prop} (hs : s = 1) (hj : j < l.length) (hk : ∀ x, l[j]? = some x → Q (f x)) : ∃ v, (l.map f).toArray[j * s]? = some v ∧ Q v := by
  subst hs
  exact ⟨_, by simp [hj], hk _ (List.getElem?_eq_getElem hj)⟩
theorem st_s {h : Heap} {b off : Nat} {c c' : Array Value} {T : TypeId} {v : Value} {Q : Array Value → TypeId → Nat × Nat → Prop} (hb : h b = some (.cells c T (0, 0))) (h1 : oneC v = true) (hlt : off < c.size) (he : c.setIfInBounds off v = c') (hk : c.setIfInBounds off v = c' → Q c T (0, 0)) :
    oneC v = true ∧ ∃ c T f, h b = some (.cells c T f) ∧ off < c.size ∧ fz f off = false ∧ Q c T f := ⟨h1, c, T, (0, 0), hb, hlt, by simp [fz], hk he⟩
theorem ar_set {α : Type} (l : List α) (f : α → Value) (j : Nat) (x : α) : (l.map f).toArray.setIfInBounds (0 + j * 1) (f x) = ((l.set j x).map f).toArray := by
  rw [Nat.mul_one, Nat.zero_add]
  apply Array.ext'
  simp [List.map_set]
theorem ar_st {α : Type} {h : Heap} {b j s : Nat} {l : List α} {f : α → Value} {T : TypeId} {v : Value} {Q : Array Value → TypeId → Nat × Nat → Prop} (x : α) (hb : h b = some (.cells (l.map f).toArray T (0, 0))) (hv : v = f x) (hs : s = 1) (hj : j < l.length) (h1 : oneC v = true)
    (hk : (l.map f).toArray.setIfInBounds (0 + j * s) v = ((l.set j x).map f).toArray → Q (l.map f).toArray T (0, 0)) : oneC v = true ∧ ∃ c T f, h b = some (.cells c T f) ∧ 0 + j * s < c.size ∧ fz f (0 + j * s) = false ∧ Q c T f := by
  subst hs; subst hv
  exact ⟨h1, _, _, _, hb, by simp; omega, rfl, hk (ar_set l f j x)⟩
theorem ar_sl {α : Type} {h : Heap} {b : Nat} {l : List α} {f : α → Value} {T : TypeId} {fr : Nat × Nat} {n : Nat} (hb : h b = some (.cells (l.map f).toArray T fr)) (hn : l.length = n) : Sl h (some ⟨b, 0, none⟩) n f l :=
  ⟨hn, fun _ => ⟨b, 0, _, T, fr, rfl, hb, fun i hi => by simp [hi]⟩⟩
theorem ar_own {α : Type} {h : Heap} {b : Nat} {l : List α} {f : α → Value} {T : TypeId} {n : Nat} (hb : h b = some (.cells (l.map f).toArray T (0, 0))) (hn : l.length = n) : Own h T (some ⟨b, 0, none⟩) n n f l :=
  ⟨hn, .inr ⟨b, 0, _, (0, 0), rfl, Nat.le_refl _, hb, by simp; omega, fun i _ => by simp [fz], fun i hi => by simp [hi]⟩⟩
end Go.Vc
