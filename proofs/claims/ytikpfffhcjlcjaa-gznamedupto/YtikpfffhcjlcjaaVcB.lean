import Derived.Test.YtikpfffhcjlcjaaVc5
set_option linter.unusedVariables false
set_option linter.unusedSimpArgs false
namespace Go.Vc
open Go
variable {P : Program}
theorem gen_of_genR {α : Type} (s : Sem α) : ∀ {R : α → Prop} {K : α → Heap → Nat → Prop} {h : Heap} {t : Nat}, genR P s R h → (∀ a, R a → K a h t) → gen P s K h t := by
  induction s with
  | pure a => intro R K h t hg hk; exact hk a hg
  | load m a k ih => intro R K h t ⟨v, hc, hg⟩ hk; exact ⟨v, hc, ih v hg hk⟩
  | program k ih => intro R K h t hg hk; exact ih P hg hk
  | mark m k ih => intro R K h t hg hk; exact ih hg hk
  | getObj r k ih => intro R K h t ⟨o, hb, hn, hg⟩ hk; exact ⟨o, hb, hn, ih _ hg hk⟩
  | shape r k ih => intro R K h t ⟨o, hb, hg⟩ hk; exact ⟨o, hb, ih _ hg hk⟩
  | frozen a k ih => intro R K h t ⟨o, hb, hg⟩ hk; exact ⟨o, hb, ih _ hg hk⟩
  | _ => intro R K h t hg hk; exact hg.elim
theorem genR_mono {α : Type} (s : Sem α) : ∀ {R R' : α → Prop} {h : Heap}, genR P s R h → (∀ a, R a → R' a) → genR P s R' h := by
  induction s with
  | pure a => intro R R' h hg hk; exact hk a hg
  | load m a k ih => intro R R' h ⟨v, hc, hg⟩ hk; exact ⟨v, hc, ih v hg hk⟩
  | program k ih => intro R R' h hg hk; exact ih P hg hk
  | mark m k ih => intro R R' h hg hk; exact ih hg hk
  | getObj r k ih => intro R R' h ⟨o, hb, hn, hg⟩ hk; exact ⟨o, hb, hn, ih _ hg hk⟩
  | shape r k ih => intro R R' h ⟨o, hb, hg⟩ hk; exact ⟨o, hb, ih _ hg hk⟩
  | frozen a k ih => intro R R' h ⟨o, hb, hg⟩ hk; exact ⟨o, hb, ih _ hg hk⟩
  | _ => intro R R' h hg hk; exact hg.elim
section maps
set_option linter.unusedSectionVars false
variable {κ β : Type} [DecidableEq κ]
def MapG (o : Obj) (kv : κ → Value) (f : β → Value) (l : List (κ × β)) : Prop :=
  ∃ es clock, o = .map es clock ∧ es.toList.map (fun e => (e.key, e.val)) = l.map (fun p => (kv p.1, f p.2)) ∧ (l.map (·.1)).Nodup ∧ (es.toList.map (·.born)).Nodup ∧ ∀ e ∈ es.toList, e.born < clock
def gGet (l : List (κ × β)) (k : κ) : Option β := (l.find? (fun p => decide (p.1 = k))).map (·.2)
def gPut (l : List (κ × β)) (k : κ) (v : β) : List (κ × β) :=
  if l.any (fun p => decide (p.1 = k)) then l.map (fun p => if p.1 = k then (k, v) else p) else l ++ [(k, v)]
def gAt (l : List (κ × β)) (k : κ) (f : β → Value) : Option (Nat × Value) := (l.findIdx? (fun p => decide (p.1 = k))).bind fun j => (l[j]?).map fun p => (j, f p.2)
structure KeyOk (P : Program) (KT : TypeId) (kv : κ → Value) : Prop where
  find : ∀ {β : Type} (f : β → Value) (k : κ) (es : List MapEntry) (l : List (κ × β)) {h : Heap}, es.map (fun e => (e.key, e.val)) = l.map (fun p => (kv p.1, f p.2)) → genR P (Instr.findKey KT (kv k) es) (fun r => gAt l k f = r) h
  check : ∀ (b : Bool) (k : κ) {h : Heap}, genR P (Instr.checkKey b 10000 KT (kv k)) (fun _ => True) h
  same : ∀ k, Instr.sameBits 10000 (kv k) (kv k) = true
theorem gGet_find (l : List (κ × β)) (k : κ) : gGet l k = (l.findIdx? (fun p => decide (p.1 = k))).bind fun j => (l[j]?).map (·.2) := by
  unfold gGet
  induction l with
  | nil => rfl
  | cons p l ih =>
    by_cases hk : p.1 = k
    · simp [List.findIdx?_cons, hk]
    · simp only [List.findIdx?_cons, List.find?_cons, hk, decide_false, Bool.false_eq_true, if_false]
      rw [ih]
      cases l.findIdx? (fun p => decide (p.1 = k)) with
      | none => rfl
      | some j => simp
theorem gAt_none {l : List (κ × β)} {k : κ} {f : β → Value} (h : gAt l k f = none) : gGet l k = none := by
  rw [gGet_find]; unfold gAt at h
  cases hf : l.findIdx? (fun p => decide (p.1 = k)) with
  | none => rfl
  | some j =>
    rw [hf] at h
    have hj : j < l.length := (List.findIdx?_eq_some_iff_findIdx_eq.1 hf).1
    simp [hj] at h
theorem gAt_some {l : List (κ × β)} {k : κ} {f : β → Value} {i : Nat} {v : Value} (h : gAt l k f = some (i, v)) : ∃ y, gGet l k = some y ∧ v = f y := by
  rw [gGet_find]; unfold gAt at h
  cases hf : l.findIdx? (fun p => decide (p.1 = k)) with
  | none => rw [hf] at h; cases h
  | some j =>
    rw [hf] at h
    have hj : j < l.length := (List.findIdx?_eq_some_iff_findIdx_eq.1 hf).1
    simp [hj] at h ⊢
    exact h.2.symm
theorem gGet_put (l : List (κ × β)) (k : κ) (v : β) (k' : κ) : gGet (gPut l k v) k' = if k' = k then some v else gGet l k' := by
  unfold gGet gPut
  by_cases ha : l.any (fun p => decide (p.1 = k)) = true
  · rw [if_pos ha]
    induction l with
    | nil => simp at ha
    | cons p l ih =>
      rw [List.map_cons]
      by_cases hp : p.1 = k
      · rw [if_pos hp]
        by_cases hk : k' = k
        · subst hk; simp
        · rw [if_neg hk]
          simp only [List.find?_cons, hp]
          rw [decide_eq_false (Ne.symm hk)]
          by_cases ha2 : l.any (fun p => decide (p.1 = k)) = true
          · rw [ih ha2, if_neg hk]
          · have : l.map (fun p => if p.1 = k then (k, v) else p) = l := by
              rw [List.map_congr_left (g := id)]
              · simp
              · intro q hq
                have h3 : decide (q.1 = k) = false := by
                  have := List.any_eq_false.1 ((Bool.not_eq_true _).mp ha2) q hq
                  simpa using this
                rw [if_neg (of_decide_eq_false h3)]; rfl
            rw [this]
      · rw [if_neg hp]
        have ha2 : l.any (fun p => decide (p.1 = k)) = true := by simpa [hp] using ha
        by_cases hk : k' = k
        · subst hk
          simp only [List.find?_cons, decide_eq_false hp]
          rw [ih ha2]; simp
        · simp only [List.find?_cons]
          by_cases hpk : p.1 = k'
          · simp [hpk, hk]
          · simp only [decide_eq_false hpk]
            rw [ih ha2]
  · rw [if_neg ha, List.find?_append]
    have hn : ∀ q ∈ l, q.1 ≠ k := by
      intro q hq
      have := List.any_eq_false.1 ((Bool.not_eq_true _).mp ha) q hq
      simpa using this
    by_cases hk : k' = k
    · subst hk
      have : l.find? (fun p => decide (p.1 = k')) = none := by
        rw [List.find?_eq_none]; intro q hq; simpa using hn q hq
      simp [this]
    · rw [if_neg hk]
      simp [Ne.symm hk]
theorem gPut_new {l : List (κ × β)} {k : κ} {v : β} (h : gGet l k = none) : gPut l k v = l ++ [(k, v)] := by
  unfold gPut
  rw [if_neg]
  intro ha
  obtain ⟨p, hp, he⟩ := List.any_eq_true.1 ha
  unfold gGet at h
  rw [Option.map_eq_none_iff, List.find?_eq_none] at h
  exact h p hp he
theorem look_g {T KT ET : TypeId} {kv : κ → Value} (hT : P.underlying T = some (.map KT ET)) (hK : KeyOk P KT kv) {inf : TypeInfo} (hE : P.info? ET = some inf) {f : β → Value} {d : β} (hz : inf.zero = some (f d))
    {h : Heap} {r : Nat} {o : Obj} (hr : h r = some o) {l : List (κ × β)} (hm : MapG o kv f l) {k : κ} {ok : Bool} {K : Value → Prop}
    (hk : K (if ok then .tuple #[f ((gGet l k).getD d), .bool (gGet l k).isSome] else f ((gGet l k).getD d))) : genR P (Instr.lookup T (.map (some r)) (kv k) ok) K h := by
  obtain ⟨es, clock, rfl, he, _⟩ := hm
  simp only [Instr.lookup, genR_b, genR_underlying hT, getObj, genR]
  refine ⟨_, hr, rfl, ?_⟩
  simp only [genR_b, genR_p]
  refine genR_mono _ (hK.check _ _) (fun _ _ => ?_)
  refine genR_mono _ (hK.find f k es.toList l he) (fun x hx => ?_)
  cases x with
  | none =>
    rw [gAt_none hx] at hk
    simp only [genR_b, genR_zero hE hz, genR_p]
    simpa using hk
  | some p =>
    obtain ⟨i, v⟩ := p
    obtain ⟨y, hy, rfl⟩ := gAt_some hx
    rw [hy] at hk
    simpa [genR_p] using hk
theorem look_gV {T KT ET : TypeId} {kv : κ → Value} (hT : P.underlying T = some (.map KT ET)) (hK : KeyOk P KT kv) {inf : TypeInfo} (hE : P.info? ET = some inf) {f : β → Value} {d : β} (hz : inf.zero = some (f d))
    {h : Heap} {t : Nat} {r : Nat} {o : Obj} (hr : h r = some o) {l : List (κ × β)} (hm : MapG o kv f l) {k : κ} {ok : Bool} {K : Value → Heap → Nat → Prop}
    (hk : K (if ok then .tuple #[f ((gGet l k).getD d), .bool (gGet l k).isSome] else f ((gGet l k).getD d)) h t) : LookVC P T (.map (some r)) (kv k) ok K h t :=
  ⟨gen_of_genR _ (look_g hT hK hE hz hr hm (K := fun v => K v h t) hk) (fun _ h => h)⟩
theorem look_gQ {T KT ET : TypeId} {kv : κ → Value} (hT : P.underlying T = some (.map KT ET)) (hK : KeyOk P KT kv) {inf : TypeInfo} (hE : P.info? ET = some inf) {f : β → Value} {d : β} (hz : inf.zero = some (f d))
    {h : Heap} {r : Nat} {o : Obj} (hr : h r = some o) {l : List (κ × β)} (hm : MapG o kv f l) {k : κ} {ok : Bool} {K : Value → Prop}
    (hk : K (if ok then .tuple #[f ((gGet l k).getD d), .bool (gGet l k).isSome] else f ((gGet l k).getD d))) : LookQ P T (.map (some r)) (kv k) ok K h :=
  ⟨look_g hT hK hE hz hr hm hk⟩
theorem mapup_g {T KT ET : TypeId} {kv : κ → Value} (hT : P.underlying T = some (.map KT ET)) (hK : KeyOk P KT kv) {f : β → Value}
    {h : Heap} {t : Nat} {r : Nat} {o : Obj} (hr : h r = some o) {l : List (κ × β)} (hm : MapG o kv f l) {k : κ} {v : β} {K : Value → Heap → Nat → Prop}
    (hk : ∀ o', MapG o' kv f (gPut l k v) → K undef (hset h r o') t) : MapUpVC P T (.map (some r)) (kv k) (f v) K h t := by
  obtain ⟨es, clock, rfl, he, hnd, hbn, hbc⟩ := hm
  refine ⟨?_⟩
  simp only [Instr.mapUpdate, gen_b, gen_underlying hT, getObj, gen]
  refine ⟨_, hr, rfl, ?_⟩
  simp only [gen_b]
  refine gen_of_genR _ (hK.check _ _) (fun _ _ => ?_)
  refine gen_of_genR _ (hK.find f _ _ _ he) (fun _ hx => ?_)
  subst hx
  unfold gAt
  have hlen : es.size = l.length := by have := congrArg List.length he; simpa using this
  cases hf : l.findIdx? (fun p => decide (p.1 = k)) with
  | none =>
    have hno : l.any (fun p => decide (p.1 = k)) = false := by
      rw [List.any_eq_false]
      intro p hp
      exact List.findIdx?_eq_none_iff.1 hf p hp ▸ by simp
    simp only [Option.bind_none, setObj, gen]
    refine ⟨_, hr, rfl, ?_⟩
    refine hk _ ⟨_, _, rfl, ?_, ?_, ?_, ?_⟩
    · simp [gPut, hno, he]
    · simp only [gPut, hno, Bool.false_eq_true, if_false, List.map_append, List.map_cons, List.map_nil]
      rw [List.nodup_append]
      refine ⟨hnd, by simp, ?_⟩
      intro x hx y hy e
      simp at hy
      obtain ⟨p, hp, rfl⟩ := List.mem_map.1 hx
      have := List.any_eq_false.1 hno p hp
      simp [← hy, e] at this
    · simp only [Array.toList_push, List.map_append, List.map_cons, List.map_nil]
      rw [List.nodup_append]
      refine ⟨hbn, by simp, ?_⟩
      intro x hx y hy e
      simp at hy
      obtain ⟨p, hp, rfl⟩ := List.mem_map.1 hx
      have := hbc p hp
      omega
    · intro e hE
      simp at hE
      rcases hE with hE | rfl
      · have := hbc e (by simpa using hE); omega
      · simp
  | some j =>
    obtain ⟨hj, hpj⟩ := List.findIdx?_eq_some_iff_findIdx_eq.1 hf
    have hje : j < es.size := by omega
    have hjk : l[j].1 = k := by
      have := List.findIdx?_eq_some_iff_getElem.1 hf
      simpa using this.2.1
    have hyes : l.any (fun p => decide (p.1 = k)) = true := List.any_eq_true.2 ⟨l[j], List.getElem_mem hj, by simp [hjk]⟩
    have hek : es[j].key = kv k := by
      have := congrArg (fun z => z[j]?) he
      simp [hj, hje] at this
      rw [this.1, hjk]
    simp only [Option.bind_some, List.getElem?_eq_getElem hj, Option.map_some, Array.getElem?_eq_getElem hje, Option.getD_some, hek, gen_b, Instr.keyThatStays]
    rw [if_pos (hK.same k)]
    simp only [gen_p, setObj, gen]
    refine ⟨_, hr, rfl, ?_⟩
    refine hk _ ⟨_, _, rfl, ?_, ?_, ?_, ?_⟩
    · simp only [gPut, hyes, if_true]
      apply List.ext_getElem
      · simp [hlen]
      · intro i h1 h2
        simp at h1 h2
        have hi := congrArg (fun z => z[i]?) he
        have hi1 : i < es.size := h1
        simp [h2, hi1] at hi
        simp only [List.getElem_map, Array.getElem_toList, Array.getElem_modify]
        by_cases hij : j = i
        · subst hij
          simp [hjk]
        · simp only [hij, if_false]
          have : l[i].1 ≠ k := by
            intro e
            have h2' : i < (l.map (·.1)).length := by simpa using h2
            have hj' : j < (l.map (·.1)).length := by simpa using hj
            have h3 : (l.map (·.1))[i] = (l.map (·.1))[j] := by simp [e, hjk]
            exact hij ((List.getElem_inj hnd).1 h3).symm
          simp [this, hi.1, hi.2]
    · simp only [gPut, hyes, if_true, List.map_map]
      have : (fun p : κ × β => p.1) ∘ (fun p => if p.1 = k then (k, v) else p) = fun p => p.1 := by
        funext p; simp only [Function.comp]; split
        · rename_i e; exact e.symm
        · rfl
      rw [this]; exact hnd
    · have : ((es.modify j fun e => { e with key := kv k, val := f v }).toList.map (·.born)) = es.toList.map (·.born) := by
        apply List.ext_getElem
        · simp
        · intro i h1 h2
          simp only [List.getElem_map, Array.getElem_toList, Array.getElem_modify]
          split <;> simp_all
      rw [this]; exact hbn
    · intro e hE
      rw [Array.mem_toList_iff] at hE
      obtain ⟨i, hi, rfl⟩ := Array.mem_iff_getElem.1 hE
      simp only [Array.getElem_modify]
      have : i < es.size := by simpa using hi
      split
      · exact hbc es[i] (by simp)
      · exact hbc es[i] (by simp)
theorem mapg_new (kv : κ → Value) (f : β → Value) : MapG (.map #[] 0) kv f ([] : List (κ × β)) := ⟨_, _, rfl, by simp, by simp, by simp, by simp⟩
theorem mapg_len {o : Obj} {kv : κ → Value} {f : β → Value} {l : List (κ × β)} (hm : MapG o kv f l) : ∃ es c, o = .map es c ∧ es.size = l.length := by
  obtain ⟨es, clock, rfl, he, _⟩ := hm
  exact ⟨es, clock, rfl, by have := congrArg List.length he; simpa using this⟩
theorem findAsking_g {KT : TypeId} {kv : κ → Value} (heq : ∀ (a b : κ) (K : Bool → Prop) (h : Heap), K (decide (a = b)) → genR P (Op.equal KT (kv a) (kv b)) K h) (f : β → Value) (k : κ) :
    ∀ (es : List MapEntry) (l : List (κ × β)) (i : Nat) {h : Heap} {K : Option (Nat × Value) → Prop}, es.map (fun e => (e.key, e.val)) = l.map (fun p => (kv p.1, f p.2)) →
    K ((l.findIdx? (fun p => decide (p.1 = k))).bind fun j => (l[j]?).map fun p => (i + j, f p.2)) → genR P (Instr.findAsking KT (kv k) es i) K h := by
  intro es
  induction es with
  | nil =>
    intro l i h K he hk
    cases l with
    | nil => simpa [Instr.findAsking, genR_p] using hk
    | cons p l => simp at he
  | cons e es ih =>
    intro l i h K he hk
    cases l with
    | nil => simp at he
    | cons p l =>
      simp only [List.map_cons, List.cons.injEq, Prod.mk.injEq] at he
      obtain ⟨⟨h1, h2⟩, h3⟩ := he
      simp only [Instr.findAsking, genR_b, h1]
      refine heq _ _ _ _ ?_
      by_cases hp : p.1 = k
      · subst hp
        simp only [decide_true, if_true, genR_p]
        simpa [List.findIdx?_cons, h2] using hk
      · have hp2 : ¬ k = p.1 := fun e => hp e.symm
        simp only [hp2, decide_false, Bool.false_eq_true, if_false]
        refine ih l (i + 1) h3 ?_
        simp only [List.findIdx?_cons, hp, decide_false, Bool.false_eq_true, if_false] at hk
        cases hf : l.findIdx? (fun p => decide (p.1 = k)) with
        | none => rw [hf] at hk; simpa using hk
        | some j => rw [hf] at hk; simpa [Nat.add_assoc, Nat.add_comm 1 j] using hk
end maps
theorem keyOk_string {KT : TypeId} (hK : P.underlying KT = some .string) : KeyOk P KT Value.string where
  find f k es l h he := by
    refine findKey_strR hK he ?_
    rfl
  check b k h := checkKey_strR hK b k trivial
  same k := by show (k == k) = true; rw [ba_beq]; simp
theorem keyOk_int {KT : TypeId} {ik : IntKind} (hK : P.underlying KT = some (.int ik)) : KeyOk P KT (Value.int ik) where
  find f k es l h he := by
    simp only [Instr.findKey, genR_b, genR_underlying hK]
    have : ∀ (es : List MapEntry) (l : List (Int × _)) (i : Nat), es.map (fun e => (e.key, e.val)) = l.map (fun p => (Value.int ik p.1, f p.2)) →
        Instr.findNow (.int ik) (.int ik k) es i = some ((l.findIdx? (fun p => decide (p.1 = k))).bind fun j => (l[j]?).map fun p => (i + j, f p.2)) := by
      intro es
      induction es with
      | nil => intro l i h; cases l with | nil => rfl | cons p l => simp at h
      | cons e es ih =>
        intro l i h
        cases l with
        | nil => simp at h
        | cons p l =>
          simp only [List.map_cons, List.cons.injEq, Prod.mk.injEq] at h
          obtain ⟨⟨h1, h2⟩, h3⟩ := h
          unfold Instr.findNow
          rw [h1]
          simp only [Instr.sameNow, if_true]
          by_cases hk : p.1 = k
          · subst hk
            simp [List.findIdx?_cons, h2]
          · have hk2 : (k == p.1) = false := by simp; exact fun e => hk e.symm
            rw [hk2]
            show Instr.findNow _ _ es (i + 1) = _
            rw [ih l (i + 1) h3]
            simp only [List.findIdx?_cons, hk, decide_false, Bool.false_eq_true, if_false]
            cases hf : l.findIdx? (fun p => decide (p.1 = k)) with
            | none => simp
            | some j => simp [Nat.add_assoc, Nat.add_comm 1 j]
    rw [this es l 0 he]
    simp only [genR_p, gAt]
    simp
  check b k h := by
    show genR P (Instr.checkKey b (9999 + 1) KT (.int ik k)) _ h
    unfold Instr.checkKey
    rw [genR_b, genR_underlying hK]
    trivial
  same k := by show (ik == ik && k == k) = true; simp
def bv (x : UInt8) : Value := .int .u8 ((x.toNat : Nat) : Int)
theorem zc {α : Type} (f : α → Value) (d : α) (n : Nat) : zcells #[f d] (n * 1) = ((List.replicate n d).map f).toArray := by
  apply Array.ext
  · simp [zcells]
  · intro i h1 h2; simp [zcells, Nat.mod_one]
theorem mk_b {n c : Int} {b : Nat} {Q : Prop} (h0 : 0 ≤ n ∧ n ≤ c) (hb : Nat.ble b 1024 = true) (hc : c ≤ 1073741824) (hk : Q) : (0 ≤ n ∧ n ≤ c ∧ c * b ≤ 2 ^ 46 ∧ c ≤ 2 ^ 46) ∧ Q := by
  have h1 := Nat.le_of_ble_eq_true hb
  have h2 : c * (b : Int) ≤ 1073741824 * 1024 := Int.mul_le_mul hc (by omega) (by omega) (by omega)
  exact ⟨⟨h0.1, h0.2, by omega, by omega⟩, hk⟩
theorem Own.fr {α : Type} {h h' : Heap} {E : TypeId} {a : Option Addr} {n c : Nat} {f : α → Value} {l : List α} (o : Own h E a n c f l) (hk : ∀ b x, owner a = some b → h b = some x → h' b = some x) : Own h' E a n c f l := by
  refine ⟨o.1, ?_⟩
  rcases o.2 with h1 | ⟨b, off, cs, fr, ha, hn, hb, r⟩
  · exact .inl h1
  · exact .inr ⟨b, off, cs, fr, ha, hn, hk b _ (by simp [owner, ha]) hb, r⟩
theorem owner_cut' {a : Option Addr} {l size c : Nat} : owner (cutA a l size c) = owner a := by
  unfold cutA owner
  split
  · rfl
  · cases a with
    | none => rfl
    | some a => simp [Addr.add]; split <;> rfl
theorem Own.drop {α : Type} {h : Heap} {E : TypeId} {a a' : Option Addr} {n c m : Nat} {f : α → Value} {l : List α} (o : Own h E a n c f l) (hm : m ≤ n) (ha' : a' = cutA a m 1 c) : Own h E a' (n - m) (c - m) f (l.drop m) := by
  refine ⟨by simp [o.1], ?_⟩
  rcases o.2 with ⟨h1, h2, h3⟩ | ⟨b, off, cs, fr, ha, hn, hb, hs, hf, hc⟩
  · left
    refine ⟨?_, by omega, by omega⟩
    rw [ha', h1]; unfold cutA; split <;> rfl
  · right
    by_cases hcm : c = m
    · have hmn : m = n := by omega
      refine ⟨b, off, cs, fr, ?_, by omega, hb, by omega, fun i hi => by omega, fun i hi => ?_⟩
      · rw [ha', ha]; unfold cutA; rw [if_pos hcm]
      · simp [o.1] at hi; omega
    · refine ⟨b, off + m, cs, fr, ?_, by omega, hb, by omega, fun i hi => ?_, fun i hi => ?_⟩
      · rw [ha', ha]; unfold cutA; rw [if_neg hcm, Option.map_some, addr_add, Nat.mul_one]
      · have := hf (m + i) (by omega)
        rw [show off + m + i = off + (m + i) from by omega]; exact this
      · simp at hi
        have := hc (m + i) (by omega)
        rw [show off + m + i = off + (m + i) from by omega, this]; simp
theorem app_str {T U E ty : TypeId} {inf : TypeInfo} (hT : P.underlying T = some (.slice E)) (hU : P.underlying U = some .string)
    (hi : P.info? E = some inf) (hs : inf.size = 1) (hz : inf.zero = some (.int .u8 0)) {h : Heap} {t : Nat} {a : Option Addr} {n c : Nat} {l : List UInt8} {s : ByteArray}
    (ho : Own h E a n c bv l) (hb : (n + s.size) * inf.bytes ≤ 2 ^ 40) (hb2 : n + s.size ≤ 2 ^ 40) (hb3 : inf.bytes ≤ 1000) (hdm : Dom h t) {K : Value → Heap → Nat → Prop}
    (hK : ∀ a' c' h' t', Own h' E a' (n + s.size) c' bv (l ++ s.data.toList) → t ≤ t' → Dom h' t' → (∀ k, k < t → owner a ≠ some k → h' k = h k) → (owner a' = owner a ∨ ∃ r, owner a' = some r ∧ t ≤ r) → K (.slice a' (n + s.size) c') h' t') :
    AppVC P #[T, U] ty (.slice a n c) (.string s) K h t := by
  refine ⟨?_⟩
  unfold Builtin.append_
  simp only [List.getElem?_toArray, List.getElem?_cons_zero, List.getElem?_cons_succ, gen_b, gen_underlying hT, gen_sizeOf hi, gen_underlying hU, gen_p, hs]
  simp only [Bool.false_eq_true, if_false, Builtin.lenOf, gen_p, gen_b, Bool.not_false, if_true, Nat.mul_one]
  have hsl : s.data.toList.length = s.size := by rw [Array.length_toList]; rfl
  refine app_body (z := .int .u8 0) (l2 := s.data.toList) hi hz rfl ho hsl ?_ (fun _ => rfl) hb hb2 hb3 hdm hK
  intro t K hk
  simp only [Builtin.firstCells, gen_p]
  have e : (s.extract 0 s.size).data.map (fun b => Value.int .u8 ((b.toNat : Nat) : Int)) = (s.data.toList.map bv).toArray := by
    apply Array.toList_inj.1
    simp [bv, Function.comp_def]
  rw [e]; exact hk
theorem ldrow {h : Heap} {b off sz : Nat} {c : Array Value} {T : TypeId} {f : Nat × Nat} {Q : Array Value → TypeId → Nat × Nat → Prop} (hb : h b = some (.cells c T f)) (h1 : Nat.ble (off + sz) c.size = true) (hk : Q c T f) :
    ∃ c T' f, h b = some (.cells c T' f) ∧ off + sz ≤ c.size ∧ Q c T' f := ⟨c, T, f, hb, Nat.le_of_ble_eq_true h1, hk⟩
theorem strow {h : Heap} {b off sz : Nat} {c cs : Array Value} {T : TypeId} {Q : Array Value → TypeId → Nat × Nat → Prop} (hb : h b = some (.cells c T (0, 0))) (h0 : cs.size = sz) (h2 : cs.toList.all oneC = true) (h1 : Nat.ble (off + sz) c.size = true) (hk : Q c T (0, 0)) :
    cs.size = sz ∧ (∀ u ∈ cs.toList, oneC u = true) ∧ ∃ c T' f, h b = some (.cells c T' f) ∧ off + sz ≤ c.size ∧ (∀ i, i < sz → fz f (off + i) = false) ∧ Q c T' f :=
  ⟨h0, fun u hu => List.all_eq_true.1 h2 u hu, c, T, (0, 0), hb, Nat.le_of_ble_eq_true h1, fun i _ => by simp [fz], hk⟩
theorem own_ix {b off n : Nat} {i : Int} {Q : Nat → Nat → Prop} (h0 : 0 ≤ i ∧ i < n) (hk : Q b off) : (0 ≤ i ∧ i < n) ∧ ∃ b' off', some (⟨b, off, none⟩ : Addr) = some ⟨b', off', none⟩ ∧ Q b' off' := ⟨h0, b, off, rfl, hk⟩
theorem ar_ld {α : Type} {h : Heap} {b j s : Nat} {l : List α} {f : α → Value} {T : TypeId} {fr : Nat × Nat} {K : Value → Prop} (hb : h b = some (.cells (l.map f).toArray T fr)) (hs : s = 1) (hj : j < l.length) (hk : ∀ x, l[j]? = some x → K (f x)) :
    ∃ v, Cell h ⟨b, 0 + j * s, none⟩ v ∧ K v := by
  subst hs
  refine ⟨f l[j], ⟨_, _, _, hb, rfl, ?_⟩, hk _ (List.getElem?_eq_getElem hj)⟩
  show (List.map f l).toArray[0 + j * 1]? = _
  rw [Nat.mul_one, Nat.zero_add]; simp [hj]
theorem ar_set {α : Type} (l : List α) (f : α → Value) (j : Nat) (x : α) : (l.map f).toArray.setIfInBounds (0 + j * 1) (f x) = ((l.set j x).map f).toArray := by
  rw [Nat.mul_one, Nat.zero_add]
  apply Array.ext'
  simp [List.map_set]
theorem ar_st {α : Type} {h : Heap} {b j s : Nat} {l : List α} {f : α → Value} {T : TypeId} {v : Value} {Q : Array Value → TypeId → Nat × Nat → Prop} (x : α) (hb : h b = some (.cells (l.map f).toArray T (0, 0))) (hv : v = f x) (hs : s = 1) (hj : j < l.length) (h1 : oneC v = true)
    (hk : (l.map f).toArray.setIfInBounds (0 + j * s) v = ((l.set j x).map f).toArray → Q (l.map f).toArray T (0, 0)) : oneC v = true ∧ ∃ c T f, h b = some (.cells c T f) ∧ 0 + j * s < c.size ∧ fz f (0 + j * s) = false ∧ Q c T f := by
  subst hs; subst hv
  exact ⟨h1, _, _, _, hb, by simp; omega, rfl, hk (ar_set l f j x)⟩
theorem ar_sl {α : Type} {h : Heap} {b : Nat} {l : List α} {f : α → Value} {T : TypeId} {fr : Nat × Nat} {n : Nat} (hb : h b = some (.cells (l.map f).toArray T fr)) (hn : l.length = n) : Sl h (some ⟨b, 0, none⟩) n f l :=
  ⟨hn, fun _ => ⟨b, 0, _, T, fr, rfl, hb, fun i hi => by simp [hi]⟩⟩
theorem ar_own {α : Type} {h : Heap} {b : Nat} {l : List α} {f : α → Value} {T : TypeId} {n : Nat} (hb : h b = some (.cells (l.map f).toArray T (0, 0))) (hn : l.length = n) : Own h T (some ⟨b, 0, none⟩) n n f l :=
  ⟨hn, .inr ⟨b, 0, _, (0, 0), rfl, Nat.le_refl _, hb, by simp; omega, fun i _ => by simp [fz], fun i hi => by simp [hi]⟩⟩
end Go.Vc
namespace Go.Vc
open Go
theorem ofInt_nat (w : Nat) (n : Nat) : BitVec.ofInt w (n : Int) = BitVec.ofNat w n := by simp
theorem wrap_nat {n : Nat} (h : n < 9223372036854775808) : IntKind.i64.wrap (n : Int) = (n : Int) := wi (by omega) (by omega)
theorem and_nat {m : Nat} {x : Nat} (hx : x < 9223372036854775808) (hm : m < 9223372036854775808) : IntKind.i64.wrap ((BitVec.ofInt (IntKind.bits .i64) (x : Int) &&& BitVec.ofInt (IntKind.bits .i64) (m : Int)).toNat : Int) = ((x &&& m : Nat) : Int) := by
  have e : (BitVec.ofInt (IntKind.bits .i64) (x : Int) &&& BitVec.ofInt (IntKind.bits .i64) (m : Int)).toNat = x &&& m := by
    rw [ofInt_nat, ofInt_nat]
    show (BitVec.ofNat 64 x &&& BitVec.ofNat 64 m).toNat = _
    rw [BitVec.toNat_and, BitVec.toNat_ofNat, BitVec.toNat_ofNat, Nat.mod_eq_of_lt (by omega), Nat.mod_eq_of_lt (by omega)]
  rw [e]
  have : x &&& m ≤ x := Nat.and_le_left
  exact wrap_nat (by omega)
theorem or_nat {m : Nat} {x : Nat} (hx : x < 9223372036854775808) (hm : m < 9223372036854775808) : IntKind.i64.wrap ((BitVec.ofInt (IntKind.bits .i64) (x : Int) ||| BitVec.ofInt (IntKind.bits .i64) (m : Int)).toNat : Int) = ((x ||| m : Nat) : Int) := by
  have e : (BitVec.ofInt (IntKind.bits .i64) (x : Int) ||| BitVec.ofInt (IntKind.bits .i64) (m : Int)).toNat = x ||| m := by
    rw [ofInt_nat, ofInt_nat]
    show (BitVec.ofNat 64 x ||| BitVec.ofNat 64 m).toNat = _
    rw [BitVec.toNat_or, BitVec.toNat_ofNat, BitVec.toNat_ofNat, Nat.mod_eq_of_lt (by omega), Nat.mod_eq_of_lt (by omega)]
  rw [e]
  have : x ||| m < 2 ^ 63 := Nat.or_lt_two_pow (by omega) (by omega)
  exact wrap_nat (by omega)
theorem mask_i64 (n : Nat) {x m : Int} {Q : Int → Prop} (hm : m = 2 ^ n - 1) (hn : n < 63) (h : 0 ≤ x ∧ x ≤ 9223372036854775807) (hk : Q (x % 2 ^ n)) :
    ∃ z, z = IntKind.i64.wrap ((BitVec.ofInt (IntKind.bits .i64) x &&& BitVec.ofInt (IntKind.bits .i64) m).toNat : Int) ∧ Q z := by
  obtain ⟨x, rfl⟩ := Int.eq_ofNat_of_zero_le h.1
  have h2 : 0 < 2 ^ n := Nat.pow_pos (by omega)
  have hp : (2 : Int) ^ n = ((2 ^ n : Nat) : Int) := by simp
  have hm2 : m = ((2 ^ n - 1 : Nat) : Int) := by rw [hm, hp]; omega
  subst hm2
  have h3 : 2 ^ n < 2 ^ 63 := Nat.pow_lt_pow_right (by omega) hn
  refine ⟨_, (and_nat (by omega) (by omega)).symm, ?_⟩
  rw [Nat.and_two_pow_sub_one_eq_mod]
  rw [hp] at hk
  simpa using hk
theorem and1_i64 {x : Int} {Q : Int → Prop} (h : 0 ≤ x ∧ x ≤ 9223372036854775807) (hk : Q (x % 2)) : ∃ z, z = IntKind.i64.wrap ((BitVec.ofInt (IntKind.bits .i64) x &&& BitVec.ofInt (IntKind.bits .i64) 1).toNat : Int) ∧ Q z :=
  mask_i64 1 rfl (by omega) h hk
theorem join_i64 (n : Nat) {x y : Int} {Q : Int → Prop} (h : 0 ≤ x ∧ x * 2 ^ n ≤ 9223372036854775807) (hy : 0 ≤ y ∧ y < 2 ^ n) (hn : n ≤ 62) (hk : Q (x * 2 ^ n + y)) :
    ∃ z, z = IntKind.i64.wrap ((BitVec.ofInt (IntKind.bits .i64) (x * 2 ^ n) ||| BitVec.ofInt (IntKind.bits .i64) y).toNat : Int) ∧ Q z := by
  obtain ⟨x, rfl⟩ := Int.eq_ofNat_of_zero_le h.1
  obtain ⟨y, rfl⟩ := Int.eq_ofNat_of_zero_le hy.1
  have hp : (2 : Int) ^ n = ((2 ^ n : Nat) : Int) := by simp
  rw [hp] at h hy hk ⊢
  have e : (x : Int) * ((2 ^ n : Nat) : Int) = ((x * 2 ^ n : Nat) : Int) := by simp
  rw [e] at h hk ⊢
  have h3 : 2 ^ n ≤ 2 ^ 62 := Nat.pow_le_pow_right (by omega) hn
  have h4 : y < 2 ^ n := by have := hy.2; omega
  refine ⟨_, (or_nat (by omega) (by omega)).symm, ?_⟩
  rw [Nat.mul_comm, ← Nat.two_pow_add_eq_or_of_lt h4, Nat.mul_comm]
  simpa using hk
theorem or1_i64 {x y : Int} {Q : Int → Prop} (h : 0 ≤ x ∧ x ≤ 4611686018427387903) (hy : 0 ≤ y ∧ y < 2) (hk : Q (x * 2 + y)) : ∃ z, z = IntKind.i64.wrap ((BitVec.ofInt (IntKind.bits .i64) (x * 2) ||| BitVec.ofInt (IntKind.bits .i64) y).toNat : Int) ∧ Q z :=
  join_i64 1 ⟨h.1, by omega⟩ hy (by omega) hk
theorem pow_bits {x : Int} {b n : Nat} (h : x < 2 ^ b) (h0 : 0 ≤ x) (hn : b ≤ n) : x / 2 ^ n = 0 := by
  apply Int.ediv_eq_zero_of_lt h0
  have : (2 : Int) ^ b ≤ 2 ^ n := by
    have := Nat.pow_le_pow_right (n := 2) (by omega) hn
    exact_mod_cast this
  omega
theorem shr_i {k : IntKind} {x y : Int} {Q : Int → Prop} (h : 0 ≤ x ∧ x < 2 ^ k.bits) (hk : ∀ z, z = x / 2 ^ y.toNat → 0 ≤ z → z ≤ x → Q z) : ∃ z, z = shrV k x y ∧ Q z := by
  have e : shrV k x y = x / 2 ^ y.toNat := by
    unfold shrV
    rw [Int.fdiv_eq_ediv_of_nonneg _ (Int.pow_nonneg (by omega))]
    rcases Nat.le_total y.toNat k.bits with h1 | h1
    · rw [Nat.min_eq_left h1]
    · rw [Nat.min_eq_right h1, pow_bits h.2 h.1 (Nat.le_refl _), pow_bits h.2 h.1 h1]
  refine ⟨_, rfl, hk _ e ?_ ?_⟩
  · rw [e]; exact Int.ediv_nonneg h.1 (Int.pow_nonneg (by omega))
  · rw [e]; exact Int.ediv_le_self _ h.1
theorem shr_u8 {x y : Int} {Q : Int → Prop} (h : 0 ≤ x ∧ x ≤ 255) (hk : ∀ z, z = x / 2 ^ y.toNat → 0 ≤ z → z ≤ x → Q z) : ∃ z, z = shrV .u8 x y ∧ Q z := shr_i ⟨h.1, by show x < 256; omega⟩ hk
theorem shr_i64 {x y : Int} {Q : Int → Prop} (h : 0 ≤ x ∧ x ≤ 9223372036854775807) (hk : ∀ z, z = x / 2 ^ y.toNat → 0 ≤ z → z ≤ x → Q z) : ∃ z, z = shrV .i64 x y ∧ Q z := shr_i ⟨h.1, by show x < 18446744073709551616; omega⟩ hk
theorem byteAt_range (s : ByteArray) (i : Nat) : 0 ≤ byteAt s i ∧ byteAt s i ≤ 255 := by
  unfold byteAt
  have := (s.data.getD i 0).toNat_lt
  omega
end Go.Vc
namespace Go.Vc
open Go
def u32v (x : BitVec 32) : Value := .int .u32 ((x.toNat : Nat) : Int)
theorem wrap32 (x : Int) : IntKind.u32.wrap x = x % 4294967296 := by simp [IntKind.wrap, IntKind.signed, IntKind.bits]
theorem ofInt_toNat {w : Nat} (x : BitVec w) : BitVec.ofInt w (x.toNat : Int) = x := by simp
theorem wrapb32 (x : BitVec 32) : IntKind.u32.wrap (x.toNat : Int) = (x.toNat : Int) := by rw [wrap32]; have := x.isLt; omega
section w32
variable {x y : BitVec 32} {n : Int} {Q : Int → Prop}
theorem and32 (hk : Q (((x &&& y).toNat : Nat) : Int)) : ∃ z, z = IntKind.u32.wrap ((BitVec.ofInt (IntKind.bits .u32) (x.toNat : Int) &&& BitVec.ofInt (IntKind.bits .u32) (y.toNat : Int)).toNat : Int) ∧ Q z :=
  ⟨_, rfl, by show Q (IntKind.u32.wrap ((BitVec.ofInt 32 (x.toNat : Int) &&& BitVec.ofInt 32 (y.toNat : Int)).toNat : Int)); rw [ofInt_toNat, ofInt_toNat, wrapb32]; exact hk⟩
theorem xor32 (hk : Q (((x ^^^ y).toNat : Nat) : Int)) : ∃ z, z = IntKind.u32.wrap ((BitVec.ofInt (IntKind.bits .u32) (x.toNat : Int) ^^^ BitVec.ofInt (IntKind.bits .u32) (y.toNat : Int)).toNat : Int) ∧ Q z :=
  ⟨_, rfl, by show Q (IntKind.u32.wrap ((BitVec.ofInt 32 (x.toNat : Int) ^^^ BitVec.ofInt 32 (y.toNat : Int)).toNat : Int)); rw [ofInt_toNat, ofInt_toNat, wrapb32]; exact hk⟩
theorem not32 (hk : Q (((~~~x).toNat : Nat) : Int)) : ∃ z, z = IntKind.u32.wrap ((BitVec.ofInt (IntKind.bits .u32) (if IntKind.u32.signed then -1 else IntKind.u32.max) ^^^ BitVec.ofInt (IntKind.bits .u32) (x.toNat : Int)).toNat : Int) ∧ Q z := by
  refine ⟨_, rfl, ?_⟩
  show Q (IntKind.u32.wrap ((BitVec.ofInt 32 4294967295 ^^^ BitVec.ofInt 32 (x.toNat : Int)).toNat : Int))
  have e : BitVec.ofInt 32 4294967295 ^^^ x = ~~~x := by
    rw [show BitVec.ofInt 32 4294967295 = BitVec.allOnes 32 from by decide]
    apply BitVec.eq_of_getLsbD_eq
    intro i hi
    simp only [BitVec.getLsbD_xor, BitVec.getLsbD_allOnes, hi, decide_true, Bool.true_xor, BitVec.getLsbD_not, Bool.true_and]
  rw [ofInt_toNat, e, wrapb32]; exact hk
theorem shr32 (hk : Q (((x >>> n.toNat).toNat : Nat) : Int)) : ∃ z, z = shrV .u32 (x.toNat : Int) n ∧ Q z := by
  refine shr_i ⟨by omega, by have := x.isLt; show (x.toNat : Int) < 4294967296; omega⟩ (fun z hz _ _ => ?_)
  have : z = (((x >>> n.toNat).toNat : Nat) : Int) := by
    rw [hz, BitVec.toNat_ushiftRight, Nat.shiftRight_eq_div_pow]; simp
  rw [this]; exact hk
theorem c32_8 (hk : Q (((UInt8.ofNat x.toNat).toNat : Nat) : Int)) : ∃ z, z = IntKind.u8.wrap ((x.toNat : Nat) : Int) ∧ Q z := by
  refine ⟨_, rfl, ?_⟩
  have e : ((UInt8.ofNat x.toNat).toNat : Int) = (x.toNat : Int) % 256 := by simp
  rw [wu8, ← e]; exact hk
end w32
section w64
variable {x y : BitVec 64} {n : Int} {Q : Int → Prop}
end w64
end Go.Vc
namespace Go.Vc
open Go
set_option maxRecDepth 10000
set_option linter.unusedVariables false
set_option linter.unusedSimpArgs false
variable {P : Program}
theorem sl_loadW {h : Heap} {a : Option Addr} {n W : Nat} {L : List Value} (s : Sl h a (n * W) id L) {t : Nat} {K : Array Value → Heap → Nat → Prop} {c : Nat} (hk : K L.toArray h t) :
    gen P (Builtin.firstCells W n (.slice a n c)) K h t := by
  have h1 : gen P (Builtin.firstCells 1 (n * W) (.slice a (n * W) (c * W))) K h t := sl_load s (by rw [List.map_id]; exact hk)
  cases a with
  | none => simpa only [Builtin.firstCells] using h1
  | some p => simpa only [Builtin.firstCells, Nat.mul_one] using h1
theorem app_bodyW {E : TypeId} {inf : TypeInfo} {z : Value} {W : Nat} (hW : 0 < W)
    (hi : P.info? E = some inf) (hz : inf.zero = some z) (hzc : z.cells.size = W) {h : Heap} {t : Nat} {a : Option Addr} {n c : Nat} {l l2 : List Value} {x : Value} {m : Nat}
    (ho : Own h E a (n * W) (c * W) id l) (hxl : l2.length = m * W) (hfc : ∀ (t : Nat) (K : Array Value → Heap → Nat → Prop), K l2.toArray h t → gen P (Builtin.firstCells W m x) K h t) (hf : ∀ y ∈ l2, oneC y = true) (hb : (n + m) * inf.bytes ≤ 2 ^ 40) (hb2 : n + m ≤ 2 ^ 40) (hb3 : inf.bytes ≤ 1000) (hdm : Dom h t) {K : Value → Heap → Nat → Prop}
    (hK : ∀ a' c' h' t', Own h' E a' ((n + m) * W) (c' * W) id (l ++ l2) → t ≤ t' → Dom h' t' → (∀ k, k < t → owner a ≠ some k → h' k = h k) → (owner a' = owner a ∨ ∃ r, owner a' = some r ∧ t ≤ r) → K (.slice a' (n + m) c') h' t') :
    gen P (if n + m ≤ c then do
        let new ← Builtin.firstCells W m x
        if let some a := a then storeCells (a.add (n * W)) new.toList
        pure (.slice a (n + m) c)
      else do
        if ((n + m : Nat) : Int) > IntKind.i64.max ∧ (False ∨ (← typeInfo E).bytes = 0) then runtimePanic (.error "growslice: len out of range")
        if Builtin.nextslicecap (n + m) c * (← typeInfo E).bytes > 2 ^ 48 then (do
          if !(← Builtin.mayShare W n m a x) then mark .noRoom
          unsupported (.resourceLimit "append: a slice or a string whose bytes no memory bears"))
        let newCap ← choose (.appendCap (n + m) c E)
        askRoom (newCap * (← typeInfo E).bytes)
        let old ← Builtin.firstCells W n (.slice a n c)
        let new ← Builtin.firstCells W m x
        let rest := Builtin.zeroCells (← zeroValue E).cells (newCap - (n + m))
        pure (.slice (some (← newRow E (old ++ new ++ rest))) (n + m) newCap)) K h t := by
  have hcap : n ≤ c := Nat.le_of_mul_le_mul_right ho.cap hW
  by_cases hle : n + m ≤ c
  · refine gen_pos hle ?_
    have hleW : n * W + m * W ≤ c * W := by rw [← Nat.add_mul]; exact Nat.mul_le_mul_right W hle
    rw [gen_b]
    refine hfc _ _ ?_
    rcases ho with ⟨hl, ⟨rfl, h1, h2⟩ | ⟨b, off, cs, fr, rfl, hn, hbk, hsz, hfz, hc⟩⟩
    · have hm0 : m * W = 0 := by omega
      have hl2 : l2 = [] := List.length_eq_zero_iff.1 (by rw [hxl]; exact hm0)
      simp only [gen_p]
      refine hK none c h t ⟨by rw [Nat.add_mul]; simp [hl, hl2, hm0], .inl ⟨rfl, by rw [Nat.add_mul]; omega, h2⟩⟩ (Nat.le_refl _) hdm (fun _ _ _ => rfl) (.inl rfl)
    · simp only [gen_b, gen_p, addr_add]
      generalize hN : n * W = N at *
      generalize hM : m * W = M at *
      generalize hC : c * W = C at *
      refine storeCells_gen (off + N) l2 0 cs h hbk (by omega) ?_ ?_ ?_
      · intro j hj
        have := hfz (N + j) (by omega)
        rw [show off + N + 0 + j = off + (N + j) from by omega]; exact this
      · intro u hu
        exact hf u hu
      · refine hK _ c _ t ⟨by rw [Nat.add_mul, hN, hM]; simp [hl, hxl], .inr ⟨b, off, _, fr, rfl, by rw [Nat.add_mul, hN, hM, hC]; exact hleW, hset_same _ _ _, by rw [hC]; simp [setR_length]; exact hsz, by rw [hC]; exact hfz, ?_⟩⟩ (Nat.le_refl _) ?_ ?_ (.inl rfl)
        · intro i hi
          have hi2 : i < N + M := by simp [hl, hxl] at hi; exact hi
          rw [List.getElem?_toArray, setR_get _ _ _ _ (by simp; omega)]
          by_cases hin : i < N
          · rw [if_neg (by omega), Array.getElem?_toList, hc i (by omega)]
            rw [List.getElem_append_left (by omega)]
          · rw [if_pos (by omega)]
            rw [show off + i - (off + N + 0) = i - N from by omega]
            rw [List.getElem_append_right (by omega)]
            have h3 : i - N < l2.length := by rw [hxl]; omega
            rw [List.getElem?_eq_getElem h3]
            simp [hl]
        · exact hdm.set b _ t (Nat.le_refl _) (hdm b _ hbk)
        · intro k hk hne
          exact hset_ne _ _ (fun e => hne (by rw [e]; rfl))
  · refine gen_neg hle ?_
    simp only [gen_b, gen_typeInfo hi]
    refine gen_neg (by simp [IntKind.max, IntKind.signed, IntKind.bits]; omega) ?_
    simp only [gen_b, gen_typeInfo hi]
    have hcap2 : Builtin.nextslicecap (n + m) c * inf.bytes ≤ 2 ^ 48 := by
      have h1 := nextcap_le (need := n + m) (c := c) (by omega)
      have h2 : Builtin.nextslicecap (n + m) c * inf.bytes ≤ (2 * (n + m) + 200) * inf.bytes := Nat.mul_le_mul_right _ h1
      have h3 : (2 * (n + m) + 200) * inf.bytes = 2 * ((n + m) * inf.bytes) + 200 * inf.bytes := by rw [Nat.add_mul, Nat.mul_assoc]
      omega
    refine gen_neg (by omega) ?_
    simp only [gen_b, choose, gen]
    intro newCap hf1 hf2
    have hnc : n + m ≤ newCap := by
      obtain ⟨q, hq⟩ := hf2 rfl
      rw [hq]; exact appendCap_cut _ _ _ _
    have hask : ∀ (nb : Nat) (K' : Unit → Heap → Nat → Prop), K' () h t → gen P (askRoom nb) K' h t := by
      intro nb K' hk
      unfold askRoom
      split
      · simp only [mark, gen]; exact hk
      · exact hk
    simp only [gen_typeInfo hi]
    refine hask _ _ ?_
    refine sl_loadW ho.sl ?_
    refine hfc _ _ ?_
    rw [gen_zero hi hz]
    simp only [gen_b, newRow, newObj, gen, gen_p]
    intro r hr
    have hrest : (Builtin.zeroCells z.cells (newCap - (n + m))).size = (newCap - (n + m)) * W := by simp [Builtin.zeroCells, hzc]
    have hlW : (n + m) * W + (newCap - (n + m)) * W = newCap * W := by rw [← Nat.add_mul]; congr 1; omega
    have hl12 : (l ++ l2).length = (n + m) * W := by rw [List.length_append, ho.1, hxl, Nat.add_mul]
    refine hK _ newCap _ (r + 1) ⟨hl12, .inr ⟨r, 0, _, (0, 0), rfl, Nat.mul_le_mul_right W hnc, hset_same _ _ _, ?_, fun i _ => by simp [fz], ?_⟩⟩ (by omega) (hdm.set r _ _ (by omega) (by omega)) ?_ (.inr ⟨r, rfl, hr⟩)
    · simp only [Array.size_append, hrest, List.size_toArray]
      rw [List.length_append] at hl12
      omega
    · intro i hi2
      rw [Nat.zero_add, show l.toArray ++ l2.toArray = (l ++ l2).toArray from by simp, Array.getElem?_append_left (by simpa using hi2)]
      rw [List.getElem?_toArray, List.getElem?_eq_getElem hi2]
      rfl
    · intro k hk _
      exact hset_ne _ _ (by omega)
theorem app_vcW {T U E ty : TypeId} {inf : TypeInfo} {z : Value} {d : TypeDesc} {W : Nat} (hT : P.underlying T = some (.slice E)) (hU : P.underlying U = some d) (hd : notInt d = true)
    (hi : P.info? E = some inf) (hs : inf.size = W) (hW : 0 < W) (hz : inf.zero = some z) (hzc : z.cells.size = W) {h : Heap} {t : Nat} {a : Option Addr} {n c : Nat} {l l2 : List Value} {xa : Option Addr} {xc m : Nat}
    (ho : Own h E a (n * W) (c * W) id l) (hx : Sl h xa (m * W) id l2) (hf : l2.all oneC = true) (hb : (n + m) * inf.bytes ≤ 2 ^ 40) (hb2 : n + m ≤ 2 ^ 40) (hb3 : inf.bytes ≤ 1000) (hdm : Dom h t) {K : Value → Heap → Nat → Prop}
    (hK : ∀ a' c' h' t', Own h' E a' ((n + m) * W) (c' * W) id (l ++ l2) → t ≤ t' → Dom h' t' → (∀ k, k < t → owner a ≠ some k → h' k = h k) → (owner a' = owner a ∨ ∃ r, owner a' = some r ∧ t ≤ r) → K (.slice a' (n + m) c') h' t') :
    AppVC P #[T, U] ty (.slice a n c) (.slice xa m xc) K h t := by
  subst hs
  refine ⟨?_⟩
  unfold Builtin.append_
  simp only [List.getElem?_toArray, List.getElem?_cons_zero, List.getElem?_cons_succ, gen_b, gen_underlying hT, gen_sizeOf hi, gen_underlying hU, gen_p]
  cases d
  case int => cases hd
  all_goals
    simp only [Bool.false_eq_true, if_false, Builtin.lenOf, gen_p, gen_b, Bool.not_false, if_true]
    exact app_bodyW hW hi hz hzc ho hx.1 (fun _ _ hk => sl_loadW hx hk) (fun y hy => List.all_eq_true.1 hf y hy) hb hb2 hb3 hdm hK
def two {α : Type} (f g : α → Value) (x : α) : List Value := [f x, g x]
theorem vl_sl {h : Heap} {b n : Nat} {L : List Value} {T : TypeId} {fr : Nat × Nat} (hb : h b = some (.cells L.toArray T fr)) (hn : L.length = n) : Sl h (some ⟨b, 0, none⟩) n id L :=
  ⟨hn, fun _ => ⟨b, 0, _, T, fr, rfl, hb, fun i hi => by simp [hi]⟩⟩
theorem Own.at {α : Type} {h : Heap} {E : TypeId} {a : Option Addr} {n c : Nat} {f : α → Value} {l : List α} (o : Own h E a n c f l) (hn : 0 < n) : ∃ b off, a = some ⟨b, off, none⟩ := by
  rcases o.2 with ⟨_, h1, _⟩ | ⟨b, off, _, _, ha, _⟩
  · omega
  · exact ⟨b, off, ha⟩
theorem Own.cell {α : Type} {h : Heap} {E : TypeId} {b off : Nat} {n c j : Nat} {f : α → Value} {l : List α} {x : α} (o : Own h E (some ⟨b, off, none⟩) n c f l) (hx : l[j]? = some x) : Cell h ⟨b, off + j * 1, none⟩ (f x) := by
  rcases o with ⟨hl, ⟨h1, _⟩ | ⟨b', off', cs, fr, ha, hn, hb, hsz, hfz, hc⟩⟩
  · cases h1
  · cases ha
    obtain ⟨hj, rfl⟩ := List.getElem?_eq_some_iff.1 hx
    exact ⟨cs, E, fr, hb, rfl, by show cs[off + j * 1]? = _; rw [Nat.mul_one]; exact hc j hj⟩
theorem Own.put {α : Type} {h : Heap} {E : TypeId} {b off : Nat} {n c j : Nat} {f : α → Value} {l : List α} (o : Own h E (some ⟨b, off, none⟩) n c f l) (hj : j < n) (x : α) :
    ∃ cs fr, h b = some (.cells cs E fr) ∧ off + j * 1 < cs.size ∧ fz fr (off + j * 1) = false ∧ Own (hset h b (.cells (cs.setIfInBounds (off + j * 1) (f x)) E fr)) E (some ⟨b, off, none⟩) n c f (l.set j x) := by
  rcases o with ⟨hl, ⟨h1, _⟩ | ⟨b', off', cs, fr, ha, hn, hb, hsz, hfz, hc⟩⟩
  · cases h1
  · cases ha
    refine ⟨cs, fr, hb, by omega, by rw [Nat.mul_one]; exact hfz j (by omega), by rw [List.length_set]; exact hl, .inr ⟨b, off, _, fr, rfl, hn, hset_same _ _ _, by simp; exact hsz, hfz, ?_⟩⟩
    intro i hi
    rw [List.length_set] at hi
    rw [Nat.mul_one, Array.getElem?_setIfInBounds]
    by_cases e : j = i
    · subst e
      rw [if_pos rfl, if_pos (by omega), List.getElem_set_self]
    · rw [if_neg (by omega), List.getElem_set_ne e]
      exact hc i hi
theorem shr_u64 {x y : Int} {Q : Int → Prop} (h : 0 ≤ x ∧ x ≤ 18446744073709551615) (hk : ∀ z, z = x / 2 ^ y.toNat → 0 ≤ z → z ≤ x → Q z) : ∃ z, z = shrV .u64 x y ∧ Q z := shr_i ⟨h.1, by show x < 18446744073709551616; omega⟩ hk
theorem one_shl {y : Int} {Q : Int → Prop} (h : 0 ≤ y ∧ y ≤ 61) (hk : ∀ z : Nat, z = 2 ^ y.toNat → 1 ≤ z → z ≤ 2305843009213693952 → Q (z : Int)) : ∃ z, z = shlV .i64 1 y ∧ Q z := by
  have h1 : 2 ^ y.toNat ≤ 2 ^ 61 := Nat.pow_le_pow_right (by decide) (by omega)
  have h2 : 1 ≤ 2 ^ y.toNat := Nat.pow_pos (by decide)
  have h3 : (2 : Nat) ^ 61 = 2305843009213693952 := by decide
  refine ⟨((2 ^ y.toNat : Nat) : Int), ?_, hk _ rfl h2 (by omega)⟩
  unfold shlV
  rw [show min y.toNat IntKind.i64.bits = y.toNat from Nat.min_eq_left (by show y.toNat ≤ 64; omega), Int.one_mul]
  have e : (2 : Int) ^ y.toNat = ((2 ^ y.toNat : Nat) : Int) := by rw [Int.natCast_pow]; rfl
  rw [e, wi (by omega) (by omega)]
end Go.Vc
