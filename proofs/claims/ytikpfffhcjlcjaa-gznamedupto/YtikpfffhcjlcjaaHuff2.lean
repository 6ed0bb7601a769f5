import Derived.Test.YtikpfffhcjlcjaaHuff1
set_option linter.unusedSimpArgs false
namespace Go.Proofs.Ytikpfffhcjlcjaa
open Go Go.Vc Go.Huf
set_option maxRecDepth 10000
set_option linter.unusedVariables false
def kv (p : Int × Int) : Value := .agg #[.int .i64 p.1, .int .i64 p.2]
theorem int_eq (x y : Int) (K : Bool → Prop) (h : Heap) (hk : K (x == y)) : genR Try.prog (Op.equalIn 9999 3 (.int .i64 x) (.int .i64 y)) K h := by
  show genR Try.prog (Op.equalIn (9998 + 1) _ _ _) K h
  unfold Op.equalIn
  rw [genR_b, genR_underlying Try.underlying3]
  simpa [genR_p] using hk
theorem int_part {cs : Array Value} {off : Nat} {v : Value} (hv : cs[off]? = some v) (K : Value → Prop) (h : Heap) (hk : K v) : genR Try.prog (part 3 cs off) K h := by
  unfold part
  rw [genR_b]
  refine genR_mono (isAgg 3) (R := fun b => b = false) ?_ ?_
  · unfold isAgg; rw [genR_b, genR_underlying Try.underlying3]; rfl
  · rintro _ rfl
    simp only [Bool.false_eq_true, if_false, hv, genR_p]; exact hk
theorem int_check (b : Bool) (x : Int) (K : Unit → Prop) (h : Heap) (hk : K ()) : genR Try.prog (Instr.checkKey b 9999 3 (.int .i64 x)) K h := by
  show genR Try.prog (Instr.checkKey b (9998 + 1) _ _) K h
  unfold Instr.checkKey
  rw [genR_b, genR_underlying Try.underlying3]
  exact hk
theorem key_eq (a b : Int × Int) (K : Bool → Prop) (h : Heap) (hk : K (decide (a = b))) : genR Try.prog (Op.equal 156 (kv a) (kv b)) K h := by
  unfold Op.equal Op.maxDepth
  show genR Try.prog (Op.equalIn (9999 + 1) _ _ _) K h
  unfold Op.equalIn
  rw [genR_b, genR_underlying Try.underlying156]
  simp only [kv]
  simp only [program, genR_b, genR]
  rw [if_neg (by rw [show Try.prog.stoodInHeld 156 = false from by kernel_rfl]; simp)]
  simp only [genR_b, List.forIn_toArray, List.forIn_cons, List.forIn_nil]
  rw [if_pos (by decide)]
  simp only [genR_b]
  refine int_part rfl _ _ ?_
  refine int_part rfl _ _ ?_
  refine int_eq _ _ _ _ ?_
  by_cases h1 : a.1 = b.1
  · rw [if_neg (by simp [h1])]
    simp only [genR_p]
    rw [if_pos (by decide)]
    simp only [genR_b]
    refine int_part rfl _ _ ?_
    refine int_part rfl _ _ ?_
    refine int_eq _ _ _ _ ?_
    by_cases h2 : a.2 = b.2
    · rw [if_neg (by simp [h2])]
      have : a = b := Prod.ext h1 h2
      simp only [genR_p]; rw [decide_eq_true this] at hk; exact hk
    · rw [if_pos (by simp [h2])]
      have : a ≠ b := fun e => h2 (by rw [e])
      simp only [genR_p]; rw [decide_eq_false this] at hk; exact hk
  · rw [if_pos (by simp [h1])]
    have : a ≠ b := fun e => h1 (by rw [e])
    simp only [genR_p]; rw [decide_eq_false this] at hk; exact hk
theorem keyOk : KeyOk Try.prog 156 kv where
  find f k es l h he := by
    simp only [Instr.findKey, genR_b, genR_underlying Try.underlying156]
    cases es with
    | nil =>
      cases l with
      | nil => rfl
      | cons p l => simp at he
    | cons e es =>
      have : Instr.findNow (.struct #[{ name := "size", type := 3, offset := 0, embedded := false, tag := "", pkgPath := "engrosser/huff", byteOffset := 0 }, { name := "code", type := 3, offset := 1, embedded := false, tag := "", pkgPath := "engrosser/huff", byteOffset := 8 }]) (kv k) (e :: es) 0 = none := rfl
      rw [this]
      refine findAsking_g key_eq f k (e :: es) l 0 he ?_
      simp [gAt]
  check b k h := by
    show genR Try.prog (Instr.checkKey b (9999 + 1) 156 (kv k)) _ h
    unfold Instr.checkKey
    rw [genR_b, genR_underlying Try.underlying156]
    simp only [kv, genR_b, List.forIn_toArray, List.forIn_cons, List.forIn_nil]
    rw [if_pos (by decide)]
    simp only [genR_b]
    refine int_part rfl _ _ ?_
    refine int_check _ _ _ _ ?_
    simp only [genR_p]
    rw [if_pos (by decide)]
    simp only [genR_b]
    refine int_part rfl _ _ ?_
    refine int_check _ _ _ _ ?_
    trivial
  same k := by
    show ((2 == 2) && _) = true
    simp [Instr.sameBits]
theorem app_int {h : Heap} {t : Nat} {a xa : Option Addr} {n c m xc : Nat} {l l2 : List Int} {ty : TypeId} (ho : Own h 3 a n c (Value.int .i64) l) (hx : Sl h xa m (Value.int .i64) l2) (hb : n + m ≤ 1073741824) (hd : Dom h t) {K : Value → Heap → Nat → Prop}
    (hK : ∀ a' c' h' t', Own h' 3 a' (n + m) c' (Value.int .i64) (l ++ l2) → t ≤ t' → Dom h' t' → (∀ k, k < t → owner a ≠ some k → h' k = h k) → (owner a' = owner a ∨ ∃ r, owner a' = some r ∧ t ≤ r) → K (.slice a' (n + m) c') h' t') :
    AppVC Try.prog #[31, 31] ty (.slice a n c) (.slice xa m xc) K h t :=
  app_vc (f := Value.int .i64) Try.underlying31 Try.underlying31 rfl (inf := Try.types[3]) (z := .int .i64 0) (by kernel_rfl) (by kernel_rfl) (by kernel_rfl) rfl ho ⟨_, _, rfl, hx⟩ (fun _ => rfl) (by show (n + m) * 8 ≤ _; omega) (by omega) (by show 8 ≤ 1000; omega) hd hK
def ent (l : List Int) (js : List Nat) : List ((Int × Int) × Int) := js.filterMap fun j => if 0 < l.getD j 0 then some ((l.getD j 0, codeAt l j), (j : Int)) else none
def look (l : List Int) (js : List Nat) (size code : Int) : Option Nat := js.find? fun j => decide (l.getD j 0 = size ∧ codeAt l j = code)
theorem gGet_ent (l : List Int) {size code : Int} (hs : 0 < size) (js : List Nat) : gGet (ent l js) (size, code) = (look l js size code).map (fun j => (j : Int)) := by
  induction js with
  | nil => rfl
  | cons j js ih =>
    unfold ent look at *
    rw [List.filterMap_cons, List.find?_cons]
    by_cases h0 : 0 < l.getD j 0
    · rw [if_pos h0]
      simp only [gGet, List.find?_cons]
      by_cases h1 : l.getD j 0 = size ∧ codeAt l j = code
      · rw [decide_eq_true h1, decide_eq_true (by rw [h1.1, h1.2])]; rfl
      · rw [decide_eq_false h1, decide_eq_false (by intro e; simp only [Prod.mk.injEq] at e; exact h1 e)]
        exact ih
    · rw [if_neg h0, decide_eq_false (by intro h1; omega)]
      exact ih
theorem cnt_mono (l : List Int) (s : Nat) {i j : Nat} (h : i ≤ j) : cnt (l.take i) s ≤ cnt (l.take j) s := by
  unfold cnt
  have : (l.take i).countP (fun k : Int => decide (k = (s : Int))) ≤ (l.take j).countP (fun k : Int => decide (k = (s : Int))) :=
    List.Sublist.countP_le (List.IsPrefix.sublist (List.take_prefix_take_left h))
  omega
theorem look_none (l : List Int) {i : Nat} (hi : i < l.length) (h0 : 0 < l.getD i 0) : look l (List.range i) (l.getD i 0) (codeAt l i) = none := by
  unfold look
  rw [List.find?_eq_none]
  intro j hj
  have hj := List.mem_range.1 hj
  simp only [decide_eq_true_eq]
  rintro ⟨h1, h2⟩
  have hx : l[j]? = some (l.getD j 0) := by simp [List.getD_eq_getElem?_getD, show j < l.length by omega]
  have hc := cnt_take hx (l.getD i 0).toNat
  rw [if_pos (by rw [h1]; omega)] at hc
  have hm := cnt_mono l (l.getD i 0).toNat (show j + 1 ≤ i by omega)
  simp only [codeAt] at h2
  rw [if_pos (by omega), if_pos h0, h1] at h2
  omega
theorem ent_succ (l : List Int) (i : Nat) : ent l (List.range (i + 1)) = ent l (List.range i) ++ if 0 < l.getD i 0 then [((l.getD i 0, codeAt l i), (i : Int))] else [] := by
  unfold ent
  rw [List.range_succ, List.filterMap_append]
  congr 1
  rw [List.filterMap_cons]
  split
  · rename_i h
    split at h
    · cases h
    · rename_i h2; rw [if_neg h2]; rfl
  · rename_i h
    split at h
    · rename_i h2; rw [if_pos h2]; cases h; rfl
    · cases h
theorem ent_put (l : List Int) {i : Nat} (hi : i < l.length) (h0 : 0 < l.getD i 0) : gPut (ent l (List.range i)) (l.getD i 0, codeAt l i) (i : Int) = ent l (List.range (i + 1)) := by
  rw [gPut_new (by rw [gGet_ent l h0, look_none l hi h0]; rfl), ent_succ, if_pos h0]
theorem ent_length (l : List Int) (i : Nat) (hi : i ≤ l.length) : (ent l (List.range i)).length = (l.take i).countP (fun k => decide (0 < k)) := by
  induction i with
  | zero => simp [ent]
  | succ i ih =>
    have hx : l[i]? = some (l.getD i 0) := by simp [List.getD_eq_getElem?_getD, show i < l.length by omega]
    rw [ent_succ, List.length_append, ih (by omega), List.take_add_one, hx, List.countP_append]
    congr 1
    generalize l.getD i 0 = y
    by_cases h0 : 0 < y
    · rw [if_pos h0]; simp [h0]
    · rw [if_neg h0]; simp; omega
theorem one_sum (l : List Int) : l.all good = true → 0 ≤ l.sum ∧ (l.countP (fun k => decide (0 < k)) = 0 ↔ l.sum = 0) ∧ (l.sum = 0 → wsum l = 0) ∧ (l.countP (fun k => decide (0 < k)) = 1 ∧ wsum l = 16384 ↔ l.sum = 1) := by
  induction l with
  | nil => intro _; simp [wsum]
  | cons x l ih =>
    intro h
    simp only [List.all_cons, Bool.and_eq_true] at h
    obtain ⟨i0, i1, i2, i3⟩ := ih h.2
    have hx := good_iff.1 h.1
    have hw : wsum (x :: l) = w x + wsum l := by simp [wsum]
    rw [List.sum_cons, hw, List.countP_cons]
    by_cases h0 : 0 < x
    · simp only [h0, decide_true, if_true]
      have hxs : x = 1 ∨ x = 2 ∨ x = 3 ∨ x = 4 ∨ x = 5 ∨ x = 6 ∨ x = 7 ∨ x = 8 ∨ x = 9 ∨ x = 10 ∨ x = 11 ∨ x = 12 ∨ x = 13 ∨ x = 14 ∨ x = 15 := by omega
      have hwx : w x = 16384 ↔ x = 1 := by
        rcases hxs with rfl|rfl|rfl|rfl|rfl|rfl|rfl|rfl|rfl|rfl|rfl|rfl|rfl|rfl|rfl <;> decide
      refine ⟨by omega, by omega, by omega, ?_⟩
      constructor
      · rintro ⟨h1, h2⟩
        have : l.sum = 0 := i1.1 (by omega)
        have := i2 this
        omega
      · intro h1
        have h2 : l.sum = 0 := by omega
        have h3 := i1.2 h2
        have h4 := i2 h2
        have h5 := hwx.2 (by omega)
        exact ⟨by omega, by omega⟩
    · have hx0 : x = 0 := by omega
      subst hx0
      simp only [show ¬ (0 : Int) < 0 by omega, decide_false, Bool.false_eq_true, if_false, Nat.add_zero]
      have : w 0 = 0 := rfl
      rw [this, Int.zero_add, Int.zero_add]
      exact ⟨i0, i1, i2, i3⟩
def Cod (h : Heap) (b : Nat) (l : List Int) : Prop := ∃ m o T, h b = some (.cells #[.map (some m)] T (0, 0)) ∧ h m = some o ∧ MapG o kv (Value.int .i64) (ent l (List.range l.length)) ∧ l.all good = true
theorem Cod.sub {h h' : Heap} {b : Nat} {l : List Int} (c : Cod h b l) (hs : Sub h h') : Cod h' b l := by
  obtain ⟨m, o, T, h1, h2, h3⟩ := c
  exact ⟨m, o, T, hs _ _ h1, hs _ _ h2, h3⟩
theorem new_spec {h : Heap} {t : Nat} {a : Option Addr} {n c : Nat} {l : List Int} (s : Sl h a n (Value.int .i64) l) (hn : n ≤ 1048576) :
    CallSpec Try.prog 86 #[.slice a n c] h t (fun v h' t' => Sub h h' ∧ ((errN l ≠ 0 ∧ v = .tuple #[.pointer none, .int .i64 (errN l)]) ∨ (errN l = 0 ∧ ∃ b, t ≤ b ∧ v = .tuple #[.pointer (some ⟨b, 0, none⟩), .int .i64 0] ∧ Cod h' b l))) := by
  have hl := s.1
  refine Go.Vc.spec_of_vc (fn := Try.f86) Try.func86 rfl (by kernel_rfl) (by kernel_rfl) (Nat.le_of_ble_eq_true rfl) ?_
  intro hd
  conv => whnf
  refine (codes_spec s hn).mono ?_
  rintro _ h1 t1 hd1 ht1 ⟨ac, nc, rfl, hs1, ho1, hf1⟩
  conv => whnf
  refine br (fun hb => ?_) (fun hb => ?_)
  · conv => whnf
    have e : errN l = err l := by unfold errN; rw [if_pos hb]
    exact ⟨hs1, .inl ⟨by rw [e]; exact hb, by rw [e]⟩⟩
  · have he : err l = 0 := by simpa using hb
    rw [if_pos he] at ho1
    have hlc := ho1.1
    rw [codes_length] at hlc
    have hg : l.all good = true := by
      unfold err at he
      split at he
      · cases he
      · split at he
        · cases he
        · rename_i h; simpa using h
    have s1 := s.sub hs1
    have sc1 := ho1.sl
    have hcg : ∀ i, i < n → (codes l)[i]? = some (codeAt l i) := fun i hi => codes_get (by omega)
    conv => whnf
    repeat (first | (intro _ _; conv => whnf))
    rename_i r1 hr1 r2 hr2
    have hs2 := (hd1.sub_new hr1 (.map #[] 0)).trans ((hd1.set r1 (.map #[] 0) (r1 + 1) (by omega) (by omega)).sub_new hr2 (.cells #[.map (some r1)] 154))
    refine loop_intro (fun (i : Nat) => [(0, .slice a n c), (4, .slice ac nc nc), (6, .pointer (some ⟨r2, 0, none⟩)), (23, .slice a n c), (24, .int .i64 (n : Nat)), (25, .int .i64 (i : Nat))])
      (fun i h' t' => r2 < t' ∧ i ≤ n ∧ Sub h1 h' ∧ h' r2 = some (.cells #[.map (some r1)] 154 (0, 0)) ∧ ∃ o, h' r1 = some o ∧ MapG o kv (Value.int .i64) (ent l (List.range i)))
      (fun i => n - i) 0 ⟨rfl, rfl, rfl, rfl, rfl, rfl, trivial⟩ ⟨by omega, by omega, hs2, hset_same _ _ _, _, by rw [hset_ne _ _ (by omega)]; exact hset_same _ _ _, mapg_new _ _⟩ ?_
    rintro i g h3 t3 hd3 ⟨ht3, hi, hs3, hh1, o, hh2, hm⟩
    have s3 := s1.sub hs3
    conv => whnf
    refine br (fun hb1 => ?_) (fun hb1 => ?_)
    · have hlt : i < n := by omega
      conv => whnf
      repeat (first | ((with_reducible apply Go.Vc.sl_ix); (focus with_reducible assumption); (focus exact And.intro (by omega) (by omega)); intro xI bI offI hxI hcI; conv => whnf) | ((with_reducible apply Go.Vc.cell_i); (focus assumption); conv => whnf))
      obtain ⟨x, rfl⟩ : ∃ x, x = xI := ⟨xI, rfl⟩
      have hx : l[i]? = some x := hxI
      clear hxI
      have hxg : l.getD i 0 = x := by simp [List.getD_eq_getElem?_getD, hx]
      refine br (fun hb2 => ?_) (fun hb2 => ?_)
      · conv => whnf
        have sc3 := sc1.sub hs3
        refine Go.Vc.draw_intro [⟨0, false, false, false, 0⟩, ⟨1, false, false, false, 1⟩, ⟨2, false, false, false, 3⟩, ⟨3, false, false, false, 7⟩, ⟨4, false, false, false, 0⟩, ⟨5, false, false, false, 0⟩, ⟨6, false, false, false, 0⟩, ⟨7, false, false, false, 96⟩, ⟨8, false, false, false, 224⟩, ⟨9, false, false, false, 496⟩, ⟨10, false, false, false, 0⟩, ⟨11, true, false, false, 2047⟩] (hs := h3) (hsub := (Sub.refl h3)) (hm := by kernel_rfl) (hpl := by kernel_rfl) ?_
        conv => whnf
        conv => whnf
        repeat (first | ((with_reducible apply Go.Vc.sl_ix); (focus with_reducible assumption); (focus exact And.intro (by omega) (by omega)); intro xI bI offI hxI hcI; conv => whnf) | ((with_reducible apply Go.Vc.ld_i); (focus ((repeat (first | with_reducible assumption | with_reducible exact Go.Vc.hset_same _ _ _ | with_reducible refine (Go.Vc.hset_ne _ _ (by omega)).trans ?_)); done)); (focus exact rfl); conv => whnf) | ((with_reducible apply Go.Vc.cell_i); (focus assumption); conv => whnf))
        have hci : xI = codeAt l i := by
          have : (codes l)[i]? = some xI := hxI
          rw [hcg i hlt] at this
          exact (Option.some.inj this).symm
        subst hci
        refine mapup_g (k := (x, codeAt l i)) (v := (i : Int)) (f := Value.int .i64) Try.underlying152 keyOk hh2 hm ?_
        intro o' hm'
        rw [← hxg, ent_put l (by omega) (by omega)] at hm'
        conv => whnf
        repeat (first | ((with_reducible apply Go.Vc.wr_i64); (focus exact And.intro (by omega) (by omega)); conv => whnf))
        refine round_end (i + 1) (by omega) ⟨rfl, rfl, rfl, rfl, rfl, rfl, trivial⟩ ⟨by omega, by omega, ?_, by rw [hset_ne _ _ (by omega)]; exact hh1, o', hset_same _ _ _, hm'⟩
        intro k o ho
        have := hd1 k o ho
        rw [hset_ne _ _ (by omega)]; exact hs3 k o ho
      · conv => whnf
        repeat (first | ((with_reducible apply Go.Vc.wr_i64); (focus exact And.intro (by omega) (by omega)); conv => whnf))
        refine round_end (i + 1) (by omega) ⟨rfl, rfl, rfl, rfl, rfl, rfl, trivial⟩ ⟨by omega, by omega, hs3, hh1, o, hh2, ?_⟩
        rw [ent_succ, if_neg (by omega), List.append_nil]; exact hm
    · have hin : i = n := by omega
      subst hin
      conv => whnf
      refine (room_spec s3 hn).mono ?_
      rintro _ _ _ _ _ ⟨rfl, rfl, rfl⟩
      rw [he, if_pos rfl]
      obtain ⟨es, cl, rfl, hes⟩ := mapg_len hm
      rw [ent_length l i (by omega), List.take_of_length_le (by omega)] at hes
      obtain ⟨_, _, _, hone⟩ := one_sum l hg
      have hcod : Cod h3 r2 l := ⟨r1, _, _, hh1, hh2, by rw [hl]; exact hm, hg⟩
      have hsub : Sub h h3 := hs1.trans hs3
      have hen : errN l = if wsum l ≠ 0 ∧ wsum l ≠ 32768 ∧ l.sum ≠ 1 then 2 else 0 := by
        unfold errN; rw [if_neg (by simp [he])]
      conv => whnf
      repeat (first | ((with_reducible apply Go.Vc.ld_i); (focus ((repeat (first | with_reducible assumption | with_reducible exact Go.Vc.hset_same _ _ _ | with_reducible refine (Go.Vc.hset_ne _ _ (by omega)).trans ?_)); done)); (focus exact rfl); conv => whnf))
      refine ⟨_, hh2, rfl, ?_⟩
      conv => whnf
      rw [hes]
      have fin : ∀ one : Bool, (one = true ↔ l.sum = 1) → ∀ v h', (wsum l ≠ 0 ∧ wsum l ≠ 32768 ∧ one = false ∧ v = Value.tuple #[.pointer none, .int .i64 2] ∨ ¬ (wsum l ≠ 0 ∧ wsum l ≠ 32768 ∧ one = false) ∧ v = Value.tuple #[.pointer (some ⟨r2, 0, none⟩), .int .i64 0]) → h' = h3 →
          Sub h h' ∧ ((errN l ≠ 0 ∧ v = .tuple #[.pointer none, .int .i64 (errN l)]) ∨ (errN l = 0 ∧ ∃ b, t ≤ b ∧ v = .tuple #[.pointer (some ⟨b, 0, none⟩), .int .i64 0] ∧ Cod h' b l)) := by
        rintro one ho v _ hv rfl
        refine ⟨hsub, ?_⟩
        have hof : one = false ↔ l.sum ≠ 1 := by
          rw [ne_eq, ← ho]; cases one <;> simp
        rw [hof] at hv
        rcases hv with ⟨h1, h2, h3, rfl⟩ | ⟨h1, rfl⟩
        · rw [if_pos ⟨h1, h2, h3⟩] at hen
          exact .inl ⟨by omega, by rw [hen]⟩
        · rw [if_neg h1] at hen
          exact .inr ⟨hen, r2, by omega, rfl, hcod⟩
      refine br (fun hb2 => ?_) (fun hb2 => ?_)
      · have hb2 : l.countP (fun k => decide (0 < k)) = 1 := by
          have : ((l.countP (fun k => decide (0 < k)) : Nat) : Int) = 1 := hb2
          omega
        conv => whnf
        refine br (fun hb3 => ?_) (fun hb3 => ?_)
        · conv => whnf
          refine br (fun hb4 => ?_) (fun hb4 => ?_)
          · conv => whnf
            refine brn (fun hb5 => ?_) (fun hb5 => ?_)
            · conv => whnf
              exact fin false (by simp; intro e; exact hb5 (hone.2 e).2) _ _ (.inl ⟨hb3, hb4, rfl, rfl⟩) rfl
            · conv => whnf
              exact fin true (by simp; exact hone.1 ⟨hb2, hb5⟩) _ _ (.inr ⟨by simp, rfl⟩) rfl
          · conv => whnf
            exact fin (decide (l.sum = 1)) (by simp) _ _ (.inr ⟨fun h => hb4 h.2.1, rfl⟩) rfl
        · conv => whnf
          exact fin (decide (l.sum = 1)) (by simp) _ _ (.inr ⟨fun h => hb3 h.1, rfl⟩) rfl
      · have hb2 : l.countP (fun k => decide (0 < k)) ≠ 1 := by
          intro e; apply hb2
          show ((l.countP (fun k => decide (0 < k)) : Nat) : Int) = 1
          omega
        conv => whnf
        refine br (fun hb3 => ?_) (fun hb3 => ?_)
        · conv => whnf
          refine br (fun hb4 => ?_) (fun hb4 => ?_)
          · conv => whnf
            exact fin false (by simp; intro e; exact hb2 (hone.2 e).1) _ _ (.inl ⟨hb3, hb4, rfl, rfl⟩) rfl
          · conv => whnf
            exact fin (decide (l.sum = 1)) (by simp) _ _ (.inr ⟨fun h => hb4 h.2.1, rfl⟩) rfl
        · conv => whnf
          exact fin (decide (l.sum = 1)) (by simp) _ _ (.inr ⟨fun h => hb3 h.1, rfl⟩) rfl
def bit (s : ByteArray) (at_ : Int) : Int := byteAt s (at_ / 8).toNat / 2 ^ (at_ % 8).toNat % 2
def go (l : List Int) (s : ByteArray) : Nat → Int → Int → Int → Int × Int × Int
  | 0, _, _, _ => (0, 0, 2)
  | f + 1, size, code, at_ =>
    if (s.size : Int) ≤ at_ / 8 then (0, 0, 3)
    else match look l (List.range l.length) (size + 1) (code * 2 + bit s at_) with
      | some k => ((k : Int), at_ + 1, 0)
      | none => go l s f (size + 1) (code * 2 + bit s at_) (at_ + 1)
def nextF (l : List Int) (s : ByteArray) (at_ : Int) : Int × Int × Int := if at_ < 0 then (0, 0, 1) else go l s 15 0 0 at_
theorem bit_range (s : ByteArray) (at_ : Int) : 0 ≤ bit s at_ ∧ bit s at_ < 2 := by unfold bit; omega
def triV (p : Int × Int × Int) : Value := .tuple #[.int .i64 p.1, .int .i64 p.2.1, .int .i64 p.2.2]
theorem next_spec {h : Heap} {t b : Nat} {l : List Int} (c : Cod h b l) (s : ByteArray) (hs : s.size ≤ 1099511627776) (at_ : Int) (ha : -9223372036854775808 ≤ at_ ∧ at_ ≤ 9223372036854775807) :
    CallSpec Try.prog 87 #[.pointer (some ⟨b, 0, none⟩), .string s, .int .i64 at_] h t (fun v h' t' => Sub h h' ∧ v = triV (nextF l s at_)) := by
  refine Go.Vc.spec_of_vc (fn := Try.f87) Try.func87 rfl (by kernel_rfl) (by kernel_rfl) (Nat.le_of_ble_eq_true rfl) ?_
  intro hd
  conv => whnf
  refine br (fun hb => ?_) (fun hb => ?_)
  · conv => whnf
    exact ⟨Sub.refl _, by unfold nextF; rw [if_pos hb]; rfl⟩
  · have hnf : nextF l s at_ = go l s 15 0 0 at_ := by unfold nextF; rw [if_neg hb]
    conv => whnf
    repeat (first | ((with_reducible apply Go.Vc.strow); (focus ((repeat (first | with_reducible assumption | with_reducible exact Go.Vc.hset_same _ _ _ | with_reducible refine (Go.Vc.hset_ne _ _ (by omega)).trans ?_)); done)); (focus exact rfl); (focus exact rfl); (focus exact rfl); rintro _ rfl; conv => whnf) | (intro _ _; conv => whnf))
    rename_i r hr
    have hs1 := hd.sub_new hr (.cells #[.int .i64 0, .int .i64 0] 156)
    obtain ⟨m, o, T, hh1, hh2, hm, hg⟩ := c
    have hbt := hd _ _ hh1
    refine loop_intro2 (fun (i : Nat) (code : Int) => [(0, .pointer (some ⟨b, 0, none⟩)), (1, .string s), (2, .int .i64 (at_ + i)), (8, .int .i64 0), (9, .pointer (some ⟨r, 0, none⟩))])
      (fun i code h' t' => i ≤ 15 ∧ 0 ≤ code ∧ code < 2 ^ i ∧ Sub h h' ∧ h' r = some (.cells #[.int .i64 i, .int .i64 code] 156 (0, 0)) ∧ (i = 0 ∨ at_ + i ≤ 8 * s.size) ∧ nextF l s at_ = go l s (15 - i) i code (at_ + i))
      (fun i _ => 15 - i) 0 0 ⟨rfl, rfl, ?_, rfl, rfl, trivial⟩ ⟨by omega, by omega, by decide, ?_, ?_, by omega, by rw [hnf, Int.natCast_zero, Int.add_zero]⟩ ?_
    · show Value.int _ at_ = Value.int _ (at_ + (0 : Nat)); rw [Int.natCast_zero, Int.add_zero]
    · intro kS oS hoS
      have hkS := hd kS oS hoS
      repeat rw [Go.Vc.hset_ne _ _ (by omega)]
      exact hoS
    · rw [hset_same]; rfl
    rintro i code g h3 t3 hd3 ⟨hi, hc0, hc1, hs3, hk3, hati, hgo⟩
    have hp : (2 : Int) ^ i ≤ 32768 := by
      have h1 : 2 ^ i ≤ 2 ^ 15 := Nat.pow_le_pow_right (by omega) hi
      have h2 : (2 : Int) ^ i = ((2 ^ i : Nat) : Int) := by rw [Int.natCast_pow]; rfl
      omega
    have hb3 := hs3 _ _ hh1
    have hm3 := hs3 _ _ hh2
    conv => whnf
    repeat (first | ((with_reducible apply Go.Vc.ld_i); (focus ((repeat (first | with_reducible assumption | with_reducible exact Go.Vc.hset_same _ _ _ | with_reducible refine (Go.Vc.hset_ne _ _ (by omega)).trans ?_)); done)); (focus exact rfl); conv => whnf))
    refine br (fun hb1 => ?_) (fun hb1 => ?_)
    · have hlt : i < 15 := by omega
      conv => whnf
      repeat (first | ((with_reducible apply Go.Vc.quo_i64); (focus exact And.intro (by omega) (And.intro (by omega) (by omega))); conv => whnf) | ((with_reducible refine And.intro ?_ (And.intro ?_ ?_)); (focus exact rfl); (focus omega); conv => whnf))
      have hgo1 := hgo
      rw [show 15 - i = (14 - i) + 1 by omega] at hgo1
      unfold go at hgo1
      refine br (fun hb2 => ?_) (fun hb2 => ?_)
      · rw [if_pos (by omega)] at hgo1
        conv => whnf
        refine br_f (by omega) ?_
        conv => whnf
        exact ⟨hs3, by rw [hgo1]; rfl⟩
      · rw [if_neg (by omega)] at hgo1
        conv => whnf
        refine Go.Vc.draw_intro [⟨0, false, false, false, 0⟩, ⟨1, false, false, false, 1⟩, ⟨2, false, false, false, 3⟩, ⟨3, false, false, false, 0⟩, ⟨4, false, false, false, 8⟩, ⟨5, false, false, false, 24⟩, ⟨6, false, false, false, 0⟩, ⟨7, false, false, false, 0⟩, ⟨8, false, false, false, 128⟩, ⟨9, false, false, false, 448⟩, ⟨10, false, false, false, 0⟩, ⟨11, false, false, false, 1024⟩, ⟨12, false, false, false, 4032⟩, ⟨13, false, false, false, 8128⟩, ⟨14, false, false, false, 16320⟩, ⟨15, false, false, false, 32760⟩, ⟨16, false, false, false, 65535⟩, ⟨17, true, false, false, 131071⟩] (hs := h3) (hsub := (Sub.refl h3)) (hm := by kernel_rfl) (hpl := by kernel_rfl) ?_
        conv => whnf
        conv => whnf
        repeat (first | ((with_reducible refine And.intro (And.intro ?_ ?_) ?_); (focus omega); (focus omega); conv => whnf) | ((with_reducible apply Go.Vc.strow); (focus ((repeat (first | with_reducible assumption | with_reducible exact Go.Vc.hset_same _ _ _ | with_reducible refine (Go.Vc.hset_ne _ _ (by omega)).trans ?_)); done)); (focus exact rfl); (focus exact rfl); (focus exact rfl); rintro _ rfl; conv => whnf) | ((with_reducible apply Go.Vc.ld_i); (focus ((repeat (first | with_reducible assumption | with_reducible exact Go.Vc.hset_same _ _ _ | with_reducible refine (Go.Vc.hset_ne _ _ (by omega)).trans ?_)); done)); (focus exact rfl); conv => whnf) | (intro _ _; conv => whnf) | ((with_reducible apply Go.Vc.wr_i64); (focus exact And.intro (by omega) (by omega)); conv => whnf) | ((with_reducible apply Go.Vc.shl1_i64); (focus exact And.intro (by omega) (by omega)); conv => whnf) | ((with_reducible apply Go.Vc.and1_i64); (focus exact And.intro (by omega) (by omega)); conv => whnf) | ((with_reducible apply Go.Vc.or1_i64); (focus exact And.intro (by omega) (by omega)); (focus exact And.intro (by omega) (by omega)); conv => whnf) | ((with_reducible apply Go.Vc.shr_u8); (focus exact And.intro (by omega) (by omega)); intro zS hzS hzS0 hzS1; conv => whnf) | ((with_reducible apply Go.Vc.quo_i64); (focus exact And.intro (by omega) (And.intro (by omega) (by omega))); conv => whnf) | ((with_reducible apply Go.Vc.rem_i); (focus omega); conv => whnf) | ((with_reducible apply Go.Vc.and_leI); (focus omega); conv => whnf) | ((with_reducible refine And.intro ?_ (And.intro ?_ ?_)); (focus exact rfl); (focus omega); conv => whnf))
        have hbit : zS % 2 = bit s (at_ + i) := by rw [hzS]; rfl
        have hbr := bit_range s (at_ + i)
        rw [hbit]
        refine Go.Vc.draw_intro [⟨0, false, false, false, 0⟩, ⟨1, false, false, false, 1⟩, ⟨2, false, false, false, 3⟩, ⟨3, false, false, false, 7⟩, ⟨4, false, false, false, 0⟩, ⟨5, false, false, false, 31⟩, ⟨6, false, false, false, 63⟩, ⟨7, false, false, false, 127⟩, ⟨8, false, false, false, 127⟩, ⟨9, false, false, false, 255⟩, ⟨10, false, false, false, 1023⟩] (hs := (fun _ => none)) (hsub := (fun _ _ h => nomatch h)) (hm := by kernel_rfl) (hpl := by kernel_rfl) ?_
        conv => whnf
        conv => whnf
        repeat (first | ((with_reducible apply Go.Vc.ldrow); (focus ((repeat (first | with_reducible assumption | with_reducible exact Go.Vc.hset_same _ _ _ | with_reducible refine (Go.Vc.hset_ne _ _ (by omega)).trans ?_)); done)); (focus exact rfl); rintro _ rfl; conv => whnf) | ((with_reducible apply Go.Vc.ld_i); (focus ((repeat (first | with_reducible assumption | with_reducible exact Go.Vc.hset_same _ _ _ | with_reducible refine (Go.Vc.hset_ne _ _ (by omega)).trans ?_)); done)); (focus exact rfl); conv => whnf))
        refine look_gQ (k := ((i : Int) + 1, code * 2 + bit s (at_ + i))) (f := Value.int .i64) (d := (0 : Int)) Try.underlying152 keyOk (inf := Try.types[3]) (by kernel_rfl) (by kernel_rfl) (show hset h3 r _ m = some o from by rw [hset_ne _ _ (by have := hd _ _ hh2; omega)]; exact hm3) hm ?_
        rw [if_pos rfl, gGet_ent l (by omega)]
        cases hlk : look l (List.range l.length) ((i : Int) + 1) (code * 2 + bit s (at_ + i)) with
        | some k =>
          rw [hlk] at hgo1
          conv => whnf
          refine ⟨?_, by rw [hgo1]; rfl⟩
          intro kS oS hoS
          have hkS := hd kS oS hoS
          repeat rw [Go.Vc.hset_ne _ _ (by omega)]
          exact hs3 kS oS hoS
        | none =>
          rw [hlk] at hgo1
          conv => whnf
          have h2i : (2 : Int) ^ (i + 1) = 2 ^ i * 2 := Int.pow_succ _ _
          refine round_end2 (i + 1) (code * 2 + bit s (at_ + i)) (by omega) ⟨rfl, rfl, ?_, rfl, rfl, trivial⟩ ⟨by omega, by omega, by omega, ?_, ?_, by omega, ?_⟩
          · show Value.int _ (at_ + i + 1) = Value.int _ (at_ + (i + 1 : Nat))
            congr 1; omega
          · intro kS oS hoS
            have hkS := hd kS oS hoS
            repeat rw [Go.Vc.hset_ne _ _ (by omega)]
            exact hs3 kS oS hoS
          · rw [hset_same]; rfl
          · rw [hgo1]
            simp only [show 15 - (i + 1) = 14 - i by omega, show ((i + 1 : Nat) : Int) = (i : Int) + 1 by omega, Int.add_assoc]
    · have h15 : i = 15 := by omega
      subst h15
      conv => whnf
      refine br_t rfl ?_
      conv => whnf
      exact ⟨hs3, by rw [hgo]; rfl⟩
end Go.Proofs.Ytikpfffhcjlcjaa
