/- The reference's New and Next, and the chapter's examples. -/
import Derived.Test.YtlnibgkdjmkekaaHuff2
namespace Go.Proofs.Ytlnibgkdjmkekaa
open Go Go.Vc Go.Huf
set_option maxRecDepth 10000
set_option linter.unusedVariables false

theorem sum_take {l : List Int} {i : Nat} {x : Int} (hx : l[i]? = some x) : (l.take (i + 1)).sum = (l.take i).sum + x := by
  rw [List.take_add_one, hx]; simp
theorem sum_good (l : List Int) : l.all good = true → 0 ≤ l.sum ∧ l.sum ≤ 15 * l.length := by
  induction l with
  | nil => intro _; simp
  | cons x l ih =>
    intro h
    simp only [List.all_cons, Bool.and_eq_true] at h
    have h1 := ih h.2
    have h2 := good_iff.1 h.1
    simp only [List.sum_cons, List.length_cons]
    omega
theorem single_spec {h : Heap} {t : Nat} {a : Option Addr} {n c : Nat} {l : List Int} (s : Sl h a n (Value.int .i64) l) (hn : n ≤ 1048576) (hg : l.all good = true) :
    CallSpec Try.prog 23 #[.slice a n c] h t (fun v h' t' => v = .bool (decide (l.sum = 1)) ∧ h = h' ∧ t = t') := by
  have hl := s.1
  refine Go.Vc.spec_of_vc (fn := Try.f23) Try.func23 rfl (by kernel_rfl) (by kernel_rfl) (Nat.le_of_ble_eq_true rfl) ?_
  intro hd
  conv => whnf
  refine loop_intro (fun (i : Nat) => [(0, .slice a n c), (3, .int .i64 (l.take i).sum), (4, .int .i64 (i : Nat))])
    (fun i h' t' => h = h' ∧ t = t' ∧ i ≤ n) (fun i => n - i) 0 ⟨rfl, rfl, rfl, trivial⟩ ⟨rfl, rfl, by omega⟩ ?_
  rintro i g _ _ _ ⟨rfl, rfl, hi⟩
  have hr := sum_good (l.take i) (List.all_eq_true.2 (fun x hx => List.all_eq_true.1 hg x (List.mem_of_mem_take hx)))
  rw [List.length_take] at hr
  conv => whnf
  refine br (fun hb1 => ?_) (fun hb1 => ?_)
  · have hlt : i < n := by omega
    conv => whnf
    repeat (first | ((with_reducible apply Go.Vc.sl_ix); (focus with_reducible assumption); (focus exact And.intro (by omega) (by omega)); intro xI bI offI hxI hcI; conv => whnf) | ((with_reducible apply Go.Vc.cell_i); (focus assumption); conv => whnf))
    have hx : l[i]? = some xI := hxI
    have hgx := good_iff.1 (List.all_eq_true.1 hg xI (List.mem_of_getElem? hx))
    conv => whnf
    repeat (first | ((with_reducible apply Go.Vc.wr_i64); (focus exact And.intro (by omega) (by omega)); conv => whnf))
    refine round_end (i + 1) (by omega) ⟨rfl, ?_, rfl, trivial⟩ ⟨rfl, rfl, by omega⟩
    show Value.int _ ((l.take i).sum + xI) = Value.int _ (l.take (i + 1)).sum
    rw [sum_take hx]
  · have hin : i = n := by omega
    rw [List.take_of_length_le (by omega)]
    conv => whnf
    exact ⟨by rw [opq_eq], rfl, rfl⟩

theorem refNew_spec {h : Heap} {t : Nat} {a : Option Addr} {n c : Nat} {l : List Int} (s : Sl h a n (Value.int .i64) l) (hn : n ≤ 1048576) :
    CallSpec Try.prog 15 #[.slice a n c] h t (fun v h' t' => Sub h h' ∧ ∃ a1 n1 c1 a2 n2 c2, v = .tuple #[.agg #[.slice a1 n1 c1, .slice a2 n2 c2], .int .i64 (errN l)] ∧ (errN l = 0 → Sl h' a1 n1 (Value.int .i64) l ∧ Sl h' a2 n2 (Value.int .i64) (codes l) ∧ l.all good = true)) := by
  have hl := s.1
  refine Go.Vc.spec_of_vc (fn := Try.f15) Try.func15 rfl (by kernel_rfl) (by kernel_rfl) (Nat.le_of_ble_eq_true rfl) ?_
  intro hd
  conv => whnf
  intro r hr
  conv => whnf
  have hs0 := hd.sub_new hr (.cells #[Value.slice none 0 0, Value.slice none 0 0] 35)
  refine (refCodes_spec (s.sub hs0) hn).mono ?_
  rintro _ h1 t1 hd1 ht1 ⟨ac, nc, rfl, hs1, ho1, hf1⟩
  have hr1 := hs1 _ _ (hset_same h r (.cells #[Value.slice none 0 0, Value.slice none 0 0] 35))
  conv => whnf
  refine br (fun hb => ?_) (fun hb => ?_)
  · have e : errN l = err l := by unfold errN; rw [if_pos hb]
    conv => whnf
    repeat (first | ((with_reducible apply Go.Vc.ldrow); (focus ((repeat (first | with_reducible assumption | with_reducible exact Go.Vc.hset_same _ _ _ | with_reducible refine (Go.Vc.hset_ne _ _ (by omega)).trans ?_)); done)); (focus exact rfl); rintro _ rfl; conv => whnf) | ((with_reducible apply Go.Vc.strow); (focus ((repeat (first | with_reducible assumption | with_reducible exact Go.Vc.hset_same _ _ _ | with_reducible refine (Go.Vc.hset_ne _ _ (by omega)).trans ?_)); done)); (focus exact rfl); (focus exact rfl); (focus exact rfl); rintro _ rfl; conv => whnf))
    refine ⟨?_, none, 0, 0, none, 0, 0, by rw [e], fun h0 => absurd (e.symm.trans h0) hb⟩
    intro k o ho
    have := hd k o ho
    rw [hset_ne _ _ (by omega)]
    exact hs1 _ _ (hs0 _ _ ho)
  · have he : err l = 0 := by simpa using hb
    rw [if_pos he] at ho1
    have hg : l.all good = true := by
      unfold err at he
      split at he
      · cases he
      · split at he
        · cases he
        · rename_i h; simpa using h
    have hn3 : l.length ≤ 300 := by
      unfold err at he
      split at he
      · cases he
      · omega
    have hen : errN l = if wsum l ≠ 0 ∧ wsum l ≠ 32768 ∧ l.sum ≠ 1 then 2 else 0 := by
      unfold errN; rw [if_neg (by simp [he])]
    have sh1 : Sub h h1 := hs0.trans hs1
    have s1 := s.sub sh1
    conv => whnf
    refine (sum_spec s1 hn).mono ?_
    rintro _ _ _ _ _ ⟨rfl, rfl, rfl⟩
    rw [hg]
    conv => whnf
    refine br (fun hb1 => ?_) (fun hb1 => ?_)
    · conv => whnf
      refine br (fun hb2 => ?_) (fun hb2 => ?_)
      · conv => whnf
        refine (single_spec s1 hn hg).mono ?_
        rintro _ _ _ _ _ ⟨rfl, rfl, rfl⟩
        conv => whnf
        refine bsel_intro (fun hb3 => ?_) (fun hb3 => ?_)
        · have hno : errN l = 2 := by rw [hen]; exact if_pos ⟨hb2, hb1, by simpa using hb3⟩
          conv => whnf
          repeat (first | ((with_reducible apply Go.Vc.ldrow); (focus ((repeat (first | with_reducible assumption | with_reducible exact Go.Vc.hset_same _ _ _ | with_reducible refine (Go.Vc.hset_ne _ _ (by omega)).trans ?_)); done)); (focus exact rfl); rintro _ rfl; conv => whnf) | ((with_reducible apply Go.Vc.strow); (focus ((repeat (first | with_reducible assumption | with_reducible exact Go.Vc.hset_same _ _ _ | with_reducible refine (Go.Vc.hset_ne _ _ (by omega)).trans ?_)); done)); (focus exact rfl); (focus exact rfl); (focus exact rfl); rintro _ rfl; conv => whnf))
          refine ⟨?_, none, 0, 0, none, 0, 0, by rw [hno], fun h0 => absurd (hno.symm.trans h0) (by decide)⟩
          intro k o ho
          have := hd k o ho
          rw [hset_ne _ _ (by omega)]
          exact sh1 _ _ ho
        · have hok : errN l = 0 := by rw [hen]; exact if_neg (fun h => h.2.2 (by simpa using hb3))
          conv => whnf
          refine app_int (Own.nil _ _ _) s1 (by omega) hd1 ?_
          intro a2 c2 h2 t2 ho2 ht2 hd2 hk2 hf2
          have hk2 : ∀ k, k < t1 → h2 k = h1 k := fun k hk => hk2 k hk (by simp [owner])
          have hrt := hd1 _ _ hr1
          have hs2 : Sub h1 h2 := fun k o ho => by rw [hk2 k (hd1 k o ho)]; exact ho
          have hr2 := hs2 _ _ hr1
          have sl2 := ho2.sl
          rw [List.nil_append, Nat.zero_add] at sl2
          have hf2r : ∀ b, owner a2 = some b → t1 ≤ b := by
            intro b hb
            rcases hf2 with h | ⟨q, h, hq⟩
            · rw [h] at hb; cases hb
            · rw [h] at hb; cases hb; exact hq
          conv => whnf
          repeat (first | ((with_reducible apply Go.Vc.ldrow); (focus ((repeat (first | with_reducible assumption | with_reducible exact Go.Vc.hset_same _ _ _ | with_reducible refine (Go.Vc.hset_ne _ _ (by omega)).trans ?_)); done)); (focus exact rfl); rintro _ rfl; conv => whnf) | ((with_reducible apply Go.Vc.strow); (focus ((repeat (first | with_reducible assumption | with_reducible exact Go.Vc.hset_same _ _ _ | with_reducible refine (Go.Vc.hset_ne _ _ (by omega)).trans ?_)); done)); (focus exact rfl); (focus exact rfl); (focus exact rfl); rintro _ rfl; conv => whnf))
          have hkeep : ∀ {a : Option Addr} {n : Nat} {l : List Int} {x : Obj}, Sl h2 a n (Value.int .i64) l → (∀ b, owner a = some b → b ≠ r) → Sl (hset h2 r x) a n (Value.int .i64) l := by
            intro a n l x hsl hne
            refine ⟨hsl.1, fun h0 => ?_⟩
            obtain ⟨b, off, cs, T, fr, e1, e2, e3⟩ := hsl.2 h0
            exact ⟨b, off, cs, T, fr, e1, by rw [hset_ne _ _ (hne b (by rw [e1]; rfl))]; exact e2, e3⟩
          refine ⟨?_, a2, _, c2, ac, nc, nc, by rw [hok], fun _ => ⟨?_, ?_, rfl⟩⟩
          · intro k o ho
            have := hd k o ho
            rw [hset_ne _ _ (by omega)]
            exact hs2 _ _ (sh1 _ _ ho)
          · rw [Nat.zero_add]
            exact hkeep sl2 (fun b hb => by have := hf2r b hb; omega)
          · exact hkeep (ho1.sl.sub hs2) (fun b hb => by have := hf1 b hb; omega)
      · have hok : errN l = 0 := by rw [hen]; exact if_neg (fun h => hb2 h.1)
        conv => whnf
        refine app_int (Own.nil _ _ _) s1 (by omega) hd1 ?_
        intro a2 c2 h2 t2 ho2 ht2 hd2 hk2 hf2
        have hk2 : ∀ k, k < t1 → h2 k = h1 k := fun k hk => hk2 k hk (by simp [owner])
        have hrt := hd1 _ _ hr1
        have hs2 : Sub h1 h2 := fun k o ho => by rw [hk2 k (hd1 k o ho)]; exact ho
        have hr2 := hs2 _ _ hr1
        have sl2 := ho2.sl
        rw [List.nil_append, Nat.zero_add] at sl2
        have hf2r : ∀ b, owner a2 = some b → t1 ≤ b := by
          intro b hb
          rcases hf2 with h | ⟨q, h, hq⟩
          · rw [h] at hb; cases hb
          · rw [h] at hb; cases hb; exact hq
        conv => whnf
        repeat (first | ((with_reducible apply Go.Vc.ldrow); (focus ((repeat (first | with_reducible assumption | with_reducible exact Go.Vc.hset_same _ _ _ | with_reducible refine (Go.Vc.hset_ne _ _ (by omega)).trans ?_)); done)); (focus exact rfl); rintro _ rfl; conv => whnf) | ((with_reducible apply Go.Vc.strow); (focus ((repeat (first | with_reducible assumption | with_reducible exact Go.Vc.hset_same _ _ _ | with_reducible refine (Go.Vc.hset_ne _ _ (by omega)).trans ?_)); done)); (focus exact rfl); (focus exact rfl); (focus exact rfl); rintro _ rfl; conv => whnf))
        have hkeep : ∀ {a : Option Addr} {n : Nat} {l : List Int} {x : Obj}, Sl h2 a n (Value.int .i64) l → (∀ b, owner a = some b → b ≠ r) → Sl (hset h2 r x) a n (Value.int .i64) l := by
          intro a n l x hsl hne
          refine ⟨hsl.1, fun h0 => ?_⟩
          obtain ⟨b, off, cs, T, fr, e1, e2, e3⟩ := hsl.2 h0
          exact ⟨b, off, cs, T, fr, e1, by rw [hset_ne _ _ (hne b (by rw [e1]; rfl))]; exact e2, e3⟩
        refine ⟨?_, a2, _, c2, ac, nc, nc, by rw [hok], fun _ => ⟨?_, ?_, rfl⟩⟩
        · intro k o ho
          have := hd k o ho
          rw [hset_ne _ _ (by omega)]
          exact hs2 _ _ (sh1 _ _ ho)
        · rw [Nat.zero_add]
          exact hkeep sl2 (fun b hb => by have := hf2r b hb; omega)
        · exact hkeep (ho1.sl.sub hs2) (fun b hb => by have := hf1 b hb; omega)
    · have hok : errN l = 0 := by rw [hen]; exact if_neg (fun h => hb1 h.2.1)
      conv => whnf
      refine app_int (Own.nil _ _ _) s1 (by omega) hd1 ?_
      intro a2 c2 h2 t2 ho2 ht2 hd2 hk2 hf2
      have hk2 : ∀ k, k < t1 → h2 k = h1 k := fun k hk => hk2 k hk (by simp [owner])
      have hrt := hd1 _ _ hr1
      have hs2 : Sub h1 h2 := fun k o ho => by rw [hk2 k (hd1 k o ho)]; exact ho
      have hr2 := hs2 _ _ hr1
      have sl2 := ho2.sl
      rw [List.nil_append, Nat.zero_add] at sl2
      have hf2r : ∀ b, owner a2 = some b → t1 ≤ b := by
        intro b hb
        rcases hf2 with h | ⟨q, h, hq⟩
        · rw [h] at hb; cases hb
        · rw [h] at hb; cases hb; exact hq
      conv => whnf
      repeat (first | ((with_reducible apply Go.Vc.ldrow); (focus ((repeat (first | with_reducible assumption | with_reducible exact Go.Vc.hset_same _ _ _ | with_reducible refine (Go.Vc.hset_ne _ _ (by omega)).trans ?_)); done)); (focus exact rfl); rintro _ rfl; conv => whnf) | ((with_reducible apply Go.Vc.strow); (focus ((repeat (first | with_reducible assumption | with_reducible exact Go.Vc.hset_same _ _ _ | with_reducible refine (Go.Vc.hset_ne _ _ (by omega)).trans ?_)); done)); (focus exact rfl); (focus exact rfl); (focus exact rfl); rintro _ rfl; conv => whnf))
      have hkeep : ∀ {a : Option Addr} {n : Nat} {l : List Int} {x : Obj}, Sl h2 a n (Value.int .i64) l → (∀ b, owner a = some b → b ≠ r) → Sl (hset h2 r x) a n (Value.int .i64) l := by
        intro a n l x hsl hne
        refine ⟨hsl.1, fun h0 => ?_⟩
        obtain ⟨b, off, cs, T, fr, e1, e2, e3⟩ := hsl.2 h0
        exact ⟨b, off, cs, T, fr, e1, by rw [hset_ne _ _ (hne b (by rw [e1]; rfl))]; exact e2, e3⟩
      refine ⟨?_, a2, _, c2, ac, nc, nc, by rw [hok], fun _ => ⟨?_, ?_, rfl⟩⟩
      · intro k o ho
        have := hd k o ho
        rw [hset_ne _ _ (by omega)]
        exact hs2 _ _ (sh1 _ _ ho)
      · rw [Nat.zero_add]
        exact hkeep sl2 (fun b hb => by have := hf2r b hb; omega)
      · exact hkeep (ho1.sl.sub hs2) (fun b hb => by have := hf1 b hb; omega)

theorem look_succ (l : List Int) (k : Nat) (size code : Int) : look l (List.range (k + 1)) size code = (look l (List.range k) size code).or (if l.getD k 0 = size ∧ codeAt l k = code then some k else none) := by
  unfold look
  rw [List.range_succ, List.find?_append]
  congr 1
  by_cases h : l.getD k 0 = size ∧ codeAt l k = code
  · rw [if_pos h, List.find?_cons, decide_eq_true h]
  · rw [if_neg h, List.find?_cons, decide_eq_false h]; rfl
theorem look_some (l : List Int) (k n : Nat) (size code : Int) (h : look l (List.range k) size code = none) (hk : l.getD k 0 = size ∧ codeAt l k = code) (hn : k < n) : look l (List.range n) size code = some k := by
  obtain ⟨m, rfl⟩ : ∃ m, n = k + 1 + m := ⟨n - (k + 1), by omega⟩
  induction m with
  | zero => rw [Nat.add_zero, look_succ, h, if_pos hk]; rfl
  | succ m ih => rw [← Nat.add_assoc, look_succ, ih (by omega)]; rfl

theorem refNext_spec {h : Heap} {t : Nat} {a1 a2 : Option Addr} {n1 c1 n2 c2 : Nat} {l : List Int} (s1 : Sl h a1 n1 (Value.int .i64) l) (s2 : Sl h a2 n2 (Value.int .i64) (codes l)) (hg : l.all good = true) (hn : n1 ≤ 300) (s : ByteArray) (hs : s.size ≤ 1099511627776) (at_ : Int) (ha : -9223372036854775808 ≤ at_ ∧ at_ ≤ 9223372036854775807) :
    CallSpec Try.prog 17 #[.agg #[.slice a1 n1 c1, .slice a2 n2 c2], .string s, .int .i64 at_] h t (fun v h' t' => Sub h h' ∧ v = triV (nextF l s at_)) := by
  have hl := s1.1
  have hl2 := s2.1
  rw [codes_length] at hl2
  refine Go.Vc.spec_of_vc (fn := Try.f17) Try.func17 rfl (by kernel_rfl) (by kernel_rfl) (Nat.le_of_ble_eq_true rfl) ?_
  intro hd
  conv => whnf
  intro r hr
  conv => whnf
  have hs0 := hd.sub_new hr (.cells #[Value.slice a1 n1 c1, Value.slice a2 n2 c2] 35)
  refine br (fun hb => ?_) (fun hb => ?_)
  · conv => whnf
    exact ⟨hs0, by unfold nextF; rw [if_pos hb]; rfl⟩
  · have hnf : nextF l s at_ = go l s 15 0 0 at_ := by unfold nextF; rw [if_neg hb]
    conv => whnf
    refine loop_intro2 (fun (i : Nat) (code : Int) => [(1, .string s), (2, .int .i64 at_), (3, .pointer (some ⟨r, 0, none⟩)), (9, .int .i64 code), (10, .int .i64 (i + 1 : Nat))])
      (fun i code h' t' => i ≤ 15 ∧ 0 ≤ code ∧ code < 2 ^ i ∧ Sub h h' ∧ h' r = some (.cells #[.slice a1 n1 c1, .slice a2 n2 c2] 35 (0, 0)) ∧ (i = 0 ∨ at_ + i ≤ 8 * s.size) ∧ nextF l s at_ = go l s (15 - i) i code (at_ + i))
      (fun i _ => 15 - i) 0 0 ⟨rfl, rfl, rfl, rfl, rfl, trivial⟩ ⟨by omega, by omega, by decide, hs0, hset_same _ _ _, by omega, by rw [hnf, Int.natCast_zero, Int.add_zero]⟩ ?_
    rintro i code g h3 t3 hd3 ⟨hi, hc0, hc1, hs3, hk3, hati, hgo⟩
    have hp : (2 : Int) ^ i ≤ 32768 := by
      have h1 : 2 ^ i ≤ 2 ^ 15 := Nat.pow_le_pow_right (by omega) hi
      have h2 : (2 : Int) ^ i = ((2 ^ i : Nat) : Int) := by rw [Int.natCast_pow]; rfl
      omega
    have sl1 := s1.sub hs3
    have sl2 := s2.sub hs3
    have hgo1 := hgo
    conv => whnf
    refine br (fun hb1 => ?_) (fun hb1 => ?_)
    · have hlt : i < 15 := by omega
      rw [show 15 - i = (14 - i) + 1 by omega] at hgo1
      unfold go at hgo1
      have hcode : ∀ z, z = IntKind.i64.wrap (at_ + ((i + 1 : Nat) : Int)) → IntKind.i64.wrap (z - 1) = at_ + i := by
        rintro _ rfl
        simp only [IntKind.wrap, IntKind.signed, IntKind.bits]
        simp
        omega
      conv => whnf
      refine ⟨_, rfl, ?_⟩
      conv => whnf
      refine ⟨_, (hcode _ rfl).symm, ?_⟩
      conv => whnf
      refine br_f (by omega) ?_
      conv => whnf
      repeat (first | ((with_reducible apply Go.Vc.quo_i64); (focus exact And.intro (by omega) (And.intro (by omega) (by omega))); conv => whnf) | ((with_reducible refine And.intro ?_ (And.intro ?_ ?_)); (focus exact rfl); (focus omega); conv => whnf))
      refine br (fun hb2 => ?_) (fun hb2 => ?_)
      · rw [if_pos (by omega)] at hgo1
        conv => whnf
        exact ⟨hs3, by rw [hgo1]; rfl⟩
      · rw [if_neg (by omega)] at hgo1
        conv => whnf
        repeat (first | ((with_reducible refine And.intro (And.intro ?_ ?_) ?_); (focus omega); (focus omega); conv => whnf) | (intro _ _; conv => whnf) | ((with_reducible apply Go.Vc.wr_i64); (focus exact And.intro (by omega) (by omega)); conv => whnf) | ((with_reducible apply Go.Vc.and1_i64); (focus exact And.intro (by omega) (by omega)); conv => whnf) | ((with_reducible apply Go.Vc.shr_u8); (focus exact And.intro (by omega) (by omega)); intro zS hzS hzS0 hzS1; conv => whnf) | ((with_reducible apply Go.Vc.quo_i64); (focus exact And.intro (by omega) (And.intro (by omega) (by omega))); conv => whnf) | ((with_reducible apply Go.Vc.rem_i); (focus omega); conv => whnf) | ((with_reducible apply Go.Vc.and_leI); (focus omega); conv => whnf) | ((with_reducible refine And.intro ?_ (And.intro ?_ ?_)); (focus exact rfl); (focus omega); conv => whnf))
        have hbit : zS % 2 = bit s (at_ + i) := by rw [hzS]; rfl
        have hbr := bit_range s (at_ + i)
        have hsh : 2 * code + zS % 2 = code * 2 + bit s (at_ + i) := by rw [hbit]; omega
        refine loop_intro (fun (k : Nat) => [(1, .string s), (2, .int .i64 at_), (3, .pointer (some ⟨r, 0, none⟩)), (9, .int .i64 (code * 2 + bit s (at_ + i))), (10, .int .i64 (i + 1 : Nat)), (11, .int .i64 (at_ + i)), (12, .int .i64 (k : Nat))])
          (fun k h' t' => h3 = h' ∧ t3 = t' ∧ k ≤ n1 ∧ look l (List.range k) ((i : Int) + 1) (code * 2 + bit s (at_ + i)) = none)
          (fun k => n1 - k) 0 ⟨rfl, rfl, rfl, congrArg (Value.int .i64) hsh, rfl, rfl, rfl, trivial⟩ ⟨rfl, rfl, by omega, rfl⟩ ?_
        rintro k g4 _ _ hd4 ⟨rfl, rfl, hk, hlk⟩
        conv => whnf
        repeat (first | ((with_reducible apply Go.Vc.ld_i); (focus ((repeat (first | with_reducible assumption | with_reducible exact Go.Vc.hset_same _ _ _ | with_reducible refine (Go.Vc.hset_ne _ _ (by omega)).trans ?_)); done)); (focus exact rfl); conv => whnf))
        refine br (fun hb3 => ?_) (fun hb3 => ?_)
        · have hkl : k < n1 := by omega
          have hcd : (codes l)[k]? = some (codeAt l k) := codes_get (by omega)
          conv => whnf
          repeat (first | ((with_reducible apply Go.Vc.sl_ix); (focus with_reducible assumption); (focus exact And.intro (by omega) (by omega)); intro xI bI offI hxI hcI; conv => whnf) | ((with_reducible apply Go.Vc.ld_i); (focus ((repeat (first | with_reducible assumption | with_reducible exact Go.Vc.hset_same _ _ _ | with_reducible refine (Go.Vc.hset_ne _ _ (by omega)).trans ?_)); done)); (focus exact rfl); conv => whnf) | ((with_reducible apply Go.Vc.cell_i); (focus assumption); conv => whnf))
          have hx : l[k]? = some xI := hxI
          have hxg : l.getD k 0 = xI := by simp [List.getD_eq_getElem?_getD, hx]
          have hls := look_succ l k ((i : Int) + 1) (code * 2 + bit s (at_ + i))
          rw [hlk] at hls
          refine br (fun hb4 => ?_) (fun hb4 => ?_)
          · conv => whnf
            repeat (first | ((with_reducible apply Go.Vc.sl_ix); (focus with_reducible assumption); (focus exact And.intro (by omega) (by omega)); intro xI bI offI hxI hcI; conv => whnf) | ((with_reducible apply Go.Vc.ld_i); (focus ((repeat (first | with_reducible assumption | with_reducible exact Go.Vc.hset_same _ _ _ | with_reducible refine (Go.Vc.hset_ne _ _ (by omega)).trans ?_)); done)); (focus exact rfl); conv => whnf) | ((with_reducible apply Go.Vc.cell_i); (focus assumption); conv => whnf))
            have hci : xI = codeAt l k := by
              have : (codes l)[k]? = some xI := hxI
              rw [hcd] at this
              exact (Option.some.inj this).symm
            subst hci
            refine br (fun hb5 => ?_) (fun hb5 => ?_)
            · have hlk2 := look_some l k l.length ((i : Int) + 1) _ hlk ⟨hxg.trans hb4, hb5⟩ (by omega)
              rw [hlk2] at hgo1
              conv => whnf
              repeat (first | ((with_reducible apply Go.Vc.wr_i64); (focus exact And.intro (by omega) (by omega)); conv => whnf))
              first | exact ⟨hs3, by rw [hgo1]; rfl⟩ | (rw [hgo1]; rfl)
            · rw [if_neg (fun h => hb5 h.2)] at hls
              conv => whnf
              repeat (first | ((with_reducible apply Go.Vc.wr_i64); (focus exact And.intro (by omega) (by omega)); conv => whnf))
              exact round_end (k + 1) (by omega) ⟨rfl, rfl, rfl, rfl, rfl, rfl, rfl, trivial⟩ ⟨rfl, rfl, by omega, hls⟩
          · rw [if_neg (fun h => hb4 (hxg.symm.trans h.1))] at hls
            conv => whnf
            repeat (first | ((with_reducible apply Go.Vc.wr_i64); (focus exact And.intro (by omega) (by omega)); conv => whnf))
            exact round_end (k + 1) (by omega) ⟨rfl, rfl, rfl, rfl, rfl, rfl, rfl, trivial⟩ ⟨rfl, rfl, by omega, hls⟩
        · have hkn : k = l.length := by omega
          rw [hkn] at hlk
          rw [hlk] at hgo1
          have h2i : (2 : Int) ^ (i + 1) = 2 ^ i * 2 := Int.pow_succ _ _
          conv => whnf
          repeat (first | ((with_reducible apply Go.Vc.wr_i64); (focus exact And.intro (by omega) (by omega)); conv => whnf))
          refine round_end2 (i + 1) (code * 2 + bit s (at_ + i)) (by omega) ⟨rfl, rfl, rfl, rfl, rfl, trivial⟩ ⟨by omega, by omega, by omega, hs3, hk3, by omega, ?_⟩
          rw [hgo1]
          simp only [show 15 - (i + 1) = 14 - i by omega, show ((i + 1 : Nat) : Int) = (i : Int) + 1 by omega, Int.add_assoc]
    · have h15 : i = 15 := by omega
      subst h15
      conv => whnf
      exact ⟨hs3, by rw [hgo]; rfl⟩

theorem lit_sl {h : Heap} {r : Nat} {l : List Int} {T : TypeId} {c : Array Value} (hr : h r = some (.cells c T (0, 0))) (hc : c = (l.map (Value.int .i64)).toArray) {n : Nat} (hn : l.length = n) : Sl h (some ⟨r, 0, none⟩) n (Value.int .i64) l := by
  subst hc; exact ar_sl hr hn

theorem examples_spec (h : Heap) (t : Nat) : CallSpec Try.prog 10 #[] h t (fun v h' _ => v = .bool true ∧ Sub h h') := by
  have ex1 : codes [2, 1, 3, 3] = [2, 0, 6, 7] := by decide
  have ex2 : err [2, 1, 3, 3] = 0 := by decide
  have ex3 : errN [2, 1, 3, 3] = 0 := by decide
  have ex4 : nextF [2, 1, 3, 3] ⟨#[7]⟩ 0 = (3, 3, 0) := by decide
  refine Go.Vc.spec_of_vc (fn := Try.f10) Try.func10 rfl (by kernel_rfl) (by kernel_rfl) (Nat.le_of_ble_eq_true rfl) ?_
  intro hd
  conv => whnf
  intro r hr
  conv => whnf
  have hs1 := hd.sub_new hr (.cells #[Value.int .i64 2, Value.int .i64 1, Value.int .i64 3, Value.int .i64 3] 3)
  refine (codes_spec (l := [2, 1, 3, 3]) (lit_sl (hset_same _ _ _) rfl rfl) (by decide)).mono ?_
  rintro _ h2 t2 hd2 ht2 ⟨a2, n2, rfl, hs2, ho2, hf2⟩
  rw [ex2, if_pos rfl, ex1] at ho2
  rw [ex2]
  conv => whnf
  intro r3 hr3
  conv => whnf
  have hs3 := hd2.sub_new hr3 (.cells #[Value.int .i64 2, Value.int .i64 1, Value.int .i64 3, Value.int .i64 3] 3)
  refine (new_spec (l := [2, 1, 3, 3]) (lit_sl (hset_same _ _ _) rfl rfl) (by decide)).mono ?_
  rintro v h4 t4 hd4 ht4 ⟨hs4, hv⟩
  rcases hv with ⟨h0, _⟩ | ⟨_, b, hb, rfl, hcod⟩
  · exact absurd ex3 h0
  conv => whnf
  repeat (first | (refine Go.Vc.br_f ?_ ?_; (focus omega); conv => whnf))
  refine (next_spec hcod ⟨#[7]⟩ (by decide) 0 (by omega)).mono ?_
  rintro v h5 t5 hd5 ht5 ⟨hs5, rfl⟩
  rw [ex4]
  conv => whnf
  intro r6 hr6
  conv => whnf
  have hs6 := hd5.sub_new hr6 (.cells #[Value.int .i64 2, Value.int .i64 0, Value.int .i64 6, Value.int .i64 7] 3)
  have sl6 := (((ho2.sl.sub hs3).sub hs4).sub hs5).sub hs6
  have hsub : Sub h (hset h5 r6 (.cells #[Value.int .i64 2, Value.int .i64 0, Value.int .i64 6, Value.int .i64 7] 3)) := hs1.trans (hs2.trans (hs3.trans (hs4.trans (hs5.trans hs6))))
  refine (numbers_spec sl6 (l' := [2, 0, 6, 7]) (lit_sl (hset_same _ _ _) rfl rfl) (by have := ho2.1; simp at this; omega)).mono ?_
  rintro v _ _ _ _ ⟨rfl, rfl, rfl⟩
  rw [decide_eq_true rfl]
  conv => whnf
  refine br_t rfl ?_
  conv => whnf
  refine br_t rfl ?_
  conv => whnf
  refine br_t rfl ?_
  conv => whnf
  exact ⟨by rw [opq_eq]; rfl, hsub⟩
end Go.Proofs.Ytlnibgkdjmkekaa
