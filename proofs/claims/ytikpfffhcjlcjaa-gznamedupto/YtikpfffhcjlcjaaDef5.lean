import Derived.Test.YtikpfffhcjlcjaaDef4
set_option linter.unusedSimpArgs false
namespace Go.Proofs.Ytikpfffhcjlcjaa
open Go Go.Vc Go.Dfl
set_option maxRecDepth 20000
set_option linter.unusedVariables false
structure Pls where
  a : Option Addr
  c : Nat
  l : List Nat
def plv (p : Pls) : Value := .slice p.a p.l.length p.c
def ints (l : List Nat) : List Int := l.map fun k : Nat => (k : Int)
theorem gPut_mem {D : List (ByteArray × Pls)} {g : ByteArray} {v : Pls} {p : ByteArray × Pls} (h : p ∈ gPut D g v) : p = (g, v) ∨ (p ∈ D ∧ p.1 ≠ g) := by
  unfold gPut at h
  split at h
  · obtain ⟨q, hq, rfl⟩ := List.mem_map.1 h
    by_cases e : q.1 = g
    · rw [if_pos e]; exact .inl rfl
    · rw [if_neg e]; exact .inr ⟨hq, e⟩
  · rename_i hn
    rcases List.mem_append.1 h with h | h
    · refine .inr ⟨h, fun e => hn ?_⟩
      rw [List.any_eq_true]
      exact ⟨p, h, by simpa using e⟩
    · exact .inl (List.mem_singleton.1 h)
theorem gGet_mem {D : List (ByteArray × Pls)} {g : ByteArray} {v : Pls} (h : gGet D g = some v) : (g, v) ∈ D := by
  unfold gGet at h
  rw [Option.map_eq_some_iff] at h
  obtain ⟨p, hp, rfl⟩ := h
  have h1 := List.find?_some hp
  have h2 := List.mem_of_find?_eq_some hp
  have h3 : p.1 = g := by simpa using h1
  rw [← h3]
  exact h2
def got (D : List (ByteArray × Pls)) (g : ByteArray) : List Nat := ((gGet D g).getD ⟨none, 0, []⟩).l
structure Plcs (h : Heap) (t0 mb : Nat) (D : List (ByteArray × Pls)) : Prop where
  m : ∃ o, h mb = some o ∧ MapG o Value.string plv D
  own : ∀ p ∈ D, Vc.Own h 3 p.2.a p.2.l.length p.2.c (Value.int .i64) (ints p.2.l) ∧ ∀ b, owner p.2.a = some b → t0 ≤ b
  ne : ∀ p ∈ D, ∀ q ∈ D, p.1 ≠ q.1 → ∀ b, owner p.2.a = some b → owner q.2.a ≠ some b
theorem grams_zero (s g : ByteArray) : grams s g 0 = [] := by simp [grams]
theorem grams_succ (s g : ByteArray) (i : Nat) : grams s g (i + 1) = grams s g i ++ (if i + 3 ≤ s.size ∧ gram s i = g then [i] else []) := by
  unfold grams
  rw [List.range_succ, List.filter_append]
  congr 1
  by_cases h : i + 3 ≤ s.size ∧ gram s i = g
  · rw [if_pos h, List.filter_cons_of_pos (by simpa using h)]; rfl
  · rw [if_neg h, List.filter_cons_of_neg (by simpa using h)]; rfl
theorem grams_le (s g : ByteArray) (i : Nat) : (grams s g i).length ≤ i := by
  unfold grams
  exact Nat.le_trans (List.length_filter_le _ _) (by simp)
theorem grams_lt {s g : ByteArray} {i k : Nat} (h : k ∈ grams s g i) : k < i := by
  have := (List.mem_filter.1 h).1
  exact List.mem_range.1 this
theorem got_put (D : List (ByteArray × Pls)) (g g' : ByteArray) (v : Pls) : got (gPut D g v) g' = if g' = g then v.l else got D g' := by
  unfold got
  rw [gGet_put]
  split <;> rfl
def tk (p : Nat × Nat) : List Value := [.int .i64 (p.1 : Nat), .int .i64 (p.2 : Nat)]
theorem tk_len (p : Nat × Nat) : (tk p).length = 2 := rfl
theorem app_tk {ty : TypeId} {h : Heap} {t : Nat} {a : Option Addr} {n c : Nat} {l l2 : List Value} {xa : Option Addr} {xc m : Nat}
    (ho : Vc.Own h 28 a (n * 2) (c * 2) id l) (hx : Sl h xa (m * 2) id l2) (hf : l2.all oneC = true) (hb : n + m ≤ 200000000) (hdm : Dom h t) {K : Value → Heap → Nat → Prop}
    (hK : ∀ a' c' h' t', Vc.Own h' 28 a' ((n + m) * 2) (c' * 2) id (l ++ l2) → t ≤ t' → Dom h' t' → (∀ k, k < t → owner a ≠ some k → h' k = h k) → (owner a' = owner a ∨ ∃ r, owner a' = some r ∧ t ≤ r) → K (.slice a' (n + m) c') h' t') :
    AppVC Try.prog #[23, 23] ty (.slice a n c) (.slice xa m xc) K h t :=
  app_vcW (E := 28) (inf := Try.types[28]) (z := .agg #[.int .i64 0, .int .i64 0]) (W := 2) Try.underlying23 Try.underlying23 rfl (by kernel_rfl) (by kernel_rfl) (by decide) (by kernel_rfl) rfl ho hx hf (by
    show (n + m) * 16 ≤ 2 ^ 40
    omega) (by omega) (by show 16 ≤ 1000; decide) hdm hK
theorem own_map {α : Type} {h : Heap} {E : TypeId} {a : Option Addr} {n c m : Nat} {f : α → Value} {l : List α} {o : Obj} {D : List (ByteArray × Pls)} (ho : Vc.Own h E a n c f l) (hm : h m = some o) (hmo : MapG o Value.string plv D) : owner a ≠ some m := fun e => by
  obtain ⟨cs, fr, hh⟩ := own_tag ho e
  obtain ⟨es, cl, rfl, _⟩ := hmo
  rw [hm] at hh
  cases hh
theorem Plcs.look {h : Heap} {t0 mb : Nat} {D : List (ByteArray × Pls)} (hP : Plcs h t0 mb D) (g : ByteArray) {q : Pls} (hq : (gGet D g).getD ⟨none, 0, []⟩ = q) :
    Vc.Own h 3 q.a q.l.length q.c (Value.int .i64) (ints q.l) ∧ (∀ b, owner q.a = some b → t0 ≤ b) ∧ ∀ p ∈ D, p.1 ≠ g → ∀ b, owner q.a = some b → owner p.2.a ≠ some b := by
  cases hg : gGet D g with
  | none =>
    rw [hg] at hq
    subst hq
    exact ⟨Own.nil _ _ _, (fun b hb => by cases hb), fun p _ _ b hb => by cases hb⟩
  | some v =>
    rw [hg] at hq
    replace hq : v = q := hq
    subst hq
    have hm := gGet_mem hg
    obtain ⟨h1, h2⟩ := hP.own _ hm
    exact ⟨h1, h2, fun p hp hne b hb => hP.ne _ hm p hp (fun e => hne e.symm) b hb⟩
theorem Plcs.put {h g2 : Heap} {t0 t1 mb : Nat} {D : List (ByteArray × Pls)} (hP : Plcs h t0 mb D) (hd1 : Dom h t1) {g : ByteArray} {q : Pls} (hq : (gGet D g).getD ⟨none, 0, []⟩ = q) {v : Pls} {o' : Obj} (ht : t0 ≤ t1)
    (ho : Vc.Own g2 3 v.a v.l.length v.c (Value.int .i64) (ints v.l)) (hk2 : ∀ k, k < t1 → owner q.a ≠ some k → g2 k = h k) (hown : owner v.a = owner q.a ∨ ∃ r, owner v.a = some r ∧ t1 ≤ r) (hm' : MapG o' Value.string plv (gPut D g v)) : Plcs (hset g2 mb o') t0 mb (gPut D g v) := by
  obtain ⟨oq, hwq, hneq⟩ := hP.look g hq
  obtain ⟨om, hom, hmo⟩ := hP.m
  have hgm : g2 mb = some om := by rw [hk2 mb (hd1 _ _ hom) (own_map oq hom hmo)]; exact hom
  have hfr : ∀ {a : Option Addr} {n c : Nat} {l : List Int}, Vc.Own g2 3 a n c (Value.int .i64) l → Vc.Own (hset g2 mb o') 3 a n c (Value.int .i64) l := fun o => Own.fr o fun b x hb hx => by
    rw [hset_ne _ _ (fun e => own_map o hgm hmo (by rw [hb, e]))]; exact hx
  have hlt : ∀ p ∈ D, ∀ b, owner p.2.a = some b → b < t1 := fun p hp b hb => by
    obtain ⟨cs, fr, hh⟩ := own_tag (hP.own p hp).1 hb
    exact hd1 _ _ hh
  have hvn : ∀ p ∈ D, p.1 ≠ g → ∀ b, owner v.a = some b → owner p.2.a ≠ some b := fun p hp hne b hb e => by
    rcases hown with h1 | ⟨r, h1, hr⟩
    · exact hneq p hp hne b (by rw [← h1]; exact hb) e
    · rw [hb] at h1; cases h1
      have := hlt p hp b e
      omega
  refine ⟨⟨o', hset_same _ _ _, hm'⟩, fun p hp => ?_, fun p hp r hr hne b hb e => ?_⟩
  · rcases gPut_mem hp with rfl | ⟨hpD, hpg⟩
    · refine ⟨hfr ho, fun b hb => ?_⟩
      rcases hown with h1 | ⟨r, h1, hr⟩
      · exact hwq b (by rw [← h1]; exact hb)
      · rw [hb] at h1; cases h1; omega
    · obtain ⟨o1, w1⟩ := hP.own p hpD
      exact ⟨hfr (Own.fr o1 fun b x hb hx => by rw [hk2 b (hd1 _ _ hx) (fun e => hneq p hpD hpg b e hb)]; exact hx), w1⟩
  · rcases gPut_mem hp with rfl | ⟨hpD, hpg⟩
    · rcases gPut_mem hr with rfl | ⟨hrD, hrg⟩
      · exact hne rfl
      · exact hvn r hrD hrg b hb e
    · rcases gPut_mem hr with rfl | ⟨hrD, hrg⟩
      · exact hvn p hpD hpg b e hb
      · exact hP.ne p hpD r hrD hne b hb e
theorem Plcs.sub {h h' : Heap} {t0 mb : Nat} {D : List (ByteArray × Pls)} (hP : Plcs h t0 mb D) (hs : Vc.Sub h h') : Plcs h' t0 mb D := by
  obtain ⟨⟨o, h1, h2⟩, h3, h4⟩ := hP
  exact ⟨⟨o, hs _ _ h1, h2⟩, fun p hp => ⟨Own.fr (h3 p hp).1 fun b x _ hx => hs b x hx, (h3 p hp).2⟩, h4⟩
theorem tokens_spec {h : Heap} {t : Nat} (s : ByteArray) {from_ to : Int} (hs : s.size ≤ 1000000) (hf : -2^63 ≤ from_ ∧ from_ < 2^63) (ht : -2^63 ≤ to ∧ to < 2^63) (hlo : from_ ≤ 32768 ∨ s.size < from_) :
    CallSpec Try.prog 15 #[.string s, .int .i64 from_, .int .i64 to] h t (fun v h' t' => ∃ a c, v = .slice a (tokensF s from_ to).length c ∧ Vc.Own h' 28 a ((tokensF s from_ to).length * 2) (c * 2) id ((tokensF s from_ to).flatMap tk) ∧ (∀ b, owner a = some b → t ≤ b) ∧ Vc.Sub h h' ∧ t ≤ t') := by
  refine Go.Vc.spec_of_vc (fn := Try.f15) Try.func15 rfl (by kernel_rfl) (by kernel_rfl) (Nat.le_of_ble_eq_true rfl) ?_
  intro hd
  conv => whnf
  refine br (fun h1 => ?_) (fun h1 => ?_)
  · conv => whnf
    unfold tokensF
    rw [if_pos (by omega)]
    exact ⟨none, 0, rfl, Own.nil _ _ _, (fun b hb => by cases hb), Sub.refl _, Nat.le_refl _⟩
  · conv => whnf
    refine br (fun h2 => ?_) (fun h2 => ?_)
    · conv => whnf
      unfold tokensF
      rw [if_pos (by omega)]
      exact ⟨none, 0, rfl, Own.nil _ _ _, (fun b hb => by cases hb), Sub.refl _, Nat.le_refl _⟩
    · conv => whnf
      refine br (fun h3 => ?_) (fun h3 => ?_)
      · conv => whnf
        unfold tokensF
        rw [if_pos (by omega)]
        exact ⟨none, 0, rfl, Own.nil _ _ _, (fun b hb => by cases hb), Sub.refl _, Nat.le_refl _⟩
      · conv => whnf
        repeat (first | (intro _ _; conv => whnf) | ((with_reducible apply Go.Vc.wr_i64); (focus exact And.intro (by omega) (by omega)); conv => whnf))
        rename_i mb hmb
        have htf : tokensF s from_ to = toks s from_.toNat to.toNat := by unfold tokensF; rw [if_neg (by omega)]
        rw [htf]
        obtain ⟨f, hfe⟩ := Int.eq_ofNat_of_zero_le (show 0 ≤ from_ by omega)
        obtain ⟨e, hee⟩ := Int.eq_ofNat_of_zero_le (show 0 ≤ to by omega)
        subst hfe
        subst hee
        rw [Int.toNat_natCast, Int.toNat_natCast]
        rw [show (if (0 : Int) < (f : Int) - 32768 then (f : Int) - 32768 else 0) = 0 by rw [if_neg (by omega)]]
        have hs0 := hd.sub_new hmb (.map #[] 0)
        refine loop_intro5 (fun (i seen : Nat) (O : List (Nat × Nat)) (a : Option Addr) (c : Nat) => [(0, .string s), (2, .int .i64 (e : Nat)), (7, .map (some mb)), (8, .int .i64 (seen : Nat)), (9, .slice a O.length c), (10, .int .i64 (i : Nat))])
          (fun i seen O a c h' t' => i ≤ e ∧ seen ≤ i ∧ O.length ≤ i ∧ O ++ toks s i e = toks s f e ∧ (∃ D, Plcs h' t mb D ∧ ∀ g, got D g = grams s g seen) ∧ Vc.Own h' 28 a (O.length * 2) (c * 2) id (O.flatMap tk) ∧ (∀ b, owner a = some b → t ≤ b) ∧ Vc.Sub h h' ∧ t ≤ t') (fun i _ _ _ _ => e - i) f 0 [] none 0 ⟨rfl, rfl, rfl, rfl, rfl, rfl, trivial⟩
          ⟨by omega, by omega, by simp, rfl, ⟨[], ⟨⟨_, hset_same _ _ _, mapg_new _ _⟩, (fun p hp => by cases hp), (fun p hp => by cases hp)⟩, fun g => by rw [grams_zero]; rfl⟩, Own.nil _ _ _, (fun b hb => by cases hb), hs0, by omega⟩ ?_
        rintro i seen O a c e1 g t1 hd1 ⟨hi, hsi, hOl, hO, ⟨D, hP, hgot⟩, ho, hw, hs1, ht1⟩
        conv => whnf
        refine br (fun hb => ?_) (fun hb => ?_)
        · conv => whnf
          refine loop_intro (fun seen : Nat => [(0, .string s), (2, .int .i64 (e : Nat)), (7, .map (some mb)), (8, .int .i64 (seen : Nat)), (9, .slice a O.length c), (10, .int .i64 (i : Nat))])
            (fun seen h' t' => seen ≤ i ∧ (∃ D, Plcs h' t mb D ∧ ∀ g, got D g = grams s g seen) ∧ Vc.Own h' 28 a (O.length * 2) (c * 2) id (O.flatMap tk) ∧ Vc.Sub h h' ∧ t ≤ t') (fun seen => i - seen) seen ⟨rfl, rfl, rfl, rfl, rfl, rfl, trivial⟩ ⟨hsi, ⟨D, hP, hgot⟩, ho, hs1, ht1⟩ ?_
          clear hP hgot ho hs1 ht1 hsi hd1
          rintro seen e2 g t1 hd1 ⟨hsi, ⟨D, hP, hgot⟩, ho, hs1, ht1⟩
          conv => whnf
          refine br (fun hb2 => ?_) (fun hb2 => ?_)
          · conv => whnf
            repeat (first | ((with_reducible apply Go.Vc.wr_i64); (focus exact And.intro (by omega) (by omega)); conv => whnf))
            refine br (fun hb3 => ?_) (fun hb3 => ?_)
            · obtain ⟨om, hom, hmo⟩ := hP.m
              obtain ⟨q, hq⟩ : ∃ q, (gGet D (gram s seen)).getD ⟨none, 0, []⟩ = q := ⟨_, rfl⟩
              obtain ⟨oq, hwq, hneq⟩ := hP.look (gram s seen) hq
              have hql : q.l = grams s (gram s seen) seen := by rw [← hgot]; unfold got; rw [hq]
              have hqle := grams_le s (gram s seen) seen
              rw [← hql] at hqle
              conv => whnf
              repeat (first | ((with_reducible refine And.intro (And.intro ?_ ?_) ?_); (focus omega); (focus omega); conv => whnf) | ((with_reducible apply Go.Vc.wr_i64); (focus exact And.intro (by omega) (by omega)); conv => whnf))
              refine look_gV (kv := Value.string) (k := gram s seen) (f := plv) (d := ⟨none, 0, []⟩) Try.underlying56 (keyOk_string Try.underlying9) (inf := Try.types[31]) (by kernel_rfl) (by kernel_rfl) hom hmo ?_
              rw [hq]
              conv => whnf
              repeat (first | (intro _ _; conv => whnf))
              rename_i r hr
              refine own_app1 (x := (seen : Int)) hd ht1 hs1 hwq hd1 hr oq (by omega) ?_
              intro a' c' g2 t2 ho' ht2 hd2 hs2 hw' hk2 hown2
              rw [show q.l.length + 1 = (q.l ++ [seen]).length by simp] at ho' ⊢
              rw [show ints q.l ++ [(seen : Int)] = ints (q.l ++ [seen]) by simp [ints]] at ho'
              have hgm : g2 mb = some om := by rw [hk2 mb (hd1 _ _ hom) (own_map oq hom hmo)]; exact hom
              have hoo : Vc.Own g2 28 a (O.length * 2) (c * 2) id (O.flatMap tk) := Own.fr ho fun b x hb hx => by
                rw [hk2 b (hd1 _ _ hx) (fun e => by
                  obtain ⟨_, _, h1⟩ := own_tag oq e
                  obtain ⟨_, _, h2⟩ := own_tag ho hb
                  rw [h1] at h2
                  cases h2)]
                exact hx
              conv => whnf
              refine mapup_g (kv := Value.string) (k := gram s seen) (v := ⟨a', c', q.l ++ [seen]⟩) (f := plv) Try.underlying56 (keyOk_string Try.underlying9) hgm hmo ?_
              intro o' hmo'
              conv => whnf
              repeat (first | ((with_reducible apply Go.Vc.wr_i64); (focus exact And.intro (by omega) (by omega)); conv => whnf))
              refine round_end (seen + 1) (by omega) ⟨rfl, rfl, rfl, rfl, rfl, rfl, trivial⟩ ⟨by omega, ⟨_, hP.put hd1 hq ht1 ho' hk2 hown2 hmo', fun g => ?_⟩, Own.fr hoo fun b x hb hx => by rw [hset_ne _ _ (fun e => own_map hoo hgm hmo (by rw [hb, e]))]; exact hx, fun b o hb => ?_, by omega⟩
              · rw [got_put, grams_succ]
                by_cases hg : g = gram s seen
                · rw [if_pos hg, if_pos ⟨by omega, hg.symm⟩, hg]
                  show q.l ++ [seen] = _
                  rw [hql]
                · rw [if_neg hg, if_neg (fun h => hg h.2.symm), List.append_nil]
                  exact hgot g
              · have := hd b o hb
                rw [hset_ne _ _ (by omega)]
                exact hs2 b o hb
            · conv => whnf
              repeat (first | ((with_reducible apply Go.Vc.wr_i64); (focus exact And.intro (by omega) (by omega)); conv => whnf))
              exact round_end (seen + 1) (by omega) ⟨rfl, rfl, rfl, rfl, rfl, rfl, trivial⟩ ⟨by omega, ⟨D, hP, fun g => by rw [grams_succ, if_neg (by omega), List.append_nil]; exact hgot g⟩, ho, hs1, ht1⟩
          · obtain rfl : seen = i := by omega
            rename_i hgot0
            conv => whnf
            repeat (first | ((with_reducible apply Go.Vc.strow); (focus ((repeat (first | with_reducible assumption | with_reducible exact Go.Vc.hset_same _ _ _ | with_reducible refine (Go.Vc.hset_ne _ _ (by omega)).trans ?_)); done)); (focus exact rfl); (focus exact rfl); (focus exact rfl); rintro _ rfl; conv => whnf) | (intro _ _; conv => whnf) | ((with_reducible apply Go.Vc.wr_i64); (focus exact And.intro (by omega) (by omega)); conv => whnf))
            rename_i rb hrb
            refine br (fun hb5 => ?_) (fun hb5 => ?_)
            · obtain ⟨om, hom, hmo⟩ := hP.m
              obtain ⟨q, hq⟩ : ∃ q, (gGet D (gram s seen)).getD ⟨none, 0, []⟩ = q := ⟨_, rfl⟩
              obtain ⟨oq, hwq, hneq⟩ := hP.look (gram s seen) hq
              have hql : q.l = grams s (gram s seen) seen := by rw [← hgot]; unfold got; rw [hq]
              have hqle := grams_le s (gram s seen) seen
              rw [← hql] at hqle
              have hbe : bestT s seen e = pickT s seen e 0 (1, 0) q.l.reverse := by unfold bestT; rw [if_pos (by omega), hql]
              have hmbt := hd1 _ _ hom
              have e1 : ∀ k, k < t1 → hset (hset g rb (.cells #[.int .i64 0, .int .i64 0] 28)) rb (.cells #[.int .i64 1, .int .i64 0] 28) k = g k := fun k hk => by rw [hset_ne _ _ (by omega), hset_ne _ _ (by omega)]
              have e2 : Vc.Sub g (hset (hset g rb (.cells #[.int .i64 0, .int .i64 0] 28)) rb (.cells #[.int .i64 1, .int .i64 0] 28)) := fun k o hk => (e1 k (hd1 _ _ hk)).trans hk
              conv => whnf
              repeat (first | ((with_reducible refine And.intro (And.intro ?_ ?_) ?_); (focus omega); (focus omega); conv => whnf) | ((with_reducible apply Go.Vc.wr_i64); (focus exact And.intro (by omega) (by omega)); conv => whnf))
              refine look_gV (kv := Value.string) (k := gram s seen) (f := plv) (d := ⟨none, 0, []⟩) Try.underlying56 (keyOk_string Try.underlying9) (inf := Try.types[31]) (by kernel_rfl) (by kernel_rfl) (e2 _ _ hom) hmo ?_
              rw [hq]
              conv => whnf
              refine (match_spec (P := q.l) (n := q.l.length) (c := q.c) (a := q.a) (oq.sl.sub e2) (by omega) (fun k hk => by rw [hql] at hk; exact grams_lt hk) (by omega) (by omega) (by omega)).mono ?_
              rintro _ g2 t2 hd2 ht2 ⟨rfl, hsm, _⟩
              have hb2 : g2 rb = some (.cells #[.int .i64 1, .int .i64 0] 28 (0, 0)) := hsm _ _ (hset_same _ _ _)
              rw [← hbe]
              have hbx := hset_same g2 rb (.cells #[.int .i64 ((bestT s seen e).1 : Nat), .int .i64 ((bestT s seen e).2 : Nat)] 28 (0, 0))
              have hsg : Vc.Sub g (hset g2 rb (.cells #[.int .i64 ((bestT s seen e).1 : Nat), .int .i64 ((bestT s seen e).2 : Nat)] 28 (0, 0))) := fun k o hk => by
                have := hd1 _ _ hk
                rw [hset_ne _ _ (by omega)]
                exact hsm _ _ (e2 _ _ hk)
              have hdx := hd2.set rb (.cells #[.int .i64 ((bestT s seen e).1 : Nat), .int .i64 ((bestT s seen e).2 : Nat)] 28 (0, 0)) t2 (Nat.le_refl _) (by omega)
              have htx : t1 ≤ t2 := by omega
              have hrx : rb < t2 := by omega
              conv => whnf
              refine strow hb2 rfl rfl rfl ?_
              rintro _ rfl
              have hPx := hP.sub hsg
              have hox := Own.fr ho fun b x _ hx => hsg b x hx
              have hsx := hs1.trans hsg
              rw [toks_step (by omega)] at hO
              have hble := bestT_le s (i := seen) (to := e) (by omega)
              have hbpo := bestT_pos s seen e
              conv => whnf
              refine ldrow hbx rfl ?_
              rintro _ rfl
              conv => whnf
              repeat (first | (intro _ _; conv => whnf))
              rename_i r hr
              have hdr := hdx.set r (.cells (tk (bestT s seen e)).toArray 28) (r + 1) (by omega) (by omega)
              have hsr := hdx.sub_new hr (.cells (tk (bestT s seen e)).toArray 28)
              refine app_tk (m := 1) (l2 := tk (bestT s seen e)) (Own.fr hox fun b x _ hx => hsr b x hx) (vl_sl (hset_same _ _ _) rfl) rfl (by omega) hdr ?_
              intro a' c' g3 t3 ho3 ht3 hd3 hk3 hown3
              have hk3' : ∀ k o, g k = some o → owner a ≠ some k → g3 k = some o := fun k o h1 h2 => by
                have := hd1 _ _ h1
                rw [hk3 k (by omega) h2, hset_ne _ _ (by omega)]
                exact hsg k o h1
              have hbx3 : g3 rb = some (.cells #[.int .i64 ((bestT s seen e).1 : Nat), .int .i64 ((bestT s seen e).2 : Nat)] 28 (0, 0)) := by
                rw [hk3 rb (by omega) (fun hc => by
                  obtain ⟨_, _, hh⟩ := own_tag ho hc
                  have := hd1 _ _ hh
                  omega), hset_ne _ _ (by omega)]
                exact hbx
              have hP3 : Plcs g3 t mb D := by
                obtain ⟨⟨o, hm, hmo⟩, h2, h3⟩ := hP
                refine ⟨⟨o, ?_, hmo⟩, fun p hp => ⟨Own.fr (h2 p hp).1 fun b x hb hx => ?_, (h2 p hp).2⟩, h3⟩
                · exact hk3' _ _ hm (own_map ho hm hmo)
                · exact hk3' _ _ hx (fun hc => by
                    obtain ⟨_, _, e1⟩ := own_tag ho hc
                    obtain ⟨_, _, e2⟩ := own_tag (h2 p hp).1 hb
                    rw [e1] at e2
                    cases e2)
              conv => whnf
              repeat (first | ((with_reducible apply Go.Vc.ld_i); (focus ((repeat (first | with_reducible assumption | with_reducible exact Go.Vc.hset_same _ _ _ | with_reducible refine (Go.Vc.hset_ne _ _ (by omega)).trans ?_)); done)); (focus exact rfl); conv => whnf) | ((with_reducible apply Go.Vc.wr_i64); (focus exact And.intro (by omega) (by omega)); conv => whnf))
              refine round_end5 (seen + (bestT s seen e).1) seen (O ++ [bestT s seen e]) a' c' (by omega) ⟨rfl, rfl, rfl, rfl, by rw [List.length_append]; rfl, rfl, trivial⟩
                ⟨hble, by omega, by rw [List.length_append, List.length_singleton]; omega, by rw [List.append_assoc, List.singleton_append]; exact hO, ⟨D, hP3, hgot⟩, by rw [List.length_append, List.flatMap_append, List.length_singleton, List.flatMap_singleton]; exact ho3, fun b hb => ?_, fun b o hb => ?_, by omega⟩
              · rcases hown3 with h1 | ⟨q, h1, hq⟩
                · exact hw b (by rw [← h1]; exact hb)
                · rw [h1] at hb; cases hb; omega
              · have := hd b o hb
                exact hk3' _ _ (hs1 b o hb) (fun hc => by have := hw b hc; omega)
            · have hbe : bestT s seen e = (1, 0) := by unfold bestT; rw [if_neg (by omega)]
              have e1 : ∀ k, k < t1 → hset (hset g rb (.cells #[.int .i64 0, .int .i64 0] 28)) rb (.cells #[.int .i64 1, .int .i64 0] 28) k = g k := fun k hk => by rw [hset_ne _ _ (by omega), hset_ne _ _ (by omega)]
              have hsg : Vc.Sub g (hset (hset g rb (.cells #[.int .i64 0, .int .i64 0] 28)) rb (.cells #[.int .i64 1, .int .i64 0] 28)) := fun k o hk => (e1 k (hd1 _ _ hk)).trans hk
              have hbx : hset (hset g rb (.cells #[.int .i64 0, .int .i64 0] 28)) rb (.cells #[.int .i64 1, .int .i64 0] 28) rb = some (.cells #[.int .i64 ((bestT s seen e).1 : Nat), .int .i64 ((bestT s seen e).2 : Nat)] 28 (0, 0)) := by rw [hbe]; exact hset_same _ _ _
              have hdx := (hd1.set rb (.cells #[.int .i64 0, .int .i64 0] 28) (rb + 1) (by omega) (by omega)).set rb (.cells #[.int .i64 1, .int .i64 0] 28) (rb + 1) (by omega) (by omega)
              have htx : t1 ≤ rb + 1 := by omega
              have hrx : rb < rb + 1 := by omega
              have hPx := hP.sub hsg
              have hox := Own.fr ho fun b x _ hx => hsg b x hx
              have hsx := hs1.trans hsg
              rw [toks_step (by omega)] at hO
              have hble := bestT_le s (i := seen) (to := e) (by omega)
              have hbpo := bestT_pos s seen e
              conv => whnf
              refine ldrow hbx rfl ?_
              rintro _ rfl
              conv => whnf
              repeat (first | (intro _ _; conv => whnf))
              rename_i r hr
              have hdr := hdx.set r (.cells (tk (bestT s seen e)).toArray 28) (r + 1) (by omega) (by omega)
              have hsr := hdx.sub_new hr (.cells (tk (bestT s seen e)).toArray 28)
              refine app_tk (m := 1) (l2 := tk (bestT s seen e)) (Own.fr hox fun b x _ hx => hsr b x hx) (vl_sl (hset_same _ _ _) rfl) rfl (by omega) hdr ?_
              intro a' c' g3 t3 ho3 ht3 hd3 hk3 hown3
              have hk3' : ∀ k o, g k = some o → owner a ≠ some k → g3 k = some o := fun k o h1 h2 => by
                have := hd1 _ _ h1
                rw [hk3 k (by omega) h2, hset_ne _ _ (by omega)]
                exact hsg k o h1
              have hbx3 : g3 rb = some (.cells #[.int .i64 ((bestT s seen e).1 : Nat), .int .i64 ((bestT s seen e).2 : Nat)] 28 (0, 0)) := by
                rw [hk3 rb (by omega) (fun hc => by
                  obtain ⟨_, _, hh⟩ := own_tag ho hc
                  have := hd1 _ _ hh
                  omega), hset_ne _ _ (by omega)]
                exact hbx
              have hP3 : Plcs g3 t mb D := by
                obtain ⟨⟨o, hm, hmo⟩, h2, h3⟩ := hP
                refine ⟨⟨o, ?_, hmo⟩, fun p hp => ⟨Own.fr (h2 p hp).1 fun b x hb hx => ?_, (h2 p hp).2⟩, h3⟩
                · exact hk3' _ _ hm (own_map ho hm hmo)
                · exact hk3' _ _ hx (fun hc => by
                    obtain ⟨_, _, e1⟩ := own_tag ho hc
                    obtain ⟨_, _, e2⟩ := own_tag (h2 p hp).1 hb
                    rw [e1] at e2
                    cases e2)
              conv => whnf
              repeat (first | ((with_reducible apply Go.Vc.ld_i); (focus ((repeat (first | with_reducible assumption | with_reducible exact Go.Vc.hset_same _ _ _ | with_reducible refine (Go.Vc.hset_ne _ _ (by omega)).trans ?_)); done)); (focus exact rfl); conv => whnf) | ((with_reducible apply Go.Vc.wr_i64); (focus exact And.intro (by omega) (by omega)); conv => whnf))
              refine round_end5 (seen + (bestT s seen e).1) seen (O ++ [bestT s seen e]) a' c' (by omega) ⟨rfl, rfl, rfl, rfl, by rw [List.length_append]; rfl, rfl, trivial⟩
                ⟨hble, by omega, by rw [List.length_append, List.length_singleton]; omega, by rw [List.append_assoc, List.singleton_append]; exact hO, ⟨D, hP3, hgot⟩, by rw [List.length_append, List.flatMap_append, List.length_singleton, List.flatMap_singleton]; exact ho3, fun b hb => ?_, fun b o hb => ?_, by omega⟩
              · rcases hown3 with h1 | ⟨q, h1, hq⟩
                · exact hw b (by rw [← h1]; exact hb)
                · rw [h1] at hb; cases hb; omega
              · have := hd b o hb
                exact hk3' _ _ (hs1 b o hb) (fun hc => by have := hw b hc; omega)
        · conv => whnf
          rw [toks_end (by omega), List.append_nil] at hO
          rw [← hO]
          exact ⟨a, c, rfl, ho, hw, hs1, ht1⟩
end Go.Proofs.Ytikpfffhcjlcjaa
