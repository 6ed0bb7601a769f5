/- Leaf, Node, Root. -/
import Derived.Test.YtmlcdkckedjdjaaMerkle1
namespace Go.Proofs.Ytmlcdkckedjdjaa
open Go Go.Vc Go.Sha Go.Mk
set_option maxRecDepth 10000
set_option linter.unusedVariables false

def ndB (a b : ByteArray) : ByteArray := shaB (⟨#[1]⟩ ++ a ++ b)
def lfB (s : ByteArray) : ByteArray := shaB (⟨#[0]⟩ ++ s)
def emB : ByteArray := shaB ByteArray.empty
theorem ndB_size (a b : ByteArray) : (ndB a b).size = 32 := shaB_size _
theorem lfB_size (a : ByteArray) : (lfB a).size = 32 := shaB_size _
theorem emB_size : emB.size = 32 := shaB_size _
theorem one_size (x : UInt8) : (⟨#[x]⟩ : ByteArray).size = 1 := rfl
theorem node_spec (a b : ByteArray) (ha : a.size ≤ 274877906944) (hb : b.size ≤ 274877906944) (h : Heap) (t : Nat) : CallSpec Try.prog 15 #[.string a, .string b] h t (fun v h' t' => v = .string (ndB a b) ∧ Sub h h') := by
  refine Go.Vc.spec_of_vc (fn := Try.f15) Try.func15 rfl (by kernel_rfl) (by kernel_rfl) (Nat.le_of_ble_eq_true rfl) ?_
  intro hd
  have h1 := one_size 1
  conv => whnf
  repeat (first | ((with_reducible apply Go.Vc.and_leN); (focus (first | omega | (simp only [ByteArray.size, List.size_toArray, List.length_cons, List.length_nil] at *; omega))); conv => whnf))
  refine ⟨by rw [ByteArray.size_append]; omega, ?_⟩
  conv => whnf
  refine (one_spec (⟨#[1]⟩ ++ a ++ b) (by rw [ByteArray.size_append, ByteArray.size_append]; omega) _ _).mono ?_
  rintro _ h2 t2 hd2 ht2 ⟨rfl, hs2⟩
  conv => whnf
  exact ⟨rfl, hs2⟩
theorem refnode_spec (a b : ByteArray) (ha : a.size ≤ 274877906944) (hb : b.size ≤ 274877906944) (h : Heap) (t : Nat) : CallSpec Try.prog 23 #[.string a, .string b] h t (fun v h' t' => v = .string (ndB a b) ∧ Sub h h') := by
  refine Go.Vc.spec_of_vc (fn := Try.f23) Try.func23 rfl (by kernel_rfl) (by kernel_rfl) (Nat.le_of_ble_eq_true rfl) ?_
  intro hd
  have h1 := one_size 1
  conv => whnf
  repeat (first | ((with_reducible apply Go.Vc.and_leN); (focus (first | omega | (simp only [ByteArray.size, List.size_toArray, List.length_cons, List.length_nil] at *; omega))); conv => whnf))
  refine ⟨by rw [ByteArray.size_append]; omega, ?_⟩
  conv => whnf
  refine (refOne_spec (⟨#[1]⟩ ++ a ++ b) (by rw [ByteArray.size_append, ByteArray.size_append]; omega) _ _).mono ?_
  rintro _ h2 t2 hd2 ht2 ⟨rfl, hs2⟩
  conv => whnf
  exact ⟨rfl, hs2⟩
theorem leaf_spec (a : ByteArray) (ha : a.size ≤ 274877906944) (h : Heap) (t : Nat) : CallSpec Try.prog 21 #[.string a] h t (fun v h' t' => v = .string (lfB a) ∧ Sub h h') := by
  refine Go.Vc.spec_of_vc (fn := Try.f21) Try.func21 rfl (by kernel_rfl) (by kernel_rfl) (Nat.le_of_ble_eq_true rfl) ?_
  intro hd
  have h1 := one_size 0
  conv => whnf
  repeat (first | ((with_reducible apply Go.Vc.and_leN); (focus (first | omega | (simp only [ByteArray.size, List.size_toArray, List.length_cons, List.length_nil] at *; omega))); conv => whnf))
  refine (one_spec (⟨#[0]⟩ ++ a) (by rw [ByteArray.size_append]; omega) _ _).mono ?_
  rintro _ h2 t2 hd2 ht2 ⟨rfl, hs2⟩
  conv => whnf
  exact ⟨rfl, hs2⟩
theorem refleaf_spec (a : ByteArray) (ha : a.size ≤ 274877906944) (h : Heap) (t : Nat) : CallSpec Try.prog 22 #[.string a] h t (fun v h' t' => v = .string (lfB a) ∧ Sub h h') := by
  refine Go.Vc.spec_of_vc (fn := Try.f22) Try.func22 rfl (by kernel_rfl) (by kernel_rfl) (Nat.le_of_ble_eq_true rfl) ?_
  intro hd
  have h1 := one_size 0
  conv => whnf
  repeat (first | ((with_reducible apply Go.Vc.and_leN); (focus (first | omega | (simp only [ByteArray.size, List.size_toArray, List.length_cons, List.length_nil] at *; omega))); conv => whnf))
  refine (refOne_spec (⟨#[0]⟩ ++ a) (by rw [ByteArray.size_append]; omega) _ _).mono ?_
  rintro _ h2 t2 hd2 ht2 ⟨rfl, hs2⟩
  conv => whnf
  exact ⟨rfl, hs2⟩

def trF (p : Nat × ByteArray) : Value := .int .i64 (p.1 : Nat)
def trG (p : Nat × ByteArray) : Value := .string p.2
abbrev tr : Nat × ByteArray → List Value := two trF trG

theorem app_tree {h : Heap} {t : Nat} {a xa : Option Addr} {n c xc : Nat} {w : List (Nat × ByteArray)} {p : Nat × ByteArray} {ty : TypeId} (ho : Own h 45 a (n * 2) (c * 2) id (w.flatMap tr)) (hx : Sl h xa (1 * 2) id [Value.int .i64 (p.1 : Nat), .string p.2]) (hb : n ≤ 1000000) (hd : Dom h t) {K : Value → Heap → Nat → Prop}
    (hK : ∀ a' c' h' t', Own h' 45 a' ((n + 1) * 2) (c' * 2) id ((w ++ [p]).flatMap tr) → t ≤ t' → Dom h' t' → (∀ k, k < t → owner a ≠ some k → h' k = h k) → (owner a' = owner a ∨ ∃ r, owner a' = some r ∧ t ≤ r) → K (.slice a' (n + 1) c') h' t') :
    AppVC Try.prog #[43, 43] ty (.slice a n c) (.slice xa 1 xc) K h t := by
  refine app_vcW (W := 2) Try.underlying43 Try.underlying43 rfl (inf := Try.types[45]) (z := .agg #[.int .i64 0, .string ByteArray.empty]) (by kernel_rfl) (by kernel_rfl) (by decide) (by kernel_rfl) rfl ho hx rfl (by show (n + 1) * 24 ≤ _; omega) (by omega) (by show 24 ≤ 1000; omega) hd ?_
  intro a' c' h' t' ho'
  refine hK a' c' h' t' ?_
  rw [List.flatMap_append]
  exact ho'
theorem join_spec {h : Heap} {t r k : Nat} {a : Option Addr} {c : Nat} {w : List (Nat × ByteArray)} {p q : Nat × ByteArray} (hr : h r = some (.cells #[.slice a (k + 2) c] 43 (0, 0)))
    (ho : Own h 45 a ((k + 2) * 2) (c * 2) id ((w ++ [p, q]).flatMap tr)) (hk : w.length = k) (hne : owner a ≠ some r) (hk2 : k ≤ 1000000) (hp : p.1 + q.1 ≤ 1000000) (hps : p.2.size ≤ 274877906944) (hqs : q.2.size ≤ 274877906944) :
    CallSpec Try.prog 30 #[.pointer (some ⟨r, 0, none⟩)] h t (fun v h' t' => v = .tuple #[] ∧ ∃ a' c', h' r = some (.cells #[.slice a' (k + 1) c'] 43 (0, 0)) ∧
      Own h' 45 a' ((k + 1) * 2) (c' * 2) id ((w ++ [(p.1 + q.1, ndB p.2 q.2)]).flatMap tr) ∧ (owner a' = owner a ∨ ∃ b, owner a' = some b ∧ t ≤ b) ∧ ∀ b o, b ≠ r → owner a ≠ some b → h b = some o → h' b = some o) := by
  refine Go.Vc.spec_of_vc (fn := Try.f30) Try.func30 rfl (by kernel_rfl) (by kernel_rfl) (Nat.le_of_ble_eq_true rfl) ?_
  intro hd
  have hcap := ho.cap
  have hsl : Sl h a ((k + 2) * 2) id ((w ++ [p, q]).flatMap (two trF trG)) := ho.sl
  have g0 : ∀ y, (w ++ [p, q])[(((k + 2 : Nat) : Int) - 2).toNat]? = some y → p = y := by
    intro y hy
    rw [show (((k + 2 : Nat) : Int) - 2).toNat = w.length by omega] at hy
    simpa using hy
  have g1 : ∀ y, (w ++ [p, q])[(((k + 2 : Nat) : Int) - 2 + 1).toNat]? = some y → q = y := by
    intro y hy
    rw [show (((k + 2 : Nat) : Int) - 2 + 1).toNat = w.length + 1 by omega] at hy
    simpa using hy
  conv => whnf
  repeat (first | ((with_reducible apply Go.Vc.ld_i); (focus ((repeat (first | with_reducible assumption | with_reducible exact Go.Vc.hset_same _ _ _ | with_reducible refine (Go.Vc.hset_ne _ _ (by omega)).trans ?_)); done)); (focus exact rfl); conv => whnf) | ((with_reducible apply Go.Vc.wr_i64); (focus exact And.intro (by omega) (by omega)); conv => whnf))
  refine Go.Vc.draw_intro [⟨0, false, true, false, 0⟩, ⟨1, false, true, false, 0⟩, ⟨2, false, true, false, 3⟩, ⟨3, false, true, false, 0⟩, ⟨4, false, true, false, 0⟩, ⟨5, false, true, false, 24⟩, ⟨6, false, true, false, 56⟩, ⟨7, false, true, false, 120⟩, ⟨8, false, true, false, 0⟩, ⟨9, false, true, false, 0⟩, ⟨10, false, true, false, 512⟩, ⟨11, false, true, false, 1792⟩, ⟨12, false, true, false, 3840⟩, ⟨13, false, true, false, 7936⟩, ⟨14, false, true, false, 16376⟩, ⟨15, false, false, false, 0⟩, ⟨16, false, false, false, 0⟩, ⟨17, false, false, false, 98304⟩, ⟨18, false, false, false, 229376⟩, ⟨19, false, false, false, 491520⟩, ⟨20, false, false, false, 0⟩, ⟨21, false, false, false, 0⟩, ⟨22, false, false, false, 2097152⟩, ⟨23, false, false, false, 7340032⟩, ⟨24, false, false, false, 15728640⟩, ⟨25, false, false, false, 32505856⟩, ⟨26, true, false, true, 67076096⟩, ⟨27, false, false, false, 134217720⟩, ⟨28, true, false, true, 268435448⟩, ⟨29, true, false, false, 536870911⟩, ⟨30, true, false, false, 1073741823⟩] (hs := h) (hsub := (Sub.refl _)) (hm := by kernel_rfl) (hpl := by kernel_rfl) ?_
  conv => whnf
  conv => whnf
  repeat (first | ((with_reducible apply Go.Vc.sl2_ix); (focus with_reducible assumption); (focus exact And.intro (by omega) (by omega)); intro xI bI offI hxI hcI hcJ; conv => whnf) | ((with_reducible refine And.intro (And.intro ?_ ?_) ?_); (focus omega); (focus omega); conv => whnf) | ((with_reducible apply Go.Vc.ld_i); (focus ((repeat (first | with_reducible assumption | with_reducible exact Go.Vc.hset_same _ _ _ | with_reducible refine (Go.Vc.hset_ne _ _ (by omega)).trans ?_)); done)); (focus exact rfl); conv => whnf) | ((with_reducible apply Go.Vc.cell_i); (focus assumption); conv => whnf) | ((with_reducible apply Go.Vc.wr_i64); (focus exact And.intro (by omega) (by omega)); conv => whnf))
  have e := g1 _ hxI
  clear hxI
  subst e
  have e := g0 _ hxI
  clear hxI
  subst e
  conv => whnf
  repeat (first | ((with_reducible apply Go.Vc.sl2_ix); (focus with_reducible assumption); (focus exact And.intro (by omega) (by omega)); intro xI bI offI hxI hcI hcJ; conv => whnf) | ((with_reducible apply Go.Vc.ld_i); (focus ((repeat (first | with_reducible assumption | with_reducible exact Go.Vc.hset_same _ _ _ | with_reducible refine (Go.Vc.hset_ne _ _ (by omega)).trans ?_)); done)); (focus exact rfl); conv => whnf) | ((with_reducible apply Go.Vc.cell_i); (focus assumption); conv => whnf) | ((with_reducible apply Go.Vc.wr_i64); (focus exact And.intro (by omega) (by omega)); conv => whnf))
  have e := g1 _ hxI
  clear hxI
  subst e
  have e := g0 _ hxI
  clear hxI
  subst e
  conv => whnf
  refine (node_spec p.2 q.2 hps hqs _ _).mono ?_
  rintro _ h1 t1 hd1 ht1 ⟨rfl, hs1⟩
  conv => whnf
  refine ⟨hs1, ?_⟩
  conv => whnf
  repeat (first | (intro _ _; conv => whnf))
  rename_i r2 hr2
  have hs2 := hd1.sub_new hr2 (.cells #[.int .i64 ((p.1 : Int) + (q.1 : Int)), .string (ndB p.2 q.2)] 45)
  refine ⟨hs1.trans hs2, ?_⟩
  conv => whnf
  have ek : (((k + 2 : Nat) : Int) - 2).toNat = k := by omega
  rw [ek]
  have ho2 : Own h 45 a (k * 2) (c * 2) id (w.flatMap tr) := by
    have := ho.take (m := k * 2) (by omega)
    rw [List.flatMap_append, List.take_left' (by rw [two_len, hk])] at this
    exact this
  have hd2 := hd1.set r2 (.cells #[.int .i64 ((p.1 : Int) + (q.1 : Int)), .string (ndB p.2 q.2)] 45) (r2 + 1) (by omega) (by omega)
  refine app_tree (w := w) (p := (p.1 + q.1, ndB p.2 q.2)) (ho2.fr (fun b o _ ho => (hs1.trans hs2) b o ho)) (vl_sl (L := [Value.int .i64 (((p.1 + q.1 : Nat)) : Int), .string (ndB p.2 q.2)]) (hset_same _ _ _) rfl) hk2 hd2 ?_
  intro a3 c3 h3 t3 ho3 ht3 hd3 hk3 how3
  have hrt := hd r _ hr
  have hr3 : h3 r = some (.cells #[.slice a (k + 2) c] 43 (0, 0)) := by
    rw [hk3 r (by omega) hne, hset_ne _ _ (by omega)]
    exact hs1 r _ hr
  have hne3 : owner a3 ≠ some r := by
    rcases how3 with e | ⟨b, e, hb⟩
    · rw [e]; exact hne
    · rw [e]; intro e2; cases e2; omega
  conv => whnf
  repeat (first | ((with_reducible apply Go.Vc.st_i); (focus ((repeat (first | with_reducible assumption | with_reducible exact Go.Vc.hset_same _ _ _ | with_reducible refine (Go.Vc.hset_ne _ _ (by omega)).trans ?_)); done)); (focus exact rfl); (focus exact rfl); (focus exact rfl); (conv => whnf); intro cA hcA; (first | (simp only [List.setIfInBounds_toArray, List.set_cons_succ, List.set_cons_zero] at hcA; subst hcA) | subst hcA); conv => whnf))
  refine ⟨rfl, a3, c3, hset_same _ _ _, ?_, ?_, ?_⟩
  · refine ho3.fr (fun b o hb ho => ?_)
    rw [hset_ne _ _ (fun e => hne3 (by rw [hb, e]))]
    exact ho
  · rcases how3 with e | ⟨b, e, hb⟩
    · exact .inl e
    · exact .inr ⟨b, e, by omega⟩
  · intro b o hb ha hbo
    have hbt := hd b o hbo
    rw [hset_ne _ _ hb, hk3 b (by omega) ha, hset_ne _ _ (by omega)]
    exact hs1 b o hbo
theorem nd_le (M : Nat) (hM : 32 ≤ M) (a b : ByteArray) : (ndB a b).size ≤ M := by rw [ndB_size]; exact hM
/-- The stack in the heap. -/
def Stack (h : Heap) (r k : Nat) (a : Option Addr) (c : Nat) (w : List (Nat × ByteArray)) : Prop :=
  h r = some (.cells #[.slice a k c] 43 (0, 0)) ∧ Own h 45 a (k * 2) (c * 2) id (w.flatMap tr) ∧ w.length = k ∧ (∀ b, owner a = some b → r < b)
theorem Stack.fr {h h' : Heap} {r k : Nat} {a : Option Addr} {c : Nat} {w : List (Nat × ByteArray)} (s : Stack h r k a c w) (hs : Sub h h') : Stack h' r k a c w :=
  ⟨hs _ _ s.1, s.2.1.fr (fun b o _ ho => hs b o ho), s.2.2.1, s.2.2.2⟩

theorem root_spec {h : Heap} {t : Nat} {a : Option Addr} {n c : Nat} {l : List ByteArray} (s : Sl h a n Value.string l) (hn : n ≤ 65536) (hx : ∀ x ∈ l, x.size ≤ 274877906944) :
    CallSpec Try.prog 12 #[.slice a n c] h t (fun v h' t' => v = .string (rt ndB emB l) ∧ Sub h h') := by
  have hM := nd_le 274877906944 (by decide)
  have hE : emB.size ≤ 274877906944 := by rw [emB_size]; decide
  have hll := s.1
  refine Go.Vc.spec_of_vc (fn := Try.f12) Try.func12 rfl (by kernel_rfl) (by kernel_rfl) (Nat.le_of_ble_eq_true rfl) ?_
  intro hd
  conv => whnf
  refine br (fun hb1 => ?_) (fun hb1 => ?_)
  · have : l = [] := List.length_eq_zero_iff.1 (by omega)
    subst this
    conv => whnf
    refine (one_spec ByteArray.empty (by decide) _ _).mono ?_
    rintro _ h2 t2 hd2 ht2 ⟨rfl, hs2⟩
    conv => whnf
    exact ⟨by rw [rt_nil]; rfl, hs2⟩
  · conv => whnf
    repeat (first | (intro _ _; conv => whnf))
    rename_i r hr
    have hd1 := hd.set r (.cells #[.slice none 0 0] 43) (r + 1) (by omega) (by omega)
    have hs1 := hd.sub_new hr (.cells #[.slice none 0 0] 43)
    refine loop_intro5 (fun (i k : Nat) (a1 : Option Addr) (c1 : Nat) (w : List (Nat × ByteArray)) => [(3, .pointer (some ⟨r, 0, none⟩)), (4, .func (.func 30) #[] #[.pointer (some ⟨r, 0, none⟩)]), (13, .slice a n c), (14, .int .i64 (n : Nat)), (15, .int .i64 (i : Nat))])
      (fun i k a1 c1 w h' t' => r + 1 ≤ t' ∧ i ≤ n ∧ k ≤ i ∧ Stack h' r k a1 c1 w ∧ StS ndB emB w (l.take i) ∧ Sub h h') (fun i _ _ _ _ => n - i) 0 0 none 0 [] ⟨rfl, rfl, rfl, rfl, rfl, trivial⟩
      ⟨by omega, by omega, by omega, ⟨hset_same _ _ _, Own.nil _ _ _, rfl, fun b hb => by cases hb⟩, StS.nil ndB emB, hs1⟩ ?_
    rintro i k a1 c1 w g h2 t2 hd2 ⟨ht2, hi, hki, ⟨hr2, ho2, hk2, hne2⟩, hS2, hs2⟩
    have s2 := s.sub hs2
    conv => whnf
    refine br (fun hb2 => ?_) (fun hb2 => ?_)
    · have hi2 : i < n := by omega
      conv => whnf
      repeat (first | ((with_reducible apply Go.Vc.sl_ix); (focus with_reducible assumption); (focus exact And.intro (by omega) (by omega)); intro xI bI offI hxI hcI; conv => whnf) | ((with_reducible apply Go.Vc.ld_i); (focus ((repeat (first | with_reducible assumption | with_reducible exact Go.Vc.hset_same _ _ _ | with_reducible refine (Go.Vc.hset_ne _ _ (by omega)).trans ?_)); done)); (focus exact rfl); conv => whnf) | ((with_reducible apply Go.Vc.cell_i); (focus assumption); conv => whnf) | (intro _ _; conv => whnf))
      rename_i r2 hr3
      have hs3 := hd2.sub_new hr3 (.cells #[.int .i64 1, .string xI] 45)
      have hd3 := hd2.set r2 (.cells #[.int .i64 1, .string xI] 45) (r2 + 1) (by omega) (by omega)
      refine app_tree (w := w) (p := (1, xI)) (ho2.fr (fun b o _ ho => hs3 b o ho)) (vl_sl (L := [Value.int .i64 ((1 : Nat) : Int), .string xI]) (hset_same _ _ _) rfl) (by omega) hd3 ?_
      intro a4 c4 h4 t4 ho4 ht4 hd4 hk4 how4
      have hrt := hd2 r _ hr2
      have hne3 : owner a1 ≠ some r := fun e => by have := hne2 r e; omega
      have hr4 : h4 r = some (.cells #[.slice a1 k c1] 43 (0, 0)) := by
        rw [hk4 r (by omega) hne3]
        exact hs3 r _ hr2
      have hne4 : ∀ b, owner a4 = some b → r < b := by
        intro b hb
        rcases how4 with e | ⟨b', e, hb'⟩
        · exact hne2 b (by rw [← e]; exact hb)
        · rw [e] at hb; cases hb; omega
      have hs4 : ∀ o, Sub h (hset h4 r o) := by
        intro o b x hb
        have hbt := hd b x hb
        rw [hset_ne _ _ (by omega), hk4 b (by have := hd2 b x (hs2 b x hb); omega) (fun e => by have := hne2 b e; omega)]
        exact hs3 b x (hs2 b x hb)
      have hT : l.take (i + 1) = l.take i ++ [xI] := by
        rw [Int.toNat_natCast] at hxI
        rw [List.take_add_one, hxI]; rfl
      have hC := hS2.push ndB emB xI
      rw [← hT] at hC
      conv => whnf
      repeat (first | ((with_reducible apply Go.Vc.ld_i); (focus ((repeat (first | with_reducible assumption | with_reducible exact Go.Vc.hset_same _ _ _ | with_reducible refine (Go.Vc.hset_ne _ _ (by omega)).trans ?_)); done)); (focus exact rfl); conv => whnf) | ((with_reducible apply Go.Vc.st_i); (focus ((repeat (first | with_reducible assumption | with_reducible exact Go.Vc.hset_same _ _ _ | with_reducible refine (Go.Vc.hset_ne _ _ (by omega)).trans ?_)); done)); (focus exact rfl); (focus exact rfl); (focus exact rfl); (conv => whnf); intro cA hcA; (first | (simp only [List.setIfInBounds_toArray, List.set_cons_succ, List.set_cons_zero] at hcA; subst hcA) | subst hcA); conv => whnf))
      refine loop_intro4 (fun (k : Nat) (a5 : Option Addr) (c5 : Nat) (w5 : List (Nat × ByteArray)) => [(3, .pointer (some ⟨r, 0, none⟩)), (4, .func (.func 30) #[] #[.pointer (some ⟨r, 0, none⟩)]), (13, .slice a n c), (14, .int .i64 (n : Nat)), (15, .int .i64 (i : Nat)), (7, .int .i64 (k : Nat))])
        (fun k a5 c5 w5 h' t' => r + 1 ≤ t' ∧ k ≤ i + 1 ∧ Stack h' r k a5 c5 w5 ∧ StC ndB emB w5 (l.take (i + 1)) ∧ Sub h h') (fun k _ _ _ => k) (k + 1) a4 c4 (w ++ [(1, xI)]) ⟨rfl, rfl, rfl, rfl, rfl, rfl, trivial⟩
        ⟨by omega, by omega, ⟨hset_same _ _ _, ho4.fr (fun b o hb ho => by rw [hset_ne _ _ (by have := hne4 b hb; omega)]; exact ho), by simp [hk2], hne4⟩, hC, hs4 _⟩ ?_
      rintro k5 a5 c5 w5 g5 h5 t5 hd5 ⟨ht5, hk5, ⟨hr5, ho5, hkw5, hne5⟩, hC5, hs5⟩
      have hsl5 : Sl h5 a5 (k5 * 2) id (w5.flatMap (two trF trG)) := ho5.sl
      refine Go.Vc.draw_intro [⟨0, false, false, false, 0⟩, ⟨1, false, false, false, 1⟩, ⟨2, false, false, false, 3⟩, ⟨3, false, false, false, 7⟩, ⟨4, false, false, false, 7⟩, ⟨5, false, false, false, 23⟩, ⟨6, false, false, false, 63⟩, ⟨7, false, false, false, 127⟩, ⟨8, false, false, false, 255⟩, ⟨9, false, false, false, 7⟩, ⟨10, false, false, false, 7⟩, ⟨11, false, false, false, 1031⟩, ⟨12, false, false, false, 3591⟩, ⟨13, false, false, false, 7687⟩, ⟨14, false, false, false, 15879⟩, ⟨15, false, false, false, 32767⟩, ⟨16, false, false, false, 65535⟩] (hs := h5) (hsub := (Sub.refl _)) (hm := by kernel_rfl) (hpl := by kernel_rfl) ?_
      conv => whnf
      conv => whnf
      refine br (fun hb3 => ?_) (fun hb3 => ?_)
      · obtain ⟨k0, rfl⟩ : ∃ k0, k5 = k0 + 2 := ⟨k5 - 2, by omega⟩
        obtain ⟨v, p, q, rfl, hv⟩ := two_of hkw5
        have g0 : ∀ y, (v ++ [p, q])[(((k0 + 2 : Nat) : Int) - 2).toNat]? = some y → p = y := by
          intro y hy
          rw [show (((k0 + 2 : Nat) : Int) - 2).toNat = v.length by omega] at hy
          simpa using hy
        have g1 : ∀ y, (v ++ [p, q])[(((k0 + 2 : Nat) : Int) - 1).toNat]? = some y → q = y := by
          intro y hy
          rw [show (((k0 + 2 : Nat) : Int) - 1).toNat = v.length + 1 by omega] at hy
          simpa using hy
        conv => whnf
        repeat (first | ((with_reducible apply Go.Vc.sl2_ix); (focus with_reducible assumption); (focus exact And.intro (by omega) (by omega)); intro xI bI offI hxI hcI hcJ; conv => whnf) | ((with_reducible apply Go.Vc.ld_i); (focus ((repeat (first | with_reducible assumption | with_reducible exact Go.Vc.hset_same _ _ _ | with_reducible refine (Go.Vc.hset_ne _ _ (by omega)).trans ?_)); done)); (focus exact rfl); conv => whnf) | ((with_reducible apply Go.Vc.cell_i); (focus assumption); conv => whnf) | ((with_reducible apply Go.Vc.wr_i64); (focus exact And.intro (by omega) (by omega)); conv => whnf))
        have e := g0 _ hxI
        clear hxI
        subst e
        have e := g1 _ hxI
        clear hxI
        subst e
        conv => whnf
        obtain ⟨pa, px⟩ := p
        obtain ⟨qa, qx⟩ := q
        have hln : (l.take (i + 1)).length ≤ n := by rw [List.length_take]; omega
        have hbp := hC5.bd ndB emB (p := (pa, px)) (by simp) hM hE (fun x hx' => hx x (List.mem_of_mem_take hx'))
        have hbq := hC5.bd ndB emB (p := (qa, qx)) (by simp) hM hE (fun x hx' => hx x (List.mem_of_mem_take hx'))
        have hbp1 : pa ≤ (l.take (i + 1)).length := hbp.1
        have hbq1 : qa ≤ (l.take (i + 1)).length := hbq.1
        refine br (fun hb4 => ?_) (fun hb4 => ?_)
        · have hb5 : qa = pa := Int.ofNat.inj hb4
          subst hb5
          conv => whnf
          refine (join_spec hr5 ho5 hv (fun e => by have := hne5 r e; omega) (by omega) (by show qa + qa ≤ 1000000; omega) hbp.2 hbq.2).mono ?_
          rintro _ h6 t6 hd6 ht6 ⟨rfl, a6, c6, hr6, ho6, how6, hk6⟩
          conv => whnf
          repeat (first | ((with_reducible apply Go.Vc.ld_i); (focus ((repeat (first | with_reducible assumption | with_reducible exact Go.Vc.hset_same _ _ _ | with_reducible refine (Go.Vc.hset_ne _ _ (by omega)).trans ?_)); done)); (focus exact rfl); conv => whnf))
          refine round_end4 (k0 + 1) a6 c6 (v ++ [(qa + qa, ndB px qx)]) (by omega) ⟨rfl, rfl, rfl, rfl, rfl, rfl, trivial⟩ ⟨by omega, by omega, ⟨hr6, ho6, by simp [hv], ?_⟩, hC5.join ndB emB, ?_⟩
          · intro b hb
            rcases how6 with e | ⟨b', e, hb'⟩
            · exact hne5 b (by rw [← e]; exact hb)
            · rw [e] at hb; cases hb; omega
          · intro b o hb
            have hbt := hd b o hb
            exact hk6 b o (by omega) (fun e => by have := hne5 b e; omega) (hs5 b o hb)
        · conv => whnf
          repeat (first | ((with_reducible apply Go.Vc.wr_i64); (focus exact And.intro (by omega) (by omega)); conv => whnf))
          refine round_end5 (i + 1) (k0 + 2) a5 c5 (v ++ [(pa, px), (qa, qx)]) (by omega) ⟨rfl, rfl, rfl, rfl, rfl, trivial⟩ ⟨by omega, by omega, by omega, ⟨hr5, ho5, hkw5, hne5⟩, hC5.done ndB emB ?_, hs5⟩
          intro v' p' q' e
          have := List.append_inj_right' e rfl
          cases this
          intro e2
          exact hb4 (by rw [show pa = qa from e2])
      · conv => whnf
        repeat (first | ((with_reducible apply Go.Vc.wr_i64); (focus exact And.intro (by omega) (by omega)); conv => whnf))
        refine round_end5 (i + 1) k5 a5 c5 w5 (by omega) ⟨rfl, rfl, rfl, rfl, rfl, trivial⟩ ⟨by omega, by omega, by omega, ⟨hr5, ho5, hkw5, hne5⟩, hC5.done ndB emB ?_, hs5⟩
        intro v' p' q' e
        have := congrArg List.length e
        simp at this
        omega
    · have hi2 : i = n := by omega
      conv => whnf
      have hD := hS2.fin ndB emB (by rw [hi2, List.take_of_length_le (by omega)]; intro e; subst e; simp at hll; omega)
      rw [hi2, List.take_of_length_le (by omega)] at hD
      refine loop_intro4 (fun (k : Nat) (a5 : Option Addr) (c5 : Nat) (w5 : List (Nat × ByteArray)) => [(3, .pointer (some ⟨r, 0, none⟩)), (4, .func (.func 30) #[] #[.pointer (some ⟨r, 0, none⟩)])])
        (fun k a5 c5 w5 h' t' => r + 1 ≤ t' ∧ k ≤ n ∧ Stack h' r k a5 c5 w5 ∧ StD ndB emB w5 l ∧ Sub h h') (fun k _ _ _ => k) k a1 c1 w ⟨rfl, rfl, trivial⟩
        ⟨by omega, by omega, ⟨hr2, ho2, hk2, hne2⟩, hD, hs2⟩ ?_
      rintro k5 a5 c5 w5 g5 h5 t5 hd5 ⟨ht5, hk5, ⟨hr5, ho5, hkw5, hne5⟩, hC5, hs5⟩
      have hsl5 : Sl h5 a5 (k5 * 2) id (w5.flatMap (two trF trG)) := ho5.sl
      conv => whnf
      repeat (first | ((with_reducible apply Go.Vc.ld_i); (focus ((repeat (first | with_reducible assumption | with_reducible exact Go.Vc.hset_same _ _ _ | with_reducible refine (Go.Vc.hset_ne _ _ (by omega)).trans ?_)); done)); (focus exact rfl); conv => whnf))
      refine br (fun hb3 => ?_) (fun hb3 => ?_)
      · obtain ⟨k0, rfl⟩ : ∃ k0, k5 = k0 + 2 := ⟨k5 - 2, by omega⟩
        obtain ⟨v, p, q, rfl, hv⟩ := two_of hkw5
        obtain ⟨pa, px⟩ := p
        obtain ⟨qa, qx⟩ := q
        have hbp := hC5.bd ndB emB (p := (pa, px)) (by simp) hM hE hx
        have hbq := hC5.bd ndB emB (p := (qa, qx)) (by simp) hM hE hx
        have hbp1 : pa ≤ l.length := hbp.1
        have hbq1 : qa ≤ l.length := hbq.1
        conv => whnf
        refine (join_spec hr5 ho5 hv (fun e => by have := hne5 r e; omega) (by omega) (by show pa + qa ≤ 1000000; omega) hbp.2 hbq.2).mono ?_
        rintro _ h6 t6 hd6 ht6 ⟨rfl, a6, c6, hr6, ho6, how6, hk6⟩
        conv => whnf
        refine round_end4 (k0 + 1) a6 c6 (v ++ [(pa + qa, ndB px qx)]) (by omega) ⟨rfl, rfl, trivial⟩ ⟨by omega, by omega, ⟨hr6, ho6, by simp [hv], ?_⟩, hC5.join ndB emB, ?_⟩
        · intro b hb
          rcases how6 with e | ⟨b', e, hb'⟩
          · exact hne5 b (by rw [← e]; exact hb)
          · rw [e] at hb; cases hb; omega
        · intro b o hb
          have hbt := hd b o hb
          exact hk6 b o (by omega) (fun e => by have := hne5 b e; omega) (hs5 b o hb)
      · have h1 := hC5.ne
        have hk1 : k5 = 1 := by omega
        subst hk1
        obtain ⟨p, rfl⟩ := List.length_eq_one_iff.1 hkw5
        conv => whnf
        repeat (first | ((with_reducible apply Go.Vc.sl2_ix); (focus with_reducible assumption); (focus exact And.intro (by omega) (by omega)); intro xI bI offI hxI hcI hcJ; conv => whnf) | ((with_reducible apply Go.Vc.ld_i); (focus ((repeat (first | with_reducible assumption | with_reducible exact Go.Vc.hset_same _ _ _ | with_reducible refine (Go.Vc.hset_ne _ _ (by omega)).trans ?_)); done)); (focus exact rfl); conv => whnf) | ((with_reducible apply Go.Vc.cell_i); (focus assumption); conv => whnf))
        have e : p = xI := by simpa using hxI
        subst e
        exact ⟨by rw [← hC5.one ndB emB], hs5⟩
end Go.Proofs.Ytmlcdkckedjdjaa
