/- The keys of a map, collected. -/
import Derived.Test.YtjolbngckdfelaaBucket5
namespace Go.Proofs.Ytjolbngckdfelaa
open Go Go.Vc
set_option maxRecDepth 10000
set_option linter.unusedVariables false

theorem app_strs {h : Heap} {t : Nat} {a xa : Option Addr} {n c xc m : Nat} {l l2 : List ByteArray} {ty : TypeId} (ho : Vc.Own h 9 a n c Value.string l) (hx : Sl h xa m Value.string l2) (hb : n + m ≤ 1000000000) (hd : Dom h t) {K : Value → Heap → Nat → Prop}
    (hK : ∀ a' c' h' t', Vc.Own h' 9 a' (n + m) c' Value.string (l ++ l2) → t ≤ t' → Dom h' t' → (∀ k, k < t → owner a ≠ some k → h' k = h k) → (owner a' = owner a ∨ ∃ r, owner a' = some r ∧ t ≤ r) → K (.slice a' (n + m) c') h' t') :
    AppVC Try.prog #[37, 37] ty (.slice a n c) (.slice xa m xc) K h t :=
  app_vc (f := Value.string) Try.underlying37 Try.underlying37 rfl (inf := Try.types[9]) (z := .string ByteArray.empty) (by kernel_rfl) (by kernel_rfl) (by kernel_rfl) rfl ho ⟨_, _, rfl, hx⟩ (fun _ => rfl) (by show (n + m) * 16 ≤ _; omega) (by omega) (by show 16 ≤ 1000; omega) hd hK
theorem app_one {h0 h : Heap} {t0 t r : Nat} {a : Option Addr} {n c : Nat} {l : List ByteArray} {R : ByteArray} {ty : TypeId} (hd0 : Dom h0 t0) (ht : t0 ≤ t) (hs : Sub h0 h) (hw : ∀ b, owner a = some b → t0 ≤ b) (hd : Dom h t) (hr : t ≤ r)
    (ho : Vc.Own h 9 a n c Value.string l) (hb : n + 1 ≤ 1000000000) {K : Value → Heap → Nat → Prop}
    (hK : ∀ a' c' h' t', Vc.Own h' 9 a' (n + 1) c' Value.string (l ++ [R]) → r + 1 ≤ t' → Dom h' t' → Sub h0 h' → (∀ b, owner a' = some b → t0 ≤ b) → (∀ k, k < t → owner a ≠ some k → h' k = h k) → (owner a' = owner a ∨ ∃ b, owner a' = some b ∧ r + 1 ≤ b) → K (.slice a' (n + 1) c') h' t') :
    AppVC Try.prog #[37, 37] ty (.slice a n c) (.slice (some ⟨r, 0, none⟩) 1 1) K (hset h r (.cells #[.string R] 9 (0, 0))) (r + 1) := by
  have hs3 := hd.sub_new hr (.cells #[.string R] 9)
  have hd3 := hd.set r (.cells #[.string R] 9) (r + 1) (by omega) (by omega)
  refine app_strs (m := 1) (l2 := [R]) (ho.fr (fun b o _ hb => hs3 b o hb)) (ar_sl (hset_same _ _ _) rfl) hb hd3 ?_
  intro a7 c7 h7 t7 ho7 ht7 hd7 hk7 how7
  refine hK a7 c7 h7 t7 ho7 ht7 hd7 ?_ ?_ ?_ how7
  · intro b o hb
    have hbt := hd0 b o hb
    rw [hk7 b (by omega) (fun e => by have := hw b e; omega), hset_ne _ _ (by omega)]
    exact hs b o hb
  · intro b hb
    rcases how7 with e | ⟨b', e, hb'⟩
    · exact hw b (by rw [← e]; exact hb)
    · rw [e] at hb; cases hb; omega
  · intro k hk hne
    rw [hk7 k (by omega) hne, hset_ne _ _ (by omega)]

theorem mIter_ok {o : Obj} {m : Nat} {vis : List Nat} {x : Obj} {β : Type} {f : β → Value} {D : List (ByteArray × β)} (hx : MIter o m vis x) (hmo : MapObj o f D) : (∀ i ∈ vis, i < D.length) ∧ vis.Nodup := by
  obtain ⟨es, c, rfl, hkv, _, _, _⟩ := hmo
  obtain ⟨es', c', he, _, h1, h2⟩ := hx
  cases he
  have hlen := congrArg List.length hkv
  rw [List.length_map, List.length_map, Array.length_toList] at hlen
  exact ⟨fun i hi => by have := h1 i hi; omega, h2⟩
def leftOf (n : Nat) (vis : List Nat) : Nat := (List.range n).countP (fun i => decide (i ∉ vis))
theorem leftOf_lt {n i : Nat} {vis : List Nat} (hi : i < n) (hv : i ∉ vis) : leftOf n (vis ++ [i]) < leftOf n vis := by
  refine countP_lt _ (fun x _ hx => ?_) ⟨i, List.mem_range.2 hi, by simpa using hv, by simp⟩
  simp only [decide_eq_true_eq, List.mem_append, not_or] at hx ⊢
  exact hx.1

theorem keys1_spec {h : Heap} {t m box l : Nat} {o : Obj} {T : TypeId} {D : List (ByteArray × ByteArray)} (hbx : h box = some (.cells #[.map (some m)] T (0, 0))) (hm : h m = some o) (hmo : MapObj o Value.string D)
    (I : Nat → List Nat → Heap → Nat → Prop) (I0 : ∀ r x, t ≤ r → I r [] (hset h r x) (r + 1)) (Iset : ∀ r vis h' t' x, I r vis h' t' → I r vis (hset h' r x) t') (Isub : ∀ r vis h' t', I r vis h' t' → h' m = some o)
    (step : ∀ r vis i k v h' t', t ≤ r → r < t' → ((∀ j ∈ vis, j < D.length) ∧ vis.Nodup) → i ∉ vis → D[i]? = some (k, v) → Dom h' t' → (∃ x, h' r = some x) → I r vis h' t' → YieldSpec Try.prog l #[.string k] h' t' (fun b h'' t'' => b = .bool true ∧ I r (vis ++ [i]) h'' t'' ∧ h'' r = h' r)) :
    CallSpec Try.prog 39 #[.func (.yield l) #[] #[], .pointer (some ⟨box, 0, none⟩)] h t (fun _ h' t' => ∃ r vis, vis.Nodup ∧ (∀ i, i ∈ vis ↔ i < D.length) ∧ I r vis h' t') := by
  refine Go.Vc.spec_of_vcI (fn := Try.f39) Try.func39 rfl (by kernel_rfl) (by kernel_rfl) (Nat.le_of_ble_eq_true rfl) ?_
  intro hd
  conv => whnf
  refine ⟨_, ⟨_, _, _, hbx, rfl, rfl⟩, ?_⟩
  conv => whnf
  refine rangeM_i Try.underlying54 hm hmo ?_
  intro r x0 hr hx0
  conv => whnf
  refine loop_introI2 (fun (vis : List Nat) (x : Obj) => [(0, .func (.yield l) #[] #[]), (1, .pointer (some ⟨box, 0, none⟩)), (5, .pointer (some ⟨r, 0, none⟩))])
    (fun vis x h' t' => r < t' ∧ h' r = some x ∧ MIter o m vis x ∧ I r vis h' t') (fun vis _ => leftOf D.length vis) [] x0 ⟨rfl, rfl, rfl, trivial⟩ ⟨by omega, hset_same _ _ _, hx0, I0 r x0 hr⟩ ?_
  rintro vis x g h1 t1 hd1 ⟨ht1, hr1, hx1, hI1⟩
  have hok := mIter_ok hx1 hmo
  have hm1 := Isub _ _ _ _ hI1
  conv => whnf
  refine next_m hr1 hm1 hmo hx1 (fun hall => ?_) (fun i k v x2 hi hD hx2 => ?_)
  · conv => whnf
    exact ⟨r, vis, hok.2, fun i => ⟨fun hi => hok.1 i hi, fun hi => hall i hi⟩, hI1⟩
  · have hiD : i < D.length := (List.getElem?_eq_some_iff.1 hD).1
    have hmr : m ≠ r := by
      rintro rfl
      have := hr1.symm.trans hm1
      cases this
      obtain ⟨_, _, rfl, _⟩ := hmo
      obtain ⟨_, _, _, hh, _⟩ := hx1
      cases hh
    conv => whnf
    refine entry_m (hset_same _ _ _) ((hset_ne _ _ hmr).trans hm1) hmo hx2 hD ?_
    conv => whnf
    have hd2 : Dom (hset h1 r x2) t1 := hd1.set r x2 t1 (Nat.le_refl _) ht1
    refine (step r vis i k v _ t1 hr ht1 hok hi hD hd2 ⟨_, hset_same _ _ _⟩ (Iset _ _ _ _ x2 hI1)).mono ?_
    rintro _ h3 t3 hd3 ht3 ⟨rfl, hI3, hr3⟩
    conv => whnf
    rw [hset_same] at hr3
    refine ⟨rfl, round_end2 (vis ++ [i]) x2 (leftOf_lt hiD hi) ⟨rfl, rfl, rfl, trivial⟩ ⟨by omega, hr3, hx2, hI3⟩⟩

def kAt (D : List (ByteArray × ByteArray)) (i : Nat) : ByteArray := (D.getD i (ByteArray.empty, ByteArray.empty)).1
theorem vis_perm {n : Nat} {vis : List Nat} (h : vis.Nodup) (hv : ∀ i, i ∈ vis ↔ i < n) : vis.Perm (List.range n) :=
  (List.perm_ext_iff_of_nodup h List.nodup_range).2 (fun i => by rw [hv i, List.mem_range])

theorem collect_spec {h : Heap} {t m box : Nat} {o : Obj} {T : TypeId} {D : List (ByteArray × ByteArray)} (hbx : h box = some (.cells #[.map (some m)] T (0, 0))) (hm : h m = some o) (hmo : MapObj o Value.string D) (hsz : D.length ≤ 100000000) :
    CallSpec Try.prog 45 #[.slice none 0 0, .func (.func 39) #[] #[.pointer (some ⟨box, 0, none⟩)]] h t
      (fun v h' t' => ∃ (a : Option Addr) (n c : Nat) (vis : List Nat), v = .slice a n c ∧ vis.Nodup ∧ (∀ i, i ∈ vis ↔ i < D.length) ∧ Vc.Own h' 9 a n c Value.string (vis.map (kAt D)) ∧ (∀ b, owner a = some b → t ≤ b) ∧ Sub h h') := by
  refine Go.Vc.spec_of_vcI (fn := Try.f45) Try.func45 rfl (by kernel_rfl) (by kernel_rfl) (Nat.le_of_ble_eq_true rfl) ?_
  intro hd
  conv => whnf
  intro r2 hr2
  conv => whnf
  refine RangeVC.mk rfl ⟨_, _, _, rfl, ?_⟩
  intro Db L hDb hDL n fn T2 LR
  have hs1 := hd.sub_new hr2 (.cells #[.slice none 0 0] 37)
  have hd1 := hd.set r2 (.cells #[.slice none 0 0] 37) (r2 + 1) (by omega) (by omega)
  have hs2 := hd1.sub_new hDb (.deferred (some []))
  have hd2 := hd1.set Db (.deferred (some [])) (Db + 1) (by omega) (by omega)
  generalize hR0 : Loop.mk _ _ _ _ _ _ _ _ = R0
  have hRs : R0.state = .ready := by rw [← hR0]
  have hRn : R0.pending = none := by rw [← hR0]
  have hRp := congrArg Loop.params hR0
  have hRa := congrArg Loop.assign hR0
  have hRb := congrArg Loop.body hR0
  have hRt : T2 = R0.tmps := congrArg Loop.tmps hR0
  rw [hRt] at LR
  dsimp only at hRp hRa hRb
  clear hR0
  have hs3 := hd2.sub_new (r := L) (by omega) (.loop R0)
  have hd3 := hd2.set L (.loop R0) (L + 1) (by omega) (by omega)
  have hsub := hs1.trans (hs2.trans hs3)
  show CallSpec Try.prog _ #[.func (.yield L) #[] #[], .pointer (some ⟨box, 0, none⟩)] _ _ _
  have hbt := hd _ _ hbx
  have hmt := hd _ _ hm
  refine (keys1_spec (l := L) (T := T) (o := o) (D := D) (by exact hsub _ _ hbx) (by exact hsub _ _ hm) hmo
    (fun r vis h' t' => r < t' ∧ L < r ∧ (∃ a nn c, h' r2 = some (.cells #[.slice a nn c] 37 (0, 0)) ∧ Vc.Own h' 9 a nn c Value.string (vis.map (kAt D)) ∧ nn = vis.length ∧ ∀ b, owner a = some b → L < b ∧ b ≠ r) ∧ h' L = some (.loop R0) ∧ h' Db = some (.deferred (some [])) ∧ Sub h h') ?_ ?_ ?_ ?_).mono ?_
  · intro r x hr
    refine ⟨by omega, by omega, ⟨none, 0, 0, ?_, Vc.Own.nil _ _ _, rfl, fun b hb => by cases hb⟩, ?_, ?_, ?_⟩
    · (repeat (first | exact hset_same _ _ _ | refine (hset_ne _ _ (by omega)).trans ?_)); done
    · (repeat (first | exact hset_same _ _ _ | refine (hset_ne _ _ (by omega)).trans ?_)); done
    · (repeat (first | exact hset_same _ _ _ | refine (hset_ne _ _ (by omega)).trans ?_)); done
    · exact hsub.trans (hd3.sub_new hr x)
  · rintro r vis h' t' x ⟨h1, h2, ⟨a, nn, c, h3, h4, h5, h6⟩, h7, h8, h9⟩
    refine ⟨h1, h2, ⟨a, nn, c, by rw [hset_ne _ _ (by omega)]; exact h3, h4.fr (fun b o hb ho => by rw [hset_ne _ _ (h6 b hb).2]; exact ho), h5, h6⟩, by rw [hset_ne _ _ (by omega)]; exact h7, by rw [hset_ne _ _ (by omega)]; exact h8, fun b o hb => by rw [hset_ne _ _ (by have := hd _ _ hb; omega)]; exact h9 b o hb⟩
  · rintro r vis h' t' ⟨_, _, _, _, _, h9⟩
    exact h9 _ _ hm
  · rintro r vis i k v h' t' hr hrt hok hi hD hd' ⟨xr, hxr⟩ ⟨h1, h2, ⟨a, nn, c, h3, h4, h5, h6⟩, h7, h8, h9⟩
    refine yield_i h7 hRs hRp hRa hRb LR rfl ?_
    intro hd4
    conv => whnf
    refine ⟨rfl, rfl, _, h7, hRs, ?_⟩
    rintro rb hrb
    have hsb : Sub h (hset h' L (.loop rb)) := fun b o hb => by rw [hset_ne _ _ (by have := hd _ _ hb; omega)]; exact h9 b o hb
    have hdb : Dom (hset h' L (.loop rb)) t' := hd'.set L _ t' (Nat.le_refl _) (by omega)
    conv => whnf
    repeat (first | ((with_reducible apply Go.Vc.ld_i); (focus ((repeat (first | with_reducible assumption | with_reducible exact Go.Vc.hset_same _ _ _ | with_reducible refine (Go.Vc.hset_ne _ _ (by omega)).trans ?_)); done)); (focus exact rfl); conv => whnf) | (intro _ _; conv => whnf))
    rename_i r3 hr3
    have hvl : vis.length < D.length := by
      have hiD : i < D.length := (List.getElem?_eq_some_iff.1 hD).1
      have hnd : (vis ++ [i]).Nodup := by
        rw [List.nodup_append]
        exact ⟨hok.2, by simp, fun a ha b hb => by rw [List.mem_singleton.1 hb]; intro e; subst e; exact hi ha⟩
      have := List.Nodup.length_le_of_subset hnd (l₂ := List.range D.length) (fun j hj => by
        rcases List.mem_append.1 hj with h | h
        · exact List.mem_range.2 (hok.1 j h)
        · rw [List.mem_singleton.1 h]; exact List.mem_range.2 hiD)
      rw [List.length_append, List.length_range] at this
      simp at this; omega
    refine app_one (h0 := h) (t0 := t) hd (by omega) hsb (fun b hb => by have := h6 b hb; omega) hdb hr3 (h4.fr (fun b o hb ho => by rw [hset_ne _ _ (by have := h6 b hb; omega)]; exact ho)) (by omega) ?_
    intro a7 c7 h7' t7 ho7 ht7 hd7 hs7 hw7 hk7 how7
    have hb7 : h7' r2 = some (.cells #[.slice a nn c] 37 (0, 0)) := by
      rw [hk7 r2 (by omega) (fun e => by have := h6 _ e; omega), hset_ne _ _ (by omega)]; exact h3
    conv => whnf
    repeat (first | ((with_reducible apply Go.Vc.st_i); (focus ((repeat (first | with_reducible assumption | with_reducible exact Go.Vc.hset_same _ _ _ | with_reducible refine (Go.Vc.hset_ne _ _ (by omega)).trans ?_)); done)); (focus exact rfl); (focus exact rfl); (focus exact rfl); (conv => whnf); intro cA hcA; (first | (simp only [List.setIfInBounds_toArray, List.set_cons_succ, List.set_cons_zero] at hcA; subst hcA) | subst hcA); conv => whnf))
    have hne7 : ∀ b, owner a7 = some b → L < b ∧ b ≠ r := by
      intro b hb
      rcases how7 with e | ⟨b', e, hb'⟩
      · exact h6 b (by rw [← e]; exact hb)
      · rw [e] at hb; cases hb; exact ⟨by omega, by omega⟩
    refine ⟨rb, ?_, ?_⟩
    · rw [hset_ne _ _ (by omega), hk7 L (by omega) (fun e => by have := h6 _ e; omega)]; exact hset_same _ _ _
    · intro r' hr'
      have er : r' = R0 := by rw [hr', hrb, ← hRs, ← hRn]
      subst er
      have hkv : k = kAt D i := by unfold kAt; simp [List.getD_eq_getElem?_getD, hD]
      refine ⟨rfl, ⟨by omega, h2, ⟨a7, nn + 1, c7, ?_, ?_, by simp [h5], hne7⟩, hset_same _ _ _, ?_, ?_⟩, ?_⟩
      · rw [hset_ne _ _ (by omega)]; exact hset_same _ _ _
      · rw [List.map_append, List.map_singleton, ← hkv]
        exact ho7.fr (fun b o hb ho => by have := hne7 b hb; rw [hset_ne _ _ (by omega), hset_ne _ _ (by omega)]; exact ho)
      · rw [hset_ne _ _ (by omega), hset_ne _ _ (by omega), hk7 Db (by omega) (fun e => by have := h6 _ e; omega), hset_ne _ _ (by omega)]; exact h8
      · intro b o hb
        have := hd _ _ hb
        rw [hset_ne _ _ (by omega), hset_ne _ _ (by omega)]; exact hs7 b o hb
      · rw [hset_ne _ _ (by omega), hset_ne _ _ (by omega), hk7 r (by omega) (fun e => by have := h6 _ e; omega), hset_ne _ _ (by omega)]
  · rintro _ h' t' hd' ht' ⟨r, vis, hv1, hv2, h1, h2, ⟨a, nn, c, h3, h4, h5, h6⟩, h7, h8, h9⟩
    refine ⟨_, h7, by rw [hRs]; decide, ?_⟩
    rintro rb hrb
    rw [hRn]
    have hsb : Sub h (hset h' L (.loop rb)) := fun b o hb => by rw [hset_ne _ _ (by have := hd _ _ hb; omega)]; exact h9 b o hb
    conv => whnf
    repeat (first | ((with_reducible apply Go.Vc.ld_i); (focus ((repeat (first | with_reducible assumption | with_reducible exact Go.Vc.hset_same _ _ _ | with_reducible refine (Go.Vc.hset_ne _ _ (by omega)).trans ?_)); done)); (focus exact rfl); conv => whnf))
    refine ⟨by rw [hset_ne _ _ (by omega)]; exact h8, ?_⟩
    conv => whnf
    refine ⟨a, nn, c, vis, rfl, hv1, hv2, h4.fr (fun b o hb ho => by have := h6 b hb; rw [hset_ne _ _ (by omega), hset_ne _ _ (by omega)]; exact ho), fun b hb => by have := h6 b hb; omega, ?_⟩
    intro b o hb
    rw [hset_ne _ _ (by have := hd _ _ hb; omega)]
    exact hsb b o hb
end Go.Proofs.Ytjolbngckdfelaa
