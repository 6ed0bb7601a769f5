/- Names: the keys, sorted. -/
import Derived.Test.YtjolbngckdfelaaBucket6
import Derived.Test.YtjolbngckdfelaaShelf
namespace Go.Proofs.Ytjolbngckdfelaa
open Go Go.Vc
set_option maxRecDepth 10000
set_option linter.unusedVariables false

theorem callable_of {P : Program} {f : FuncId} {fn : Func} {c : Code} (hf : P.funcs[f]? = some fn) (hb : fn.body = some c) (hname : (fn.name == "runtime.NumGoroutine") = false) : Callable P f := by
  intro args w
  simp only [callFunc, Sem.run_bind, run_program, Result.andThen_ok, hf, hname, hb, Option.isNone, Bool.false_eq_true, if_false, Sem.run_pure]
theorem same_bridge {P : Program} {f : FuncId} {args : Array Value} {v : Value} {h : Heap} {t : Nat} (hc : Callable P f) (hk : ∀ w, Calls P f args w (fun e w' => e = .returned v ∧ w' = w)) : CallSpec P f args h t (fun v' h' t' => v' = v ∧ h' = h ∧ t' = t) := by
  refine ⟨hc, fun g w hr => (hk w).mono ?_⟩
  rintro _ w' ⟨rfl, rfl⟩
  exact ⟨_, _, _, rfl, hr, Nat.le_refl _, rfl, rfl, rfl⟩
theorem len_spec (x : Nat) (hx : x < 65536) (h : Heap) (t : Nat) : CallSpec Try.prog 47 #[.int .u64 (x : Nat)] h t (fun v h' t' => v = .int .i64 ((Lib.bitLen x : Nat) : Int) ∧ h' = h ∧ t' = t) := by
  refine same_bridge (callable_of Try.func47 rfl (by kernel_rfl)) (fun w => ?_)
  have := Try.bits_Len (x : Int) w (by omega) (by omega)
  rwa [Int.toNat_natCast] at this

def ltB (x y : ByteArray) : Prop := x.data.toList ≤ y.data.toList
def sortB (l : List ByteArray) : List ByteArray := ((l.map fun x => x.data.toList).mergeSort fun x y => decide (x ≤ y)).map fun y => ⟨y.toArray⟩
theorem sortB_len (l : List ByteArray) : (sortB l).length = l.length := by simp [sortB]
theorem sort_spec {h : Heap} {t n c : Nat} {a : Option Addr} {l : List ByteArray} (o : Vc.Own h 9 a n c Value.string l) (hn : n ≤ 1000000) :
    CallSpec Try.prog 38 #[.slice a n c] h t (fun v h' t' => v = .tuple #[] ∧ Vc.Own h' 9 a n c Value.string (sortB l) ∧ ∀ k, owner a ≠ some k → h' k = h k) := by
  rcases o.2 with ⟨rfl, rfl, rfl⟩ | ⟨b, off, cs, fr, rfl, _⟩
  · have hl : l = [] := List.length_eq_zero_iff.1 o.1
    subst hl
    clear hn
    refine Go.Vc.spec_of_vc (fn := Try.f38) Try.func38 rfl (by kernel_rfl) (by kernel_rfl) (Nat.le_of_ble_eq_true rfl) ?_
    intro hd
    conv => whnf
    repeat (first | ((with_reducible apply Go.Vc.wr_u64); (focus exact And.intro (by omega) (by omega)); conv => whnf))
    refine (len_spec 0 (by decide) _ _).mono ?_
    rintro _ h t hd2 _ ⟨rfl, rfl, rfl⟩
    conv => whnf
    refine CallSpec.mono (K := fun v h' t' => v = .tuple #[] ∧ h' = h) ?_ ?_
    · refine Go.Vc.spec_of_vc (fn := Try.f46) Try.func46 rfl (by kernel_rfl) (by kernel_rfl) (Nat.le_of_ble_eq_true rfl) ?_
      intro hd3
      conv => whnf
      refine loop_intro (fun _ : Unit => [(0, .slice none 0 0), (1, .int .i64 0), (2, .int .i64 ((0 : Nat) : Int))]) (fun _ h' t' => h' = h) (fun _ => 0) () ⟨rfl, rfl, rfl, trivial⟩ rfl ?_
      rintro _ g h4 t4 hd4 rfl
      conv => whnf
      repeat (first | ((with_reducible apply Go.Vc.wr_i64); (focus exact And.intro (by omega) (by omega)); conv => whnf) | (refine Go.Vc.br_t ?_ ?_; (focus omega); conv => whnf))
      refine CallSpec.mono (K := fun v h' t' => v = .tuple #[] ∧ h' = h4) ?_ ?_
      · refine Go.Vc.spec_of_vc (fn := Try.f48) Try.func48 rfl (by kernel_rfl) (by kernel_rfl) (Nat.le_of_ble_eq_true rfl) ?_
        intro hd5
        conv => whnf
        repeat (first | ((with_reducible apply Go.Vc.wr_i64); (focus exact And.intro (by omega) (by omega)); conv => whnf))
        refine loop_intro (fun _ : Unit => [(1, .int .i64 0), (2, .int .i64 ((0 : Nat) : Int)), (6, .int .i64 1)]) (fun _ h' t' => h' = h4) (fun _ => 0) () ⟨rfl, rfl, rfl, trivial⟩ rfl ?_
        rintro _ g5 h5 t5 hd5 rfl
        conv => whnf
        repeat (first | (refine Go.Vc.br_f ?_ ?_; (focus omega); conv => whnf))
        exact ⟨rfl, rfl⟩
      · rintro _ h3 t3 hd3 ht3 ⟨rfl, rfl⟩
        conv => whnf
        exact ⟨rfl, rfl⟩
    · rintro _ h3 t3 hd3 ht3 ⟨rfl, rfl⟩
      conv => whnf
      exact ⟨rfl, by rw [show sortB [] = [] from by simp [sortB]]; exact o, fun _ _ => rfl⟩
  · have hl := o.1
    have o1 := Own.conv (fun x => x.data.toList) (g := encStr) o (fun x _ => rfl)
    have hlen : (l.map fun x => x.data.toList).length < 4611686018427387904 := by rw [List.length_map]; omega
    generalize hL : (l.map fun x => x.data.toList) = L at *
    have hs := sort_bridge (P := Try.prog) (t := t) (f := 38) (l' := L.mergeSort fun x y => decide (x ≤ y)) (by simp) (callable_of Try.func38 rfl (by kernel_rfl)) o1 (fun w hH hb => Try.slices_Sort_string b off c L w hH hb hlen)
    refine hs.mono ?_
    rintro _ h' t' hd' ht' ⟨rfl, o2, rfl, hk⟩
    unfold sortB
    rw [hL]
    refine ⟨rfl, Own.conv (fun y => (⟨y.toArray⟩ : ByteArray)) o2 (fun x _ => rfl), fun k hne => hk k (fun e => hne (by rw [e]; rfl))⟩

theorem perm_keys {D : List (ByteArray × ByteArray)} {vis : List Nat} (h : vis.Nodup) (hv : ∀ i, i ∈ vis ↔ i < D.length) : (vis.map (kAt D)).Perm (D.map (·.1)) := by
  have h1 := (vis_perm h hv).map (kAt D)
  have h2 : (List.range D.length).map (kAt D) = D.map (·.1) := by
    apply List.ext_getElem
    · simp
    · intro i h1 h2
      have hi : i < D.length := by simpa using h2
      simp [kAt, List.getD_eq_getElem?_getD, hi]
  rw [h2] at h1; exact h1
theorem sortB_perm {l l' : List ByteArray} (h : l.Perm l') : sortB l = sortB l' := by
  unfold sortB
  congr 1
  have h1 := h.map (fun x => x.data.toList)
  generalize l.map (fun x => x.data.toList) = a at *
  generalize l'.map (fun x => x.data.toList) = b at *
  have tr : ∀ x y z : List UInt8, decide (x ≤ y) = true → decide (y ≤ z) = true → decide (x ≤ z) = true := fun x y z h1 h2 => by simp only [decide_eq_true_eq] at *; exact List.le_trans h1 h2
  have to : ∀ x y : List UInt8, (decide (x ≤ y) || decide (y ≤ x)) = true := fun x y => by simp only [Bool.or_eq_true, decide_eq_true_eq]; exact List.le_total x y
  refine List.Perm.eq_of_pairwise (le := fun x y => decide (x ≤ y) = true) (fun x y _ _ h1 h2 => ?_) (List.pairwise_mergeSort tr to a) (List.pairwise_mergeSort tr to b) (((List.mergeSort_perm a _).trans h1).trans (List.mergeSort_perm b _).symm)
  simp only [decide_eq_true_eq] at h1 h2
  exact List.le_antisymm h1 h2
theorem names_spec {h : Heap} {t b m : Nat} {d : Option Nat} {s : BS} (B : Bkt h b m d s) (hsz : s.D.length ≤ 1000000) :
    CallSpec Try.prog 16 #[.pointer (some ⟨b, 0, none⟩)] h t
      (fun v h' t' => ∃ (a : Option Addr) (c : Nat), v = .slice a s.D.length c ∧ Vc.Own h' 9 a s.D.length c Value.string (sortB (s.D.map (·.1))) ∧ (∀ b, owner a = some b → t ≤ b) ∧ Sub h h') := by
  obtain ⟨o, a, n, c, T, hb, hm, hmo, _⟩ := B
  refine Go.Vc.spec_of_vc (fn := Try.f16) Try.func16 rfl (by kernel_rfl) (by kernel_rfl) (Nat.le_of_ble_eq_true rfl) ?_
  intro hd
  conv => whnf
  refine ⟨_, ⟨_, _, _, hb, rfl, rfl⟩, ?_⟩
  conv => whnf
  refine CallSpec.mono (K := fun v h' t' => ∃ box, t ≤ box ∧ t' = box + 1 ∧ v = .func (.func 39) #[] #[.pointer (some ⟨box, 0, none⟩)] ∧ h' = hset h box (.cells #[.map (some m)] 54)) ?_ ?_
  · refine Go.Vc.spec_of_vc (fn := Try.f26) Try.func26 rfl (by kernel_rfl) (by kernel_rfl) (Nat.le_of_ble_eq_true rfl) ?_
    intro hd2
    conv => whnf
    repeat (first | (intro _ _; conv => whnf))
    rename_i box hbox
    exact ⟨box, hbox, rfl, rfl, rfl⟩
  rintro _ h1 t1 hd1 ht1 ⟨box, hbox, rfl, rfl, rfl⟩
  have hs1 := hd.sub_new hbox (.cells #[.map (some m)] 54)
  conv => whnf
  refine CallSpec.mono (K := fun v h' t' => ∃ (a : Option Addr) (c : Nat), v = .slice a s.D.length c ∧ Vc.Own h' 9 a s.D.length c Value.string (sortB (s.D.map (·.1))) ∧ (∀ b, owner a = some b → t ≤ b) ∧ Sub h h') ?_ ?_
  · refine Go.Vc.spec_of_vc (fn := Try.f25) Try.func25 rfl (by kernel_rfl) (by kernel_rfl) (Nat.le_of_ble_eq_true rfl) ?_
    intro hd2
    conv => whnf
    refine CallSpec.mono (K := fun v h' t' => ∃ (a : Option Addr) (n c : Nat) (vis : List Nat), v = .slice a n c ∧ vis.Nodup ∧ (∀ i, i ∈ vis ↔ i < s.D.length) ∧ Vc.Own h' 9 a n c Value.string (vis.map (kAt s.D)) ∧ (∀ b, owner a = some b → t ≤ b) ∧ Sub h h') ?_ ?_
    · refine Go.Vc.spec_of_vc (fn := Try.f37) Try.func37 rfl (by kernel_rfl) (by kernel_rfl) (Nat.le_of_ble_eq_true rfl) ?_
      intro hd3
      conv => whnf
      refine (collect_spec (hset_same _ _ _) (hs1 _ _ hm) hmo (by omega)).mono ?_
      rintro _ h3 t3 hd3 ht3 ⟨a3, n3, c3, vis, rfl, hv1, hv2, o3, hw3, hs3⟩
      conv => whnf
      exact ⟨a3, n3, c3, vis, rfl, hv1, hv2, o3, fun b hb => by have := hw3 b hb; omega, hs1.trans hs3⟩
    rintro _ h3 t3 hd3 ht3 ⟨a3, n3, c3, vis, rfl, hv1, hv2, o3, hw3, hs3⟩
    have hn3 : n3 = s.D.length := by rw [← o3.1, List.length_map, (vis_perm hv1 hv2).length_eq, List.length_range]
    subst hn3
    conv => whnf
    refine (sort_spec o3 hsz).mono ?_
    rintro _ h4 t4 hd4 ht4 ⟨rfl, o4, hk4⟩
    conv => whnf
    refine ⟨a3, c3, rfl, by rw [← sortB_perm (perm_keys hv1 hv2)]; exact o4, hw3, ?_⟩
    intro k o' hk
    rw [hk4 k (fun e => by have := hw3 k e; have := hd _ _ hk; omega)]
    exact hs3 k o' hk
  rintro _ h4 t4 hd4 ht4 ⟨a4, c4, rfl, o4, hw4, hs4⟩
  conv => whnf
  exact ⟨a4, c4, rfl, o4, hw4, hs4⟩
end Go.Proofs.Ytjolbngckdfelaa
