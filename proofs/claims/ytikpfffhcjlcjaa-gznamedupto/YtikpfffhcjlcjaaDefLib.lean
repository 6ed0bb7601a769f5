import Derived.Test.YtikpfffhcjlcjaaDef1
import Derived.Test.YtikpfffhcjlcjaaShelf
import Derived.WalkKit
set_option linter.unusedSimpArgs false
namespace Go.Proofs.Ytikpfffhcjlcjaa
open Go Go.Vc Go.Dfl
set_option maxRecDepth 20000
set_option linter.unusedVariables false
theorem ult22 : Try.prog.underlying 31 = some (.slice 3) := Try.underlying31
theorem grow_spec {h : Heap} {t : Nat} {k : Int} (h0 : 0 ≤ k) (h1 : k ≤ 2 ^ 30) :
    CallSpec Try.prog 83 #[.slice none 0 0, .int .i64 k] h t
      (fun v h' _ => ∃ a c, v = .slice a 0 c ∧ Vc.Own h' 3 a 0 c (Value.int .i64) [] ∧ Vc.Sub h h' ∧ ∀ b, owner a = some b → t ≤ b) := by
  refine Go.Vc.spec_of_vc (fn := Try.f83) Try.func83 rfl (by kernel_rfl) (by kernel_rfl) (Nat.le_of_ble_eq_true rfl) ?_
  intro hd
  conv => whnf
  refine bsel_f (by simp; omega) ?_
  conv => whnf
  repeat (first | ((with_reducible apply Go.Vc.wr_i64); (focus exact And.intro (by omega) (by omega)); conv => whnf))
  refine br (fun hb => ?_) (fun hb => ?_)
  · conv => whnf
    repeat (first | ((with_reducible refine And.intro (And.intro ?_ ?_) ?_); (focus omega); (focus omega); conv => whnf))
    rw [show (k - (((0 : Nat) : Int) - ((0 : Nat) : Int))) = k by omega]
    refine app_make (d := (0 : Int)) (f := Value.int .i64) ult22 Try.underlying3 (inf := Try.types[3]) (by kernel_rfl) (by kernel_rfl) (by kernel_rfl) rfl h0 (by
      show k * 8 ≤ 2 ^ 40
      omega) (by omega) hd ?_
    intro a' c' h' t' ho ht' hd' hs' hf'
    conv => whnf
    repeat (first | ((with_reducible refine And.intro (And.intro ?_ ?_) ?_); (focus omega); (focus omega); conv => whnf))
    exact ⟨a', c', rfl, ho.take (m := 0) (by omega), hs', hf'⟩
  · conv => whnf
    exact ⟨none, 0, rfl, Own.nil _ _ _, Sub.refl _, fun b hb => by cases hb⟩
structure SV where
  a : Option Addr
  n : Nat
  c : Nat
  l : List Int
def SV.val (q : SV) : Value := .slice q.a q.n q.c
def sizes (qs : List SV) : Nat := (qs.map (·.n)).foldr (· + ·) 0
theorem sizes_take {qs : List SV} {i : Nat} (hi : i < qs.length) : sizes (qs.take (i + 1)) = sizes (qs.take i) + (qs[i]).n := by
  have : ∀ (l : List SV) (q : SV), sizes (l ++ [q]) = sizes l + q.n := by
    intro l q
    induction l with
    | nil => simp [sizes]
    | cons x l ih => simp only [sizes, List.cons_append, List.map_cons, List.foldr_cons] at *; omega
  rw [List.take_succ_eq_append_getElem hi, this]
theorem sizes_le {qs : List SV} {i : Nat} : sizes (qs.take i) ≤ sizes qs := by
  have : ∀ (x y : List SV), sizes x ≤ sizes (x ++ y) := by
    intro x y
    induction x with
    | nil => simp [sizes]
    | cons x l ih => simp only [sizes, List.cons_append, List.map_cons, List.foldr_cons] at *; omega
  have h := this (qs.take i) (qs.drop i)
  rwa [List.take_append_drop] at h
theorem concat_spec {h : Heap} {t : Nat} {a0 : Option Addr} {n0 c0 : Nat} {qs : List SV} (hs : Sl h a0 n0 SV.val qs) (hq : ∀ q ∈ qs, Sl h q.a q.n (Value.int .i64) q.l) (htot : sizes qs ≤ 2 ^ 30) (hn0 : n0 ≤ 2 ^ 30) :
    CallSpec Try.prog 59 #[.slice a0 n0 c0] h t
      (fun v h' _ => ∃ a n c, v = .slice a n c ∧ Vc.Own h' 3 a n c (Value.int .i64) (qs.flatMap (·.l)) ∧ Vc.Sub h h' ∧ ∀ b, owner a = some b → t ≤ b) := by
  refine Go.Vc.spec_of_vc (fn := Try.f59) Try.func59 rfl (by kernel_rfl) (by kernel_rfl) (Nat.le_of_ble_eq_true rfl) ?_
  intro hd
  conv => whnf
  refine loop_intro (fun i : Nat => [(0, .slice a0 n0 c0), (3, .int .i64 (sizes (qs.take i) : Nat)), (9, .slice a0 n0 c0), (10, .int .i64 (n0 : Nat)), (11, .int .i64 (i : Nat))]) (fun i h' t' => h = h' ∧ t = t' ∧ i ≤ n0) (fun i => n0 - i) 0 ⟨rfl, rfl, rfl, rfl, rfl, trivial⟩ ⟨rfl, rfl, by omega⟩ ?_
  rintro i g _ _ _ ⟨rfl, rfl, hi⟩
  conv => whnf
  refine bsel_intro (fun hb => ?_) (fun hb => ?_)
  · conv => whnf
    have hlt : i < n0 := by simpa using hb
    have hil : i < qs.length := by rw [hs.1]; exact hlt
    refine ⟨⟨by omega, by omega⟩, ?_⟩
    obtain ⟨b, off, ha, hc⟩ := hs.at ⟨none, 0, 0, []⟩ (i := (i : Int)) (by omega) (by omega)
    refine ⟨b, off, ha, ?_⟩
    conv => whnf
    refine ⟨_, hc, ?_⟩
    conv => whnf
    have e1 : qs.getD (i : Int).toNat ⟨none, 0, 0, []⟩ = qs[i] := by simp [List.getD_eq_getElem?_getD, hil]
    have e2 := sizes_take hil
    have e3 := sizes_le (qs := qs) (i := i + 1)
    have e4 : IntKind.i64.wrap (((sizes (qs.take i) : Nat) : Int) + ((qs[i]).n : Nat)) = ((sizes (qs.take (i + 1)) : Nat) : Int) := by rw [wi (by omega) (by omega)]; omega
    rw [e1]
    refine ⟨_, e4.symm, ?_⟩
    conv => whnf
    repeat (first | ((with_reducible apply Go.Vc.wr_i64); (focus exact And.intro (by omega) (by omega)); conv => whnf) | (refine Go.Vc.br_f ?_ ?_; (focus omega); conv => whnf))
    refine round_end (i + 1) (by omega) ⟨rfl, rfl, rfl, rfl, rfl, trivial⟩ ⟨rfl, rfl, by omega⟩
  · conv => whnf
    have hin : i = n0 := by have : ¬ (i : Int) < n0 := by simpa using hb
                            omega
    subst hin
    have htk : qs.take i = qs := List.take_of_length_le (by rw [hs.1]; exact Nat.le_refl _)
    rw [htk]
    refine (grow_spec (by omega) (by omega)).mono ?_
    rintro _ h1 t1 hd1 ht1 ⟨a1, c1, rfl, ho1, hs1, hf1⟩
    conv => whnf
    refine loop_intro (fun s : Nat × Option Addr × Nat => [(6, .slice s.2.1 (sizes (qs.take s.1)) s.2.2), (25, .slice a0 i c0), (26, .int .i64 (i : Nat)), (27, .int .i64 (s.1 : Nat))])
      (fun s h' t' => s.1 ≤ i ∧ t ≤ t' ∧ Vc.Own h' 3 s.2.1 (sizes (qs.take s.1)) s.2.2 (Value.int .i64) ((qs.take s.1).flatMap (·.l)) ∧ Vc.Sub h h' ∧ ∀ b, owner s.2.1 = some b → t ≤ b) (fun s => i - s.1) (0, a1, c1) ⟨rfl, rfl, rfl, rfl, trivial⟩ ⟨by omega, ht1, ho1, hs1, hf1⟩ ?_
    rintro ⟨j, a2, c2⟩ g2 h2 t2 hd2 ⟨hj, ht2, ho2, hs2, hf2⟩
    simp only at hj ho2 hf2
    conv => whnf
    refine bsel_intro (fun hb2 => ?_) (fun hb2 => ?_)
    · conv => whnf
      have hlt : j < i := by simpa using hb2
      have hjl : j < qs.length := by rw [hs.1]; exact hlt
      refine ⟨⟨by omega, by omega⟩, ?_⟩
      obtain ⟨b, off, ha, hc⟩ := (hs.sub hs2).at ⟨none, 0, 0, []⟩ (i := (j : Int)) (by omega) (by omega)
      refine ⟨b, off, ha, ?_⟩
      conv => whnf
      refine ⟨_, hc, ?_⟩
      conv => whnf
      have e1 : qs.getD (j : Int).toNat ⟨none, 0, 0, []⟩ = qs[j] := by simp [List.getD_eq_getElem?_getD, hjl]
      have e2 := sizes_take hjl
      have e3 := sizes_le (qs := qs) (i := j + 1)
      rw [e1]
      refine app_vc (f := Value.int .i64) (l2 := (qs[j]).l) (m := (qs[j]).n) ult22 ult22 rfl (inf := Try.types[3]) (z := .int .i64 0) (by kernel_rfl) (by kernel_rfl) (by kernel_rfl) rfl ho2 ⟨_, _, rfl, (hq _ (List.getElem_mem hjl)).sub hs2⟩ (fun _ => rfl) (by
        show _ * 8 ≤ _
        omega) (by omega) (by show 8 ≤ 1000; omega) hd2 ?_
      intro a3 c3 h3 t3 ho3 ht3 hd3 hk3 how3
      conv => whnf
      repeat (first | ((with_reducible apply Go.Vc.wr_i64); (focus exact And.intro (by omega) (by omega)); conv => whnf))
      refine round_end (j + 1, a3, c3) (by show i - (j + 1) < i - j; omega) ⟨?_, rfl, rfl, rfl, trivial⟩ ⟨hlt, by omega, ?_, ?_, ?_⟩
      · show Value.slice a3 _ c3 = Value.slice a3 _ c3
        rw [e2]
      · show Vc.Own h3 _ a3 (sizes (qs.take (j + 1))) c3 _ _
        rw [e2, List.take_succ_eq_append_getElem hjl, List.flatMap_append]
        simpa using ho3
      · intro k o ho
        have hkt : k < t := hd k o ho
        rw [hk3 k (by omega) (fun e => by have := hf2 k e; omega)]
        exact hs2 k o ho
      · intro b' hb'
        rcases how3 with h5 | ⟨r, h5, h6⟩
        · exact hf2 b' (by rw [← h5]; exact hb')
        · rw [h5] at hb'; cases hb'; omega
    · conv => whnf
      have hjn : j = i := by have : ¬ (j : Int) < i := by simpa using hb2
                             omega
      subst hjn
      rw [htk] at ho2
      refine ⟨a2, _, c2, rfl, ?_, hs2, hf2⟩
      rw [htk]; exact ho2
theorem callable_of {P : Program} {f : FuncId} {fn : Func} {c : Code} (hf : P.funcs[f]? = some fn) (hb : fn.body = some c) (hname : (fn.name == "runtime.NumGoroutine") = false) : Callable P f := by
  intro args w
  simp only [callFunc, Sem.run_bind, run_program, Result.andThen_ok, hf, hname, hb, Option.isNone, Bool.false_eq_true, if_false, Sem.run_pure]
theorem same_bridge {P : Program} {f : FuncId} {args : Array Value} {v : Value} {h : Heap} {t : Nat} (hc : Callable P f) (hk : ∀ w, Calls P f args w (fun e w' => e = .returned v ∧ w' = w)) : CallSpec P f args h t (fun v' h' t' => v' = v ∧ h = h' ∧ t = t') := by
  refine ⟨hc, fun g w hr => (hk w).mono ?_⟩
  rintro _ w' ⟨rfl, rfl⟩
  exact ⟨_, _, _, rfl, hr, Nat.le_refl _, rfl, rfl, rfl⟩
theorem mul_spec (x y : Nat) (hx : x < 4294967296) (hy : y < 4294967296) (h : Heap) (t : Nat) : CallSpec Try.prog 84 #[.int .u64 (x : Nat), .int .u64 (y : Nat)] h t (fun v h' t' => v = .tuple #[.int .u64 0, .int .u64 ((x * y : Nat) : Int)] ∧ h = h' ∧ t = t') := by
  refine same_bridge (callable_of Try.func84 rfl (by kernel_rfl)) (fun w => ?_)
  have h1 := Try.bits_Mul x y (by omega) (by omega) w
  have h2 : x * y < 18446744073709551616 := by
    have : x * y ≤ 4294967295 * 4294967295 := Nat.mul_le_mul (by omega) (by omega)
    omega
  rw [Nat.div_eq_of_lt h2, Nat.mod_eq_of_lt h2] at h1
  exact h1
theorem sl_conv {h : Heap} {a : Option Addr} {n : Nat} {l : List Int} (s : Sl h a n (Value.int .i64) l) : Sl h a (n * 1) id (l.map (Value.int .i64)) := by
  rw [Nat.mul_one]
  refine ⟨by simpa using s.1, fun hn => ?_⟩
  obtain ⟨b, off, cs, T, fr, e1, e2, e3⟩ := s.2 hn
  refine ⟨b, off, cs, T, fr, e1, e2, fun i hi => ?_⟩
  have hi' : i < l.length := by simpa using hi
  rw [e3 i hi']
  simp
theorem copy_int {ty : TypeId} {h : Heap} {t : Nat} {a a' xa : Option Addr} {N C j n' c' m xc k : Nat} {L l2 : List Int} (ho : Vc.Own h 3 a N C (Value.int .i64) L) (ha' : a' = cutA a j 1 C) (hx : Sl h xa m (Value.int .i64) l2) (hk : k = min m n') (hj : j + k ≤ N) (hdm : Dom h t) {K : Value → Heap → Nat → Prop}
    (hK : ∀ h', Vc.Own h' 3 a N C (Value.int .i64) (L.take j ++ l2.take k ++ L.drop (j + k)) → Dom h' t → (∀ b, owner a ≠ some b → h' b = h b) → K (.int .i64 (k : Nat)) h' t) :
    CopyVC Try.prog #[31, 31] ty (.slice a' n' c') (.slice xa m xc) K h t := by
  have ho' : Vc.Own h 3 a (N * 1) (C * 1) id (L.map (Value.int .i64)) := by
    rw [Nat.mul_one, Nat.mul_one]
    exact Own.conv (Value.int .i64) (g := id) ho (fun x _ => rfl)
  refine copy_own (E := 3) (inf := Try.types[3]) (W := 1) (N := N) (C := C) (j := j) (k := k) Try.underlying31 (by kernel_rfl) (by kernel_rfl) (by decide) ho' ha' (sl_conv hx) hk hj ?_ hdm ?_
  · rw [List.all_eq_true]
    intro v hv
    obtain ⟨z, _, rfl⟩ := List.mem_map.1 (List.mem_of_mem_take hv)
    rfl
  intro h' ho2 hd2 hk2
  refine hK h' ?_ hd2 hk2
  rw [Nat.mul_one, Nat.mul_one, Nat.mul_one, Nat.mul_one, Nat.mul_one, ← List.map_take, ← List.map_take, ← List.map_drop, ← List.map_append, ← List.map_append] at ho2
  exact Own.unmap ho2
theorem repeat_spec {h : Heap} {t : Nat} {a : Option Addr} {c : Nat} {x : Int} (s : Sl h a 1 (Value.int .i64) [x]) {k : Nat} (hk : 1 ≤ k ∧ k ≤ 100000) :
    CallSpec Try.prog 60 #[.slice a 1 c, .int .i64 (k : Nat)] h t (fun v h' t' => ∃ a', v = .slice a' k k ∧ Vc.Own h' 3 a' k k (Value.int .i64) (List.replicate k x) ∧ Vc.Sub h h' ∧ (∀ b, owner a' = some b → t ≤ b) ∧ t ≤ t') := by
  refine Go.Vc.spec_of_vc (fn := Try.f60) Try.func60 rfl (by kernel_rfl) (by kernel_rfl) (Nat.le_of_ble_eq_true rfl) ?_
  intro hd
  conv => whnf
  repeat (first | ((with_reducible apply Go.Vc.wr_u64); (focus exact And.intro (by omega) (by omega)); conv => whnf) | (refine Go.Vc.br_f ?_ ?_; (focus omega); conv => whnf))
  refine (mul_spec 1 k (by omega) (by omega) _ _).mono ?_
  rintro _ _ _ _ _ ⟨rfl, rfl, rfl⟩
  rw [Nat.one_mul]
  conv => whnf
  repeat (first | ((with_reducible apply Go.Vc.mk_b); (focus exact And.intro (by omega) (by omega)); (focus exact rfl); (focus omega); intro rM csM hrM hcsM; (first | (replace hcsM := hcsM.trans (Go.Vc.zc (Value.int .i64) 0 _)) | (replace hcsM := hcsM.trans (Go.Vc.zc Go.Vc.bv 0 _)) | (replace hcsM := hcsM.trans (Go.Vc.zc Value.string ByteArray.empty _))); subst hcsM; conv => whnf) | ((with_reducible apply Go.Vc.wr_i64); (focus exact And.intro (by omega) (by omega)); conv => whnf) | (refine Go.Vc.br_f ?_ ?_; (focus omega); conv => whnf))
  have hsM := hd.sub_new hrM (.cells ((List.replicate (k : Int).toNat (0 : Int)).map (Value.int .i64)).toArray 3)
  have hdM := hd.set rM (.cells ((List.replicate (k : Int).toNat (0 : Int)).map (Value.int .i64)).toArray 3) (rM + 1) (by omega) (by omega)
  have hoM : Vc.Own (hset h rM (.cells ((List.replicate (k : Int).toNat (0 : Int)).map (Value.int .i64)).toArray 3)) 3 (some ⟨rM, 0, none⟩) k k (Value.int .i64) (List.replicate k 0) := ar_own (hset_same _ _ _) (by simp)
  refine copy_int (j := 0) (k := 1) (C := k) (N := k) (L := List.replicate k 0) (l2 := [x]) hoM ?_ (s.sub hsM) (by rw [Int.toNat_natCast]; omega) (by omega) hdM ?_
  · unfold cutA
    split
    · rfl
    · rw [Option.map_some, addr_add]
  intro h2 ho2 hd2 hk2
  have e2 : (List.replicate k (0 : Int)).take 0 ++ [x].take 1 ++ (List.replicate k (0 : Int)).drop (0 + 1) = List.replicate 1 x ++ List.replicate (k - 1) 0 := by simp
  rw [e2] at ho2
  have hs2 : Vc.Sub h h2 := fun b o hb => by
    have := hd b o hb
    rw [hk2 b (fun e => by have e3 : some rM = some b := e; cases e3; omega)]
    exact hsM b o hb
  conv => whnf
  refine loop_intro (fun i : Nat => [(7, .slice (some ⟨rM, 0, none⟩) k k), (8, .int .i64 (i : Nat))])
    (fun i h' t' => 1 ≤ i ∧ i ≤ k ∧ Vc.Own h' 3 (some ⟨rM, 0, none⟩) k k (Value.int .i64) (List.replicate i x ++ List.replicate (k - i) 0) ∧ Vc.Sub h h' ∧ t' = rM + 1) (fun i => k - i) 1 ⟨rfl, rfl, trivial⟩ ⟨by omega, by omega, ho2, hs2, rfl⟩ ?_
  rintro i e g t1 hd1 ⟨hi1, hik, ho, hs1, rfl⟩
  conv => whnf
  refine br (fun hb => ?_) (fun hb => ?_)
  · conv => whnf
    refine Go.Vc.draw_intro [⟨0, false, true, false, 0⟩, ⟨1, false, false, false, 0⟩, ⟨2, false, false, false, 0⟩, ⟨3, false, false, false, 6⟩, ⟨4, false, false, false, 0⟩, ⟨5, false, false, false, 0⟩, ⟨6, false, false, false, 48⟩, ⟨7, true, false, true, 126⟩, ⟨8, false, false, false, 255⟩, ⟨9, false, false, false, 511⟩] (hs := (fun _ => none)) (hsub := (fun _ _ h => nomatch h)) (hm := by kernel_rfl) (hpl := by kernel_rfl) ?_
    conv => whnf
    conv => whnf
    repeat (first | ((with_reducible refine And.intro (And.intro ?_ ?_) ?_); (focus omega); (focus omega); conv => whnf) | (intro _ _; conv => whnf))
    rename_i a9 ha9
    refine copy_int (j := i) (k := min i (k - i)) (N := k) (C := k) ho ha9 (ho.sl.take (show i ≤ k by omega)) (by omega) (by omega) hd1 ?_
    intro h3 ho3 hd3 hk3
    have e3 : (List.replicate i x ++ List.replicate (k - i) (0 : Int)).take i ++ ((List.replicate i x ++ List.replicate (k - i) (0 : Int)).take i).take (min i (k - i)) ++ (List.replicate i x ++ List.replicate (k - i) (0 : Int)).drop (i + min i (k - i)) = List.replicate (i + min i (k - i)) x ++ List.replicate (k - (i + min i (k - i))) 0 := by
      rw [List.take_left' (by simp), List.take_replicate, List.drop_append, List.drop_of_length_le (by simp), List.nil_append, List.length_replicate, List.drop_replicate, List.replicate_append_replicate]
      congr 2 <;> omega
    rw [e3] at ho3
    refine ⟨(fun _ _ hk => nomatch hk), ?_⟩
    conv => whnf
    repeat (first | ((with_reducible apply Go.Vc.wr_i64); (focus exact And.intro (by omega) (by omega)); conv => whnf))
    refine round_end (i + min i (k - i)) (by omega) ⟨rfl, by first | rfl | (show Value.int .i64 _ = Value.int .i64 _; congr 1; omega), trivial⟩ ⟨by omega, by omega, ho3, fun b o hb => ?_, rfl⟩
    have := hd b o hb
    rw [hk3 b (fun e => by have e3 : some rM = some b := e; cases e3; omega)]
    exact hs1 b o hb
  · conv => whnf
    obtain rfl : i = k := by omega
    rw [Nat.sub_self, List.replicate_zero, List.append_nil] at ho
    exact ⟨_, rfl, ho, hs1, fun b hb => by have e3 : some rM = some b := hb; cases e3; omega, by omega⟩
end Go.Proofs.Ytikpfffhcjlcjaa
