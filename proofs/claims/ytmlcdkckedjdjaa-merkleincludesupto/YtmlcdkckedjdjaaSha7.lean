/- One, and the reference's sum. -/
import Derived.Test.YtmlcdkckedjdjaaSha6
namespace Go.Proofs.Ytmlcdkckedjdjaa
open Go Go.Vc Go.Sha
set_option maxRecDepth 10000
set_option linter.unusedVariables false

theorem newAt {h : Heap} {b : Nat} (hb : h b = some (.cells (HC H0.list KT (.slice none 0 0) 0) 73 (0, 0))) : HashAt h b none [] :=
  ⟨none, 0, 0, hb, Own.nil _ _ _, rfl, by simp⟩
theorem one_spec (s : ByteArray) (hs : s.size ≤ 1099511627000) (h : Heap) (t : Nat) : CallSpec Try.prog 29 #[.string s] h t (fun v h' t' => v = .string (shaB s) ∧ Sub h h') := by
  have hsl : s.data.toList.length = s.size := by rw [Array.length_toList]; rfl
  refine Go.Vc.spec_of_vc (fn := Try.f29) Try.func29 rfl (by kernel_rfl) (by kernel_rfl) (Nat.le_of_ble_eq_true rfl) ?_
  intro hd
  conv => whnf
  refine (new_spec h t).mono ?_
  rintro _ h1 t1 hd1 ht1 ⟨b, rfl, hb, hbt, hb1, hs1⟩
  conv => whnf
  refine (write_spec (newAt hb1) s (by simp; omega)).mono ?_
  rintro _ h2 t2 hd2 ht2 ⟨rfl, d, x2, hd', hk2⟩
  conv => whnf
  rw [List.nil_append] at x2
  refine (sum_spec x2 (by omega)).mono ?_
  rintro _ h3 t3 hd3 ht3 ⟨rfl, hs3⟩
  conv => whnf
  refine ⟨rfl, ?_⟩
  intro k o ho
  have := hd k o ho
  exact hs3 k o (hk2 k o (by omega) (by simp) (hs1 k o ho))

theorem turn_spec (x : U) (n : Nat) (hn : n ≤ 31) (h : Heap) (t : Nat) : CallSpec Try.prog 57 #[.int .u32 (x.toNat : Int), .int .u64 (n : Int)] h t (fun v h' t' => v = u32v (rotr x n) ∧ h = h' ∧ t = t') := by
  refine Go.Vc.spec_of_vc (fn := Try.f57) Try.func57 rfl (by kernel_rfl) (by kernel_rfl) (Nat.le_of_ble_eq_true rfl) ?_
  intro hd
  conv => whnf
  repeat (first | ((with_reducible apply Go.Vc.or32); conv => whnf) | ((with_reducible apply Go.Vc.shl32); conv => whnf) | ((with_reducible apply Go.Vc.shr32); conv => whnf) | ((with_reducible apply Go.Vc.wr_u64); (focus exact And.intro (by omega) (by omega)); conv => whnf) | ((with_reducible apply Go.Vc.and_leI); (focus omega); conv => whnf))
  refine ⟨?_, rfl, rfl⟩
  unfold rotr
  have e : ((32 : Int) - n).toNat = 32 - n := by omega
  rw [e]; rfl

theorem four_spec (x : U) (h : Heap) (t : Nat) : CallSpec Try.prog 48 #[.int .u32 (x.toNat : Int)] h t (fun v h' t' => v = .string ⟨(four x).toArray⟩ ∧ Sub h h') := by
  refine Go.Vc.spec_of_vc (fn := Try.f48) Try.func48 rfl (by kernel_rfl) (by kernel_rfl) (Nat.le_of_ble_eq_true rfl) ?_
  intro hd
  conv => whnf
  repeat (first | ((with_reducible apply Go.Vc.shr32); conv => whnf) | ((with_reducible apply Go.Vc.c32_8); conv => whnf) | (intro _ _; conv => whnf) | ((with_reducible apply Go.Vc.and_leI); (focus omega); conv => whnf))
  rename_i r hr
  have hX4 : [UInt8.ofNat (x >>> (Int.toNat 24)).toNat, UInt8.ofNat (x >>> (Int.toNat 16)).toNat, UInt8.ofNat (x >>> (Int.toNat 8)).toNat, UInt8.ofNat x.toNat] = four x := by
    simp [four]
  refine ⟨four x, readB_sl (lit_bytes (hset_same _ _ _) (by rw [← hX4]; rfl) rfl), ?_⟩
  conv => whnf
  exact ⟨rfl, hd.sub_new hr _⟩

theorem byte_data (s : ByteArray) (i : Nat) : byte s.data.toList i = s.data.getD i 0 := by
  simp [byte, Array.getD_eq_getD_getElem?, List.getD_eq_getElem?_getD]
theorem be4_or (a b c d : UInt8) : BitVec.ofNat 32 a.toNat <<< 24 ||| BitVec.ofNat 32 b.toNat <<< 16 ||| BitVec.ofNat 32 c.toNat <<< 8 ||| BitVec.ofNat 32 d.toNat = be4 a b c d := by
  have h := pw_word [a, b, c, d] 0
  have e : pw [a, b, c, d] 0 4 = ((((0 : U) <<< 8 ||| BitVec.ofNat 32 a.toNat) <<< 8 ||| BitVec.ofNat 32 b.toNat) <<< 8 ||| BitVec.ofNat 32 c.toNat) <<< 8 ||| BitVec.ofNat 32 d.toNat := rfl
  rw [e] at h
  rw [show be4 a b c d = word [a, b, c, d] 0 from rfl, ← h]
  simp only [BitVec.shiftLeft_or_distrib, ← BitVec.shiftLeft_add]
  rw [show (0 : U) <<< (8 + 8 + 8 + 8) = 0#32 from by decide, BitVec.zero_or]

theorem word_spec (s : ByteArray) (i : Int) (hi : 0 ≤ i ∧ i + 3 < s.size) (hs : s.size ≤ 1099511627776) (h : Heap) (t : Nat) : CallSpec Try.prog 56 #[.string s, .int .i64 i] h t (fun v h' t' => v = u32v (be4 (byte s.data.toList i.toNat) (byte s.data.toList (i.toNat + 1)) (byte s.data.toList (i.toNat + 2)) (byte s.data.toList (i.toNat + 3))) ∧ h = h' ∧ t = t') := by
  refine Go.Vc.spec_of_vc (fn := Try.f56) Try.func56 rfl (by kernel_rfl) (by kernel_rfl) (Nat.le_of_ble_eq_true rfl) ?_
  intro hd
  conv => whnf
  refine Go.Vc.draw_intro [⟨0, false, false, false, 0⟩, ⟨1, false, false, false, 0⟩, ⟨2, false, false, false, 3⟩, ⟨3, false, false, false, 7⟩, ⟨4, false, false, false, 15⟩, ⟨5, false, false, false, 0⟩, ⟨6, false, false, false, 0⟩, ⟨7, false, false, false, 64⟩, ⟨8, false, false, false, 224⟩, ⟨9, false, false, false, 480⟩, ⟨10, false, false, false, 992⟩, ⟨11, false, false, false, 2047⟩, ⟨12, false, false, false, 0⟩, ⟨13, false, false, false, 0⟩, ⟨14, false, false, false, 8192⟩, ⟨15, false, false, false, 28672⟩, ⟨16, false, false, false, 61440⟩, ⟨17, false, false, false, 126976⟩, ⟨18, false, false, false, 262143⟩, ⟨19, false, false, false, 0⟩, ⟨20, false, false, false, 0⟩, ⟨21, false, false, false, 1048576⟩, ⟨22, false, false, false, 3670016⟩, ⟨23, false, false, false, 7864320⟩, ⟨24, false, false, false, 16777215⟩, ⟨25, false, false, false, 33554431⟩] (hs := (fun _ => none)) (hsub := (fun _ _ h => nomatch h)) (hm := by kernel_rfl) (hpl := by kernel_rfl) ?_
  conv => whnf
  conv => whnf
  repeat (first | ((with_reducible apply Go.Vc.or32); conv => whnf) | ((with_reducible apply Go.Vc.shl32); conv => whnf) | ((with_reducible apply Go.Vc.cb_32); conv => whnf) | ((with_reducible refine And.intro (And.intro ?_ ?_) ?_); (focus omega); (focus omega); conv => whnf) | (intro _ _; conv => whnf) | ((with_reducible apply Go.Vc.wr_i64); (focus exact And.intro (by omega) (by omega)); conv => whnf) | ((with_reducible apply Go.Vc.and_leI); (focus omega); conv => whnf))
  refine ⟨?_, rfl, rfl⟩
  rw [byte_data, byte_data, byte_data, byte_data, ← be4_or, show (i + 1).toNat = i.toNat + 1 by omega, show (i + 2).toNat = i.toNat + 2 by omega, show (i + 3).toNat = i.toNat + 3 by omega]
  rfl

def stv (s : St) : Value := .agg (vs s)
theorem step_spec (s : St) (k w : U) (h : Heap) (t : Nat) : CallSpec Try.prog 59 #[stv s, .int .u32 (k.toNat : Int), .int .u32 (w.toNat : Int)] h t (fun v h' t' => v = stv (Go.Sha.step s k w) ∧ Sub h h') := by
  unfold stv vs
  refine Go.Vc.spec_of_vc (fn := Try.f59) Try.func59 rfl (by kernel_rfl) (by kernel_rfl) (Nat.le_of_ble_eq_true rfl) ?_
  intro hd
  conv => whnf
  repeat (first | (intro _ _; conv => whnf))
  rename_i r hr r2 hr2
  have hs0 : ∀ o1 o2, Sub h (hset (hset h r o1) r2 o2) := by
    intro o1 o2 k o ho
    have := hd k o ho
    rw [hset_ne _ _ (by omega), hset_ne _ _ (by omega)]; exact ho
  refine Go.Vc.draw_intro [⟨0, false, true, false, 0⟩, ⟨1, false, true, false, 1⟩, ⟨2, false, false, false, 0⟩, ⟨3, false, false, false, 4⟩, ⟨5, false, true, false, 0⟩, ⟨6, false, true, false, 32⟩, ⟨9, false, true, false, 0⟩, ⟨10, false, true, false, 512⟩, ⟨14, false, true, false, 0⟩, ⟨15, false, true, false, 16384⟩, ⟨16, false, true, false, 0⟩, ⟨17, false, true, false, 65536⟩, ⟨18, false, true, false, 245760⟩, ⟨19, false, true, false, 0⟩, ⟨20, false, true, false, 524288⟩, ⟨21, false, true, false, 1572864⟩, ⟨22, false, true, false, 0⟩, ⟨23, false, true, false, 4194304⟩, ⟨24, false, true, false, 16252928⟩, ⟨25, false, true, false, 33538048⟩, ⟨27, false, true, false, 0⟩, ⟨29, false, true, false, 0⟩, ⟨4, true, false, true, 12⟩, ⟨7, true, false, true, 124⟩, ⟨8, false, true, false, 252⟩, ⟨11, true, false, true, 1788⟩, ⟨12, false, false, false, 4092⟩, ⟨13, false, false, false, 8191⟩, ⟨26, false, false, false, 67108863⟩, ⟨28, false, false, false, 268435455⟩, ⟨30, false, false, false, 1073741823⟩, ⟨31, false, false, false, 2147483647⟩] (hs := _) (hsub := (Sub.refl _)) (hm := by kernel_rfl) (hpl := by kernel_rfl) ?_
  conv => whnf
  conv => whnf
  repeat (first | ((with_reducible apply Go.Vc.xor32); conv => whnf) | ((with_reducible apply Go.Vc.and32); conv => whnf) | ((with_reducible apply Go.Vc.not32); conv => whnf) | ((with_reducible apply Go.Vc.ld_i); (focus ((repeat (first | with_reducible assumption | with_reducible exact Go.Vc.hset_same _ _ _ | with_reducible refine (Go.Vc.hset_ne _ _ (by omega)).trans ?_)); done)); (focus exact rfl); conv => whnf))
  refine (turn_spec _ 6 (by omega) _ _).mono ?_
  rintro _ _ _ _ _ ⟨rfl, rfl, rfl⟩
  conv => whnf
  repeat (first | ((with_reducible refine And.intro (Go.Vc.Sub.refl _) ?_); conv => whnf))
  refine (turn_spec _ 11 (by omega) _ _).mono ?_
  rintro _ _ _ _ _ ⟨rfl, rfl, rfl⟩
  conv => whnf
  repeat (first | ((with_reducible apply Go.Vc.xor32); conv => whnf) | ((with_reducible refine And.intro (Go.Vc.Sub.refl _) ?_); conv => whnf))
  refine (turn_spec _ 25 (by omega) _ _).mono ?_
  rintro _ _ _ _ _ ⟨rfl, rfl, rfl⟩
  conv => whnf
  repeat (first | ((with_reducible apply Go.Vc.add32); conv => whnf) | ((with_reducible apply Go.Vc.xor32); conv => whnf) | ((with_reducible refine And.intro (Go.Vc.Sub.refl _) ?_); conv => whnf))
  refine Go.Vc.draw_intro [⟨0, false, false, false, 0⟩, ⟨1, false, false, false, 1⟩, ⟨3, false, true, false, 0⟩, ⟨4, false, true, false, 8⟩, ⟨7, false, true, false, 0⟩, ⟨8, false, true, false, 128⟩, ⟨11, false, true, false, 0⟩, ⟨12, false, true, false, 2048⟩, ⟨13, false, true, false, 0⟩, ⟨14, false, true, false, 8192⟩, ⟨15, false, true, false, 30720⟩, ⟨16, false, true, false, 0⟩, ⟨17, false, true, false, 65536⟩, ⟨18, false, true, false, 0⟩, ⟨19, false, true, false, 262144⟩, ⟨20, false, true, false, 983040⟩, ⟨21, false, true, false, 2095104⟩, ⟨22, false, true, false, 0⟩, ⟨23, false, true, false, 4194304⟩, ⟨24, false, true, false, 0⟩, ⟨25, false, true, false, 16777216⟩, ⟨26, false, true, false, 62914560⟩, ⟨27, false, true, false, 134215680⟩, ⟨2, true, false, true, 3⟩, ⟨5, true, false, true, 31⟩, ⟨6, false, true, false, 63⟩, ⟨9, true, false, true, 447⟩, ⟨10, false, false, false, 1023⟩, ⟨28, false, false, false, 268435455⟩, ⟨29, false, false, false, 536870911⟩] (hs := _) (hsub := (Sub.refl _)) (hm := by kernel_rfl) (hpl := by kernel_rfl) ?_
  conv => whnf
  conv => whnf
  repeat (first | ((with_reducible apply Go.Vc.xor32); conv => whnf) | ((with_reducible apply Go.Vc.and32); conv => whnf) | ((with_reducible apply Go.Vc.ld_i); (focus ((repeat (first | with_reducible assumption | with_reducible exact Go.Vc.hset_same _ _ _ | with_reducible refine (Go.Vc.hset_ne _ _ (by omega)).trans ?_)); done)); (focus exact rfl); conv => whnf))
  refine (turn_spec _ 2 (by omega) _ _).mono ?_
  rintro _ _ _ _ _ ⟨rfl, rfl, rfl⟩
  conv => whnf
  repeat (first | ((with_reducible refine And.intro (Go.Vc.Sub.refl _) ?_); conv => whnf))
  refine (turn_spec _ 13 (by omega) _ _).mono ?_
  rintro _ _ _ _ _ ⟨rfl, rfl, rfl⟩
  conv => whnf
  repeat (first | ((with_reducible apply Go.Vc.xor32); conv => whnf) | ((with_reducible refine And.intro (Go.Vc.Sub.refl _) ?_); conv => whnf))
  refine (turn_spec _ 22 (by omega) _ _).mono ?_
  rintro _ _ _ _ _ ⟨rfl, rfl, rfl⟩
  conv => whnf
  repeat (first | ((with_reducible apply Go.Vc.add32); conv => whnf) | ((with_reducible apply Go.Vc.xor32); conv => whnf) | ((with_reducible apply Go.Vc.ldrow); (focus ((repeat (first | with_reducible assumption | with_reducible exact Go.Vc.hset_same _ _ _ | with_reducible refine (Go.Vc.hset_ne _ _ (by omega)).trans ?_)); done)); (focus exact rfl); rintro _ rfl; conv => whnf) | ((with_reducible apply Go.Vc.strow); (focus ((repeat (first | with_reducible assumption | with_reducible exact Go.Vc.hset_same _ _ _ | with_reducible refine (Go.Vc.hset_ne _ _ (by omega)).trans ?_)); done)); (focus exact rfl); (focus exact rfl); (focus exact rfl); rintro _ rfl; conv => whnf) | ((with_reducible apply Go.Vc.ld_i); (focus ((repeat (first | with_reducible assumption | with_reducible exact Go.Vc.hset_same _ _ _ | with_reducible refine (Go.Vc.hset_ne _ _ (by omega)).trans ?_)); done)); (focus exact rfl); conv => whnf) | ((with_reducible refine And.intro (Go.Vc.Sub.refl _) ?_); conv => whnf))
  refine ⟨rfl, ?_⟩
  intro k o ho
  have := hd k o ho
  rw [hset_ne _ _ (by omega)]; exact hs0 _ _ k o ho

theorem table_spec (h : Heap) (t : Nat) : CallSpec Try.prog 58 #[] h t (fun v h' t' => ∃ r, v = .slice (some ⟨r, 0, none⟩) 64 64 ∧ t ≤ r ∧ r < t' ∧ h' r = some (.cells (KT.map u32v).toArray 65 (0, 0)) ∧ Sub h h') := by
  refine Go.Vc.spec_of_vc (fn := Try.f58) Try.func58 rfl (by kernel_rfl) (by kernel_rfl) (Nat.le_of_ble_eq_true rfl) ?_
  intro hd
  conv => whnf
  intro r hr
  conv => whnf
  refine ⟨r, rfl, hr, by omega, ?_, hd.sub_new hr _⟩
  rw [hset_same]; rfl

theorem app_words {h : Heap} {t : Nat} {a xa : Option Addr} {n c m xc : Nat} {l l2 : List U} {ty : TypeId} (ho : Own h 65 a n c u32v l) (hx : Sl h xa m u32v l2) (hb : n + m ≤ 1073741824) (hd : Dom h t) {K : Value → Heap → Nat → Prop}
    (hK : ∀ a' c' h' t', Own h' 65 a' (n + m) c' u32v (l ++ l2) → t ≤ t' → Dom h' t' → (∀ k, k < t → owner a ≠ some k → h' k = h k) → (owner a' = owner a ∨ ∃ r, owner a' = some r ∧ t ≤ r) → K (.slice a' (n + m) c') h' t') :
    AppVC Try.prog #[81, 81] ty (.slice a n c) (.slice xa m xc) K h t :=
  app_vc (f := u32v) Try.underlying81 Try.underlying81 rfl (inf := Try.types[65]) (z := .int .u32 0) (by kernel_rfl) (by kernel_rfl) (by kernel_rfl) rfl ho ⟨_, _, rfl, hx⟩ (fun _ => rfl) (by show (n + m) * 4 ≤ _; omega) (by omega) (by show 4 ≤ 1000; omega) hd hK
theorem one_word {h : Heap} {r : Nat} {x : U} {T : TypeId} {c : Array Value} (hr : h r = some (.cells c T (0, 0))) (hc : c = #[u32v x]) : Sl h (some ⟨r, 0, none⟩) 1 u32v [x] := by
  subst hc; exact ar_sl (l := [x]) hr rfl

theorem at_getD {l : List U} {j : Nat} {x : U} (h : l[j]? = some x) : x = l.getD j 0 := by simp [List.getD_eq_getElem?_getD, h]

theorem refBlock_spec (S : St) (s : ByteArray) (hs : s.size = 64) (h : Heap) (t : Nat) : CallSpec Try.prog 49 #[stv S, .string s] h t (fun v h' t' => v = stv (compress S s.data.toList) ∧ Sub h h') := by
  have hsl : s.data.toList.length = 64 := by rw [Array.length_toList]; exact hs
  generalize hL : s.data.toList = L at *
  have hwl := words_length L
  refine Go.Vc.spec_of_vc (fn := Try.f49) Try.func49 rfl (by kernel_rfl) (by kernel_rfl) (Nat.le_of_ble_eq_true rfl) ?_
  intro hd
  conv => whnf
  intro r0 hr0
  conv => whnf
  intro r1 hr1
  conv => whnf
  generalize hh1 : hset (hset h r0 _) r1 _ = h1
  have hs1 : Sub h h1 := by
    intro k o ho
    have := hd k o ho
    rw [← hh1, hset_ne _ _ (by omega), hset_ne _ _ (by omega)]; exact ho
  have hc0 : h1 r0 = some (.cells (vs S) 67 (0, 0)) := by rw [← hh1, hset_ne _ _ (by omega)]; exact hset_same _ _ _
  have hc1 : Cel h1 r1 #[.int .u32 0, .int .u32 0, .int .u32 0, .int .u32 0, .int .u32 0, .int .u32 0, .int .u32 0, .int .u32 0] 67 := by rw [← hh1]; exact hset_same _ _ _
  have hd1 : Dom h1 (r1 + 1) := by rw [← hh1]; exact (hd.set r0 _ (r0 + 1) (by omega) (by omega)).set r1 _ (r1 + 1) (by omega) (by omega)
  refine loop_intro3 (fun (i : Nat) (a : Option Addr) (c : Nat) => [(1, .string s), (2, .pointer (some ⟨r0, 0, none⟩)), (4, .pointer (some ⟨r1, 0, none⟩)), (5, .slice a i c), (6, .int .i64 (i : Nat))])
    (fun i a c h' t' => r1 + 1 ≤ t' ∧ i ≤ 16 ∧ Own h' 65 a i c u32v ((words L).take i) ∧ (∀ k, owner a = some k → r1 + 1 ≤ k) ∧ Sub h1 h') (fun i _ _ => 16 - i) 0 none 0 ⟨rfl, rfl, rfl, rfl, rfl, trivial⟩ ⟨by omega, by omega, Own.nil _ _ _, (fun k hk => by cases hk), Sub.refl _⟩ ?_
  rintro i a c g h2 t2 hd2 ⟨ht2, hi, ho2, hf2, hs2⟩
  conv => whnf
  refine br (fun hb1 => ?_) (fun hb1 => ?_)
  · have hlt : i < 16 := by omega
    conv => whnf
    repeat (first | ((with_reducible apply Go.Vc.wr_i64); (focus exact And.intro (by omega) (by omega)); conv => whnf))
    refine (word_spec s (4 * i) (by omega) (by omega) _ _).mono ?_
    rintro _ _ _ _ _ ⟨rfl, rfl, rfl⟩
    have hw : be4 (byte s.data.toList (4 * (i : Int)).toNat) (byte s.data.toList ((4 * (i : Int)).toNat + 1)) (byte s.data.toList ((4 * (i : Int)).toNat + 2)) (byte s.data.toList ((4 * (i : Int)).toNat + 3)) = word L i := by
      rw [hL, show (4 * (i : Int)).toNat = 4 * i by omega]; rfl
    rw [hw]
    conv => whnf
    repeat (first | (intro _ _; conv => whnf))
    rename_i r3 hr3
    have hs3 := hd2.sub_new hr3 (.cells #[u32v (word L i)] 65)
    have hd3 := hd2.set r3 (.cells #[u32v (word L i)] 65) (r3 + 1) (by omega) (by omega)
    refine app_words (m := 1) (l2 := [word L i]) (ho2.fr (fun k o _ ho => hs3 k o ho)) (one_word (hset_same _ _ _) rfl) (by omega) hd3 ?_
    intro a4 c4 h4 t4 ho4 ht4 hd4 hk4 how4
    conv => whnf
    repeat (first | ((with_reducible apply Go.Vc.wr_i64); (focus exact And.intro (by omega) (by omega)); conv => whnf))
    refine round_end3 (i + 1) a4 c4 (by omega) ⟨rfl, rfl, rfl, rfl, rfl, trivial⟩ ⟨by omega, by omega, ?_, ?_, ?_⟩
    · have : (words L)[i]? = some (word L i) := by simp [words, hlt]
      rw [List.take_add_one, this]; exact ho4
    · intro k hk
      rcases how4 with h | ⟨q, h, hq⟩
      · rw [h] at hk; exact hf2 k hk
      · rw [h] at hk; cases hk; omega
    · intro k o hk
      have hkt := hd1 k o hk
      rw [hk4 k (by omega) (fun e => by have := hf2 k e; omega)]
      exact hs3 k o (hs2 k o hk)
  · have h16 : i = 16 := by omega
    subst h16
    rw [List.take_of_length_le (by omega)] at ho2
    conv => whnf
    refine loop_intro3 (fun (i : Nat) (a : Option Addr) (c : Nat) => [(1, .string s), (2, .pointer (some ⟨r0, 0, none⟩)), (4, .pointer (some ⟨r1, 0, none⟩)), (5, .slice a i c), (7, .int .i64 (i : Nat))])
      (fun i a c h' t' => r1 + 1 ≤ t' ∧ 16 ≤ i ∧ i ≤ 64 ∧ Own h' 65 a i c u32v (sched (words L) (i - 16)) ∧ (∀ k, owner a = some k → r1 + 1 ≤ k) ∧ Sub h1 h') (fun i _ _ => 64 - i) 16 a c ⟨rfl, rfl, rfl, rfl, rfl, trivial⟩ ⟨by omega, by omega, by omega, ho2, hf2, hs2⟩ ?_
    clear ho2 hf2 hs2 hd2 ht2 hb1
    rintro i a c g h2 t2 hd2 ⟨ht2, hi16, hi, ho2, hf2, hs2⟩
    have sl2 := ho2.sl
    conv => whnf
    refine br (fun hb1 => ?_) (fun hb1 => ?_)
    · have hlt : i < 64 := by omega
      conv => whnf
      refine Go.Vc.draw_intro [⟨0, false, false, false, 0⟩, ⟨1, false, false, false, 0⟩, ⟨2, false, false, false, 2⟩, ⟨3, false, false, false, 7⟩, ⟨4, false, false, false, 15⟩, ⟨6, false, true, false, 0⟩, ⟨7, false, true, false, 0⟩, ⟨8, false, true, false, 128⟩, ⟨9, false, true, false, 448⟩, ⟨10, false, true, false, 960⟩, ⟨13, false, true, false, 0⟩, ⟨14, false, true, false, 0⟩, ⟨15, false, true, false, 16384⟩, ⟨16, false, true, false, 57344⟩, ⟨17, false, true, false, 122880⟩, ⟨18, false, true, false, 253952⟩, ⟨5, true, false, true, 31⟩, ⟨11, true, false, true, 2047⟩, ⟨12, false, false, false, 4095⟩, ⟨19, false, false, false, 524287⟩, ⟨20, false, false, false, 1048575⟩] (hs := _) (hsub := (Sub.refl _)) (hm := by kernel_rfl) (hpl := by kernel_rfl) ?_
      conv => whnf
      conv => whnf
      repeat (first | ((with_reducible apply Go.Vc.shr32); conv => whnf) | ((with_reducible apply Go.Vc.sl_ix); (focus with_reducible assumption); (focus exact And.intro (by omega) (by omega)); intro xI bI offI hxI hcI; conv => whnf) | ((with_reducible apply Go.Vc.cell_i); (focus assumption); conv => whnf) | ((with_reducible apply Go.Vc.wr_i64); (focus exact And.intro (by omega) (by omega)); conv => whnf) | ((with_reducible apply Go.Vc.and_leI); (focus omega); conv => whnf))
      obtain ⟨yy, rfl⟩ : ∃ yy, yy = xI := ⟨xI, rfl⟩
      have hyy := at_getD hxI
      clear hxI
      subst hyy
      obtain ⟨yy, rfl⟩ : ∃ yy, yy = xI := ⟨xI, rfl⟩
      have hyy := at_getD hxI
      clear hxI
      subst hyy
      obtain ⟨yy, rfl⟩ : ∃ yy, yy = xI := ⟨xI, rfl⟩
      have hyy := at_getD hxI
      clear hxI
      subst hyy
      refine (turn_spec _ 17 (by omega) _ _).mono ?_
      rintro _ _ _ _ _ ⟨rfl, rfl, rfl⟩
      conv => whnf
      repeat (first | ((with_reducible refine And.intro (Go.Vc.Sub.refl _) ?_); conv => whnf))
      refine (turn_spec _ 19 (by omega) _ _).mono ?_
      rintro _ _ _ _ _ ⟨rfl, rfl, rfl⟩
      conv => whnf
      repeat (first | ((with_reducible apply Go.Vc.xor32); conv => whnf) | ((with_reducible refine And.intro (Go.Vc.Sub.refl _) ?_); conv => whnf))
      refine Go.Vc.draw_intro [⟨0, false, false, false, 0⟩, ⟨1, false, false, false, 0⟩, ⟨2, false, false, false, 2⟩, ⟨3, false, false, false, 7⟩, ⟨4, false, false, false, 15⟩, ⟨6, false, true, false, 0⟩, ⟨7, false, true, false, 0⟩, ⟨8, false, true, false, 128⟩, ⟨9, false, true, false, 448⟩, ⟨10, false, true, false, 960⟩, ⟨13, false, true, false, 0⟩, ⟨14, false, true, false, 0⟩, ⟨15, false, true, false, 16384⟩, ⟨16, false, true, false, 57344⟩, ⟨17, false, true, false, 122880⟩, ⟨18, false, true, false, 253952⟩, ⟨5, true, false, true, 31⟩, ⟨11, true, false, true, 2047⟩, ⟨12, false, false, false, 4095⟩, ⟨19, false, false, false, 524287⟩, ⟨20, false, false, false, 1048575⟩] (hs := _) (hsub := (Sub.refl _)) (hm := by kernel_rfl) (hpl := by kernel_rfl) ?_
      conv => whnf
      conv => whnf
      repeat (first | ((with_reducible apply Go.Vc.shr32); conv => whnf) | ((with_reducible apply Go.Vc.sl_ix); (focus with_reducible assumption); (focus exact And.intro (by omega) (by omega)); intro xI bI offI hxI hcI; conv => whnf) | ((with_reducible apply Go.Vc.cell_i); (focus assumption); conv => whnf) | ((with_reducible apply Go.Vc.wr_i64); (focus exact And.intro (by omega) (by omega)); conv => whnf) | ((with_reducible apply Go.Vc.and_leI); (focus omega); conv => whnf))
      obtain ⟨yy, rfl⟩ : ∃ yy, yy = xI := ⟨xI, rfl⟩
      have hyy := at_getD hxI
      clear hxI
      subst hyy
      obtain ⟨yy, rfl⟩ : ∃ yy, yy = xI := ⟨xI, rfl⟩
      have hyy := at_getD hxI
      clear hxI
      subst hyy
      obtain ⟨yy, rfl⟩ : ∃ yy, yy = xI := ⟨xI, rfl⟩
      have hyy := at_getD hxI
      clear hxI
      subst hyy
      refine (turn_spec _ 7 (by omega) _ _).mono ?_
      rintro _ _ _ _ _ ⟨rfl, rfl, rfl⟩
      conv => whnf
      repeat (first | ((with_reducible refine And.intro (Go.Vc.Sub.refl _) ?_); conv => whnf))
      refine (turn_spec _ 18 (by omega) _ _).mono ?_
      rintro _ _ _ _ _ ⟨rfl, rfl, rfl⟩
      conv => whnf
      repeat (first | ((with_reducible apply Go.Vc.xor32); conv => whnf) | ((with_reducible refine And.intro (Go.Vc.Sub.refl _) ?_); conv => whnf))
      refine Go.Vc.draw_intro [⟨0, false, true, false, 0⟩, ⟨1, false, false, false, 0⟩, ⟨2, false, false, false, 0⟩, ⟨3, false, false, false, 0⟩, ⟨4, false, false, false, 8⟩, ⟨5, false, false, false, 28⟩, ⟨6, false, false, false, 60⟩, ⟨7, false, false, false, 126⟩, ⟨8, false, false, false, 0⟩, ⟨9, false, false, false, 510⟩, ⟨10, false, false, false, 0⟩, ⟨11, false, false, false, 0⟩, ⟨12, false, false, false, 2048⟩, ⟨13, false, false, false, 7168⟩, ⟨14, false, false, false, 15360⟩, ⟨15, false, false, false, 32766⟩, ⟨16, true, false, true, 65534⟩, ⟨17, true, false, false, 131071⟩, ⟨18, false, false, false, 262143⟩] (hs := _) (hsub := (Sub.refl _)) (hm := by kernel_rfl) (hpl := by kernel_rfl) ?_
      conv => whnf
      conv => whnf
      repeat (first | ((with_reducible apply Go.Vc.add32); conv => whnf) | ((with_reducible apply Go.Vc.sl_ix); (focus with_reducible assumption); (focus exact And.intro (by omega) (by omega)); intro xI bI offI hxI hcI; conv => whnf) | ((with_reducible apply Go.Vc.cell_i); (focus assumption); conv => whnf) | (intro _ _; conv => whnf) | ((with_reducible apply Go.Vc.wr_i64); (focus exact And.intro (by omega) (by omega)); conv => whnf))
      rename_i r3 hr3
      obtain ⟨yy, rfl⟩ : ∃ yy, yy = xI := ⟨xI, rfl⟩
      have hyy := at_getD hxI
      clear hxI
      subst hyy
      obtain ⟨yy, rfl⟩ : ∃ yy, yy = xI := ⟨xI, rfl⟩
      have hyy := at_getD hxI
      clear hxI
      subst hyy
      have hw : (rotr ((sched (words L) (i - 16)).getD ((i : Int) - 2).toNat 0) 17 ^^^ rotr ((sched (words L) (i - 16)).getD ((i : Int) - 2).toNat 0) 19 ^^^ (sched (words L) (i - 16)).getD ((i : Int) - 2).toNat 0 >>> (Int.toNat 10)) + (sched (words L) (i - 16)).getD ((i : Int) - 7).toNat 0 +
          (rotr ((sched (words L) (i - 16)).getD ((i : Int) - 15).toNat 0) 7 ^^^ rotr ((sched (words L) (i - 16)).getD ((i : Int) - 15).toNat 0) 18 ^^^ (sched (words L) (i - 16)).getD ((i : Int) - 15).toNat 0 >>> (Int.toNat 3)) + (sched (words L) (i - 16)).getD ((i : Int) - 16).toNat 0 = wNext (sched (words L) (i - 16)) i := by
        rw [show ((i : Int) - 2).toNat = i - 2 by omega, show ((i : Int) - 15).toNat = i - 15 by omega, show ((i : Int) - 7).toNat = i - 7 by omega, show ((i : Int) - 16).toNat = i - 16 by omega]
        rfl
      rw [hw]
      generalize hX : wNext (sched (words L) (i - 16)) i = X at *
      have hs3 := hd2.sub_new hr3 (.cells #[u32v X] 65)
      have hd3 := hd2.set r3 (.cells #[u32v X] 65) (r3 + 1) (by omega) (by omega)
      refine ⟨hs3, ?_⟩
      conv => whnf
      refine app_words (m := 1) (l2 := [X]) (ho2.fr (fun k o _ ho => hs3 k o ho)) (one_word (hset_same _ _ _) rfl) (by omega) hd3 ?_
      intro a4 c4 h4 t4 ho4 ht4 hd4 hk4 how4
      conv => whnf
      repeat (first | ((with_reducible apply Go.Vc.wr_i64); (focus exact And.intro (by omega) (by omega)); conv => whnf))
      refine round_end3 (i + 1) a4 c4 (by omega) ⟨rfl, rfl, rfl, rfl, rfl, trivial⟩ ⟨by omega, by omega, by omega, ?_, ?_, ?_⟩
      · rw [show i + 1 - 16 = (i - 16) + 1 by omega, sched, show 16 + (i - 16) = i by omega, hX]; exact ho4
      · intro k hk
        rcases how4 with h | ⟨q, h, hq⟩
        · rw [h] at hk; exact hf2 k hk
        · rw [h] at hk; cases hk; omega
      · intro k o hk
        have hkt := hd1 k o hk
        rw [hk4 k (by omega) (fun e => by have := hf2 k e; omega)]
        exact hs3 k o (hs2 k o hk)
    · have h64 : i = 64 := by omega
      subst h64
      generalize hW : sched (words L) (64 - 16) = W at *
      have hWl : W.length = 64 := sl2.1
      conv => whnf
      refine (table_spec _ _).mono ?_
      rintro _ h3 t3 hd3 ht3 ⟨r3, rfl, hr3, hrt3, hk3, hs3⟩
      have hs13 : Sub h1 h3 := hs2.trans hs3
      have hc3 := hs13 _ _ hc0
      unfold vs at hc3
      conv => whnf
      repeat (first | ((with_reducible apply Go.Vc.ldrow); (focus ((repeat (first | with_reducible assumption | with_reducible exact Go.Vc.hset_same _ _ _ | with_reducible refine (Go.Vc.hset_ne _ _ (by omega)).trans ?_)); done)); (focus exact rfl); rintro _ rfl; conv => whnf) | ((with_reducible apply Go.Vc.strow); (focus ((repeat (first | with_reducible assumption | with_reducible exact Go.Vc.hset_same _ _ _ | with_reducible refine (Go.Vc.hset_ne _ _ (by omega)).trans ?_)); done)); (focus exact rfl); (focus exact rfl); (focus exact rfl); rintro _ rfl; conv => whnf) | (intro _ _; conv => whnf))
      rename_i r5 hr5
      refine loop_intro2 (fun (i : Nat) (Z : St) => [(2, .pointer (some ⟨r0, 0, none⟩)), (4, .pointer (some ⟨r1, 0, none⟩)), (5, .slice a 64 c), (10, .slice (some ⟨r3, 0, none⟩) 64 64), (11, .pointer (some ⟨r5, 0, none⟩)), (12, .int .i64 (i : Nat))])
        (fun i Z h' t' => r5 < t' ∧ i ≤ 64 ∧ Z = rounds S KT W i ∧ Sub h3 h' ∧ h' r5 = some (.cells (vs Z) 67 (0, 0))) (fun i _ => 64 - i) 0 S ⟨rfl, rfl, rfl, rfl, rfl, rfl, trivial⟩ ⟨by omega, by omega, rfl, ?_, ?_⟩ ?_
      · intro k o ho
        have := hd3 k o ho
        rw [hset_ne _ _ (by omega), hset_ne _ _ (by omega)]; exact ho
      · rw [hset_same]; rfl
      have hrr : t3 ≤ r5 ∧ r1 + 1 ≤ t3 := by omega
      clear hb1
      rintro i Z g h6 t6 hd6 ⟨ht6, hi, hZ, hs6, hk6⟩
      have hk6K := hs6 _ _ hk3
      have sl6 := (sl2.sub hs3).sub hs6
      have slK : Sl h6 (some ⟨r3, 0, none⟩) 64 u32v KT := ar_sl hk6K rfl
      conv => whnf
      refine br (fun hb1 => ?_) (fun hb1 => ?_)
      · have hlt : i < 64 := by omega
        conv => whnf
        refine Go.Vc.draw_intro [⟨0, false, false, false, 0⟩, ⟨1, false, false, false, 0⟩, ⟨2, false, false, false, 0⟩, ⟨3, false, false, false, 6⟩, ⟨4, false, false, false, 14⟩, ⟨5, false, false, false, 0⟩, ⟨6, false, false, false, 0⟩, ⟨7, false, false, false, 96⟩, ⟨8, false, false, false, 224⟩, ⟨9, true, false, false, 511⟩, ⟨10, true, false, false, 1023⟩] (hs := h6) (hsub := (Sub.refl _)) (hm := by kernel_rfl) (hpl := by kernel_rfl) ?_
        conv => whnf
        have hKl : KT.length = 64 := rfl
        refine Go.Vc.ldrow hk6 rfl ?_
        rintro l hl
        have hl : l = [u32v Z.a, u32v Z.b, u32v Z.c, u32v Z.d, u32v Z.e, u32v Z.f, u32v Z.g, u32v Z.h] := by rw [hl]; rfl
        subst hl
        conv => whnf
        repeat (first | ((with_reducible apply Go.Vc.own_ix); (focus exact And.intro (by omega) (by omega)); conv => whnf) | ((with_reducible apply Go.Vc.sl_ix); (focus with_reducible assumption); (focus exact And.intro (by omega) (by omega)); intro xI bI offI hxI hcI; conv => whnf) | ((with_reducible apply Go.Vc.ar_ld); (focus ((repeat (first | with_reducible assumption | with_reducible exact Go.Vc.hset_same _ _ _ | with_reducible refine (Go.Vc.hset_ne _ _ (by omega)).trans ?_)); done)); (focus exact rfl); (focus (first | omega | (simp; done) | (simp; omega))); intro xA hxA; conv => whnf) | ((with_reducible apply Go.Vc.cell_i); (focus assumption); conv => whnf))
        obtain rfl : xI = W.getD i 0 := at_getD (j := i) hxI
        obtain rfl : xA = KT.getD i 0 := at_getD (j := i) hxA
        refine (step_spec Z _ _ _ _).mono ?_
        rintro _ h7 t7 hd7 ht7 ⟨rfl, hs7⟩
        unfold stv
        have hk7 := hs7 _ _ hk6
        conv => whnf
        refine Go.Vc.strow hk7 rfl rfl rfl ?_
        rintro cc hcc
        have hcc : cc = vs (Go.Sha.step Z (KT.getD i 0) (W.getD i 0)) := by rw [hcc]; rfl
        subst hcc
        conv => whnf
        repeat (first | ((with_reducible apply Go.Vc.wr_i64); (focus exact And.intro (by omega) (by omega)); conv => whnf))
        refine round_end2 (i + 1) (Go.Sha.step Z (KT.getD i 0) (W.getD i 0)) (by omega) ⟨rfl, rfl, rfl, rfl, rfl, rfl, trivial⟩ ⟨by omega, by omega, by rw [hZ]; rfl, ?_, hset_same _ _ _⟩
        intro k o ho
        have := hd3 k o ho
        rw [hset_ne _ _ (by omega)]; exact hs7 _ _ (hs6 _ _ ho)
      · have h64 : i = 64 := by omega
        subst h64
        have hk60 : h6 r0 = some (.cells #[u32v S.a, u32v S.b, u32v S.c, u32v S.d, u32v S.e, u32v S.f, u32v S.g, u32v S.h] 67 (0, 0)) := hs6 _ _ hc3
        have hk61 : Cel h6 r1 #[.int .u32 0, .int .u32 0, .int .u32 0, .int .u32 0, .int .u32 0, .int .u32 0, .int .u32 0, .int .u32 0] 67 := hs6 _ _ (hs13 _ _ hc1)
        unfold vs at hk6
        conv => whnf
        repeat (first | ((with_reducible apply Go.Vc.add32); conv => whnf) | ((with_reducible apply Go.Vc.ld_i); (focus ((repeat (first | with_reducible assumption | with_reducible exact Go.Vc.hset_same _ _ _ | with_reducible refine (Go.Vc.hset_ne _ _ (by omega)).trans ?_)); done)); (focus exact rfl); conv => whnf))
        refine Go.Vc.strow hk61 rfl rfl rfl ?_
        rintro cc hcc
        have hcc : cc = vs (S.add Z) := by rw [hcc]; rfl
        subst hcc
        conv => whnf
        refine Go.Vc.ldrow (hset_same _ _ _) rfl ?_
        rintro l hl
        have hl : l = (vs (S.add Z)).toList := by rw [hl]; rfl
        subst hl
        rw [Go.Vc.forceL_eq]
        conv => whnf
        refine ⟨?_, ?_⟩
        · have : S.add Z = compress S L := by rw [hZ, ← hW]; rfl
          rw [this]; rfl
        · intro k o ho
          have := hd k o ho
          rw [hset_ne _ _ (by omega)]; exact hs6 _ _ (hs13 _ _ (hs1 _ _ ho))
end Go.Proofs.Ytmlcdkckedjdjaa
