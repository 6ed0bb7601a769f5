/- The reference's One; hex; the chapter's examples. -/
import Derived.Test.YtmlcdkckedjdjaaSha7
namespace Go.Proofs.Ytmlcdkckedjdjaa
open Go Go.Vc Go.Sha
set_option maxRecDepth 10000
set_option linter.unusedVariables false

def strL (l : List UInt8) : ByteArray := ⟨l.toArray⟩
theorem strL_app (a b : List UInt8) : strL a ++ strL b = strL (a ++ b) := by
  apply ByteArray.ext; simp [strL, ByteArray.data_append]
theorem strL_self (s : ByteArray) : strL s.data.toList = s := by apply ByteArray.ext; simp [strL]
theorem strL_size (l : List UInt8) : (strL l).size = l.length := by show l.toArray.size = _; simp
theorem strL_toList (l : List UInt8) : (strL l).data.toList = l := by simp [strL]
theorem strL_extract (l : List UInt8) (i j : Nat) : ((strL l).extract i j).data.toList = (l.drop i).take (j - i) := by
  rw [ByteArray.data_extract]; simp [strL, List.extract_eq_take_drop]
theorem u8_eq {a b : Nat} (h : a % 256 = b % 256) : UInt8.ofNat a = UInt8.ofNat b := by
  apply UInt8.toNat_inj.1; simpa using h
theorem four_be8 (n : Nat) : four (BitVec.ofNat 32 (n / 4294967296)) ++ four (BitVec.ofNat 32 n) = be8 n := by
  have e : be8 n = [UInt8.ofNat (n >>> 56), UInt8.ofNat (n >>> 48), UInt8.ofNat (n >>> 40), UInt8.ofNat (n >>> 32), UInt8.ofNat (n >>> 24), UInt8.ofNat (n >>> 16), UInt8.ofNat (n >>> 8), UInt8.ofNat (n >>> 0)] := rfl
  rw [e]
  simp only [four, BitVec.toNat_ofNat, List.cons_append, List.nil_append, List.cons.injEq, and_true]
  simp only [Nat.shiftRight_eq_div_pow]
  refine ⟨u8_eq ?_, u8_eq ?_, u8_eq ?_, u8_eq ?_, u8_eq ?_, u8_eq ?_, u8_eq ?_, u8_eq ?_⟩ <;> omega
theorem vs_fours (s : St) : out s = four s.a ++ four s.b ++ four s.c ++ four s.d ++ four s.e ++ four s.f ++ four s.g ++ four s.h := rfl

@[simp] theorem four_length (x : U) : (four x).length = 4 := rfl
theorem refOne_spec (s : ByteArray) (hs : s.size ≤ 1099511627000) (h : Heap) (t : Nat) : CallSpec Try.prog 36 #[.string s] h t (fun v h' t' => v = .string (shaB s) ∧ Sub h h') := by
  obtain ⟨M, rfl⟩ : ∃ M, s = strL M := ⟨s.data.toList, (strL_self s).symm⟩
  have hM := strL_size M
  have hsha : shaB (strL M) = strL (sha M) := by unfold shaB; rw [strL_toList]; rfl
  rw [hsha]
  refine Go.Vc.spec_of_vc (fn := Try.f36) Try.func36 rfl (by kernel_rfl) (by kernel_rfl) (Nat.le_of_ble_eq_true rfl) ?_
  intro hd
  conv => whnf
  repeat (first | ((with_reducible apply Go.Vc.wr_i64); (focus exact And.intro (by omega) (by omega)); conv => whnf) | ((with_reducible apply Go.Vc.and_leN); (focus (first | omega | (simp only [ByteArray.size, List.size_toArray, List.length_cons, List.length_nil] at *; omega))); conv => whnf))
  rw [show strL M ++ (⟨#[128]⟩ : ByteArray) = strL (M ++ 128 :: List.replicate 0 0) from strL_app M [128], hM]
  refine loop_intro (fun (i : Nat) => [(0, .string (strL (M ++ 128 :: List.replicate i 0))), (3, .int .i64 (8 * (M.length : Int)))])
    (fun i h' t' => h = h' ∧ t = t' ∧ i ≤ (119 - M.length % 64) % 64) (fun i => 64 - i) 0 ⟨rfl, rfl, trivial⟩ ⟨rfl, rfl, by omega⟩ ?_
  rintro i g _ _ _ ⟨rfl, rfl, hi⟩
  have hsz : (strL (M ++ 128 :: List.replicate i 0)).size = M.length + 1 + i := by rw [strL_size]; simp; omega
  conv => whnf
  repeat (first | ((with_reducible apply Go.Vc.rem_i); (focus omega); conv => whnf) | ((with_reducible refine And.intro ?_ (And.intro ?_ ?_)); (focus exact rfl); (focus omega); conv => whnf))
  rw [hsz]
  refine br (fun hb1 => ?_) (fun hb1 => ?_)
  · have hiz : i < (119 - M.length % 64) % 64 := by omega
    conv => whnf
    refine And.intro (by rw [hsz]; show M.length + 1 + i + 1 ≤ _; omega) ?_
    conv => whnf
    refine round_end (i + 1) (by omega) ⟨?_, rfl, trivial⟩ ⟨rfl, rfl, by omega⟩
    show Value.string (strL (M ++ 128 :: List.replicate i 0) ++ strL [0]) = _
    rw [strL_app, List.replicate_succ', List.append_assoc]; rfl
  · have hiz : i = (119 - M.length % 64) % 64 := by omega
    conv => whnf
    repeat (first | ((with_reducible apply Go.Vc.shr_i64); (focus exact And.intro (by omega) (by omega)); intro zS hzS hzS0 hzS1; conv => whnf) | ((with_reducible apply Go.Vc.and_leI); (focus omega); conv => whnf))
    have hzS0 : zS = ((8 * M.length / 4294967296 : Nat) : Int) := by rw [hzS]; simp
    refine ⟨((BitVec.ofNat 32 (8 * M.length / 4294967296)).toNat : Int), by rw [hzS0, wrap32, BitVec.toNat_ofNat]; omega, ?_⟩
    conv => whnf
    refine (four_spec _ _ _).mono ?_
    rintro _ h1 t1 hd1 ht1 ⟨rfl, hs1⟩
    conv => whnf
    refine And.intro (by rw [hsz]; show M.length + 1 + i + 4 ≤ _; omega) ?_
    conv => whnf
    refine ⟨((BitVec.ofNat 32 (8 * M.length)).toNat : Int), by rw [wrap32, BitVec.toNat_ofNat]; omega, ?_⟩
    conv => whnf
    refine (four_spec _ _ _).mono ?_
    rintro _ h2 t2 hd2 ht2 ⟨rfl, hs2⟩
    rw [show strL (M ++ 128 :: List.replicate i 0) ++ (⟨(four (BitVec.ofNat 32 (8 * M.length / 4294967296))).toArray⟩ : ByteArray) = strL (M ++ 128 :: List.replicate i 0 ++ four (BitVec.ofNat 32 (8 * M.length / 4294967296))) from strL_app _ _]
    conv => whnf
    refine And.intro (by rw [strL_size]; simp; show _ + 4 ≤ _; omega) ?_
    have hP : strL (M ++ 128 :: List.replicate i 0 ++ four (BitVec.ofNat 32 (8 * M.length / 4294967296))) ++ (⟨(four (BitVec.ofNat 32 (8 * M.length))).toArray⟩ : ByteArray) = strL (pad M) := by
      rw [show (⟨(four (BitVec.ofNat 32 (8 * M.length))).toArray⟩ : ByteArray) = strL (four (BitVec.ofNat 32 (8 * M.length))) from rfl, strL_app, List.append_assoc, four_be8, hiz]
      unfold pad
      rw [List.append_assoc]; rfl
    rw [hP]
    have hpl := pad_length M
    have hpl2 : (pad M).length ≤ M.length + 136 := by simp [pad, be8]; omega
    have hps := strL_size (pad M)
    have hsh : sha M = out (run ((pad M).length / 64) H0 (pad M)) := rfl
    generalize hE : pad M = E at *
    have hs12 : Sub h h2 := hs1.trans hs2
    conv => whnf
    repeat (first | ((with_reducible apply Go.Vc.strow); (focus ((repeat (first | with_reducible assumption | with_reducible exact Go.Vc.hset_same _ _ _ | with_reducible refine (Go.Vc.hset_ne _ _ (by omega)).trans ?_)); done)); (focus exact rfl); (focus exact rfl); (focus exact rfl); rintro _ rfl; conv => whnf) | (intro _ _; conv => whnf))
    rename_i r hr
    refine loop_intro (fun (k : Nat) => [(0, .string (strL E)), (4, .pointer (some ⟨r, 0, none⟩)), (5, .int .i64 (64 * k : Nat))])
      (fun k h' t' => r < t' ∧ 64 * k ≤ E.length ∧ Sub h h' ∧ h' r = some (.cells (vs (run k H0 E)) 67 (0, 0))) (fun k => E.length - 64 * k) 0 ⟨rfl, rfl, rfl, trivial⟩ ⟨by omega, by omega, ?_, ?_⟩ ?_
    · intro k o ho
      have := hd k o ho
      rw [hset_ne _ _ (by omega), hset_ne _ _ (by omega)]; exact hs12 _ _ ho
    · rw [hset_same]; rfl
    rintro k g h3 t3 hd3 ⟨ht3, hk, hs3, hk3⟩
    conv => whnf
    rw [hps]
    refine br (fun hb2 => ?_) (fun hb2 => ?_)
    · have hk64 : 64 * k + 64 ≤ E.length := by omega
      conv => whnf
      refine Go.Vc.draw_intro [⟨0, false, false, false, 0⟩, ⟨1, false, false, false, 0⟩, ⟨2, false, false, false, 0⟩, ⟨3, false, false, false, 0⟩, ⟨4, false, false, false, 8⟩, ⟨5, false, false, false, 30⟩, ⟨6, true, false, false, 63⟩, ⟨7, true, false, false, 127⟩] (hs := h3) (hsub := (Sub.refl _)) (hm := by kernel_rfl) (hpl := by kernel_rfl) ?_
      conv => whnf
      refine Go.Vc.ldrow hk3 rfl ?_
      rintro l hl
      have hl : l = (vs (run k H0 E)).toList := by rw [hl]; rfl
      subst hl
      rw [Go.Vc.forceL_eq]
      conv => whnf
      repeat (first | ((with_reducible refine And.intro (And.intro ?_ ?_) ?_); (focus omega); (focus omega); conv => whnf) | ((with_reducible apply Go.Vc.wr_i64); (focus exact And.intro (by omega) (by omega)); conv => whnf))
      have hx : ((strL E).extract (64 * k) (64 * k + 64)).data.toList = (E.drop (64 * k)).take 64 := by rw [strL_extract]; congr 1; omega
      have hxs : ((strL E).extract (64 * k) (64 * k + 64)).size = 64 := by
        show ((strL E).extract (64 * k) (64 * k + 64)).data.size = 64
        rw [← Array.length_toList, hx, List.length_take, List.length_drop]; omega
      rw [show ((64 * k : Nat) : Int).toNat = 64 * k from rfl, show (((64 * k : Nat) : Int) + 64).toNat = 64 * k + 64 from rfl]
      refine (refBlock_spec (run k H0 E) _ hxs _ _).mono ?_
      rintro _ h4 t4 hd4 ht4 ⟨rfl, hs4⟩
      rw [hx, ← run_succ]
      have hk4 := hs4 _ _ hk3
      generalize hS1 : run (k + 1) H0 E = S1 at *
      unfold stv
      conv => whnf
      refine Go.Vc.strow hk4 rfl rfl rfl ?_
      rintro cc hcc
      have hcc : cc = vs S1 := by rw [hcc]; rfl
      subst hcc
      conv => whnf
      repeat (first | ((with_reducible apply Go.Vc.wr_i64); (focus exact And.intro (by omega) (by omega)); conv => whnf))
      refine round_end (k + 1) (by omega) ⟨rfl, rfl, rfl, trivial⟩ ⟨by omega, by omega, ?_, by rw [hS1]; exact hset_same _ _ _⟩
      intro k o ho
      have := hd k o ho
      rw [hset_ne _ _ (by omega)]; exact hs4 _ _ (hs3 _ _ ho)
    · have hkk : k = E.length / 64 := by omega
      conv => whnf
      refine Go.Vc.draw_intro [⟨0, false, false, false, 0⟩, ⟨1, false, false, false, 1⟩, ⟨3, false, true, false, 0⟩, ⟨4, false, true, false, 8⟩, ⟨7, false, true, false, 0⟩, ⟨8, false, true, false, 128⟩, ⟨11, false, true, false, 0⟩, ⟨12, false, true, false, 2048⟩, ⟨15, false, true, false, 0⟩, ⟨16, false, true, false, 32768⟩, ⟨19, false, true, false, 0⟩, ⟨20, false, true, false, 524288⟩, ⟨23, false, true, false, 0⟩, ⟨24, false, true, false, 8388608⟩, ⟨27, false, true, false, 0⟩, ⟨28, false, true, false, 134217728⟩, ⟨2, true, false, true, 3⟩, ⟨5, true, false, true, 31⟩, ⟨6, false, true, false, 63⟩, ⟨9, true, false, true, 447⟩, ⟨10, false, true, false, 1023⟩, ⟨13, true, false, true, 7103⟩, ⟨14, false, true, false, 16383⟩, ⟨17, true, false, true, 113599⟩, ⟨18, false, true, false, 262143⟩, ⟨21, true, false, true, 1817535⟩, ⟨22, false, true, false, 4194303⟩, ⟨25, true, false, true, 29080511⟩, ⟨26, false, true, false, 67108863⟩, ⟨29, true, false, true, 465288127⟩, ⟨30, false, false, false, 1073741823⟩, ⟨31, false, false, false, 2147483647⟩] (hs := h3) (hsub := (Sub.refl _)) (hm := by kernel_rfl) (hpl := by kernel_rfl) ?_
      conv => whnf
      rw [hkk] at hk3
      rw [hsh]
      generalize run (E.length / 64) H0 E = S at *
      unfold vs at hk3
      have hsX := Sub.refl h3
      conv => whnf
      repeat (first | ((with_reducible apply Go.Vc.ld_i); (focus ((repeat (first | with_reducible assumption | with_reducible exact Go.Vc.hset_same _ _ _ | with_reducible refine (Go.Vc.hset_ne _ _ (by omega)).trans ?_)); done)); (focus exact rfl); conv => whnf))
      refine (four_spec _ _ _).mono ?_
      rintro _ hN tN hdN htN ⟨rfl, hsN⟩
      have hsX := hsX.trans hsN
      conv => whnf
      refine ⟨hsX, ?_⟩
      conv => whnf
      refine (four_spec _ _ _).mono ?_
      rintro _ hN tN hdN htN ⟨rfl, hsN⟩
      have hsX := hsX.trans hsN
      conv => whnf
      refine ⟨hsX, ?_⟩
      conv => whnf
      refine And.intro (by show (strL (four S.a)).size + (strL (four S.b)).size ≤ _; rw [strL_size, strL_size]; simp only [List.length_append, four_length]; decide) ?_
      rw [show (⟨(four S.a).toArray⟩ : ByteArray) ++ (⟨(four S.b).toArray⟩ : ByteArray) = strL (four S.a ++ four S.b) from strL_app (four S.a) (four S.b)]
      conv => whnf
      refine (four_spec _ _ _).mono ?_
      rintro _ hN tN hdN htN ⟨rfl, hsN⟩
      have hsX := hsX.trans hsN
      conv => whnf
      refine ⟨hsX, ?_⟩
      conv => whnf
      refine And.intro (by show (strL (four S.a ++ four S.b)).size + (strL (four S.c)).size ≤ _; rw [strL_size, strL_size]; simp only [List.length_append, four_length]; decide) ?_
      rw [show strL (four S.a ++ four S.b) ++ (⟨(four S.c).toArray⟩ : ByteArray) = strL (four S.a ++ four S.b ++ four S.c) from strL_app (four S.a ++ four S.b) (four S.c)]
      conv => whnf
      refine (four_spec _ _ _).mono ?_
      rintro _ hN tN hdN htN ⟨rfl, hsN⟩
      have hsX := hsX.trans hsN
      conv => whnf
      refine ⟨hsX, ?_⟩
      conv => whnf
      refine And.intro (by show (strL (four S.a ++ four S.b ++ four S.c)).size + (strL (four S.d)).size ≤ _; rw [strL_size, strL_size]; simp only [List.length_append, four_length]; decide) ?_
      rw [show strL (four S.a ++ four S.b ++ four S.c) ++ (⟨(four S.d).toArray⟩ : ByteArray) = strL (four S.a ++ four S.b ++ four S.c ++ four S.d) from strL_app (four S.a ++ four S.b ++ four S.c) (four S.d)]
      conv => whnf
      refine (four_spec _ _ _).mono ?_
      rintro _ hN tN hdN htN ⟨rfl, hsN⟩
      have hsX := hsX.trans hsN
      conv => whnf
      refine ⟨hsX, ?_⟩
      conv => whnf
      refine And.intro (by show (strL (four S.a ++ four S.b ++ four S.c ++ four S.d)).size + (strL (four S.e)).size ≤ _; rw [strL_size, strL_size]; simp only [List.length_append, four_length]; decide) ?_
      rw [show strL (four S.a ++ four S.b ++ four S.c ++ four S.d) ++ (⟨(four S.e).toArray⟩ : ByteArray) = strL (four S.a ++ four S.b ++ four S.c ++ four S.d ++ four S.e) from strL_app (four S.a ++ four S.b ++ four S.c ++ four S.d) (four S.e)]
      conv => whnf
      refine (four_spec _ _ _).mono ?_
      rintro _ hN tN hdN htN ⟨rfl, hsN⟩
      have hsX := hsX.trans hsN
      conv => whnf
      refine ⟨hsX, ?_⟩
      conv => whnf
      refine And.intro (by show (strL (four S.a ++ four S.b ++ four S.c ++ four S.d ++ four S.e)).size + (strL (four S.f)).size ≤ _; rw [strL_size, strL_size]; simp only [List.length_append, four_length]; decide) ?_
      rw [show strL (four S.a ++ four S.b ++ four S.c ++ four S.d ++ four S.e) ++ (⟨(four S.f).toArray⟩ : ByteArray) = strL (four S.a ++ four S.b ++ four S.c ++ four S.d ++ four S.e ++ four S.f) from strL_app (four S.a ++ four S.b ++ four S.c ++ four S.d ++ four S.e) (four S.f)]
      conv => whnf
      refine (four_spec _ _ _).mono ?_
      rintro _ hN tN hdN htN ⟨rfl, hsN⟩
      have hsX := hsX.trans hsN
      conv => whnf
      refine ⟨hsX, ?_⟩
      conv => whnf
      refine And.intro (by show (strL (four S.a ++ four S.b ++ four S.c ++ four S.d ++ four S.e ++ four S.f)).size + (strL (four S.g)).size ≤ _; rw [strL_size, strL_size]; simp only [List.length_append, four_length]; decide) ?_
      rw [show strL (four S.a ++ four S.b ++ four S.c ++ four S.d ++ four S.e ++ four S.f) ++ (⟨(four S.g).toArray⟩ : ByteArray) = strL (four S.a ++ four S.b ++ four S.c ++ four S.d ++ four S.e ++ four S.f ++ four S.g) from strL_app (four S.a ++ four S.b ++ four S.c ++ four S.d ++ four S.e ++ four S.f) (four S.g)]
      conv => whnf
      refine (four_spec _ _ _).mono ?_
      rintro _ hN tN hdN htN ⟨rfl, hsN⟩
      have hsX := hsX.trans hsN
      conv => whnf
      refine ⟨hsX, ?_⟩
      conv => whnf
      refine And.intro (by show (strL (four S.a ++ four S.b ++ four S.c ++ four S.d ++ four S.e ++ four S.f ++ four S.g)).size + (strL (four S.h)).size ≤ _; rw [strL_size, strL_size]; simp only [List.length_append, four_length]; decide) ?_
      rw [show strL (four S.a ++ four S.b ++ four S.c ++ four S.d ++ four S.e ++ four S.f ++ four S.g) ++ (⟨(four S.h).toArray⟩ : ByteArray) = strL (four S.a ++ four S.b ++ four S.c ++ four S.d ++ four S.e ++ four S.f ++ four S.g ++ four S.h) from strL_app (four S.a ++ four S.b ++ four S.c ++ four S.d ++ four S.e ++ four S.f ++ four S.g) (four S.h)]
      conv => whnf
      refine ⟨rfl, ?_⟩
      exact hs3.trans hsX
end Go.Proofs.Ytmlcdkckedjdjaa
