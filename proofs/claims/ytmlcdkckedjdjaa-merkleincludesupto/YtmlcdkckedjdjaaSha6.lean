/- Sum, Reset, One. -/
import Derived.Test.YtmlcdkckedjdjaaSha5
namespace Go.Proofs.Ytmlcdkckedjdjaa
open Go Go.Vc Go.Sha
set_option maxRecDepth 10000
set_option linter.unusedVariables false

theorem HC_rowk {H K : List U} {rest : Value} {n : Int} (hH : H.length = 8) (hK : K.length = 64) : ((HC H K rest n).toList.drop 8).take 64 = K.map u32v := by
  simp [HC, List.drop_append, hH, List.take_append, hK]
theorem HC_rowh {H K : List U} {rest : Value} {n : Int} (hH : H.length = 8) : ((HC H K rest n).toList.drop 0).take 8 = H.map u32v := by
  simp [HC, List.take_append, hH]

theorem app_bytes {h : Heap} {t : Nat} {a xa : Option Addr} {n c m xc : Nat} {l l2 : List UInt8} {ty : TypeId} (ho : Own h 5 a n c bv l) (hx : Sl h xa m bv l2) (hb : n + m ≤ 1099511627776) (hd : Dom h t) {K : Value → Heap → Nat → Prop}
    (hK : ∀ a' c' h' t', Own h' 5 a' (n + m) c' bv (l ++ l2) → t ≤ t' → Dom h' t' → (∀ k, k < t → owner a ≠ some k → h' k = h k) → (owner a' = owner a ∨ ∃ r, owner a' = some r ∧ t ≤ r) → K (.slice a' (n + m) c') h' t') :
    AppVC Try.prog #[42, 42] ty (.slice a n c) (.slice xa m xc) K h t :=
  app_vc (f := bv) Try.underlying42 Try.underlying42 rfl (inf := Try.types[5]) (z := .int .u8 0) (by kernel_rfl) (by kernel_rfl) (by kernel_rfl) rfl ho ⟨_, _, rfl, hx⟩ (fun _ => rfl) (by show (n + m) * 1 ≤ _; omega) (by omega) (by show 1 ≤ 1000; omega) hd hK
theorem lit_bytes {h : Heap} {r : Nat} {l : List UInt8} {T : TypeId} {c : Array Value} (hr : h r = some (.cells c T (0, 0))) (hc : c = (l.map bv).toArray) {n : Nat} (hn : l.length = n) : Sl h (some ⟨r, 0, none⟩) n bv l := by
  subst hc; exact ar_sl hr hn
theorem readB_sl {h : Heap} {b off n : Nat} {l : List UInt8} (s : Sl h (some ⟨b, off, none⟩) n bv l) : ReadB h ⟨b, off, none⟩ n l := by
  refine ⟨s.1, fun i hi => ?_⟩
  obtain ⟨b', off', cs, T, fr, ha, hb, hc⟩ := s.2 (by omega)
  cases ha
  rw [addr_add]
  refine ⟨cs, T, fr, hb, rfl, ?_⟩
  have := hc i (by rw [s.1]; exact hi)
  rw [show (Addr.mk b (off + i) none).off = off + i from rfl, this]
  simp [bv, List.getD_eq_getElem?_getD, show i < l.length by rw [s.1]; exact hi]

theorem sum_spec {h : Heap} {t b : Nat} {d : Option Nat} {M : List UInt8} (x : HashAt h b d M) (hM : M.length ≤ 1099511627000) :
    CallSpec Try.prog 46 #[.pointer (some ⟨b, 0, none⟩)] h t (fun v h' t' => v = .string ⟨(sha M).toArray⟩ ∧ Sub h h') := by
  obtain ⟨a, n, c, hb, ho, _⟩ := x
  have hbC : Cel h b (HC (run (M.length / 64) H0 M).list KT (.slice a n c) M.length) 73 := hb
  clear hb
  generalize hHM : run (M.length / 64) H0 M = HM at hbC
  refine Go.Vc.spec_of_vc (fn := Try.f46) Try.func46 rfl (by kernel_rfl) (by kernel_rfl) (Nat.le_of_ble_eq_true rfl) ?_
  intro hd
  have hbt := hd _ _ hbC
  conv => whnf
  refine Go.Vc.draw_intro [⟨0, false, false, false, 0⟩, ⟨1, false, false, false, 1⟩, ⟨2, false, false, false, 3⟩, ⟨3, false, false, false, 7⟩, ⟨4, false, false, false, 0⟩, ⟨5, false, false, false, 16⟩, ⟨6, false, false, false, 48⟩, ⟨7, false, false, false, 112⟩, ⟨8, false, false, false, 255⟩, ⟨9, true, false, false, 511⟩, ⟨10, false, false, false, 1023⟩] (hs := h) (hsub := (Sub.refl h)) (hm := by kernel_rfl) (hpl := by kernel_rfl) ?_
  conv => whnf
  refine Go.Vc.ldrow hbC (by rw [Nat.ble_eq, HC_size rfl rfl]; decide) ?_
  intro l hl
  have hl : l = HM.list.map u32v := hl.trans (HC_rowh rfl)
  subst hl
  rw [Go.Vc.forceL_eq]
  conv => whnf
  refine Go.Vc.ldrow hbC (by rw [Nat.ble_eq, HC_size rfl rfl]; decide) ?_
  intro l hl
  have hl : l = KT.map u32v := hl.trans (HC_rowk rfl rfl)
  subst hl
  rw [Go.Vc.forceL_eq]
  conv => whnf
  refine build2 ?_
  conv => whnf
  intro r hr
  conv => whnf
  generalize hh1 : hset h r _ = h1
  have hbY : Cel h1 r (HC HM.list KT (.slice none 0 0) 0) 73 := by rw [← hh1]; exact hset_same _ _ _
  have hs1 : Sub h h1 := by rw [← hh1]; exact hd.sub_new hr _
  have hd1 : Dom h1 (r + 1) := by rw [← hh1]; exact hd.set r _ (r + 1) (by omega) (by omega)
  refine Go.Vc.ld_i (hs1 _ _ hbC) (HC_r rfl rfl) ?_
  generalize hR : M.drop (64 * (M.length / 64)) = R at *
  have hRl : R.length = M.length % 64 := by rw [← hR, List.length_drop]; omega
  have hon := ho.1
  conv => whnf
  refine app_bytes (Own.nil _ _ _) (ho.sl.sub hs1) (by omega) hd1 ?_
  intro a2 c2 h2 t2 ho2 ht2 hd2 hk2 how2
  rw [List.nil_append, Nat.zero_add] at ho2
  rw [Nat.zero_add n]
  have hs2 : Sub h1 h2 := fun k o ho => by rw [hk2 k (hd1 k o ho) (by simp [owner])]; exact ho
  have hf2 : ∀ k, owner a2 = some k → r + 1 ≤ k := by
    intro k hk
    rcases how2 with h | ⟨q, h, hq⟩
    · rw [h] at hk; cases hk
    · rw [h] at hk; cases hk; exact hq
  conv => whnf
  repeat (first | (intro _ _; conv => whnf))
  rename_i r3 hr3
  have hs3 := hd2.sub_new hr3 (.cells #[Value.int .u8 128] 5)
  have hd3 := hd2.set r3 (.cells #[Value.int .u8 128] 5) (r3 + 1) (by omega) (by omega)
  refine app_bytes (m := 1) (l2 := [128]) (ho2.fr (fun k o _ ho => hs3 k o ho)) (lit_bytes (hset_same _ _ _) rfl rfl) (by show n + 1 ≤ 1099511627776; omega) hd3 ?_
  intro a4 c4 h4 t4 ho4 ht4 hd4 hk4 how4
  have hs4 : Sub h1 h4 := by
    intro k o hk
    have hkt := hd1 k o hk
    have h5 := hs3 _ _ (hs2 _ _ hk)
    rw [hk4 k (by omega) (fun e => by have := hf2 k e; omega)]; exact h5
  have hf4 : ∀ k, owner a4 = some k → r + 1 ≤ k := by
    intro k hk
    rcases how4 with h | ⟨q, h, hq⟩
    · rw [h] at hk; exact hf2 k hk
    · rw [h] at hk; cases hk; omega
  conv => whnf
  refine loop_intro3 (fun (i : Nat) (a' : Option Addr) (c' : Nat) => [(0, .pointer (some ⟨b, 0, none⟩)), (3, .pointer (some ⟨r, 0, none⟩)), (4, .slice a' (R.length + 1 + i) c')])
    (fun i a' c' h' t' => t4 ≤ t' ∧ i ≤ (119 - M.length % 64) % 64 ∧ Own h' 5 a' (R.length + 1 + i) c' bv (R ++ 128 :: List.replicate i 0) ∧ (∀ k, owner a' = some k → r + 1 ≤ k) ∧ Sub h1 h')
    (fun i _ _ => 64 - i) 0 a4 c4 ⟨rfl, rfl, ?_, trivial⟩ ⟨by omega, by omega, ?_, hf4, hs4⟩ ?_
  · show Value.slice a4 _ c4 = Value.slice a4 _ c4
    rw [hon]
  · have := ho4; rw [← hon] at this; exact this
  rintro i a5 c5 g h5 t5 hd5 ⟨ht5, hi, ho5, hf5, hs5⟩
  conv => whnf
  repeat (first | ((with_reducible apply Go.Vc.rem_i); (focus omega); conv => whnf) | ((with_reducible refine And.intro ?_ (And.intro ?_ ?_)); (focus exact rfl); (focus omega); conv => whnf))
  refine br (fun hb1 => ?_) (fun hb1 => ?_)
  · have hiz : i < (119 - M.length % 64) % 64 := by omega
    conv => whnf
    repeat (first | (intro _ _; conv => whnf))
    rename_i r6 hr6
    have hs6 := hd5.sub_new hr6 (.cells #[Value.int .u8 0] 5)
    have hd6 := hd5.set r6 (.cells #[Value.int .u8 0] 5) (r6 + 1) (by omega) (by omega)
    refine app_bytes (m := 1) (l2 := [0]) (ho5.fr (fun k o _ ho => hs6 k o ho)) (lit_bytes (hset_same _ _ _) rfl rfl) (by omega) hd6 ?_
    intro a7 c7 h7 t7 ho7 ht7 hd7 hk7 how7
    conv => whnf
    refine round_end3 (i + 1) a7 c7 (by omega) ⟨rfl, rfl, rfl, trivial⟩ ⟨by omega, by omega, ?_, ?_, ?_⟩
    · rw [List.replicate_succ', ← List.cons_append, ← List.append_assoc]; exact ho7
    · intro k hk
      rcases how7 with h | ⟨q, h, hq⟩
      · rw [h] at hk; exact hf5 k hk
      · rw [h] at hk; cases hk; omega
    · intro k o hk
      have hkt := hd1 k o hk
      rw [hk7 k (by omega) (fun e => by have := hf5 k e; omega)]
      exact hs6 k o (hs5 k o hk)
  · have hiz : i = (119 - M.length % 64) % 64 := by omega
    conv => whnf
    refine loop_intro3 (fun (j : Nat) (a' : Option Addr) (c' : Nat) => [(0, .pointer (some ⟨b, 0, none⟩)), (3, .pointer (some ⟨r, 0, none⟩)), (4, .slice a' (R.length + 1 + i + j) c'), (34, .int .i64 (j : Nat))])
      (fun j a' c' h' t' => t5 ≤ t' ∧ j ≤ 8 ∧ Own h' 5 a' (R.length + 1 + i + j) c' bv (R ++ 128 :: (List.replicate i 0 ++ (be8 (8 * M.length)).take j)) ∧ (∀ k, owner a' = some k → r + 1 ≤ k) ∧ Sub h1 h')
      (fun j _ _ => 8 - j) 0 a5 c5 ⟨rfl, rfl, rfl, rfl, trivial⟩ ⟨by omega, by omega, by rw [List.take_zero, List.append_nil]; exact ho5, hf5, hs5⟩ ?_
    have hrt5 : r + 1 ≤ t5 := by omega
    clear ho5 hf5 hs5 hd5 ht5
    rintro j a5 c5 g h5 t6 hd5 ⟨ht5, hj, ho5, hf5, hs5⟩
    conv => whnf
    refine br (fun hb2 => ?_) (fun hb2 => ?_)
    · have hj8 : j < 8 := by omega
      conv => whnf
      refine Go.Vc.ld_i (hs5 _ _ (hs1 _ _ hbC)) (HC_n rfl rfl) ?_
      conv => whnf
      repeat (first | ((with_reducible apply Go.Vc.wr_i64); (focus exact And.intro (by omega) (by omega)); conv => whnf) | ((with_reducible apply Go.Vc.wr_u64); (focus exact And.intro (by omega) (by omega)); conv => whnf) | ((with_reducible apply Go.Vc.and_leI); (focus omega); conv => whnf))
      refine Go.Vc.shr_i ⟨by omega, by show _ < (18446744073709551616 : Int); omega⟩ (fun z hz hz0 hz1 => ?_)
      conv => whnf
      have hx : IntKind.u8.wrap z = (((UInt8.ofNat ((8 * M.length) >>> (56 - 8 * j))).toNat : Nat) : Int) := by
        rw [wu8, hz, Nat.shiftRight_eq_div_pow, show ((56 : Int) - 8 * j).toNat = 56 - 8 * j by omega]
        simp [Int.mul_comm]
      refine ⟨_, hx.symm, ?_⟩
      conv => whnf
      repeat (first | (intro _ _; conv => whnf))
      rename_i r6 hr6
      generalize hX : UInt8.ofNat ((8 * M.length) >>> (56 - 8 * j)) = X at *
      have hs6 := hd5.sub_new hr6 (.cells #[bv X] 5)
      have hd6 := hd5.set r6 (.cells #[bv X] 5) (r6 + 1) (by omega) (by omega)
      refine app_bytes (m := 1) (l2 := [X]) (ho5.fr (fun k o _ ho => hs6 k o ho)) (lit_bytes (hset_same _ _ _) rfl rfl) (by omega) hd6 ?_
      intro a7 c7 h7 t7 ho7 ht7 hd7 hk7 how7
      conv => whnf
      repeat (first | ((with_reducible apply Go.Vc.wr_i64); (focus exact And.intro (by omega) (by omega)); conv => whnf))
      refine round_end3 (j + 1) a7 c7 (by omega) ⟨rfl, rfl, rfl, rfl, trivial⟩ ⟨by omega, by omega, ?_, ?_, ?_⟩
      · have hb8 : (be8 (8 * M.length)).take (j + 1) = (be8 (8 * M.length)).take j ++ [X] := by
          rw [List.take_add_one, ← hX]
          congr 1
          simp [be8, hj8]
        rw [hb8, ← List.append_assoc, ← List.cons_append, ← List.append_assoc]; exact ho7
      · intro k hk
        rcases how7 with h | ⟨q, h, hq⟩
        · rw [h] at hk; exact hf5 k hk
        · rw [h] at hk; cases hk; omega
      · intro k o hk
        have hkt := hd1 k o hk
        rw [hk7 k (by omega) (fun e => by have := hf5 k e; omega)]
        exact hs6 k o (hs5 k o hk)
    · have hj8 : j = 8 := by omega
      subst hj8
      have hpad : R ++ 128 :: (List.replicate i 0 ++ (be8 (8 * M.length)).take 8) = R ++ 128 :: (List.replicate ((119 - M.length % 64) % 64) 0 ++ be8 (8 * M.length)) := by
        rw [← hiz, List.take_of_length_le (by simp [be8])]
      rw [hpad] at ho5
      generalize hE : R ++ 128 :: (List.replicate ((119 - M.length % 64) % 64) 0 ++ be8 (8 * M.length)) = E at *
      obtain ⟨bE, offE, rfl⟩ : ∃ bE offE, a5 = some ⟨bE, offE, none⟩ := by
        rcases ho5.2 with ⟨h1, h2, _⟩ | ⟨b', off', _, _, ha, _⟩
        · omega
        · exact ⟨b', off', ha⟩
      conv => whnf
      refine ⟨E, readB_sl ho5.sl, ?_⟩
      conv => whnf
      have hEl := ho5.1
      have hsz : (⟨E.toArray⟩ : ByteArray).size = E.length := by show E.toArray.size = _; simp
      refine (write_gen (HM := HM) (R := []) (N := 0) (d := none) ⟨none, 0, 0, hs5 _ _ hbY, Own.nil _ _ _, rfl, by simp⟩ ⟨E.toArray⟩ (by rw [hsz]; simp; omega) (by rw [hsz]; omega)).mono ?_
      rintro _ h8 t8 hd8 ht8 ⟨rfl, d8, ⟨a8, n8, c8, hb8', ho8, _, _⟩, hd8', hk8⟩
      rw [show ([] : List UInt8) ++ (⟨E.toArray⟩ : ByteArray).data.toList = E from by simp] at hb8'
      have hb8 : Cel h8 r (HC (run (E.length / 64) HM E).list KT (.slice a8 n8 c8) (0 + (⟨E.toArray⟩ : ByteArray).size)) 73 := hb8'
      clear hb8'
      have hs8 : Sub h h8 := by
        intro k o hk
        have := hd k o hk
        exact hk8 k o (by omega) (by simp) (hs5 k o (hs1 k o hk))
      generalize hS : run (E.length / 64) HM E = S at *
      conv => whnf
      refine Go.Vc.ldrow hb8 (by rw [Nat.ble_eq, HC_size rfl rfl]; decide) ?_
      intro l hl
      have hl : l = S.list.map u32v := hl.trans (HC_rowh rfl)
      subst hl
      rw [Go.Vc.forceL_eq]
      conv => whnf
      have hrt8 : r + 1 ≤ t8 := by omega
      refine loop_intro3 (fun (j : Nat) (a' : Option Addr) (c' : Nat) => [(6, .slice a' (4 * j) c'), (59, .agg (S.list.map u32v).toArray), (60, .int .i64 (j : Nat))])
        (fun j a' c' h' t' => t8 ≤ t' ∧ j ≤ 8 ∧ Own h' 5 a' (4 * j) c' bv ((S.list.take j).flatMap four) ∧ (∀ k, owner a' = some k → t8 ≤ k) ∧ Sub h8 h')
        (fun j _ _ => 8 - j) 0 none 0 ⟨rfl, rfl, rfl, trivial⟩ ⟨by omega, by omega, Own.nil _ _ _, (fun k hk => by cases hk), Sub.refl _⟩ ?_
      rintro j a9 c9 g h9 t9 hd9 ⟨ht9, hj, ho9, hf9, hs9⟩
      conv => whnf
      refine br (fun hb3 => ?_) (fun hb3 => ?_)
      · have hj8 : j < 8 := by omega
        have hSl : S.list.length = 8 := rfl
        conv => whnf
        repeat (first | ((with_reducible apply Go.Vc.shr32); conv => whnf) | ((with_reducible apply Go.Vc.c32_8); conv => whnf) | ((with_reducible refine And.intro (And.intro ?_ ?_) ?_); (focus omega); (focus omega); conv => whnf) | ((with_reducible apply Go.Vc.agg_ld); (focus exact rfl); (focus (first | omega | (simp; done) | (simp; omega))); intro xA hxA; conv => whnf) | (intro _ _; conv => whnf) | ((with_reducible apply Go.Vc.and_leI); (focus omega); conv => whnf))
        have hx : S.list[j]? = some xA := hxA
        rename_i r10 hr10
        have hX4 : [UInt8.ofNat (xA >>> (Int.toNat 24)).toNat, UInt8.ofNat (xA >>> (Int.toNat 16)).toNat, UInt8.ofNat (xA >>> (Int.toNat 8)).toNat, UInt8.ofNat xA.toNat] = four xA := by
          simp [four]
        generalize hX : [UInt8.ofNat (xA >>> (Int.toNat 24)).toNat, UInt8.ofNat (xA >>> (Int.toNat 16)).toNat, UInt8.ofNat (xA >>> (Int.toNat 8)).toNat, UInt8.ofNat xA.toNat] = X at *
        have hs10 := hd9.sub_new hr10 (.cells (X.map bv).toArray 5)
        have hd10 := hd9.set r10 (.cells (X.map bv).toArray 5) (r10 + 1) (by omega) (by omega)
        have hcell : #[Value.int .u8 (((UInt8.ofNat (xA >>> (Int.toNat 24)).toNat).toNat : Nat) : Int), Value.int .u8 (((UInt8.ofNat (xA >>> (Int.toNat 16)).toNat).toNat : Nat) : Int), Value.int .u8 (((UInt8.ofNat (xA >>> (Int.toNat 8)).toNat).toNat : Nat) : Int), Value.int .u8 (((UInt8.ofNat xA.toNat).toNat : Nat) : Int)] = (X.map bv).toArray := by rw [← hX]; rfl
        rw [show [Value.int .u8 (((UInt8.ofNat (xA >>> (Int.toNat 24)).toNat).toNat : Nat) : Int), Value.int .u8 (((UInt8.ofNat (xA >>> (Int.toNat 16)).toNat).toNat : Nat) : Int), Value.int .u8 (((UInt8.ofNat (xA >>> (Int.toNat 8)).toNat).toNat : Nat) : Int), Value.int .u8 (((UInt8.ofNat xA.toNat).toNat : Nat) : Int)].toArray = (X.map bv).toArray from hcell]
        have hXl : X.length = 4 := by rw [← hX]; rfl
        refine app_bytes (m := 4) (l2 := X) (ho9.fr (fun k o _ ho => hs10 k o ho)) (ar_sl (hset_same _ _ _) hXl) (by omega) hd10 ?_
        intro a11 c11 h11 t11 ho11 ht11 hd11 hk11 how11
        conv => whnf
        repeat (first | ((with_reducible apply Go.Vc.wr_i64); (focus exact And.intro (by omega) (by omega)); conv => whnf))
        refine round_end3 (j + 1) a11 c11 (by omega) ⟨?_, rfl, rfl, trivial⟩ ⟨by omega, by omega, ?_, ?_, ?_⟩
        · show Value.slice a11 (4 * j + 4) c11 = Value.slice a11 (4 * (j + 1)) c11
          rw [Nat.mul_add]
        · rw [List.take_add_one, hx, List.flatMap_append]
          rw [show 4 * (j + 1) = 4 * j + 4 by omega]
          simpa [← hX4] using ho11
        · intro k hk
          rcases how11 with h | ⟨q, h, hq⟩
          · rw [h] at hk; exact hf9 k hk
          · rw [h] at hk; cases hk; omega
        · intro k o hk
          have hkt := hd8 k o hk
          rw [hk11 k (by omega) (fun e => by have := hf9 k e; omega)]
          exact hs10 k o (hs9 k o hk)
      · have hj8 : j = 8 := by omega
        subst hj8
        have hout : (S.list.take 8).flatMap four = out S := rfl
        rw [hout] at ho9
        obtain ⟨bO, offO, rfl⟩ : ∃ bO offO, a9 = some ⟨bO, offO, none⟩ := by
          rcases ho9.2 with ⟨h1, h2, _⟩ | ⟨b', off', _, _, ha, _⟩
          · omega
          · exact ⟨b', off', ha⟩
        conv => whnf
        refine ⟨out S, readB_sl ho9.sl, ?_⟩
        conv => whnf
        refine ⟨?_, hs8.trans hs9⟩
        have hpm : pad M = M ++ 128 :: (List.replicate ((119 - M.length % 64) % 64) 0 ++ be8 (8 * M.length)) := rfl
        have hw := run_write M (128 :: (List.replicate ((119 - M.length % 64) % 64) 0 ++ be8 (8 * M.length)))
        rw [← hpm, hR, hE, hHM, hS] at hw
        unfold sha
        rw [hw]
end Go.Proofs.Ytmlcdkckedjdjaa
