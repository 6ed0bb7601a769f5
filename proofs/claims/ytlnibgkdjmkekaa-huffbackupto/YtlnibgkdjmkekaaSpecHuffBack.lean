/- HuffBack answers true, by its contract. -/
import Derived.Test.YtlnibgkdjmkekaaHuff11
namespace Go.Proofs.Ytlnibgkdjmkekaa
open Go Go.Vc Go.Huf
set_option maxRecDepth 10000
set_option linter.unusedVariables false

theorem shl_u8 : ∀ r : Fin 8, shlV .u8 1 ((r.1 : Nat) : Int) = ((2 ^ r.1 : Nat) : Int) := by decide
theorem or_u8 (x : UInt8) {m : Nat} (hm : m < 256) : IntKind.u8.wrap ((BitVec.ofInt IntKind.u8.bits ((x.toNat : Nat) : Int) ||| BitVec.ofInt IntKind.u8.bits (m : Int)).toNat : Int) = (((x ||| UInt8.ofNat m).toNat : Nat) : Int) := by
  rw [ofInt_nat, ofInt_nat]
  have hx := x.toNat_lt
  have e : (BitVec.ofNat IntKind.u8.bits x.toNat ||| BitVec.ofNat IntKind.u8.bits m).toNat = (x ||| UInt8.ofNat m).toNat := by
    rw [BitVec.toNat_or, UInt8.toNat_or, UInt8.toNat_ofNat', BitVec.toNat_ofNat, BitVec.toNat_ofNat]
    show x.toNat % 256 ||| m % 256 = x.toNat ||| m % 256
    rw [Nat.mod_eq_of_lt (show x.toNat < 256 from hx)]
  rw [e]
  have h2 := (x ||| UInt8.ofNat m).toNat_lt
  rw [wu8]
  omega
theorem HuffBack_spec (h : Heap) (t : Nat) (a0 : Option Addr) (n0 c0 : Nat) (l0 : List Int) (s0 : Sl h a0 n0 (Value.int .u16) l0) (hn0 : n0 ≤ 1048576) (hc0 : n0 ≤ c0) (hb0 : ∀ z ∈ l0, IntKind.min .u16 ≤ z ∧ z ≤ IntKind.max .u16)
    (w : Int) (hw : IntKind.min .i64 ≤ w ∧ w ≤ IntKind.max .i64) (x : Int) (hx : IntKind.min .u8 ≤ x ∧ x ≤ IntKind.max .u8) (be : ByteArray) (hbe : be.size ≤ 1048576) :
    CallSpec Try.prog 7 #[.slice a0 n0 c0, .int .i64 w, .int .u8 x, .string be] h t (fun v h' _ => v = .bool true ∧ Vc.Sub h h') := by
  have hw2 : -9223372036854775808 ≤ w ∧ w ≤ 9223372036854775807 := hw
  have hx2 : 0 ≤ x ∧ x ≤ 255 := hx
  refine Go.Vc.spec_of_vc (fn := Try.f7) Try.func7 rfl (by kernel_rfl) (by kernel_rfl) (Nat.le_of_ble_eq_true rfl) ?_
  intro hd
  conv => whnf
  refine (examples_spec h t).mono ?_
  rintro _ h1 t1 hd1 ht1 ⟨rfl, hs1⟩
  conv => whnf
  refine (counted_spec (s0.sub hs1) hn0 hb0).mono ?_
  rintro _ h2 t2 hd2 ht2 ⟨a2, c2, rfl, ho2, hs2, _, _⟩
  have hcl := cnts_len l0
  have hle := cnts_le (l := l0) (m := 15) (by decide)
  have hen := errN_lenF (cnts_nonneg l0) (by omega) (by decide) hle
  have hlen := lenF_len 40 (cnts l0) 15
  have hnn := lenF_nonneg (cnts_nonneg l0) 40 15
  conv => whnf
  refine (lengths_spec ho2.sl (by omega)).mono ?_
  rintro _ h3 t3 hd3 ht3 ⟨a3, n3, c3, rfl, s3, hc3, _, hs3⟩
  rw [cnts_may (by decide)] at s3 ⊢
  replace s3 : Sl h3 a3 n3 (Value.int .i64) (lenF 40 (cnts l0) 15) := s3
  clear ho2
  generalize lenF 40 (cnts l0) 15 = L at *
  generalize (cnts l0) = C at *
  have hn3 : n3 ≤ 40 := by have := s3.1; omega
  conv => whnf
  refine (codes_spec s3 (by omega)).mono ?_
  rintro _ h4 t4 hd4 ht4 ⟨a4, n4, rfl, hs4, ho4, _⟩
  rw [if_pos hen.2] at ho4
  rw [hen.2]
  have hl4 := ho4.1
  rw [codes_length] at hl4
  have hL3 := s3.1
  have hn4 : n4 = n3 := by omega
  subst hn4
  conv => whnf
  refine (new_spec (s3.sub hs4) (by omega)).mono ?_
  rintro _ h5 t5 hd5 ht5 ⟨hs5, hv⟩
  rcases hv with ⟨hne, _⟩ | ⟨_, cb, hbt, rfl, hcod⟩
  · exact absurd hen.1 hne
  have s4 := ho4.sl.sub hs5
  have s3b := (s3.sub hs4).sub hs5
  have hsub : Vc.Sub h h5 := hs1.trans (hs2.trans (hs3.trans (hs4.trans hs5)))
  by_cases hn0' : n4 = 0
  · conv => whnf
    repeat (first | (refine Go.Vc.br_t ?_ ?_; (focus omega); conv => whnf) | (refine Go.Vc.br_f ?_ ?_; (focus omega); conv => whnf))
    exact ⟨rfl, hsub⟩
  obtain ⟨b3, off3, e3, hcell3⟩ := sl_cells s3b (by omega)
  obtain ⟨b4, off4, e4, hcell4⟩ := sl_cells s4 (by omega)
  subst e3
  subst e4
  conv => whnf
  repeat (first | (refine Go.Vc.br_f ?_ ?_; (focus omega); conv => whnf))
  refine br (fun hb => ?_) (fun hb => ?_)
  · obtain ⟨k, hk⟩ : ∃ k : Nat, (k : Int) = (0 - (w + 1)) % (n4 : Int) := ⟨((0 - (w + 1)) % (n4 : Int)).toNat, by have := Int.emod_nonneg (0 - (w + 1)) (show (n4 : Int) ≠ 0 by omega); omega⟩
    have hkn : k < n4 := by have := Int.emod_lt_of_pos (0 - (w + 1)) (show (0 : Int) < n4 by omega); omega
    conv => whnf
    repeat (first | ((with_reducible apply Go.Vc.own_ix); (focus exact And.intro (by omega) (by omega)); conv => whnf) | ((with_reducible apply Go.Vc.wr_i64); (focus exact And.intro (by omega) (by omega)); conv => whnf) | ((with_reducible apply Go.Vc.rem_i); (focus omega); conv => whnf) | ((with_reducible refine And.intro ?_ (And.intro ?_ ?_)); (focus exact rfl); (focus omega); conv => whnf))
    rw [← hk]
    have hkL : k < L.length := by omega
    have hck := hcell3 k L[k] (List.getElem?_eq_getElem hkL)
    have hdk := hcell4 k _ (codes_get hkL)
    have hk15 := hnn L[k] (List.getElem_mem hkL)
    have hk15b := hle L[k] (List.getElem_mem hkL)
    have gD : L.getD k 0 = L[k] := by rw [List.getD_eq_getElem?_getD, List.getElem?_eq_getElem hkL]; rfl
    obtain ⟨sz, hsz⟩ : ∃ sz : Nat, (sz : Int) = L[k] := ⟨L[k].toNat, by omega⟩
    rw [← hsz] at hck hk15 hk15b gD
    obtain ⟨_, hgood, hwsum⟩ := err_zero hen.2
    have hcr := code_range hen.2 hkL
    obtain ⟨C, hC⟩ : ∃ C, C = codeAt L k := ⟨_, rfl⟩
    rw [← hC] at hdk hcr
    by_cases hs0 : sz = 0
    · conv => whnf
      repeat (first | ((with_reducible apply Go.Vc.own_ix); (focus exact And.intro (by omega) (by omega)); conv => whnf) | ((with_reducible apply Go.Vc.cell_i); (focus assumption); conv => whnf) | (refine Go.Vc.br_t ?_ ?_; (focus omega); conv => whnf))
      exact ⟨by first | rfl | (rw [opq_eq]; simp; omega), hsub⟩
    have hfit := code_fits hgood hwsum hkL gD (by omega)
    rw [← hC] at hfit
    conv => whnf
    repeat (first | ((with_reducible apply Go.Vc.mk_b); (focus exact And.intro (by omega) (by omega)); (focus exact rfl); (focus omega); intro rM csM hrM hcsM; (first | (replace hcsM := hcsM.trans (Go.Vc.zc (Value.int .i64) 0 _)) | (replace hcsM := hcsM.trans (Go.Vc.zc Go.Vc.bv 0 _)) | (replace hcsM := hcsM.trans (Go.Vc.zc Value.string ByteArray.empty _))); subst hcsM; conv => whnf) | ((with_reducible apply Go.Vc.own_ix); (focus exact And.intro (by omega) (by omega)); conv => whnf) | ((with_reducible apply Go.Vc.cell_i); (focus assumption); conv => whnf) | ((with_reducible apply Go.Vc.wr_i64); (focus exact And.intro (by omega) (by omega)); conv => whnf) | ((with_reducible apply Go.Vc.rem_i); (focus omega); conv => whnf) | (refine Go.Vc.br_f ?_ ?_; (focus omega); conv => whnf) | ((with_reducible refine And.intro ?_ (And.intro ?_ ?_)); (focus exact rfl); (focus omega); conv => whnf))
    obtain ⟨A, hA⟩ : ∃ A : Nat, (A : Int) = x % 20 := ⟨(x % 20).toNat, by omega⟩
    rw [← hA]
    have hk5 : ∀ o, Vc.Sub h5 (hset h5 rM o) := fun o => hd5.sub_new hrM o
    have hne5 : ∀ b o, h5 b = some o → b ≠ rM := fun b o hb e => by have := hd5 b o hb; omega
    refine loop_intro2 (fun (q : Nat) (B : List UInt8) => [(3, .string be), (9, .bool true), (10, .slice (some ⟨b3, off3, none⟩) n4 c3), (12, .slice (some ⟨b4, off4, none⟩) n4 n4), (14, .pointer (some ⟨cb, 0, none⟩)), (16, .int .i64 (k : Nat)), (17, .int .i64 (A : Nat)), (18, .slice (some ⟨rM, 0, none⟩) 8 8), (19, .int .i64 (q : Nat))])
      (fun q B h' t' => q ≤ sz ∧ t5 ≤ t' ∧ h' rM = some (.cells (B.map bv).toArray 5 (0, 0)) ∧ B.length = 8 ∧ (∀ p, p < 64 → bt B p = decide (A ≤ p ∧ p < A + q ∧ C / 2 ^ (sz - 1 - (p - A)) % 2 = 1)) ∧ ∀ z, z ≠ rM → h' z = h5 z) (fun q _ => sz - q) 0 (List.replicate 8 0) ⟨rfl, rfl, rfl, rfl, rfl, rfl, rfl, rfl, rfl, trivial⟩
      ⟨by omega, by omega, hset_same _ _ _, rfl, fun p hp => ?_, fun z hz => hset_ne _ _ hz⟩ ?_
    · rw [show decide (A ≤ p ∧ p < A + 0 ∧ C / 2 ^ (sz - 1 - (p - A)) % 2 = 1) = false from by simp; omega]
      have h8 : p / 8 < 8 := by omega
      unfold bt
      rw [List.getD_eq_getElem?_getD, List.getElem?_replicate, if_pos h8]
      simp
    rintro q B g6 h6 t6 hd6 ⟨hq, ht6, hB, hBl, hbits, hk6⟩
    have hs56 : Vc.Sub h5 h6 := fun b o hb => by rw [hk6 b (hne5 b o hb)]; exact hb
    have hck6 : Cell h6 ⟨b3, off3 + k * 1, none⟩ (.int .i64 (sz : Nat)) := by
      obtain ⟨cs, T, f, e1, e2, e3⟩ := hck
      exact ⟨cs, T, f, hs56 _ _ e1, e2, e3⟩
    have hdk6 : Cell h6 ⟨b4, off4 + k * 1, none⟩ (.int .i64 C) := by
      obtain ⟨cs, T, f, e1, e2, e3⟩ := hdk
      exact ⟨cs, T, f, hs56 _ _ e1, e2, e3⟩
    conv => whnf
    repeat (first | ((with_reducible apply Go.Vc.own_ix); (focus exact And.intro (by omega) (by omega)); conv => whnf) | ((with_reducible apply Go.Vc.cell_i); (focus assumption); conv => whnf))
    refine br (fun hb6 => ?_) (fun hb6 => ?_)
    · conv => whnf
      refine Go.Vc.draw_intro [⟨0, false, false, false, 0⟩, ⟨1, false, false, false, 0⟩, ⟨2, false, false, false, 3⟩, ⟨3, false, false, false, 7⟩, ⟨4, false, false, false, 0⟩, ⟨5, false, false, false, 0⟩, ⟨6, false, false, false, 48⟩, ⟨7, false, false, false, 112⟩, ⟨8, false, false, false, 240⟩, ⟨9, false, false, false, 0⟩, ⟨10, false, false, false, 1008⟩, ⟨11, false, false, false, 2047⟩, ⟨12, false, false, false, 4095⟩, ⟨13, false, false, false, 8191⟩] (hs := (fun _ => none)) (hsub := (fun _ _ h => nomatch h)) (hm := by kernel_rfl) (hpl := by kernel_rfl) ?_
      conv => whnf
      conv => whnf
      repeat (first | ((with_reducible apply Go.Vc.own_ix); (focus exact And.intro (by omega) (by omega)); conv => whnf) | ((with_reducible apply Go.Vc.cell_i); (focus assumption); conv => whnf) | ((with_reducible apply Go.Vc.wr_i64); (focus exact And.intro (by omega) (by omega)); conv => whnf) | ((with_reducible apply Go.Vc.shr_i64); (focus exact And.intro (by omega) (by omega)); intro zS hzS hzS0 hzS1; conv => whnf) | ((with_reducible apply Go.Vc.rem_i); (focus omega); conv => whnf) | ((with_reducible apply Go.Vc.and_leI); (focus omega); conv => whnf) | ((with_reducible refine And.intro ?_ (And.intro ?_ ?_)); (focus exact rfl); (focus omega); conv => whnf))
      have hzq : zS = C / 2 ^ (sz - 1 - q) := by rw [hzS]; congr 2; omega
      have hpA : sz - 1 - (A + q - A) = sz - 1 - q := by omega
      refine br (fun hb7 => ?_) (fun hb7 => ?_)
      · conv => whnf
        refine Go.Vc.draw_intro [⟨0, false, false, false, 0⟩, ⟨1, false, false, false, 0⟩, ⟨2, false, false, false, 0⟩, ⟨3, false, false, false, 6⟩, ⟨4, false, false, false, 14⟩, ⟨5, false, false, false, 0⟩, ⟨6, false, false, false, 0⟩, ⟨7, false, false, false, 0⟩, ⟨8, false, false, false, 192⟩, ⟨9, false, false, false, 448⟩, ⟨10, false, false, false, 992⟩, ⟨11, false, false, false, 2016⟩, ⟨12, false, false, false, 0⟩, ⟨13, false, false, false, 0⟩, ⟨14, false, false, false, 12288⟩, ⟨15, false, false, false, 28672⟩, ⟨16, false, false, false, 61440⟩, ⟨17, false, false, false, 131040⟩, ⟨18, false, false, false, 262143⟩, ⟨19, true, false, false, 524287⟩] (hs := (fun _ => none)) (hsub := (fun _ _ h => nomatch h)) (hm := by kernel_rfl) (hpl := by kernel_rfl) ?_
        conv => whnf
        conv => whnf
        repeat (first | ((with_reducible apply Go.Vc.own_ix); (focus exact And.intro (by omega) (by omega)); conv => whnf) | ((with_reducible apply Go.Vc.ar_ld); (focus ((repeat (first | with_reducible assumption | with_reducible exact Go.Vc.hset_same _ _ _ | with_reducible refine (Go.Vc.hset_ne _ _ (by omega)).trans ?_)); done)); (focus exact rfl); (focus (first | omega | (simp; done) | (simp; omega))); intro xA hxA; conv => whnf) | ((with_reducible apply Go.Vc.wr_i64); (focus exact And.intro (by omega) (by omega)); conv => whnf) | ((with_reducible apply Go.Vc.quo_i64); (focus exact And.intro (by omega) (And.intro (by omega) (by omega))); conv => whnf) | ((with_reducible apply Go.Vc.rem_i); (focus omega); conv => whnf) | ((with_reducible apply Go.Vc.and_leI); (focus omega); conv => whnf) | ((with_reducible refine And.intro ?_ (And.intro ?_ ?_)); (focus exact rfl); (focus omega); conv => whnf))
        have er : ((A : Int) + (q : Int)) % 8 = (((A + q) % 8 : Nat) : Int) := by omega
        refine ⟨((2 ^ ((A + q) % 8) : Nat) : Int), ?_, ?_⟩
        · rw [er]; exact (shl_u8 ⟨(A + q) % 8, by omega⟩).symm
        conv => whnf
        have hm8 : 2 ^ ((A + q) % 8) < 256 := by
          have : 2 ^ ((A + q) % 8) ≤ 2 ^ 7 := Nat.pow_le_pow_right (by decide) (by omega)
          omega
        refine ⟨(((xA ||| UInt8.ofNat (2 ^ ((A + q) % 8))).toNat : Nat) : Int), (or_u8 xA hm8).symm, ?_⟩
        conv => whnf
        repeat (first | ((with_reducible apply Go.Vc.own_ix); (focus exact And.intro (by omega) (by omega)); conv => whnf) | ((with_reducible apply Go.Vc.ar_st); (focus ((repeat (first | with_reducible assumption | with_reducible exact Go.Vc.hset_same _ _ _ | with_reducible refine (Go.Vc.hset_ne _ _ (by omega)).trans ?_)); done)); (focus exact rfl); (focus exact rfl); (focus (first | omega | (simp; done) | (simp; omega))); (focus exact rfl); intro heqA; (conv => whnf); intro cA hcA; rw [heqA] at hcA; clear heqA; subst hcA; conv => whnf) | ((with_reducible apply Go.Vc.wr_i64); (focus exact And.intro (by omega) (by omega)); conv => whnf))
        refine round_end2 (q + 1) _ (by omega) ⟨rfl, rfl, rfl, rfl, rfl, rfl, rfl, rfl, rfl, trivial⟩ ⟨by omega, by omega, hset_same _ _ _, by rw [List.length_set]; exact hBl, fun p hp => ?_, fun z hz => by rw [hset_ne _ _ hz]; exact hk6 z hz⟩
        have ei : (((A : Int) + (q : Int)) / 8).toNat = (A + q) / 8 := by omega
        have ex : B.getD ((A + q) / 8) 0 = xA := by
          rw [ei] at hxA
          rw [List.getD_eq_getElem?_getD, hxA]; rfl
        rw [ei, ← ex, bt_set hBl (by omega) hp, hbits p hp]
        by_cases e : p = A + q
        · subst e
          rw [hpA, ← hzq]
          simp [hb7]
        · rw [show decide (p = A + q) = false from decide_eq_false e, Bool.or_false]
          congr 1
          apply propext
          constructor <;> intro h <;> omega
      · conv => whnf
        repeat (first | ((with_reducible apply Go.Vc.wr_i64); (focus exact And.intro (by omega) (by omega)); conv => whnf))
        refine round_end2 (q + 1) B (by omega) ⟨rfl, rfl, rfl, rfl, rfl, rfl, rfl, rfl, rfl, trivial⟩ ⟨by omega, ht6, hB, hBl, fun p hp => ?_, hk6⟩
        rw [hbits p hp]
        by_cases e : p = A + q
        · subst e
          rw [hpA, ← hzq]
          simp [hb7]
        · congr 1
          apply propext
          constructor <;> intro h <;> omega
    · have hqs : q = sz := by omega
      subst hqs
      conv => whnf
      refine ⟨B, ⟨hBl, fun i hi => ?_⟩, ?_⟩
      · rw [addr_add]
        refine ⟨_, _, _, hB, rfl, ?_⟩
        show ((B.map bv).toArray)[0 + i]? = _
        rw [Nat.zero_add, List.getElem?_toArray, List.getElem?_map, List.getElem?_eq_getElem (by omega), List.getD_eq_getElem?_getD, List.getElem?_eq_getElem (by omega)]
        rfl
      conv => whnf
      repeat (first | ((with_reducible apply Go.Vc.and_leN); (focus (first | omega | (simp only [ByteArray.size, List.size_toArray, List.length_cons, List.length_nil] at *; omega))); conv => whnf))
      have hsz8 : (⟨B.toArray⟩ ++ be : ByteArray).size = 8 + be.size := by
        rw [ByteArray.size_append]
        show B.toArray.size + _ = _
        simp [hBl]
      refine (next_spec (hcod.sub hs56) (⟨B.toArray⟩ ++ be) (by omega) (A : Int) (by omega)).mono ?_
      rintro _ h7 t7 hd7 ht7 ⟨hs67, rfl⟩
      rw [next_back (k := k) (sz := q) (C := C) hkL gD (by omega) (by omega) hC.symm hfit (by omega) (fun j hj => ?_) (fun j hj => ?_)]
      · have hs07 := hsub.trans (hs56.trans hs67)
        have hck7 : Cell h7 ⟨b3, off3 + k * 1, none⟩ (.int .i64 (q : Nat)) := by
          obtain ⟨cs, T, f, e1, e2, e3⟩ := hck6
          exact ⟨cs, T, f, hs67 _ _ e1, e2, e3⟩
        rw [show triV ((k : Int), (A : Int) + (q : Int), 0) = Value.tuple #[.int .i64 (k : Int), .int .i64 ((A : Int) + (q : Int)), .int .i64 0] from rfl]
        conv => whnf
        repeat (first | ((with_reducible apply Go.Vc.own_ix); (focus exact And.intro (by omega) (by omega)); conv => whnf) | ((with_reducible apply Go.Vc.cell_i); (focus assumption); conv => whnf) | ((with_reducible apply Go.Vc.wr_i64); (focus exact And.intro (by omega) (by omega)); conv => whnf) | (refine Go.Vc.br_t ?_ ?_; (focus omega); conv => whnf))
        exact ⟨by rw [opq_eq, decide_eq_true rfl], hs07⟩
      · rw [show (A : Int) + (j : Int) = ((A + j : Nat) : Int) from by omega, bit_front hBl (by omega), hbits (A + j) (by omega)]
        rw [show A + j - A = j from by omega]
        have h2 : C / 2 ^ (q - 1 - j) % 2 = 0 ∨ C / 2 ^ (q - 1 - j) % 2 = 1 := by omega
        rcases h2 with h2 | h2 <;> simp [h2, hj]
      · rw [hsz8]; omega
  · obtain ⟨k, hk⟩ : ∃ k : Nat, (k : Int) = w % (n4 : Int) := ⟨(w % (n4 : Int)).toNat, by have := Int.emod_nonneg w (show (n4 : Int) ≠ 0 by omega); omega⟩
    have hkn : k < n4 := by have := Int.emod_lt_of_pos w (show (0 : Int) < n4 by omega); omega
    conv => whnf
    repeat (first | ((with_reducible apply Go.Vc.own_ix); (focus exact And.intro (by omega) (by omega)); conv => whnf) | ((with_reducible apply Go.Vc.rem_i); (focus omega); conv => whnf) | ((with_reducible refine And.intro ?_ (And.intro ?_ ?_)); (focus exact rfl); (focus omega); conv => whnf))
    rw [← hk]
    have hkL : k < L.length := by omega
    have hck := hcell3 k L[k] (List.getElem?_eq_getElem hkL)
    have hdk := hcell4 k _ (codes_get hkL)
    have hk15 := hnn L[k] (List.getElem_mem hkL)
    have hk15b := hle L[k] (List.getElem_mem hkL)
    have gD : L.getD k 0 = L[k] := by rw [List.getD_eq_getElem?_getD, List.getElem?_eq_getElem hkL]; rfl
    obtain ⟨sz, hsz⟩ : ∃ sz : Nat, (sz : Int) = L[k] := ⟨L[k].toNat, by omega⟩
    rw [← hsz] at hck hk15 hk15b gD
    obtain ⟨_, hgood, hwsum⟩ := err_zero hen.2
    have hcr := code_range hen.2 hkL
    obtain ⟨C, hC⟩ : ∃ C, C = codeAt L k := ⟨_, rfl⟩
    rw [← hC] at hdk hcr
    by_cases hs0 : sz = 0
    · conv => whnf
      repeat (first | ((with_reducible apply Go.Vc.own_ix); (focus exact And.intro (by omega) (by omega)); conv => whnf) | ((with_reducible apply Go.Vc.cell_i); (focus assumption); conv => whnf) | (refine Go.Vc.br_t ?_ ?_; (focus omega); conv => whnf))
      exact ⟨by first | rfl | (rw [opq_eq]; simp; omega), hsub⟩
    have hfit := code_fits hgood hwsum hkL gD (by omega)
    rw [← hC] at hfit
    conv => whnf
    repeat (first | ((with_reducible apply Go.Vc.mk_b); (focus exact And.intro (by omega) (by omega)); (focus exact rfl); (focus omega); intro rM csM hrM hcsM; (first | (replace hcsM := hcsM.trans (Go.Vc.zc (Value.int .i64) 0 _)) | (replace hcsM := hcsM.trans (Go.Vc.zc Go.Vc.bv 0 _)) | (replace hcsM := hcsM.trans (Go.Vc.zc Value.string ByteArray.empty _))); subst hcsM; conv => whnf) | ((with_reducible apply Go.Vc.own_ix); (focus exact And.intro (by omega) (by omega)); conv => whnf) | ((with_reducible apply Go.Vc.cell_i); (focus assumption); conv => whnf) | ((with_reducible apply Go.Vc.wr_i64); (focus exact And.intro (by omega) (by omega)); conv => whnf) | ((with_reducible apply Go.Vc.rem_i); (focus omega); conv => whnf) | (refine Go.Vc.br_f ?_ ?_; (focus omega); conv => whnf) | ((with_reducible refine And.intro ?_ (And.intro ?_ ?_)); (focus exact rfl); (focus omega); conv => whnf))
    obtain ⟨A, hA⟩ : ∃ A : Nat, (A : Int) = x % 20 := ⟨(x % 20).toNat, by omega⟩
    rw [← hA]
    have hk5 : ∀ o, Vc.Sub h5 (hset h5 rM o) := fun o => hd5.sub_new hrM o
    have hne5 : ∀ b o, h5 b = some o → b ≠ rM := fun b o hb e => by have := hd5 b o hb; omega
    refine loop_intro2 (fun (q : Nat) (B : List UInt8) => [(3, .string be), (9, .bool true), (10, .slice (some ⟨b3, off3, none⟩) n4 c3), (12, .slice (some ⟨b4, off4, none⟩) n4 n4), (14, .pointer (some ⟨cb, 0, none⟩)), (16, .int .i64 (k : Nat)), (17, .int .i64 (A : Nat)), (18, .slice (some ⟨rM, 0, none⟩) 8 8), (19, .int .i64 (q : Nat))])
      (fun q B h' t' => q ≤ sz ∧ t5 ≤ t' ∧ h' rM = some (.cells (B.map bv).toArray 5 (0, 0)) ∧ B.length = 8 ∧ (∀ p, p < 64 → bt B p = decide (A ≤ p ∧ p < A + q ∧ C / 2 ^ (sz - 1 - (p - A)) % 2 = 1)) ∧ ∀ z, z ≠ rM → h' z = h5 z) (fun q _ => sz - q) 0 (List.replicate 8 0) ⟨rfl, rfl, rfl, rfl, rfl, rfl, rfl, rfl, rfl, trivial⟩
      ⟨by omega, by omega, hset_same _ _ _, rfl, fun p hp => ?_, fun z hz => hset_ne _ _ hz⟩ ?_
    · rw [show decide (A ≤ p ∧ p < A + 0 ∧ C / 2 ^ (sz - 1 - (p - A)) % 2 = 1) = false from by simp; omega]
      have h8 : p / 8 < 8 := by omega
      unfold bt
      rw [List.getD_eq_getElem?_getD, List.getElem?_replicate, if_pos h8]
      simp
    rintro q B g6 h6 t6 hd6 ⟨hq, ht6, hB, hBl, hbits, hk6⟩
    have hs56 : Vc.Sub h5 h6 := fun b o hb => by rw [hk6 b (hne5 b o hb)]; exact hb
    have hck6 : Cell h6 ⟨b3, off3 + k * 1, none⟩ (.int .i64 (sz : Nat)) := by
      obtain ⟨cs, T, f, e1, e2, e3⟩ := hck
      exact ⟨cs, T, f, hs56 _ _ e1, e2, e3⟩
    have hdk6 : Cell h6 ⟨b4, off4 + k * 1, none⟩ (.int .i64 C) := by
      obtain ⟨cs, T, f, e1, e2, e3⟩ := hdk
      exact ⟨cs, T, f, hs56 _ _ e1, e2, e3⟩
    conv => whnf
    repeat (first | ((with_reducible apply Go.Vc.own_ix); (focus exact And.intro (by omega) (by omega)); conv => whnf) | ((with_reducible apply Go.Vc.cell_i); (focus assumption); conv => whnf))
    refine br (fun hb6 => ?_) (fun hb6 => ?_)
    · conv => whnf
      refine Go.Vc.draw_intro [⟨0, false, false, false, 0⟩, ⟨1, false, false, false, 0⟩, ⟨2, false, false, false, 3⟩, ⟨3, false, false, false, 7⟩, ⟨4, false, false, false, 0⟩, ⟨5, false, false, false, 0⟩, ⟨6, false, false, false, 48⟩, ⟨7, false, false, false, 112⟩, ⟨8, false, false, false, 240⟩, ⟨9, false, false, false, 0⟩, ⟨10, false, false, false, 1008⟩, ⟨11, false, false, false, 2047⟩, ⟨12, false, false, false, 4095⟩, ⟨13, false, false, false, 8191⟩] (hs := (fun _ => none)) (hsub := (fun _ _ h => nomatch h)) (hm := by kernel_rfl) (hpl := by kernel_rfl) ?_
      conv => whnf
      conv => whnf
      repeat (first | ((with_reducible apply Go.Vc.own_ix); (focus exact And.intro (by omega) (by omega)); conv => whnf) | ((with_reducible apply Go.Vc.cell_i); (focus assumption); conv => whnf) | ((with_reducible apply Go.Vc.wr_i64); (focus exact And.intro (by omega) (by omega)); conv => whnf) | ((with_reducible apply Go.Vc.shr_i64); (focus exact And.intro (by omega) (by omega)); intro zS hzS hzS0 hzS1; conv => whnf) | ((with_reducible apply Go.Vc.rem_i); (focus omega); conv => whnf) | ((with_reducible apply Go.Vc.and_leI); (focus omega); conv => whnf) | ((with_reducible refine And.intro ?_ (And.intro ?_ ?_)); (focus exact rfl); (focus omega); conv => whnf))
      have hzq : zS = C / 2 ^ (sz - 1 - q) := by rw [hzS]; congr 2; omega
      have hpA : sz - 1 - (A + q - A) = sz - 1 - q := by omega
      refine br (fun hb7 => ?_) (fun hb7 => ?_)
      · conv => whnf
        refine Go.Vc.draw_intro [⟨0, false, false, false, 0⟩, ⟨1, false, false, false, 0⟩, ⟨2, false, false, false, 0⟩, ⟨3, false, false, false, 6⟩, ⟨4, false, false, false, 14⟩, ⟨5, false, false, false, 0⟩, ⟨6, false, false, false, 0⟩, ⟨7, false, false, false, 0⟩, ⟨8, false, false, false, 192⟩, ⟨9, false, false, false, 448⟩, ⟨10, false, false, false, 992⟩, ⟨11, false, false, false, 2016⟩, ⟨12, false, false, false, 0⟩, ⟨13, false, false, false, 0⟩, ⟨14, false, false, false, 12288⟩, ⟨15, false, false, false, 28672⟩, ⟨16, false, false, false, 61440⟩, ⟨17, false, false, false, 131040⟩, ⟨18, false, false, false, 262143⟩, ⟨19, true, false, false, 524287⟩] (hs := (fun _ => none)) (hsub := (fun _ _ h => nomatch h)) (hm := by kernel_rfl) (hpl := by kernel_rfl) ?_
        conv => whnf
        conv => whnf
        repeat (first | ((with_reducible apply Go.Vc.own_ix); (focus exact And.intro (by omega) (by omega)); conv => whnf) | ((with_reducible apply Go.Vc.ar_ld); (focus ((repeat (first | with_reducible assumption | with_reducible exact Go.Vc.hset_same _ _ _ | with_reducible refine (Go.Vc.hset_ne _ _ (by omega)).trans ?_)); done)); (focus exact rfl); (focus (first | omega | (simp; done) | (simp; omega))); intro xA hxA; conv => whnf) | ((with_reducible apply Go.Vc.wr_i64); (focus exact And.intro (by omega) (by omega)); conv => whnf) | ((with_reducible apply Go.Vc.quo_i64); (focus exact And.intro (by omega) (And.intro (by omega) (by omega))); conv => whnf) | ((with_reducible apply Go.Vc.rem_i); (focus omega); conv => whnf) | ((with_reducible apply Go.Vc.and_leI); (focus omega); conv => whnf) | ((with_reducible refine And.intro ?_ (And.intro ?_ ?_)); (focus exact rfl); (focus omega); conv => whnf))
        have er : ((A : Int) + (q : Int)) % 8 = (((A + q) % 8 : Nat) : Int) := by omega
        refine ⟨((2 ^ ((A + q) % 8) : Nat) : Int), ?_, ?_⟩
        · rw [er]; exact (shl_u8 ⟨(A + q) % 8, by omega⟩).symm
        conv => whnf
        have hm8 : 2 ^ ((A + q) % 8) < 256 := by
          have : 2 ^ ((A + q) % 8) ≤ 2 ^ 7 := Nat.pow_le_pow_right (by decide) (by omega)
          omega
        refine ⟨(((xA ||| UInt8.ofNat (2 ^ ((A + q) % 8))).toNat : Nat) : Int), (or_u8 xA hm8).symm, ?_⟩
        conv => whnf
        repeat (first | ((with_reducible apply Go.Vc.own_ix); (focus exact And.intro (by omega) (by omega)); conv => whnf) | ((with_reducible apply Go.Vc.ar_st); (focus ((repeat (first | with_reducible assumption | with_reducible exact Go.Vc.hset_same _ _ _ | with_reducible refine (Go.Vc.hset_ne _ _ (by omega)).trans ?_)); done)); (focus exact rfl); (focus exact rfl); (focus (first | omega | (simp; done) | (simp; omega))); (focus exact rfl); intro heqA; (conv => whnf); intro cA hcA; rw [heqA] at hcA; clear heqA; subst hcA; conv => whnf) | ((with_reducible apply Go.Vc.wr_i64); (focus exact And.intro (by omega) (by omega)); conv => whnf))
        refine round_end2 (q + 1) _ (by omega) ⟨rfl, rfl, rfl, rfl, rfl, rfl, rfl, rfl, rfl, trivial⟩ ⟨by omega, by omega, hset_same _ _ _, by rw [List.length_set]; exact hBl, fun p hp => ?_, fun z hz => by rw [hset_ne _ _ hz]; exact hk6 z hz⟩
        have ei : (((A : Int) + (q : Int)) / 8).toNat = (A + q) / 8 := by omega
        have ex : B.getD ((A + q) / 8) 0 = xA := by
          rw [ei] at hxA
          rw [List.getD_eq_getElem?_getD, hxA]; rfl
        rw [ei, ← ex, bt_set hBl (by omega) hp, hbits p hp]
        by_cases e : p = A + q
        · subst e
          rw [hpA, ← hzq]
          simp [hb7]
        · rw [show decide (p = A + q) = false from decide_eq_false e, Bool.or_false]
          congr 1
          apply propext
          constructor <;> intro h <;> omega
      · conv => whnf
        repeat (first | ((with_reducible apply Go.Vc.wr_i64); (focus exact And.intro (by omega) (by omega)); conv => whnf))
        refine round_end2 (q + 1) B (by omega) ⟨rfl, rfl, rfl, rfl, rfl, rfl, rfl, rfl, rfl, trivial⟩ ⟨by omega, ht6, hB, hBl, fun p hp => ?_, hk6⟩
        rw [hbits p hp]
        by_cases e : p = A + q
        · subst e
          rw [hpA, ← hzq]
          simp [hb7]
        · congr 1
          apply propext
          constructor <;> intro h <;> omega
    · have hqs : q = sz := by omega
      subst hqs
      conv => whnf
      refine ⟨B, ⟨hBl, fun i hi => ?_⟩, ?_⟩
      · rw [addr_add]
        refine ⟨_, _, _, hB, rfl, ?_⟩
        show ((B.map bv).toArray)[0 + i]? = _
        rw [Nat.zero_add, List.getElem?_toArray, List.getElem?_map, List.getElem?_eq_getElem (by omega), List.getD_eq_getElem?_getD, List.getElem?_eq_getElem (by omega)]
        rfl
      conv => whnf
      repeat (first | ((with_reducible apply Go.Vc.and_leN); (focus (first | omega | (simp only [ByteArray.size, List.size_toArray, List.length_cons, List.length_nil] at *; omega))); conv => whnf))
      have hsz8 : (⟨B.toArray⟩ ++ be : ByteArray).size = 8 + be.size := by
        rw [ByteArray.size_append]
        show B.toArray.size + _ = _
        simp [hBl]
      refine (next_spec (hcod.sub hs56) (⟨B.toArray⟩ ++ be) (by omega) (A : Int) (by omega)).mono ?_
      rintro _ h7 t7 hd7 ht7 ⟨hs67, rfl⟩
      rw [next_back (k := k) (sz := q) (C := C) hkL gD (by omega) (by omega) hC.symm hfit (by omega) (fun j hj => ?_) (fun j hj => ?_)]
      · have hs07 := hsub.trans (hs56.trans hs67)
        have hck7 : Cell h7 ⟨b3, off3 + k * 1, none⟩ (.int .i64 (q : Nat)) := by
          obtain ⟨cs, T, f, e1, e2, e3⟩ := hck6
          exact ⟨cs, T, f, hs67 _ _ e1, e2, e3⟩
        rw [show triV ((k : Int), (A : Int) + (q : Int), 0) = Value.tuple #[.int .i64 (k : Int), .int .i64 ((A : Int) + (q : Int)), .int .i64 0] from rfl]
        conv => whnf
        repeat (first | ((with_reducible apply Go.Vc.own_ix); (focus exact And.intro (by omega) (by omega)); conv => whnf) | ((with_reducible apply Go.Vc.cell_i); (focus assumption); conv => whnf) | ((with_reducible apply Go.Vc.wr_i64); (focus exact And.intro (by omega) (by omega)); conv => whnf) | (refine Go.Vc.br_t ?_ ?_; (focus omega); conv => whnf))
        exact ⟨by rw [opq_eq, decide_eq_true rfl], hs07⟩
      · rw [show (A : Int) + (j : Int) = ((A + j : Nat) : Int) from by omega, bit_front hBl (by omega), hbits (A + j) (by omega)]
        rw [show A + j - A = j from by omega]
        have h2 : C / 2 ^ (q - 1 - j) % 2 = 0 ∨ C / 2 ^ (q - 1 - j) % 2 = 1 := by omega
        rcases h2 with h2 | h2 <;> simp [h2, hj]
      · rw [hsz8]; omega
end Go.Proofs.Ytlnibgkdjmkekaa
