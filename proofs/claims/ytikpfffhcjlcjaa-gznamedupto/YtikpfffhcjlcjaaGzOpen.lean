import Derived.Test.YtikpfffhcjlcjaaGzMem
import Derived.Test.YtikpfffhcjlcjaaInf6
set_option linter.unusedSimpArgs false
namespace Go.Proofs.Ytikpfffhcjlcjaa
open Go Go.Vc Go.Huf Go.Dfl Go.Gz
set_option maxRecDepth 20000
set_option linter.unusedVariables false
set_option maxHeartbeats 1000000
def magicB : ByteArray := ⟨#[31, 139, 8]⟩
def aheadB : ByteArray := ⟨#[31, 139, 8, 0, 0, 0, 0, 0, 0, 255]⟩
def packZ (s : ByteArray) : ByteArray := aheadB ++ packS s ++ endF s
theorem packS_size2 (s : ByteArray) : (packS s).size = (packL s).length := by
  unfold packS
  show (packL s).toArray.size = _
  rw [List.size_toArray]
theorem packL_le (s : ByteArray) (h : s.size ≤ 32768) : (packL s).length ≤ s.size + 6 := by
  have he : s.extract 0 s.size = s := ByteArray.extract_zero_size
  have hb : (packBits s).length ≤ 40 + 8 * s.size := by
    unfold packBits
    rw [if_neg (by omega)]
    unfold pieceF
    rw [he]
    unfold blockF
    have h1 : skipOf 0 = 5 := by decide
    rw [h1, List.length_append, bitsL_len]
    split
    · simp only [List.length_append, bitsL_len, sBits_len]
      omega
    · split
      · rw [List.length_append, bitsL_len]
        show 1 + (2 + oneL _) ≤ _
        omega
      · rw [List.length_append, bitsL_len]
        show 1 + (2 + twoL _) ≤ _
        omega
  unfold packL
  rw [List.length_map, packB_len]
  omega
theorem tx_pack (s more : ByteArray) : tx (packS s ++ more) = packB (packBits s) ++ tx more := by
  unfold tx
  rw [ByteArray.data_append, Array.toList_append, List.map_append]
  congr 1
  show List.map _ (packL s).toArray.toList = _
  rw [List.toList_toArray]
  exact packL_ints s
theorem end_size (s : ByteArray) : (endF s).size = 8 := by
  unfold endF
  rw [ByteArray.size_append, lowF_size, lowF_size]
theorem end_spec {h : Heap} {t : Nat} (s : ByteArray) (hs : s.size ≤ 1000000) :
    CallSpec Try.prog 40 #[.string s] h t (fun v h' t' => v = .string (endF s) ∧ Vc.Sub h h' ∧ t ≤ t') := by
  have hcl := (crcF s).isLt
  refine Go.Vc.spec_of_vc (fn := Try.f40) Try.func40 rfl (by kernel_rfl) (by kernel_rfl) (Nat.le_of_ble_eq_true rfl) ?_
  intro hd
  conv => whnf
  refine (crcsum_spec s (by omega)).mono ?_
  rintro _ g t1 hd1 ht1 ⟨rfl, s1, _⟩
  conv => whnf
  repeat (first | ((with_reducible apply Go.Vc.wr_i64); (focus exact And.intro (by omega) (by omega)); conv => whnf))
  refine (low_spec (crcF s).toNat 4 (by omega) (by omega)).mono ?_
  rintro _ g2 t2 hd2 ht2 ⟨rfl, s2, _⟩
  conv => whnf
  refine (low_spec s.size 4 (by omega) (by omega)).mono ?_
  rintro _ g3 t3 hd3 ht3 ⟨rfl, s3, _⟩
  have z1 := lowF_size (crcF s).toNat 4
  have z2 := lowF_size s.size 4
  conv => whnf
  repeat (first | ((with_reducible apply Go.Vc.and_leN); (focus (first | omega | (simp only [ByteArray.size, List.size_toArray, List.length_cons, List.length_nil] at *; omega))); conv => whnf))
  exact ⟨rfl, s1.trans (s2.trans s3), by omega⟩
theorem gpack_spec {h : Heap} {t : Nat} (s : ByteArray) (hs : s.size ≤ 32768) :
    CallSpec Try.prog 24 #[.string s] h t (fun v h' t' => v = .string (packZ s) ∧ Vc.Sub h h' ∧ t ≤ t') := by
  have hl := packL_le s hs
  have hz := packS_size2 s
  have hah : (aheadB ++ packS s).size = 10 + (packS s).size := by rw [ByteArray.size_append]; rfl
  have hez := end_size s
  refine Go.Vc.spec_of_vc (fn := Try.f24) Try.func24 rfl (by kernel_rfl) (by kernel_rfl) (Nat.le_of_ble_eq_true rfl) ?_
  intro hd
  conv => whnf
  refine (pack_spec s (by omega)).mono ?_
  rintro _ g t1 hd1 ht1 ⟨rfl, s1, _⟩
  conv => whnf
  repeat (first | ((with_reducible apply Go.Vc.and_leN); (focus (first | omega | (simp only [ByteArray.size, List.size_toArray, List.length_cons, List.length_nil] at *; omega))); conv => whnf))
  refine (end_spec s (by omega)).mono ?_
  rintro _ g2 t2 hd2 ht2 ⟨rfl, s2, _⟩
  have hah' : (({ data := #[31, 139, 8, 0, 0, 0, 0, 0, 0, 255] } : ByteArray) ++ packS s).size = 10 + (packS s).size := hah
  conv => whnf
  repeat (first | ((with_reducible apply Go.Vc.and_leN); (focus (first | omega | (simp only [ByteArray.size, List.size_toArray, List.length_cons, List.length_nil] at *; omega))); conv => whnf))
  exact ⟨rfl, s1.trans s2, by omega⟩
theorem hasprefix0_spec {h : Heap} {t : Nat} (x : ByteArray) (hx : 3 ≤ x.size) :
    CallSpec Try.prog 65 #[.string x, .string magicB] h t (fun v h' t' => v = .bool (opq (decide (x.extract 0 3 = magicB))) ∧ h = h' ∧ t = t') := by
  have hm : magicB.size = 3 := rfl
  refine Go.Vc.spec_of_vc (fn := Try.f65) Try.func65 rfl (by kernel_rfl) (by kernel_rfl) (Nat.le_of_ble_eq_true rfl) ?_
  intro hd
  conv => whnf
  repeat (first | ((with_reducible refine And.intro (And.intro ?_ ?_) ?_); (focus omega); (focus omega); conv => whnf) | (refine Go.Vc.br_t ?_ ?_; (focus omega); conv => whnf))
  exact ⟨rfl, rfl, rfl⟩
theorem hasprefix_spec {h : Heap} {t : Nat} (x : ByteArray) (hx : 3 ≤ x.size) :
    CallSpec Try.prog 42 #[.string x, .string magicB] h t (fun v h' t' => v = .bool (opq (decide (x.extract 0 3 = magicB))) ∧ h = h' ∧ t = t') := by
  refine Go.Vc.spec_of_vc (fn := Try.f42) Try.func42 rfl (by kernel_rfl) (by kernel_rfl) (Nat.le_of_ble_eq_true rfl) ?_
  intro hd
  conv => whnf
  refine (hasprefix0_spec x hx).mono ?_
  rintro _ g1 t1 hd1 ht1 ⟨rfl, rfl, rfl⟩
  conv => whnf
  exact ⟨rfl, rfl, rfl⟩
def MoreP (b : ByteArray) (p q : Nat) : Prop := ∃ n : Nat, q = p + 2 + n ∧ q ≤ b.size ∧ byteAt b p + byteAt b (p + 1) * 256 = (n : Nat)
def TextP (b : ByteArray) (p q : Nat) : Prop := ∃ n : Nat, q = p + n + 1 ∧ p ≤ b.size ∧ n ≤ 1000000 ∧ Lib.indexByte (b.extract p b.size).data.toList 0 = (n : Nat)
def Flags (b : ByteArray) (q : Nat) (e : Int) : Prop :=
  (byteAt b 3 = 0 ∧ q = 10 ∧ e = 0) ∨ (byteAt b 3 = 30 ∧ ∃ p1 p2 p3, MoreP b 10 p1 ∧ TextP b p1 p2 ∧ TextP b p2 p3 ∧ p3 + 2 ≤ b.size ∧ q = p3 + 2 ∧ e = if b.extract p3 (p3 + 2) = lowF (crcF (b.extract 0 p3)).toNat 2 then 0 else 8)
def goF (s : ByteArray) (most : Nat) (e : Int) (rest : ByteArray) : Value :=
  if e ≠ 0 then .tuple #[.string ByteArray.empty, .int .i64 e] else if most < s.size then .tuple #[.string ByteArray.empty, .int .i64 9] else if rest.size ≠ 8 then .tuple #[.string ByteArray.empty, .int .i64 2]
  else if rest ≠ endF s then .tuple #[.string ByteArray.empty, .int .i64 8] else .tuple #[.string s, .int .i64 0]
def rowZ (r : Nat) (p : Int × Nat) : List Value := [.int .u8 p.1, .func (.func p.2) #[.pointer (some ⟨r, 0, none⟩)] #[]]
theorem rowZ_len (r : Nat) (p : Int × Nat) : (rowZ r p).length = 2 := rfl
def rowsZ : List (Int × Nat) := [(4, 43), (8, 44), (16, 44), (2, 45)]
theorem gopen_spec {h : Heap} {t : Nat} {b s rest : ByteArray} {most q : Nat} {e : Int} (hb : b.size ≤ 5000000) (h10 : 10 ≤ b.size) (hmag : b.extract 0 3 = magicB) (hm : most ≤ 1048576) (hs : s.size ≤ 32768) (hF : Flags b q e) (hq : q ≤ b.size)
    (hx1 : b.extract q b.size = packS s ++ rest) (hx2 : b.extract (q + (packL s).length) b.size = rest) :
    CallSpec Try.prog 25 #[.string b, .int .i64 (most : Nat)] h t (fun v h' t' => v = goF s most e rest ∧ Vc.Sub h h' ∧ t ≤ t') := by
  refine Go.Vc.spec_of_vc (fn := Try.f25) Try.func25 rfl (by kernel_rfl) (by kernel_rfl) (Nat.le_of_ble_eq_true rfl) ?_
  intro hd
  conv => whnf
  repeat (first | (intro _ _; conv => whnf) | (refine Go.Vc.br_f ?_ ?_; (focus omega); conv => whnf))
  rename_i r hr
  have M0 : Mb (hset h r (.cells #[.string b, .int .i64 0, .int .i64 0] 83)) r b 0 0 := hset_same _ _ _
  refine (skip_ok M0 (by omega) (n := 10) (by omega)).mono ?_
  rintro _ g t1 hd1 ht1 ⟨rfl, M1, o1, _⟩
  have hhs : (b.extract 0 (0 + 10)).size = 10 := by rw [ByteArray.size_extract]; omega
  have hhm : (b.extract 0 (0 + 10)).extract 0 3 = magicB := by
    rw [← hmag]
    apply ByteArray.ext
    rw [ByteArray.data_extract, ByteArray.data_extract, ByteArray.data_extract, Array.extract_extract]
    rfl
  have hh3 : byteAt (b.extract 0 (0 + 10)) 3 = byteAt b 3 := by
    have := ext_byte (b := b) (i := 0) (j := 0 + 10) (k := 3) (by omega) (by omega)
    rw [this]
  have hs1 : Vc.Sub h g := fun z o hz => by
    have := hd _ _ hz
    exact o1 z o (by omega) ((hset_ne _ _ (by omega)).trans hz)
  have M1' := M1
  unfold Mb at M1'
  rcases hF with ⟨hb3, hq10, he00⟩ | ⟨hb3, p1, p2, p3, hp1, hp2, hp3, hp4, hqq3, hee⟩
  · obtain ⟨POS, hPOS⟩ : ∃ POS : Nat → Nat, POS = fun _ => 10 := ⟨_, rfl⟩
    obtain ⟨ERR, hERR⟩ : ∃ ERR : Nat → Int, ERR = fun _ => 0 := ⟨_, rfl⟩
    have hP0 : Mb g r b (POS 0) (ERR 0) := by rw [hPOS, hERR]; exact M1
    have hP4 : POS 4 = q := by rw [hPOS, hq10]
    have hE4 : ERR 4 = e := by rw [hERR, he00]
    conv => whnf
    repeat (first | ((with_reducible apply Go.Vc.ld_i); (focus ((repeat (first | with_reducible assumption | with_reducible exact Go.Vc.hset_same _ _ _ | with_reducible refine (Go.Vc.hset_ne _ _ (by omega)).trans ?_)); done)); (focus exact rfl); conv => whnf) | (refine Go.Vc.br_f ?_ ?_; (focus omega); conv => whnf))
    refine (hasprefix_spec _ (by omega)).mono ?_
    rintro _ _ _ _ _ ⟨rfl, rfl, rfl⟩
    rw [hhm, decide_eq_true rfl]
    conv => whnf
    rw [opq_eq]
    conv => whnf
    repeat (first | ((with_reducible refine And.intro (And.intro ?_ ?_) ?_); (focus omega); (focus omega); conv => whnf) | (intro _ _; conv => whnf))
    rw [show Int.toNat 3 = 3 from rfl, hh3, hb3]
    refine ⟨0, by decide, ?_⟩
    conv => whnf
    repeat (first | ((with_reducible refine And.intro (And.intro ?_ ?_) ?_); (focus omega); (focus omega); conv => whnf) | (intro _ _; conv => whnf) | (refine Go.Vc.br_f ?_ ?_; (focus omega); conv => whnf))
    rename_i rk hrk
    have hrt := hd1 _ _ M1'
    have hsk := hd1.sub_new hrk (.cells ((rowsZ.flatMap (rowZ r)).toArray) 85)
    refine loop_intro (fun i : Nat => [(0, .string b), (1, .int .i64 (most : Nat)), (6, .pointer (some ⟨r, 0, none⟩)), (8, .int .u8 (byteAt b 3)), (55, .slice (some ⟨rk, 0, none⟩) 4 4), (56, .int .i64 4), (57, .int .i64 (i : Nat))])
      (fun i h' t' => i ≤ 4 ∧ Mb h' r b (POS i) (ERR i) ∧ h' rk = some (.cells ((rowsZ.flatMap (rowZ r)).toArray) 85 (0, 0)) ∧ Vc.Sub h h' ∧ rk < t') (fun i => 4 - i) 0
      ⟨rfl, rfl, rfl, by show Value.int .u8 (byteAt (b.extract 0 (0 + 10)) 3) = _; rw [hh3], rfl, rfl, rfl, trivial⟩ ⟨by omega, hsk _ _ hP0, hset_same _ _ _, hs1.trans hsk, by omega⟩ ?_
    rintro k e2 g2 t2 hd2 ⟨hk, M2, hrows, s2, hrk2⟩
    have M2' := M2
    unfold Mb at M2'
    conv => whnf
    refine br (fun hb1 => ?_) (fun hb1 => ?_)
    · obtain ⟨qq, bP, offP, hqq, haP, hrow⟩ := slW_row (n := 4) (i := k) (rowZ_len r) (vl_sl hrows rfl) (by decide) (by omega)
      cases haP
      conv => whnf
      repeat (first | ((with_reducible apply Go.Vc.own_ix); (focus exact And.intro (by omega) (by omega)); conv => whnf))
      refine hrow.row (W := 2) rfl (by decide) ?_
      conv => whnf
      repeat (first | ((with_reducible apply Go.Vc.strow); (focus ((repeat (first | with_reducible assumption | with_reducible exact Go.Vc.hset_same _ _ _ | with_reducible refine (Go.Vc.hset_ne _ _ (by omega)).trans ?_)); done)); (focus exact rfl); (focus exact rfl); (focus exact rfl); rintro _ rfl; conv => whnf) | ((with_reducible apply Go.Vc.ld_i); (focus ((repeat (first | with_reducible assumption | with_reducible exact Go.Vc.hset_same _ _ _ | with_reducible refine (Go.Vc.hset_ne _ _ (by omega)).trans ?_)); done)); (focus exact rfl); conv => whnf) | (intro _ _; conv => whnf))
      rename_i rb hrb
      have hsX : Vc.Sub g2 (hset (hset g2 rb (.cells #[.int .u8 0, .nilFunc] 85)) rb (.cells (rowZ r qq).toArray 85)) := fun z o hz => by
        have := hd2 _ _ hz
        rw [hset_ne _ _ (by omega), hset_ne _ _ (by omega)]
        exact hz
      have MX := hsX _ _ M2
      have hrX := hsX _ _ hrows
      have hbX := hset_same (hset g2 rb (.cells #[.int .u8 0, .nilFunc] 85)) rb (.cells (rowZ r qq).toArray 85)
      have hrr := hd2 _ _ M2'
      rw [hb3]
      have hz : 0 = IntKind.u8.wrap ((BitVec.ofInt IntKind.u8.bits 0 &&& BitVec.ofInt IntKind.u8.bits qq.fst).toNat : Int) := by
        have e : BitVec.ofInt IntKind.u8.bits 0 &&& BitVec.ofInt IntKind.u8.bits qq.fst = 0#8 := by
          show 0#8 &&& _ = _
          exact BitVec.zero_and
        rw [e]; rfl
      refine ⟨0, hz, ?_⟩
      conv => whnf
      repeat (first | ((with_reducible apply Go.Vc.wr_i64); (focus exact And.intro (by omega) (by omega)); conv => whnf) | (refine Go.Vc.br_f ?_ ?_; (focus omega); conv => whnf))
      refine round_end (k + 1) (by omega) ⟨rfl, rfl, rfl, rfl, rfl, rfl, rfl, trivial⟩ ⟨by omega, ?_, hrX, fun z o hz => hsX _ _ (s2 _ _ hz), by omega⟩
      rw [hPOS, hERR] at M2 ⊢
      exact hsX _ _ M2
    · obtain rfl : k = 4 := by omega
      clear M2'
      have M4 : Mb g2 r b q e := by
        rw [← hP4, ← hE4]
        exact M2
      have M4' := M4
      unfold Mb at M4'
      unfold goF
      by_cases he0 : e = 0
      · rw [if_neg (fun hc => hc he0)]
        subst he0
        conv => whnf
        repeat (first | ((with_reducible refine And.intro (And.intro ?_ ?_) ?_); (focus omega); (focus omega); conv => whnf) | ((with_reducible apply Go.Vc.ld_i); (focus ((repeat (first | with_reducible assumption | with_reducible exact Go.Vc.hset_same _ _ _ | with_reducible refine (Go.Vc.hset_ne _ _ (by omega)).trans ?_)); done)); (focus exact rfl); conv => whnf) | (refine Go.Vc.br_f ?_ ?_; (focus omega); conv => whnf))
        have hxs : (b.extract q b.size).size ≤ 10000000 := by rw [ByteArray.size_extract]; omega
        rw [show ((q : Nat) : Int).toNat = q from rfl]
        refine (open_spec (s := s) (x := b.extract q b.size) (more := tx rest) hs hm (by rw [hx1]; exact tx_pack s rest) hxs).mono ?_
        rintro _ g5 t5 hd5 ht5 ⟨rfl, s5, _⟩
        have M5 := s5 _ _ M4'
        have hrl : rest.size = b.size - q - (packL s).length := by rw [← hx2, ByteArray.size_extract]; omega
        have hbl : (packL s).length + rest.size = b.size - q := by
          have h6 := congrArg ByteArray.size hx1
          rw [ByteArray.size_append, ByteArray.size_extract, packS_size2] at h6
          omega
        by_cases hms : s.size ≤ most
        · rw [if_pos hms, if_neg (Nat.not_lt.2 hms)]
          conv => whnf
          repeat (first | ((with_reducible apply Go.Vc.ld_i); (focus ((repeat (first | with_reducible assumption | with_reducible exact Go.Vc.hset_same _ _ _ | with_reducible refine (Go.Vc.hset_ne _ _ (by omega)).trans ?_)); done)); (focus exact rfl); conv => whnf) | ((with_reducible apply Go.Vc.wr_i64); (focus exact And.intro (by omega) (by omega)); conv => whnf) | (refine Go.Vc.br_f ?_ ?_; (focus omega); conv => whnf))
          refine br (fun h8 => ?_) (fun h8 => ?_)
          · rw [if_pos (show rest.size ≠ 8 by omega)]
            conv => whnf
            exact ⟨rfl, s2.trans s5, by omega⟩
          · rw [if_neg (show ¬ rest.size ≠ 8 by omega)]
            conv => whnf
            refine Go.Vc.draw_intro [⟨0, false, true, false, 0⟩, ⟨1, false, true, false, 0⟩, ⟨2, false, true, false, 2⟩, ⟨3, false, true, false, 6⟩, ⟨4, false, true, false, 14⟩, ⟨5, false, true, false, 0⟩, ⟨6, false, true, false, 62⟩, ⟨7, false, true, false, 127⟩, ⟨8, false, false, false, 0⟩, ⟨9, true, false, true, 256⟩, ⟨10, false, false, false, 1023⟩, ⟨11, false, false, false, 2047⟩] (hs := g5) (hsub := (Sub.refl _)) (hm := by kernel_rfl) (hpl := by kernel_rfl) ?_
            conv => whnf
            conv => whnf
            repeat (first | ((with_reducible refine And.intro (And.intro ?_ ?_) ?_); (focus omega); (focus omega); conv => whnf) | ((with_reducible apply Go.Vc.ld_i); (focus ((repeat (first | with_reducible assumption | with_reducible exact Go.Vc.hset_same _ _ _ | with_reducible refine (Go.Vc.hset_ne _ _ (by omega)).trans ?_)); done)); (focus exact rfl); conv => whnf) | ((with_reducible apply Go.Vc.wr_i64); (focus exact And.intro (by omega) (by omega)); conv => whnf))
            refine (end_spec s (by omega)).mono ?_
            rintro _ g6 t6 hd6 ht6 ⟨rfl, s6, _⟩
            refine ⟨s6, ?_⟩
            rw [show ((q : Int) + ((packL s).length : Nat)).toNat = q + (packL s).length by omega, hx2]
            conv => whnf
            refine br (fun hne => ?_) (fun hne => ?_)
            · rw [if_pos hne]
              conv => whnf
              exact ⟨rfl, s2.trans (s5.trans s6), by omega⟩
            · rw [if_neg hne]
              conv => whnf
              exact ⟨rfl, s2.trans (s5.trans s6), by omega⟩
        · rw [if_neg hms, if_pos (by omega)]
          conv => whnf
          repeat (first | (refine Go.Vc.br_t ?_ ?_; (focus omega); conv => whnf))
          exact ⟨rfl, s2.trans s5, by omega⟩
      · rw [if_pos he0]
        conv => whnf
        repeat (first | ((with_reducible apply Go.Vc.ld_i); (focus ((repeat (first | with_reducible assumption | with_reducible exact Go.Vc.hset_same _ _ _ | with_reducible refine (Go.Vc.hset_ne _ _ (by omega)).trans ?_)); done)); (focus exact rfl); conv => whnf) | (refine Go.Vc.br_t ?_ ?_; (focus omega); conv => whnf))
        refine Go.Vc.draw_intro [⟨0, false, false, false, 0⟩, ⟨1, false, false, false, 1⟩, ⟨2, false, false, false, 3⟩, ⟨3, false, false, false, 7⟩, ⟨4, false, false, false, 0⟩, ⟨5, false, false, false, 31⟩] (hs := (fun _ => none)) (hsub := (fun _ _ h => nomatch h)) (hm := by kernel_rfl) (hpl := by kernel_rfl) ?_
        conv => whnf
        conv => whnf
        repeat (first | ((with_reducible apply Go.Vc.ld_i); (focus ((repeat (first | with_reducible assumption | with_reducible exact Go.Vc.hset_same _ _ _ | with_reducible refine (Go.Vc.hset_ne _ _ (by omega)).trans ?_)); done)); (focus exact rfl); conv => whnf) | ((with_reducible refine And.intro ?_ (And.intro ?_ ?_)); (focus exact rfl); (focus omega); conv => whnf))
        exact show t ≤ t2 by omega
  · obtain ⟨POS, hPOS⟩ : ∃ POS : Nat → Nat, POS = fun i => if i = 0 then 10 else if i = 1 then p1 else if i = 2 then p2 else if i = 3 then p3 else p3 + 2 := ⟨_, rfl⟩
    obtain ⟨ERR, hERR⟩ : ∃ ERR : Nat → Int, ERR = fun i => if i = 4 then e else 0 := ⟨_, rfl⟩
    have hP0 : Mb g r b (POS 0) (ERR 0) := by rw [hPOS, hERR]; exact M1
    have hP4 : POS 4 = q := by rw [hPOS, hqq3]; rfl
    have hE4 : ERR 4 = e := by rw [hERR]; rfl
    obtain ⟨n1, hn1, hl1, hv1⟩ := hp1
    obtain ⟨n2, hn2, hl2, hm2, hv2⟩ := hp2
    obtain ⟨n3, hn3, hl3, hm3, hv3⟩ := hp3
    conv => whnf
    repeat (first | ((with_reducible apply Go.Vc.ld_i); (focus ((repeat (first | with_reducible assumption | with_reducible exact Go.Vc.hset_same _ _ _ | with_reducible refine (Go.Vc.hset_ne _ _ (by omega)).trans ?_)); done)); (focus exact rfl); conv => whnf) | (refine Go.Vc.br_f ?_ ?_; (focus omega); conv => whnf))
    refine (hasprefix_spec _ (by omega)).mono ?_
    rintro _ _ _ _ _ ⟨rfl, rfl, rfl⟩
    rw [hhm, decide_eq_true rfl]
    conv => whnf
    rw [opq_eq]
    conv => whnf
    repeat (first | ((with_reducible refine And.intro (And.intro ?_ ?_) ?_); (focus omega); (focus omega); conv => whnf) | (intro _ _; conv => whnf))
    rw [show Int.toNat 3 = 3 from rfl, hh3, hb3]
    refine ⟨0, by decide, ?_⟩
    conv => whnf
    repeat (first | ((with_reducible refine And.intro (And.intro ?_ ?_) ?_); (focus omega); (focus omega); conv => whnf) | (intro _ _; conv => whnf) | (refine Go.Vc.br_f ?_ ?_; (focus omega); conv => whnf))
    rename_i rk hrk
    have hrt := hd1 _ _ M1'
    have hsk := hd1.sub_new hrk (.cells ((rowsZ.flatMap (rowZ r)).toArray) 85)
    refine loop_intro (fun i : Nat => [(0, .string b), (1, .int .i64 (most : Nat)), (6, .pointer (some ⟨r, 0, none⟩)), (8, .int .u8 (byteAt b 3)), (55, .slice (some ⟨rk, 0, none⟩) 4 4), (56, .int .i64 4), (57, .int .i64 (i : Nat))])
      (fun i h' t' => i ≤ 4 ∧ Mb h' r b (POS i) (ERR i) ∧ h' rk = some (.cells ((rowsZ.flatMap (rowZ r)).toArray) 85 (0, 0)) ∧ Vc.Sub h h' ∧ rk < t') (fun i => 4 - i) 0
      ⟨rfl, rfl, rfl, by show Value.int .u8 (byteAt (b.extract 0 (0 + 10)) 3) = _; rw [hh3], rfl, rfl, rfl, trivial⟩ ⟨by omega, hsk _ _ hP0, hset_same _ _ _, hs1.trans hsk, by omega⟩ ?_
    rintro k e2 g2 t2 hd2 ⟨hk, M2, hrows, s2, hrk2⟩
    have M2' := M2
    unfold Mb at M2'
    conv => whnf
    refine br (fun hb1 => ?_) (fun hb1 => ?_)
    · obtain ⟨qq, bP, offP, hqq, haP, hrow⟩ := slW_row (n := 4) (i := k) (rowZ_len r) (vl_sl hrows rfl) (by decide) (by omega)
      cases haP
      conv => whnf
      repeat (first | ((with_reducible apply Go.Vc.own_ix); (focus exact And.intro (by omega) (by omega)); conv => whnf))
      refine hrow.row (W := 2) rfl (by decide) ?_
      conv => whnf
      repeat (first | ((with_reducible apply Go.Vc.strow); (focus ((repeat (first | with_reducible assumption | with_reducible exact Go.Vc.hset_same _ _ _ | with_reducible refine (Go.Vc.hset_ne _ _ (by omega)).trans ?_)); done)); (focus exact rfl); (focus exact rfl); (focus exact rfl); rintro _ rfl; conv => whnf) | ((with_reducible apply Go.Vc.ld_i); (focus ((repeat (first | with_reducible assumption | with_reducible exact Go.Vc.hset_same _ _ _ | with_reducible refine (Go.Vc.hset_ne _ _ (by omega)).trans ?_)); done)); (focus exact rfl); conv => whnf) | (intro _ _; conv => whnf))
      rename_i rb hrb
      have hsX : Vc.Sub g2 (hset (hset g2 rb (.cells #[.int .u8 0, .nilFunc] 85)) rb (.cells (rowZ r qq).toArray 85)) := fun z o hz => by
        have := hd2 _ _ hz
        rw [hset_ne _ _ (by omega), hset_ne _ _ (by omega)]
        exact hz
      have MX := hsX _ _ M2
      have hrX := hsX _ _ hrows
      have hbX := hset_same (hset g2 rb (.cells #[.int .u8 0, .nilFunc] 85)) rb (.cells (rowZ r qq).toArray 85)
      have hrr := hd2 _ _ M2'
      rw [hb3]
      have hk4 : k = 0 ∨ k = 1 ∨ k = 2 ∨ k = 3 := by omega
      rcases hk4 with rfl | rfl | rfl | rfl
      · obtain rfl : qq = (4, 43) := (Option.some.inj hqq).symm
        refine ⟨4, by decide, ?_⟩
        conv => whnf
        repeat (first | ((with_reducible apply Go.Vc.ld_i); (focus ((repeat (first | with_reducible assumption | with_reducible exact Go.Vc.hset_same _ _ _ | with_reducible refine (Go.Vc.hset_ne _ _ (by omega)).trans ?_)); done)); (focus exact rfl); conv => whnf) | (refine Go.Vc.br_t ?_ ?_; (focus omega); conv => whnf))
        rw [hPOS, hERR] at M2
        have MM : Mb _ r b 10 0 := hsX _ _ M2
        refine (more_ok MM (by omega) (n := n1) (by omega) hv1).mono ?_
        rintro _ g3 t3 hd3 ht3 ⟨rfl, M3, o3, _⟩
        have s3 : Vc.Sub h g3 := fun z o hz => by
          have := hd _ _ hz
          exact o3 z o (by omega) (hsX _ _ (s2 _ _ hz))
        have hr3 := o3 rk _ (by omega) hrX
        conv => whnf
        repeat (first | ((with_reducible apply Go.Vc.wr_i64); (focus exact And.intro (by omega) (by omega)); conv => whnf))
        refine round_end 1 (by omega) ⟨rfl, rfl, rfl, rfl, rfl, rfl, rfl, trivial⟩ ⟨by omega, ?_, hr3, s3, by omega⟩
        rw [hPOS, hERR]
        show Mb g3 r b p1 0
        rw [hn1]
        exact M3
      · obtain rfl : qq = (8, 44) := (Option.some.inj hqq).symm
        refine ⟨8, by decide, ?_⟩
        conv => whnf
        repeat (first | ((with_reducible apply Go.Vc.ld_i); (focus ((repeat (first | with_reducible assumption | with_reducible exact Go.Vc.hset_same _ _ _ | with_reducible refine (Go.Vc.hset_ne _ _ (by omega)).trans ?_)); done)); (focus exact rfl); conv => whnf) | (refine Go.Vc.br_t ?_ ?_; (focus omega); conv => whnf))
        rw [hPOS, hERR] at M2
        have MM : Mb _ r b p1 0 := hsX _ _ M2
        refine (text_ok MM (by omega) (n := n2) (by omega) hv2 hm2).mono ?_
        rintro _ g3 t3 hd3 ht3 ⟨rfl, M3, o3, _⟩
        have s3 : Vc.Sub h g3 := fun z o hz => by
          have := hd _ _ hz
          exact o3 z o (by omega) (hsX _ _ (s2 _ _ hz))
        have hr3 := o3 rk _ (by omega) hrX
        conv => whnf
        repeat (first | ((with_reducible apply Go.Vc.wr_i64); (focus exact And.intro (by omega) (by omega)); conv => whnf))
        refine round_end 2 (by omega) ⟨rfl, rfl, rfl, rfl, rfl, rfl, rfl, trivial⟩ ⟨by omega, ?_, hr3, s3, by omega⟩
        rw [hPOS, hERR]
        show Mb g3 r b p2 0
        rw [hn2]
        exact M3
      · obtain rfl : qq = (16, 44) := (Option.some.inj hqq).symm
        refine ⟨16, by decide, ?_⟩
        conv => whnf
        repeat (first | ((with_reducible apply Go.Vc.ld_i); (focus ((repeat (first | with_reducible assumption | with_reducible exact Go.Vc.hset_same _ _ _ | with_reducible refine (Go.Vc.hset_ne _ _ (by omega)).trans ?_)); done)); (focus exact rfl); conv => whnf) | (refine Go.Vc.br_t ?_ ?_; (focus omega); conv => whnf))
        rw [hPOS, hERR] at M2
        have MM : Mb _ r b p2 0 := hsX _ _ M2
        refine (text_ok MM (by omega) (n := n3) (by omega) hv3 hm3).mono ?_
        rintro _ g3 t3 hd3 ht3 ⟨rfl, M3, o3, _⟩
        have s3 : Vc.Sub h g3 := fun z o hz => by
          have := hd _ _ hz
          exact o3 z o (by omega) (hsX _ _ (s2 _ _ hz))
        have hr3 := o3 rk _ (by omega) hrX
        conv => whnf
        repeat (first | ((with_reducible apply Go.Vc.wr_i64); (focus exact And.intro (by omega) (by omega)); conv => whnf))
        refine round_end 3 (by omega) ⟨rfl, rfl, rfl, rfl, rfl, rfl, rfl, trivial⟩ ⟨by omega, ?_, hr3, s3, by omega⟩
        rw [hPOS, hERR]
        show Mb g3 r b p3 0
        rw [hn3]
        exact M3
      · obtain rfl : qq = (2, 45) := (Option.some.inj hqq).symm
        refine ⟨2, by decide, ?_⟩
        conv => whnf
        repeat (first | ((with_reducible apply Go.Vc.ld_i); (focus ((repeat (first | with_reducible assumption | with_reducible exact Go.Vc.hset_same _ _ _ | with_reducible refine (Go.Vc.hset_ne _ _ (by omega)).trans ?_)); done)); (focus exact rfl); conv => whnf) | (refine Go.Vc.br_t ?_ ?_; (focus omega); conv => whnf))
        rw [hPOS, hERR] at M2
        have MM : Mb _ r b p3 0 := hsX _ _ M2
        refine (sum_ok MM (by omega) hp4).mono ?_
        rintro _ g3 t3 hd3 ht3 ⟨rfl, M3, o3, _⟩
        have s3 : Vc.Sub h g3 := fun z o hz => by
          have := hd _ _ hz
          exact o3 z o (by omega) (hsX _ _ (s2 _ _ hz))
        have hr3 := o3 rk _ (by omega) hrX
        conv => whnf
        repeat (first | ((with_reducible apply Go.Vc.wr_i64); (focus exact And.intro (by omega) (by omega)); conv => whnf))
        refine round_end 4 (by omega) ⟨rfl, rfl, rfl, rfl, rfl, rfl, rfl, trivial⟩ ⟨by omega, ?_, hr3, s3, by omega⟩
        rw [hPOS, hERR]
        show Mb g3 r b (p3 + 2) e
        rw [hee]
        exact M3
    · obtain rfl : k = 4 := by omega
      clear M2'
      have M4 : Mb g2 r b q e := by
        rw [← hP4, ← hE4]
        exact M2
      have M4' := M4
      unfold Mb at M4'
      unfold goF
      by_cases he0 : e = 0
      · rw [if_neg (fun hc => hc he0)]
        subst he0
        conv => whnf
        repeat (first | ((with_reducible refine And.intro (And.intro ?_ ?_) ?_); (focus omega); (focus omega); conv => whnf) | ((with_reducible apply Go.Vc.ld_i); (focus ((repeat (first | with_reducible assumption | with_reducible exact Go.Vc.hset_same _ _ _ | with_reducible refine (Go.Vc.hset_ne _ _ (by omega)).trans ?_)); done)); (focus exact rfl); conv => whnf) | (refine Go.Vc.br_f ?_ ?_; (focus omega); conv => whnf))
        have hxs : (b.extract q b.size).size ≤ 10000000 := by rw [ByteArray.size_extract]; omega
        rw [show ((q : Nat) : Int).toNat = q from rfl]
        refine (open_spec (s := s) (x := b.extract q b.size) (more := tx rest) hs hm (by rw [hx1]; exact tx_pack s rest) hxs).mono ?_
        rintro _ g5 t5 hd5 ht5 ⟨rfl, s5, _⟩
        have M5 := s5 _ _ M4'
        have hrl : rest.size = b.size - q - (packL s).length := by rw [← hx2, ByteArray.size_extract]; omega
        have hbl : (packL s).length + rest.size = b.size - q := by
          have h6 := congrArg ByteArray.size hx1
          rw [ByteArray.size_append, ByteArray.size_extract, packS_size2] at h6
          omega
        by_cases hms : s.size ≤ most
        · rw [if_pos hms, if_neg (Nat.not_lt.2 hms)]
          conv => whnf
          repeat (first | ((with_reducible apply Go.Vc.ld_i); (focus ((repeat (first | with_reducible assumption | with_reducible exact Go.Vc.hset_same _ _ _ | with_reducible refine (Go.Vc.hset_ne _ _ (by omega)).trans ?_)); done)); (focus exact rfl); conv => whnf) | ((with_reducible apply Go.Vc.wr_i64); (focus exact And.intro (by omega) (by omega)); conv => whnf) | (refine Go.Vc.br_f ?_ ?_; (focus omega); conv => whnf))
          refine br (fun h8 => ?_) (fun h8 => ?_)
          · rw [if_pos (show rest.size ≠ 8 by omega)]
            conv => whnf
            exact ⟨rfl, s2.trans s5, by omega⟩
          · rw [if_neg (show ¬ rest.size ≠ 8 by omega)]
            conv => whnf
            refine Go.Vc.draw_intro [⟨0, false, true, false, 0⟩, ⟨1, false, true, false, 0⟩, ⟨2, false, true, false, 2⟩, ⟨3, false, true, false, 6⟩, ⟨4, false, true, false, 14⟩, ⟨5, false, true, false, 0⟩, ⟨6, false, true, false, 62⟩, ⟨7, false, true, false, 127⟩, ⟨8, false, false, false, 0⟩, ⟨9, true, false, true, 256⟩, ⟨10, false, false, false, 1023⟩, ⟨11, false, false, false, 2047⟩] (hs := g5) (hsub := (Sub.refl _)) (hm := by kernel_rfl) (hpl := by kernel_rfl) ?_
            conv => whnf
            conv => whnf
            repeat (first | ((with_reducible refine And.intro (And.intro ?_ ?_) ?_); (focus omega); (focus omega); conv => whnf) | ((with_reducible apply Go.Vc.ld_i); (focus ((repeat (first | with_reducible assumption | with_reducible exact Go.Vc.hset_same _ _ _ | with_reducible refine (Go.Vc.hset_ne _ _ (by omega)).trans ?_)); done)); (focus exact rfl); conv => whnf) | ((with_reducible apply Go.Vc.wr_i64); (focus exact And.intro (by omega) (by omega)); conv => whnf))
            refine (end_spec s (by omega)).mono ?_
            rintro _ g6 t6 hd6 ht6 ⟨rfl, s6, _⟩
            refine ⟨s6, ?_⟩
            rw [show ((q : Int) + ((packL s).length : Nat)).toNat = q + (packL s).length by omega, hx2]
            conv => whnf
            refine br (fun hne => ?_) (fun hne => ?_)
            · rw [if_pos hne]
              conv => whnf
              exact ⟨rfl, s2.trans (s5.trans s6), by omega⟩
            · rw [if_neg hne]
              conv => whnf
              exact ⟨rfl, s2.trans (s5.trans s6), by omega⟩
        · rw [if_neg hms, if_pos (by omega)]
          conv => whnf
          repeat (first | (refine Go.Vc.br_t ?_ ?_; (focus omega); conv => whnf))
          exact ⟨rfl, s2.trans s5, by omega⟩
      · rw [if_pos he0]
        conv => whnf
        repeat (first | ((with_reducible apply Go.Vc.ld_i); (focus ((repeat (first | with_reducible assumption | with_reducible exact Go.Vc.hset_same _ _ _ | with_reducible refine (Go.Vc.hset_ne _ _ (by omega)).trans ?_)); done)); (focus exact rfl); conv => whnf) | (refine Go.Vc.br_t ?_ ?_; (focus omega); conv => whnf))
        refine Go.Vc.draw_intro [⟨0, false, false, false, 0⟩, ⟨1, false, false, false, 1⟩, ⟨2, false, false, false, 3⟩, ⟨3, false, false, false, 7⟩, ⟨4, false, false, false, 0⟩, ⟨5, false, false, false, 31⟩] (hs := (fun _ => none)) (hsub := (fun _ _ h => nomatch h)) (hm := by kernel_rfl) (hpl := by kernel_rfl) ?_
        conv => whnf
        conv => whnf
        repeat (first | ((with_reducible apply Go.Vc.ld_i); (focus ((repeat (first | with_reducible assumption | with_reducible exact Go.Vc.hset_same _ _ _ | with_reducible refine (Go.Vc.hset_ne _ _ (by omega)).trans ?_)); done)); (focus exact rfl); conv => whnf) | ((with_reducible refine And.intro ?_ (And.intro ?_ ?_)); (focus exact rfl); (focus omega); conv => whnf))
        exact show t ≤ t2 by omega
end Go.Proofs.Ytikpfffhcjlcjaa
