/- HuffMakes answers true, by its contract. -/
import Derived.Test.YtlnibgkdjmkekaaHuff10
namespace Go.Proofs.Ytlnibgkdjmkekaa
open Go Go.Vc Go.Huf
set_option maxRecDepth 10000
set_option linter.unusedVariables false

theorem mono_law {C : List Int} {m : Int} (hC : ∀ x ∈ C, 0 ≤ x) (hm : 9 ≤ m) (h10 : manyN C ≤ 10) {i k : Nat} (hi : i < C.length) (hk : k < C.length) (h0 : 0 < C[k]) (hlt : C[k] < C[i]) : (lenF 40 C m).getD i 0 ≤ (lenF 40 C m).getD k 0 := by
  have hb := base_many C
  have gi : C.getD i 0 = C[i] := by rw [List.getD_eq_getElem?_getD, List.getElem?_eq_getElem hi]; rfl
  have gk : C.getD k 0 = C[k] := by rw [List.getD_eq_getElem?_getD, List.getElem?_eq_getElem hk]; rfl
  have hle : ∀ x ∈ lens C, x ≤ m := by
    rcases Nat.lt_or_ge (base C).length 2 with h | h
    · intro x hx
      have := lens_le_many x hx
      omega
    · intro x hx
      have := lens_lt_many h x hx
      omega
  rw [lenF_first hle, lens_getD hi, lens_getD hk]
  have hne : (base C).length ≠ 1 := by
    intro h1
    obtain ⟨x, hx⟩ := List.length_eq_one_iff.1 h1
    have e1 : (C.getD i 0, i) ∈ base C := base_mem.2 ⟨hi, by rw [gi]; omega, rfl⟩
    have e2 : (C.getD k 0, k) ∈ base C := base_mem.2 ⟨hk, by rw [gk]; omega, rfl⟩
    rw [hx] at e1 e2
    have e3 := (List.mem_singleton.1 e1).trans (List.mem_singleton.1 e2).symm
    have := congrArg Prod.fst e3
    simp only [gi, gk] at this
    omega
  rw [if_neg hne, if_neg hne]
  have hsl := (srt0_perm C).length_eq
  have hpos := base_pos hk (by rw [gk]; exact h0)
  have hlen : (srt0 C).length = ((srt0 C).length - 1) + 1 := by omega
  have := heavy_dep hlen (srt0_ok C) (srt0_nums C) (srt0_mem hk (by rw [gk]; exact h0)) (srt0_mem hi (by rw [gi]; omega)) (by show C.getD k 0 < C.getD i 0; rw [gi, gk]; exact hlt)
  unfold depOf
  simp only at this
  omega
theorem HuffMakes_spec (h : Heap) (t : Nat) (a0 : Option Addr) (n0 c0 : Nat) (l0 : List Int) (s0 : Sl h a0 n0 (Value.int .u16) l0) (hn0 : n0 ≤ 1048576) (hc0 : n0 ≤ c0) (hb0 : ∀ z ∈ l0, IntKind.min .u16 ≤ z ∧ z ≤ IntKind.max .u16) (x : Int) (hx : IntKind.min .u8 ≤ x ∧ x ≤ IntKind.max .u8) :
    CallSpec Try.prog 6 #[.slice a0 n0 c0, .int .u8 x] h t (fun v h' _ => v = .bool true ∧ Vc.Sub h h') := by
  have hx2 : 0 ≤ x ∧ x ≤ 255 := hx
  refine Go.Vc.spec_of_vc (fn := Try.f6) Try.func6 rfl (by kernel_rfl) (by kernel_rfl) (Nat.le_of_ble_eq_true rfl) ?_
  intro hd
  conv => whnf
  refine (examples_spec h t).mono ?_
  rintro _ h1 t1 hd1 ht1 ⟨rfl, hs1⟩
  conv => whnf
  refine (counted_spec (s0.sub hs1) hn0 hb0).mono ?_
  rintro _ h2 t2 hd2 ht2 ⟨a2, c2, rfl, ho2, hs2, _, _⟩
  have hcl := cnts_len l0
  have hCn := cnts_nonneg l0
  have hC1 : ∀ x ∈ cnts l0, 0 ≤ x ∧ x ≤ 1000 := cnts_mem
  conv => whnf
  repeat (first | ((with_reducible apply Go.Vc.wr_i64); (focus exact And.intro (by omega) (by omega)); conv => whnf) | ((with_reducible apply Go.Vc.rem_i); (focus omega); conv => whnf) | ((with_reducible refine And.intro ?_ (And.intro ?_ ?_)); (focus exact rfl); (focus omega); conv => whnf))
  refine (lengths_spec ho2.sl (by omega)).mono ?_
  rintro _ h3 t3 hd3 ht3 ⟨a3, n3, c3, rfl, s3, hc3, _, hs3⟩
  obtain ⟨m, hm⟩ : ∃ m, m = 9 + x % 7 := ⟨_, rfl⟩
  have hmr : 9 ≤ m ∧ m ≤ 15 := by omega
  rw [← hm] at s3 ⊢
  rw [cnts_may hmr] at s3 ⊢
  replace s3 : Sl h3 a3 n3 (Value.int .i64) (lenF 40 (cnts l0) m) := s3
  have hle := cnts_le (l := l0) (m := m) hmr.1
  have hen := errN_lenF hCn (by omega) hmr.2 hle
  have hlen := lenF_len 40 (cnts l0) m
  have hnn := lenF_nonneg hCn 40 m
  have hiff := fun i (hi : i < (cnts l0).length) => lenF_iff hCn 40 m hi
  have hmono := fun (h10 : manyN (cnts l0) ≤ 10) i k (hi : i < (cnts l0).length) (hk : k < (cnts l0).length) => mono_law hCn hmr.1 h10 hi hk
  have s2 := ho2.sl.sub hs3
  clear ho2
  generalize lenF 40 (cnts l0) m = L at *
  generalize (cnts l0) = C at *
  have hL3 := s3.1
  have hn3 : n3 = C.length := by omega
  subst hn3
  have hsub : Vc.Sub h h3 := hs1.trans (hs2.trans hs3)
  conv => whnf
  repeat (first | (refine Go.Vc.br_f ?_ ?_; (focus omega); conv => whnf))
  refine loop_intro (fun i : Nat => [(5, .bool true), (6, .slice a2 C.length c2), (7, .int .i64 m), (8, .slice a3 C.length c3), (10, .int .i64 (manyN (C.take i) : Nat)), (11, .int .i64 (i : Nat))]) (fun i h' t' => h3 = h' ∧ i ≤ C.length) (fun i => C.length - i) 0 ⟨rfl, rfl, rfl, rfl, rfl, rfl, trivial⟩ ⟨rfl, by omega⟩ ?_
  rintro i g5 _ t5 hd5 ⟨rfl, hi⟩
  have hmb : ∀ i, manyN (C.take i) ≤ i := fun i => by
    unfold manyN
    exact Nat.le_trans List.countP_le_length (by rw [List.length_take]; omega)
  have hmbi := hmb i
  conv => whnf
  refine br (fun hb => ?_) (fun hb => ?_)
  · conv => whnf
    repeat (first | ((with_reducible apply Go.Vc.sl_ix); (focus with_reducible assumption); (focus exact And.intro (by omega) (by omega)); intro xI bI offI hxI hcI; conv => whnf) | ((with_reducible apply Go.Vc.cell_i); (focus assumption); conv => whnf))
    have hxi : C[i]? = some xI := hxI
    have hstep : manyN (C.take (i + 1)) = manyN (C.take i) + if 0 < xI then 1 else 0 := by
      unfold manyN
      rw [List.take_add_one, hxi, List.countP_append]
      by_cases h : 0 < xI <;> simp [h]
    refine br (fun hb2 => ?_) (fun hb2 => ?_)
    · rw [if_pos hb2] at hstep
      conv => whnf
      repeat (first | ((with_reducible apply Go.Vc.wr_i64); (focus exact And.intro (by omega) (by omega)); conv => whnf))
      exact round_end (i + 1) (by omega) ⟨rfl, rfl, rfl, rfl, by rw [hstep]; rfl, rfl, trivial⟩ ⟨rfl, by omega⟩
    · rw [if_neg hb2] at hstep
      conv => whnf
      repeat (first | ((with_reducible apply Go.Vc.wr_i64); (focus exact And.intro (by omega) (by omega)); conv => whnf))
      exact round_end (i + 1) (by omega) ⟨rfl, rfl, rfl, rfl, by rw [hstep]; rfl, rfl, trivial⟩ ⟨rfl, by omega⟩
  · have hie : i = C.length := by omega
    subst hie
    rw [List.take_length] at hmbi ⊢
    conv => whnf
    refine loop_intro (fun i : Nat => [(5, .bool true), (6, .slice a2 C.length c2), (7, .int .i64 m), (8, .slice a3 C.length c3), (10, .int .i64 (manyN C : Nat)), (12, .int .i64 (i : Nat))]) (fun i h' t' => h3 = h' ∧ i ≤ C.length) (fun i => C.length - i) 0 ⟨rfl, rfl, rfl, rfl, rfl, rfl, trivial⟩ ⟨rfl, by omega⟩ ?_
    rintro i g5 _ t5 hd5 ⟨rfl, hi⟩
    conv => whnf
    refine br (fun hb => ?_) (fun hb => ?_)
    · have hiC : i < C.length := by omega
      have hiL : i < L.length := by omega
      obtain ⟨b3, off3, e3, hcell3⟩ := sl_cells s3 (by omega)
      obtain ⟨b2, off2, e2, hcell2⟩ := sl_cells s2 (by omega)
      subst e3
      subst e2
      have gC : ∀ j (hj : j < C.length), C.getD j 0 = C[j] := fun j hj => by rw [List.getD_eq_getElem?_getD, List.getElem?_eq_getElem hj]; rfl
      have gL : ∀ j (hj : j < L.length), L.getD j 0 = L[j] := fun j hj => by rw [List.getD_eq_getElem?_getD, List.getElem?_eq_getElem hj]; rfl
      have hci := hcell3 i L[i] (List.getElem?_eq_getElem hiL)
      have hdi := hcell2 i C[i] (List.getElem?_eq_getElem hiC)
      have hii := hiff i hiC
      rw [gC i hiC, gL i hiL] at hii
      have hlm := hle L[i] (List.getElem_mem hiL)
      have hmi := fun h10 k (hk : k < C.length) => hmono h10 i k hiC hk
      obtain ⟨li, hli⟩ : ∃ li, li = L[i] := ⟨_, rfl⟩
      obtain ⟨ci, hcie⟩ : ∃ ci, ci = C[i] := ⟨_, rfl⟩
      rw [← hli] at hci hii hlm
      rw [← hcie] at hdi hii
      have heq : decide (li > 0) = decide (ci > 0) := decide_eq_decide.2 hii
      conv => whnf
      refine Go.Vc.draw_intro [⟨0, false, false, false, 0⟩, ⟨1, false, false, false, 0⟩, ⟨2, false, false, false, 3⟩, ⟨3, false, false, false, 7⟩, ⟨4, false, false, false, 15⟩, ⟨5, false, false, false, 0⟩, ⟨6, false, false, false, 0⟩, ⟨7, false, false, false, 96⟩, ⟨8, false, false, false, 224⟩, ⟨9, false, false, false, 480⟩, ⟨10, false, false, false, 1023⟩, ⟨11, false, false, false, 2047⟩, ⟨12, false, false, false, 4095⟩, ⟨13, false, false, false, 4095⟩, ⟨14, false, false, false, 16383⟩, ⟨15, false, false, false, 32767⟩, ⟨16, false, false, false, 4095⟩, ⟨17, false, false, false, 131071⟩, ⟨18, false, false, false, 262143⟩] (hs := (fun _ => none)) (hsub := (fun _ _ h => nomatch h)) (hm := by kernel_rfl) (hpl := by kernel_rfl) ?_
      conv => whnf
      conv => whnf
      repeat (first | ((with_reducible apply Go.Vc.own_ix); (focus exact And.intro (by omega) (by omega)); conv => whnf) | ((with_reducible apply Go.Vc.cell_i); (focus assumption); conv => whnf))
      refine bsel_f (by rw [opq_eq, opq_eq, heq]; simp) ?_
      conv => whnf
      repeat (first | ((with_reducible apply Go.Vc.own_ix); (focus exact And.intro (by omega) (by omega)); conv => whnf) | ((with_reducible apply Go.Vc.cell_i); (focus assumption); conv => whnf) | (refine Go.Vc.br_f ?_ ?_; (focus omega); conv => whnf))
      refine loop_intro (fun k : Nat => [(5, .bool true), (6, .slice (some ⟨b2, off2, none⟩) C.length c2), (7, .int .i64 m), (8, .slice (some ⟨b3, off3, none⟩) C.length c3), (10, .int .i64 (manyN C : Nat)), (12, .int .i64 (i : Nat)), (13, .int .i64 (k : Nat))]) (fun k h' t' => h3 = h' ∧ k ≤ C.length) (fun k => C.length - k) 0 ⟨rfl, rfl, rfl, rfl, rfl, rfl, rfl, trivial⟩ ⟨rfl, by omega⟩ ?_
      rintro k g6 _ t6 hd6 ⟨rfl, hk⟩
      conv => whnf
      refine br (fun hb2 => ?_) (fun hb2 => ?_)
      · have hkC : k < C.length := by omega
        have hkL : k < L.length := by omega
        have hck := hcell3 k L[k] (List.getElem?_eq_getElem hkL)
        have hdk := hcell2 k C[k] (List.getElem?_eq_getElem hkC)
        have hmk := fun h10 => hmi h10 k hkC
        rw [gL i hiL, gL k hkL, ← hli, ← hcie] at hmk
        obtain ⟨lk, hlk⟩ : ∃ lk, lk = L[k] := ⟨_, rfl⟩
        obtain ⟨ck, hcke⟩ : ∃ ck, ck = C[k] := ⟨_, rfl⟩
        rw [← hlk] at hck hmk
        rw [← hcke] at hdk hmk
        conv => whnf
        refine Go.Vc.draw_intro [⟨0, false, false, false, 0⟩, ⟨1, false, false, false, 1⟩, ⟨2, false, false, false, 3⟩, ⟨3, false, false, false, 7⟩, ⟨4, false, false, false, 7⟩, ⟨5, false, false, false, 31⟩, ⟨6, false, false, false, 63⟩, ⟨7, false, false, false, 7⟩, ⟨8, false, false, false, 7⟩, ⟨9, false, false, false, 391⟩, ⟨10, false, false, false, 903⟩, ⟨11, false, false, false, 2047⟩, ⟨12, false, false, false, 4095⟩, ⟨13, false, false, false, 8191⟩, ⟨14, false, false, false, 16383⟩, ⟨15, false, false, false, 16383⟩, ⟨16, false, false, false, 65535⟩, ⟨17, false, false, false, 131071⟩, ⟨18, false, false, false, 262143⟩, ⟨19, false, false, false, 524287⟩, ⟨20, false, false, false, 1048575⟩, ⟨21, false, false, false, 2097151⟩, ⟨22, false, false, false, 2097151⟩, ⟨23, false, false, false, 8388607⟩, ⟨24, false, false, false, 16777215⟩, ⟨25, false, false, false, 2097151⟩, ⟨26, false, false, false, 2097151⟩, ⟨27, false, false, false, 102760447⟩, ⟨28, false, false, false, 236978175⟩, ⟨29, false, false, false, 536870911⟩, ⟨30, false, false, false, 1073741823⟩] (hs := (fun _ => none)) (hsub := (fun _ _ h => nomatch h)) (hm := by kernel_rfl) (hpl := by kernel_rfl) ?_
        conv => whnf
        conv => whnf
        refine br (fun hb3 => ?_) (fun hb3 => ?_)
        · conv => whnf
          repeat (first | ((with_reducible apply Go.Vc.own_ix); (focus exact And.intro (by omega) (by omega)); conv => whnf) | ((with_reducible apply Go.Vc.cell_i); (focus assumption); conv => whnf))
          refine br (fun hb4 => ?_) (fun hb4 => ?_)
          · conv => whnf
            repeat (first | ((with_reducible apply Go.Vc.own_ix); (focus exact And.intro (by omega) (by omega)); conv => whnf) | ((with_reducible apply Go.Vc.cell_i); (focus assumption); conv => whnf))
            refine br (fun hb5 => ?_) (fun hb5 => ?_)
            · have hfin := hmk (by omega) hb5 hb4
              conv => whnf
              repeat (first | ((with_reducible apply Go.Vc.own_ix); (focus exact And.intro (by omega) (by omega)); conv => whnf) | ((with_reducible apply Go.Vc.cell_i); (focus assumption); conv => whnf) | ((with_reducible apply Go.Vc.wr_i64); (focus exact And.intro (by omega) (by omega)); conv => whnf) | (refine Go.Vc.br_f ?_ ?_; (focus omega); conv => whnf))
              exact round_end (k + 1) (by omega) ⟨rfl, rfl, rfl, rfl, rfl, rfl, rfl, trivial⟩ ⟨rfl, by omega⟩
            · conv => whnf
              repeat (first | ((with_reducible apply Go.Vc.wr_i64); (focus exact And.intro (by omega) (by omega)); conv => whnf))
              exact round_end (k + 1) (by omega) ⟨rfl, rfl, rfl, rfl, rfl, rfl, rfl, trivial⟩ ⟨rfl, by omega⟩
          · conv => whnf
            repeat (first | ((with_reducible apply Go.Vc.wr_i64); (focus exact And.intro (by omega) (by omega)); conv => whnf))
            exact round_end (k + 1) (by omega) ⟨rfl, rfl, rfl, rfl, rfl, rfl, rfl, trivial⟩ ⟨rfl, by omega⟩
        · conv => whnf
          repeat (first | ((with_reducible apply Go.Vc.wr_i64); (focus exact And.intro (by omega) (by omega)); conv => whnf))
          exact round_end (k + 1) (by omega) ⟨rfl, rfl, rfl, rfl, rfl, rfl, rfl, trivial⟩ ⟨rfl, by omega⟩
      · conv => whnf
        repeat (first | ((with_reducible apply Go.Vc.wr_i64); (focus exact And.intro (by omega) (by omega)); conv => whnf))
        exact round_end (i + 1) (by omega) ⟨rfl, rfl, rfl, rfl, rfl, rfl, trivial⟩ ⟨rfl, by omega⟩
    · conv => whnf
      refine (new_spec s3 (by omega)).mono ?_
      rintro _ h4 t4 hd4 ht4 ⟨hs4, hv⟩
      rcases hv with ⟨hne, _⟩ | ⟨_, b, hbt, rfl, _⟩
      · exact absurd hen.1 hne
      conv => whnf
      exact ⟨by rw [opq_eq, decide_eq_true rfl], hsub.trans hs4⟩
end Go.Proofs.Ytlnibgkdjmkekaa
