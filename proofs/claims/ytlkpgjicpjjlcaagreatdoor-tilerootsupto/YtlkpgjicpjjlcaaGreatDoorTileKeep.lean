import Derived.Test.YtlkpgjicpjjlcaaGreatDoorTileRep
/- A replacer at work: which bytes are kept. -/
set_option linter.unusedSimpArgs false
namespace Go.Tile
open Go Go.Vc
def keptL (l : List UInt8) : List UInt8 := l.filter keepB
def kept (l : List UInt8) (i : Nat) : Nat := (keptL (l.take i)).length
theorem kept_step {l : List UInt8} {i : Nat} (hi : i < l.length) : keptL (l.take (i + 1)) = keptL (l.take i) ++ (if keepB l[i] then [l[i]] else []) := by
  unfold keptL
  rw [List.take_succ_eq_append_getElem hi, List.filter_append]
  congr 1
  by_cases h : keepB l[i] = true
  · rw [if_pos h, List.filter_cons, if_pos h]; rfl
  · rw [if_neg h, List.filter_cons, if_neg h]; rfl
theorem kept_succ {l : List UInt8} {i : Nat} (hi : i < l.length) : kept l (i + 1) = kept l i + (if keepB l[i] then 1 else 0) := by
  unfold kept
  rw [kept_step hi, List.length_append]
  split <;> rfl
theorem kept_le (l : List UInt8) (i : Nat) : kept l i ≤ i := by
  unfold kept keptL
  exact Nat.le_trans (List.length_filter_le _ _) (by rw [List.length_take]; omega)
theorem kept_mono {l : List UInt8} : ∀ (d i : Nat), kept l i ≤ kept l (i + d)
  | 0, _ => Nat.le_refl _
  | d + 1, i => by
    refine Nat.le_trans (kept_mono d i) ?_
    by_cases hi : i + d < l.length
    · rw [show i + (d + 1) = (i + d) + 1 from rfl, kept_succ hi]; omega
    · unfold kept
      rw [List.take_of_length_le (by omega : l.length ≤ i + d), List.take_of_length_le (by omega : l.length ≤ i + (d + 1))]
      exact Nat.le_refl _
theorem kept_all (l : List UInt8) : kept l l.length = (keptL l).length := by
  unfold kept
  rw [List.take_length]
theorem keep_byte {x : UInt8} : keepB x = true ↔ ¬ ((x.toNat : Nat) = 47 ∨ (x.toNat : Nat) = 120) := by
  unfold keepB
  have h1 : x = 47 ↔ x.toNat = 47 := by rw [← UInt8.toNat_inj]; rfl
  have h2 : x = 120 ↔ x.toNat = 120 := by rw [← UInt8.toNat_inj]; rfl
  simp only [Bool.not_eq_true', Bool.or_eq_false_iff, beq_eq_false_iff_ne, ne_eq, h1, h2]
  omega
theorem kept_count : ∀ (l : List UInt8), (keptL l).length + l.count 47 + l.count 120 = l.length
  | [] => rfl
  | x :: l => by
    have ih := kept_count l
    unfold keptL at ih ⊢
    rw [List.filter_cons, List.count_cons, List.count_cons, List.length_cons]
    by_cases h1 : x = 47
    · subst h1
      rw [if_neg (by decide)]
      simp
      omega
    · by_cases h2 : x = 120
      · subst h2
        rw [if_neg (by decide)]
        simp
        omega
      · have hk : keepB x = true := by unfold keepB; simp [h1, h2]
        rw [if_pos hk, if_neg (by simpa using h1), if_neg (by simpa using h2), List.length_cons]
        omega
theorem keptL_all {l : List UInt8} (h : (keptL l).length = l.length) : keptL l = l := by
  unfold keptL at h ⊢
  exact List.filter_eq_self.2 (List.length_filter_eq_length_iff.1 h)
def cD (L : List UInt8) : Nat → Nat
  | 0 => 0
  | 1 => L.count 47
  | _ => L.count 47 + L.count 120
theorem take_set_self {B : List UInt8} {k : Nat} {x : UInt8} (hk : k < B.length) : (B.set k x).take (k + 1) = B.take k ++ [x] := by
  rw [List.take_succ_eq_append_getElem (by simpa using hk), List.getElem_set_self, List.take_set, List.set_eq_of_length_le (by simp; omega)]
theorem byteAt_get {s : ByteArray} {i : Nat} (hi : i < s.data.toList.length) : byteAt s i = ((s.data.toList[i]).toNat : Int) := by
  unfold byteAt
  simp at hi
  simp [hi]
end Go.Tile
namespace Go.Vc
open Go
/-- Nothing is copied. -/
theorem copy_none {P : Program} {T U E ty : TypeId} {inf : TypeInfo} (hT : P.underlying T = some (.slice E)) (hi : P.info? E = some inf) {h : Heap} {t : Nat} {a' xa : Option Addr} {n' c' xc : Nat} {K : Value → Heap → Nat → Prop}
    (hK : K (.int .i64 0) h t) : CopyVC P #[T, U] ty (.slice a' n' c') (.slice xa 0 xc) K h t := by
  refine ⟨?_⟩
  unfold Builtin.copy_
  simp only [List.getElem?_toArray, List.getElem?_cons_zero, List.getElem?_cons_succ, gen_b, gen_underlying hT, gen_sizeOf hi, gen_p, Builtin.lenOf]
  have hmin : Nat.min 0 n' = 0 := Nat.zero_min n'
  rw [hmin]
  have hld : ∀ (K : Array Value → Heap → Nat → Prop), K ([] : List Value).toArray h t → gen P (Builtin.firstCells inf.size 0 (.slice xa 0 xc)) K h t := by
    intro K hk
    have h1 : gen P (Builtin.firstCells inf.size 0 (.slice xa 0 xc)) K h t := sl_loadW (L := []) (by rw [Nat.zero_mul]; exact Sl.nil h xa id) hk
    cases xa with
    | none => simpa only [Builtin.firstCells] using h1
    | some p => simpa only [Builtin.firstCells] using h1
  refine hld _ ?_
  cases a' with
  | none => simp only [gen_p]; exact hK
  | some p =>
    simp only [gen_b, storeCells, gen_p]
    exact hK
end Go.Vc
namespace Go.Proofs.YtlkpgjicpjjlcaaGreatDoor
open Go Go.Vc Go.Tile
set_option maxRecDepth 20000
set_option linter.unusedVariables false
theorem rc_at {A : List Value} {s : Value} {j : Nat} (hj : j < A.length) : (RC A s)[0 + j * 1]? = A[j]? := by
  unfold RC
  rw [Nat.mul_one, Nat.zero_add]
  simp [List.getElem?_append_left hj]
theorem keeps_spec {h : Heap} {t q : Nat} (s : ByteArray) (hs : s.size ≤ 1048576) (hq : RepObj h q) :
    CallSpec Tryz.prog 177 #[.pointer (some ⟨q, 0, none⟩), .string s] h t (fun v h' t' => v = .string ⟨(keptL s.data.toList).toArray⟩ ∧ Vc.Sub h h' ∧ t ≤ t') := by
  obtain ⟨A, a2, c2, hq1, hAl, hA, hsl, hc2⟩ := hq
  obtain ⟨L, hL⟩ : ∃ L, L = s.data.toList := ⟨_, rfl⟩
  have hLs : L.length = s.size := by rw [hL]; rfl
  have hb : ∀ i (hi : i < L.length), byteAt s i = ((L[i]).toNat : Int) := by
    subst hL
    exact fun i hi => byteAt_get hi
  refine Go.Vc.spec_of_vc (fn := Tryz.f177) Tryz.func177 rfl (by kernel_rfl) (by kernel_rfl) (Nat.le_of_ble_eq_true rfl) ?_
  intro hd
  have hc256 : Cell h ⟨q, 256, none⟩ (.slice a2 2 c2) := ⟨_, _, _, hq1, rfl, by rw [rc_last hAl]⟩
  conv => whnf
  repeat (first | ((with_reducible apply Go.Vc.cell_i); (focus assumption); conv => whnf) | ((with_reducible apply Go.Vc.wr_i64); (focus exact And.intro (by omega) (by omega)); conv => whnf))
  refine br (fun h1 => ?_) (fun h1 => ?_)
  · conv => whnf
    repeat (first | ((with_reducible apply Go.Vc.cell_i); (focus assumption); conv => whnf))
    refine loop_intro3 (fun (k N : Nat) (b : Bool) => [(0, .pointer (some ⟨q, 0, none⟩)), (1, .string s), (5, .int .i64 (N : Nat)), (6, .bool b), (30, .slice a2 2 c2), (31, .int .i64 2), (32, .int .i64 (k : Nat))])
      (fun k N b h' t' => k ≤ 2 ∧ N + cD L k = L.length ∧ b = decide (N < L.length) ∧ h' = h ∧ t' = t) (fun k _ _ => 2 - k) 0 s.size false ⟨rfl, rfl, rfl, rfl, rfl, rfl, rfl, trivial⟩ ⟨by omega, hLs.symm, by simp [hLs], rfl, rfl⟩ ?_
    rintro k N b e1 g t1 hd1 ⟨hk, hN, hbb, rfl, rfl⟩
    conv => whnf
    refine br (fun h2 => ?_) (fun h2 => ?_)
    · rcases (show k = 0 ∨ k = 1 by omega) with rfl | rfl
      · conv => whnf
        repeat (first | ((with_reducible apply Go.Vc.sl_ix); (focus with_reducible assumption); (focus exact And.intro (by omega) (by omega)); intro xI bI offI hxI hcI; conv => whnf) | ((with_reducible apply Go.Vc.cell_i); (focus assumption); conv => whnf))
        obtain rfl : (⟨#[47]⟩ : ByteArray) = xI := Option.some.inj hxI
        refine (count_spec s 47).mono ?_
        rintro _ g2 t2 hd2 ht2 ⟨rfl, rfl, rfl⟩
        rw [show Lib.countByte s.data.toList 47 = L.count 47 by rw [hL]; rfl]
        conv => whnf
        refine br (fun h3 => ?_) (fun h3 => ?_)
        · conv => whnf
          refine Go.Vc.draw_intro [⟨0, false, false, false, 0⟩, ⟨1, false, false, false, 0⟩, ⟨2, false, false, false, 0⟩, ⟨3, false, false, false, 0⟩, ⟨4, false, false, false, 8⟩, ⟨5, false, false, false, 4⟩, ⟨6, false, false, false, 36⟩, ⟨7, false, false, false, 124⟩, ⟨8, false, false, false, 252⟩, ⟨9, false, false, false, 508⟩, ⟨10, false, false, false, 1020⟩, ⟨11, false, false, false, 2046⟩, ⟨12, false, false, false, 4095⟩, ⟨13, false, false, false, 8191⟩] (hs := g2) (hsub := (Sub.refl g2)) (hm := by kernel_rfl) (hpl := by kernel_rfl) ?_
          conv => whnf
          refine ⟨⟨by decide, by decide⟩, fun _ _ => ?_⟩
          rw [show byteAt ⟨#[47]⟩ (Int.toNat 0) = 47 from rfl]
          conv => whnf
          repeat (first | ((with_reducible refine And.intro (And.intro ?_ ?_) ?_); (focus omega); (focus omega); conv => whnf) | ((with_reducible apply Go.Vc.ar_ld); (focus ((repeat (first | with_reducible assumption | with_reducible exact Go.Vc.hset_same _ _ _ | with_reducible refine (Go.Vc.hset_ne _ _ (by omega)).trans ?_)); done)); (focus exact rfl); (focus (first | omega | (simp; done) | (simp; omega))); intro xA hxA; conv => whnf))
          obtain ⟨x5, cx5, h47⟩ : ∃ x cx, A[47]? = some (.slice (some x) 0 cx) := by
            have h47 := hA 47 (by omega)
            rw [if_pos (by omega)] at h47
            exact h47
          obtain rfl : Value.slice (some x5) 0 cx5 = xA := by
            rw [List.getElem?_append_left (by rw [hAl]; decide)] at hxA
            exact Option.some.inj (h47.symm.trans hxA)
          have hcl : L.count 47 + L.count 120 ≤ L.length := by have := kept_count L; omega
          change N + (0) = _ at hN
          conv => whnf
          repeat (first | ((with_reducible apply Go.Vc.wr_i64); (focus exact And.intro (by omega) (by omega)); conv => whnf))
          refine round_end3 1 (N - L.count 47) true (by omega) ⟨rfl, rfl, ?_, rfl, rfl, rfl, rfl, trivial⟩ ⟨by omega, ?_, ?_, rfl, rfl⟩
          · show Value.int .i64 _ = Value.int .i64 _
            congr 1
            omega
          · show N - L.count 47 + (L.count 47) = _
            omega
          · rw [eq_comm, decide_eq_true_iff]
            omega
        · conv => whnf
          repeat (first | ((with_reducible apply Go.Vc.wr_i64); (focus exact And.intro (by omega) (by omega)); conv => whnf))
          change N + (0) = _ at hN
          refine round_end3 1 N b (by omega) ⟨rfl, rfl, rfl, rfl, rfl, rfl, rfl, trivial⟩ ⟨by omega, ?_, hbb, rfl, rfl⟩
          show N + (L.count 47) = _
          omega
      · conv => whnf
        repeat (first | ((with_reducible apply Go.Vc.sl_ix); (focus with_reducible assumption); (focus exact And.intro (by omega) (by omega)); intro xI bI offI hxI hcI; conv => whnf) | ((with_reducible apply Go.Vc.cell_i); (focus assumption); conv => whnf))
        obtain rfl : (⟨#[120]⟩ : ByteArray) = xI := Option.some.inj hxI
        refine (count_spec s 120).mono ?_
        rintro _ g2 t2 hd2 ht2 ⟨rfl, rfl, rfl⟩
        rw [show Lib.countByte s.data.toList 120 = L.count 120 by rw [hL]; rfl]
        conv => whnf
        refine br (fun h3 => ?_) (fun h3 => ?_)
        · conv => whnf
          refine Go.Vc.draw_intro [⟨0, false, false, false, 0⟩, ⟨1, false, false, false, 0⟩, ⟨2, false, false, false, 0⟩, ⟨3, false, false, false, 0⟩, ⟨4, false, false, false, 8⟩, ⟨5, false, false, false, 4⟩, ⟨6, false, false, false, 36⟩, ⟨7, false, false, false, 124⟩, ⟨8, false, false, false, 252⟩, ⟨9, false, false, false, 508⟩, ⟨10, false, false, false, 1020⟩, ⟨11, false, false, false, 2046⟩, ⟨12, false, false, false, 4095⟩, ⟨13, false, false, false, 8191⟩] (hs := g2) (hsub := (Sub.refl g2)) (hm := by kernel_rfl) (hpl := by kernel_rfl) ?_
          conv => whnf
          refine ⟨⟨by decide, by decide⟩, fun _ _ => ?_⟩
          rw [show byteAt ⟨#[120]⟩ (Int.toNat 0) = 120 from rfl]
          conv => whnf
          repeat (first | ((with_reducible refine And.intro (And.intro ?_ ?_) ?_); (focus omega); (focus omega); conv => whnf) | ((with_reducible apply Go.Vc.ar_ld); (focus ((repeat (first | with_reducible assumption | with_reducible exact Go.Vc.hset_same _ _ _ | with_reducible refine (Go.Vc.hset_ne _ _ (by omega)).trans ?_)); done)); (focus exact rfl); (focus (first | omega | (simp; done) | (simp; omega))); intro xA hxA; conv => whnf))
          obtain ⟨x5, cx5, h47⟩ : ∃ x cx, A[120]? = some (.slice (some x) 0 cx) := by
            have h47 := hA 120 (by omega)
            rw [if_pos (by omega)] at h47
            exact h47
          obtain rfl : Value.slice (some x5) 0 cx5 = xA := by
            rw [List.getElem?_append_left (by rw [hAl]; decide)] at hxA
            exact Option.some.inj (h47.symm.trans hxA)
          have hcl : L.count 47 + L.count 120 ≤ L.length := by have := kept_count L; omega
          change N + (L.count 47) = _ at hN
          conv => whnf
          repeat (first | ((with_reducible apply Go.Vc.wr_i64); (focus exact And.intro (by omega) (by omega)); conv => whnf))
          refine round_end3 2 (N - L.count 120) true (by omega) ⟨rfl, rfl, ?_, rfl, rfl, rfl, rfl, trivial⟩ ⟨by omega, ?_, ?_, rfl, rfl⟩
          · show Value.int .i64 _ = Value.int .i64 _
            congr 1
            omega
          · show N - L.count 120 + (L.count 47 + L.count 120) = _
            omega
          · rw [eq_comm, decide_eq_true_iff]
            omega
        · conv => whnf
          repeat (first | ((with_reducible apply Go.Vc.wr_i64); (focus exact And.intro (by omega) (by omega)); conv => whnf))
          change N + (L.count 47) = _ at hN
          refine round_end3 2 N b (by omega) ⟨rfl, rfl, rfl, rfl, rfl, rfl, rfl, trivial⟩ ⟨by omega, ?_, hbb, rfl, rfl⟩
          show N + (L.count 47 + L.count 120) = _
          omega
    · obtain rfl : k = 2 := by omega
      have hN2 : N = (keptL L).length := by have := kept_count L; change N + (L.count 47 + L.count 120) = _ at hN; omega
      clear hN
      by_cases hlt : N < L.length
      · obtain rfl : b = true := by rw [hbb, decide_eq_true hlt]
        have hNle : N ≤ 1048576 := by omega
        conv => whnf
        repeat (first | ((with_reducible apply Go.Vc.mk_b); (focus exact And.intro (by omega) (by omega)); (focus exact rfl); (focus omega); intro rM csM hrM hcsM; (first | (replace hcsM := hcsM.trans (Go.Vc.zc (Value.int .i64) 0 _)) | (replace hcsM := hcsM.trans (Go.Vc.zc Go.Vc.bv 0 _)) | (replace hcsM := hcsM.trans (Go.Vc.zc Value.string ByteArray.empty _))); subst hcsM; conv => whnf))
        refine loop_intro2 (fun (i : Nat) (B : List UInt8) => [(0, .pointer (some ⟨q, 0, none⟩)), (1, .string s), (12, .slice (some ⟨rM, 0, none⟩) N N), (13, .int .i64 (kept L i : Nat)), (14, .int .i64 (i : Nat))])
          (fun i B h' t' => i ≤ L.length ∧ B.length = N ∧ h' rM = some (.cells (B.map bv).toArray 5 (0, 0)) ∧ B.take (kept L i) = keptL (L.take i) ∧ Vc.Sub g h' ∧ rM < t') (fun i _ => L.length - i) 0 (List.replicate N 0) ⟨rfl, rfl, rfl, rfl, rfl, trivial⟩ ⟨by omega, by simp, hset_same _ _ _, rfl, hd1.sub_new hrM _, by omega⟩ ?_
        rintro i B e3 g3 t3 hd3 ⟨hi, hBl, hB, hBt, hs3, ht3⟩
        have hq3 := hs3 _ _ hq1
        conv => whnf
        refine br (fun h5 => ?_) (fun h5 => ?_)
        · have hiL : i < L.length := by omega
          have hks := kept_step hiL
          have hkn := kept_succ hiL
          have hkm : kept L (i + 1) ≤ N := by
            have := kept_mono (l := L) (L.length - (i + 1)) (i + 1)
            rw [show i + 1 + (L.length - (i + 1)) = L.length by omega, kept_all] at this
            omega
          have hxb : (L[i]).toNat < 256 := UInt8.toNat_lt _
          have hbi : byteAt s ((i : Int)).toNat = (((L[i]).toNat : Nat) : Int) := hb i hiL
          by_cases hkb : keepB L[i] = true
          · have hcx : Cell g3 ⟨q, 0 + (((L[i]).toNat : Nat) : Int).toNat * 1, none⟩ nilS := by
              have := hA (L[i]).toNat hxb
              rw [if_neg (by have := keep_byte.1 hkb; omega)] at this
              refine ⟨_, _, _, hq3, rfl, ?_⟩
              rw [rc_at (by rw [hAl]; omega), Int.toNat_natCast, this]
            rw [if_pos hkb] at hks hkn
            conv => whnf
            repeat (first | ((with_reducible refine And.intro (And.intro ?_ ?_) ?_); (focus omega); (focus omega); conv => whnf) | (intro _ _; conv => whnf))
            rw [hbi]
            refine cell_i hcx ?_
            conv => whnf
            repeat (first | ((with_reducible apply Go.Vc.own_ix); (focus exact And.intro (by omega) (by omega)); conv => whnf) | ((with_reducible apply Go.Vc.ar_st); (focus ((repeat (first | with_reducible assumption | with_reducible exact Go.Vc.hset_same _ _ _ | with_reducible refine (Go.Vc.hset_ne _ _ (by omega)).trans ?_)); done)); (focus exact rfl); (focus exact rfl); (focus (first | omega | (simp; done) | (simp; omega))); (focus exact rfl); intro heqA; (conv => whnf); intro cA hcA; rw [heqA] at hcA; clear heqA; subst hcA; conv => whnf) | ((with_reducible apply Go.Vc.wr_i64); (focus exact And.intro (by omega) (by omega)); conv => whnf))
            refine round_end2 (i + 1) (B.set (kept L i) L[i]) (by omega) ⟨rfl, rfl, rfl, by rw [hkn]; rfl, rfl, trivial⟩ ⟨by omega, by rw [List.length_set, hBl], hset_same _ _ _, ?_, ?_, by omega⟩
            · rw [hkn, take_set_self (by omega), hBt, hks]
            · intro b o hb
              have := hd1 b o hb
              rw [hset_ne _ _ (by omega)]
              exact hs3 _ _ hb
          · obtain ⟨x9, cx9, h9⟩ : ∃ x cx, A[(L[i]).toNat]? = some (.slice (some x) 0 cx) := by
              have := hA (L[i]).toNat hxb
              rwa [if_pos (by have := mt keep_byte.2 hkb; omega)] at this
            have hcx : Cell g3 ⟨q, 0 + (((L[i]).toNat : Nat) : Int).toNat * 1, none⟩ (.slice (some x9) 0 cx9) := by
              refine ⟨_, _, _, hq3, rfl, ?_⟩
              rw [rc_at (by rw [hAl]; omega), Int.toNat_natCast, h9]
            rw [if_neg hkb] at hks hkn
            conv => whnf
            repeat (first | ((with_reducible refine And.intro (And.intro ?_ ?_) ?_); (focus omega); (focus omega); conv => whnf) | (intro _ _; conv => whnf))
            rw [hbi]
            refine cell_i hcx ?_
            conv => whnf
            refine Go.Vc.draw_intro [⟨0, false, true, false, 0⟩, ⟨1, false, false, false, 0⟩, ⟨2, false, false, false, 0⟩, ⟨3, false, false, false, 6⟩, ⟨4, false, false, false, 0⟩, ⟨5, false, false, false, 0⟩, ⟨6, false, false, false, 16⟩, ⟨7, false, false, false, 80⟩, ⟨8, false, false, false, 240⟩, ⟨9, false, false, false, 496⟩, ⟨10, true, false, true, 1022⟩, ⟨11, false, false, false, 2047⟩, ⟨12, false, false, false, 4095⟩] (hs := g3) (hsub := (Sub.refl g3)) (hm := by kernel_rfl) (hpl := by kernel_rfl) ?_
            conv => whnf
            conv => whnf
            repeat (first | ((with_reducible refine And.intro (And.intro ?_ ?_) ?_); (focus omega); (focus omega); conv => whnf) | ((with_reducible apply Go.Vc.ar_ld); (focus ((repeat (first | with_reducible assumption | with_reducible exact Go.Vc.hset_same _ _ _ | with_reducible refine (Go.Vc.hset_ne _ _ (by omega)).trans ?_)); done)); (focus exact rfl); (focus (first | omega | (simp; done) | (simp; omega))); intro xA hxA; conv => whnf) | (intro _ _; conv => whnf))
            obtain rfl : Value.slice (some x9) 0 cx9 = xA := by
              rw [List.getElem?_append_left (by rw [hAl]; exact hxb)] at hxA
              exact Option.some.inj (h9.symm.trans hxA)
            conv => whnf
            refine copy_none Tryz.underlying48 (inf := Tryz.types[5]) (by kernel_rfl) ?_
            conv => whnf
            repeat (first | ((with_reducible apply Go.Vc.wr_i64); (focus exact And.intro (by omega) (by omega)); conv => whnf) | ((with_reducible refine And.intro (Go.Vc.Sub.refl _) ?_); conv => whnf))
            refine round_end2 (i + 1) B (by omega) ⟨rfl, rfl, rfl, by rw [hkn]; rfl, rfl, trivial⟩ ⟨by omega, hBl, hB, ?_, hs3, by omega⟩
            rw [hkn, hks, List.append_nil]
            exact hBt
        · conv => whnf
          obtain rfl : i = L.length := by omega
          refine ⟨_, readB_arr hB hBl, ?_⟩
          conv => whnf
          refine ⟨?_, hs3, by omega⟩
          rw [← hL]
          congr 2
          rw [List.take_length, kept_all, ← hN2, ← hBl, List.take_length] at hBt
          rw [hBt]
      · obtain rfl : b = false := by rw [hbb, decide_eq_false hlt]
        conv => whnf
        refine ⟨?_, Vc.Sub.refl _, Nat.le_refl _⟩
        have := kept_count L
        rw [← hL, keptL_all (by omega), hL]
  · conv => whnf
    refine loop_intro3 (fun (i N : Nat) (b : Bool) => [(0, .pointer (some ⟨q, 0, none⟩)), (1, .string s), (5, .int .i64 (N : Nat)), (6, .bool b), (10, .int .i64 (i : Nat))])
      (fun i N b h' t' => i ≤ L.length ∧ N + (i - kept L i) = L.length ∧ b = decide (N < L.length) ∧ h' = h ∧ t' = t) (fun i _ _ => L.length - i) 0 s.size false ⟨rfl, rfl, rfl, rfl, rfl, trivial⟩ ⟨by omega, hLs.symm, by simp [hLs], rfl, rfl⟩ ?_
    rintro i N b e1 g t1 hd1 ⟨hi0, hN, hbb, rfl, rfl⟩
    have hkle := kept_le L i
    conv => whnf
    refine br (fun h2 => ?_) (fun h2 => ?_)
    · have hiL : i < L.length := by omega
      have hkn := kept_succ hiL
      have hxb : (L[i]).toNat < 256 := UInt8.toNat_lt _
      have hbi : byteAt s ((i : Int)).toNat = (((L[i]).toNat : Nat) : Int) := hb i hiL
      by_cases hkb : keepB L[i] = true
      · have hcx : Cell g ⟨q, 0 + (((L[i]).toNat : Nat) : Int).toNat * 1, none⟩ nilS := by
          have := hA (L[i]).toNat hxb
          rw [if_neg (by have := keep_byte.1 hkb; omega)] at this
          refine ⟨_, _, _, hq1, rfl, ?_⟩
          rw [rc_at (by rw [hAl]; omega), Int.toNat_natCast, this]
        rw [if_pos hkb] at hkn
        conv => whnf
        repeat (first | ((with_reducible refine And.intro (And.intro ?_ ?_) ?_); (focus omega); (focus omega); conv => whnf) | (intro _ _; conv => whnf))
        rw [hbi]
        refine cell_i hcx ?_
        conv => whnf
        repeat (first | ((with_reducible apply Go.Vc.wr_i64); (focus exact And.intro (by omega) (by omega)); conv => whnf))
        refine round_end3 (i + 1) N b (by omega) ⟨rfl, rfl, rfl, rfl, rfl, trivial⟩ ⟨by omega, by omega, hbb, rfl, rfl⟩
      · obtain ⟨x9, cx9, h9⟩ : ∃ x cx, A[(L[i]).toNat]? = some (.slice (some x) 0 cx) := by
          have := hA (L[i]).toNat hxb
          rwa [if_pos (by have := mt keep_byte.2 hkb; omega)] at this
        have hcx : Cell g ⟨q, 0 + (((L[i]).toNat : Nat) : Int).toNat * 1, none⟩ (.slice (some x9) 0 cx9) := by
          refine ⟨_, _, _, hq1, rfl, ?_⟩
          rw [rc_at (by rw [hAl]; omega), Int.toNat_natCast, h9]
        rw [if_neg hkb] at hkn
        conv => whnf
        repeat (first | ((with_reducible refine And.intro (And.intro ?_ ?_) ?_); (focus omega); (focus omega); conv => whnf) | (intro _ _; conv => whnf))
        rw [hbi]
        refine cell_i hcx ?_
        conv => whnf
        repeat (first | ((with_reducible refine And.intro (And.intro ?_ ?_) ?_); (focus omega); (focus omega); conv => whnf) | ((with_reducible apply Go.Vc.ar_ld); (focus ((repeat (first | with_reducible assumption | with_reducible exact Go.Vc.hset_same _ _ _ | with_reducible refine (Go.Vc.hset_ne _ _ (by omega)).trans ?_)); done)); (focus exact rfl); (focus (first | omega | (simp; done) | (simp; omega))); intro xA hxA; conv => whnf))
        obtain rfl : Value.slice (some x9) 0 cx9 = xA := by
          rw [List.getElem?_append_left (by rw [hAl]; exact hxb)] at hxA
          exact Option.some.inj (h9.symm.trans hxA)
        conv => whnf
        repeat (first | ((with_reducible apply Go.Vc.wr_i64); (focus exact And.intro (by omega) (by omega)); conv => whnf))
        refine round_end3 (i + 1) (N - 1) true (by omega) ⟨rfl, rfl, ?_, rfl, rfl, trivial⟩ ⟨by omega, by omega, ?_, rfl, rfl⟩
        · show Value.int .i64 _ = Value.int .i64 _
          congr 1
          omega
        · rw [eq_comm, decide_eq_true_iff]
          omega
    · obtain rfl : i = L.length := by omega
      have hN2 : N = (keptL L).length := by rw [kept_all] at hN hkle; omega
      by_cases hlt : N < L.length
      · obtain rfl : b = true := by rw [hbb, decide_eq_true hlt]
        have hNle : N ≤ 1048576 := by omega
        conv => whnf
        repeat (first | ((with_reducible apply Go.Vc.mk_b); (focus exact And.intro (by omega) (by omega)); (focus exact rfl); (focus omega); intro rM csM hrM hcsM; (first | (replace hcsM := hcsM.trans (Go.Vc.zc (Value.int .i64) 0 _)) | (replace hcsM := hcsM.trans (Go.Vc.zc Go.Vc.bv 0 _)) | (replace hcsM := hcsM.trans (Go.Vc.zc Value.string ByteArray.empty _))); subst hcsM; conv => whnf))
        refine loop_intro2 (fun (i : Nat) (B : List UInt8) => [(0, .pointer (some ⟨q, 0, none⟩)), (1, .string s), (12, .slice (some ⟨rM, 0, none⟩) N N), (13, .int .i64 (kept L i : Nat)), (14, .int .i64 (i : Nat))])
          (fun i B h' t' => i ≤ L.length ∧ B.length = N ∧ h' rM = some (.cells (B.map bv).toArray 5 (0, 0)) ∧ B.take (kept L i) = keptL (L.take i) ∧ Vc.Sub g h' ∧ rM < t') (fun i _ => L.length - i) 0 (List.replicate N 0) ⟨rfl, rfl, rfl, rfl, rfl, trivial⟩ ⟨by omega, by simp, hset_same _ _ _, rfl, hd1.sub_new hrM _, by omega⟩ ?_
        rintro i B e3 g3 t3 hd3 ⟨hi, hBl, hB, hBt, hs3, ht3⟩
        have hq3 := hs3 _ _ hq1
        conv => whnf
        refine br (fun h5 => ?_) (fun h5 => ?_)
        · have hiL : i < L.length := by omega
          have hks := kept_step hiL
          have hkn := kept_succ hiL
          have hkm : kept L (i + 1) ≤ N := by
            have := kept_mono (l := L) (L.length - (i + 1)) (i + 1)
            rw [show i + 1 + (L.length - (i + 1)) = L.length by omega, kept_all] at this
            omega
          have hxb : (L[i]).toNat < 256 := UInt8.toNat_lt _
          have hbi : byteAt s ((i : Int)).toNat = (((L[i]).toNat : Nat) : Int) := hb i hiL
          by_cases hkb : keepB L[i] = true
          · have hcx : Cell g3 ⟨q, 0 + (((L[i]).toNat : Nat) : Int).toNat * 1, none⟩ nilS := by
              have := hA (L[i]).toNat hxb
              rw [if_neg (by have := keep_byte.1 hkb; omega)] at this
              refine ⟨_, _, _, hq3, rfl, ?_⟩
              rw [rc_at (by rw [hAl]; omega), Int.toNat_natCast, this]
            rw [if_pos hkb] at hks hkn
            conv => whnf
            repeat (first | ((with_reducible refine And.intro (And.intro ?_ ?_) ?_); (focus omega); (focus omega); conv => whnf) | (intro _ _; conv => whnf))
            rw [hbi]
            refine cell_i hcx ?_
            conv => whnf
            repeat (first | ((with_reducible apply Go.Vc.own_ix); (focus exact And.intro (by omega) (by omega)); conv => whnf) | ((with_reducible apply Go.Vc.ar_st); (focus ((repeat (first | with_reducible assumption | with_reducible exact Go.Vc.hset_same _ _ _ | with_reducible refine (Go.Vc.hset_ne _ _ (by omega)).trans ?_)); done)); (focus exact rfl); (focus exact rfl); (focus (first | omega | (simp; done) | (simp; omega))); (focus exact rfl); intro heqA; (conv => whnf); intro cA hcA; rw [heqA] at hcA; clear heqA; subst hcA; conv => whnf) | ((with_reducible apply Go.Vc.wr_i64); (focus exact And.intro (by omega) (by omega)); conv => whnf))
            refine round_end2 (i + 1) (B.set (kept L i) L[i]) (by omega) ⟨rfl, rfl, rfl, by rw [hkn]; rfl, rfl, trivial⟩ ⟨by omega, by rw [List.length_set, hBl], hset_same _ _ _, ?_, ?_, by omega⟩
            · rw [hkn, take_set_self (by omega), hBt, hks]
            · intro b o hb
              have := hd1 b o hb
              rw [hset_ne _ _ (by omega)]
              exact hs3 _ _ hb
          · obtain ⟨x9, cx9, h9⟩ : ∃ x cx, A[(L[i]).toNat]? = some (.slice (some x) 0 cx) := by
              have := hA (L[i]).toNat hxb
              rwa [if_pos (by have := mt keep_byte.2 hkb; omega)] at this
            have hcx : Cell g3 ⟨q, 0 + (((L[i]).toNat : Nat) : Int).toNat * 1, none⟩ (.slice (some x9) 0 cx9) := by
              refine ⟨_, _, _, hq3, rfl, ?_⟩
              rw [rc_at (by rw [hAl]; omega), Int.toNat_natCast, h9]
            rw [if_neg hkb] at hks hkn
            conv => whnf
            repeat (first | ((with_reducible refine And.intro (And.intro ?_ ?_) ?_); (focus omega); (focus omega); conv => whnf) | (intro _ _; conv => whnf))
            rw [hbi]
            refine cell_i hcx ?_
            conv => whnf
            refine Go.Vc.draw_intro [⟨0, false, true, false, 0⟩, ⟨1, false, false, false, 0⟩, ⟨2, false, false, false, 0⟩, ⟨3, false, false, false, 6⟩, ⟨4, false, false, false, 0⟩, ⟨5, false, false, false, 0⟩, ⟨6, false, false, false, 16⟩, ⟨7, false, false, false, 80⟩, ⟨8, false, false, false, 240⟩, ⟨9, false, false, false, 496⟩, ⟨10, true, false, true, 1022⟩, ⟨11, false, false, false, 2047⟩, ⟨12, false, false, false, 4095⟩] (hs := g3) (hsub := (Sub.refl g3)) (hm := by kernel_rfl) (hpl := by kernel_rfl) ?_
            conv => whnf
            conv => whnf
            repeat (first | ((with_reducible refine And.intro (And.intro ?_ ?_) ?_); (focus omega); (focus omega); conv => whnf) | ((with_reducible apply Go.Vc.ar_ld); (focus ((repeat (first | with_reducible assumption | with_reducible exact Go.Vc.hset_same _ _ _ | with_reducible refine (Go.Vc.hset_ne _ _ (by omega)).trans ?_)); done)); (focus exact rfl); (focus (first | omega | (simp; done) | (simp; omega))); intro xA hxA; conv => whnf) | (intro _ _; conv => whnf))
            obtain rfl : Value.slice (some x9) 0 cx9 = xA := by
              rw [List.getElem?_append_left (by rw [hAl]; exact hxb)] at hxA
              exact Option.some.inj (h9.symm.trans hxA)
            conv => whnf
            refine copy_none Tryz.underlying48 (inf := Tryz.types[5]) (by kernel_rfl) ?_
            conv => whnf
            repeat (first | ((with_reducible apply Go.Vc.wr_i64); (focus exact And.intro (by omega) (by omega)); conv => whnf) | ((with_reducible refine And.intro (Go.Vc.Sub.refl _) ?_); conv => whnf))
            refine round_end2 (i + 1) B (by omega) ⟨rfl, rfl, rfl, by rw [hkn]; rfl, rfl, trivial⟩ ⟨by omega, hBl, hB, ?_, hs3, by omega⟩
            rw [hkn, hks, List.append_nil]
            exact hBt
        · conv => whnf
          obtain rfl : i = L.length := by omega
          refine ⟨_, readB_arr hB hBl, ?_⟩
          conv => whnf
          refine ⟨?_, hs3, by omega⟩
          rw [← hL]
          congr 2
          rw [List.take_length, kept_all, ← hN2, ← hBl, List.take_length] at hBt
          rw [hBt]
      · obtain rfl : b = false := by rw [hbb, decide_eq_false hlt]
        conv => whnf
        refine ⟨?_, Vc.Sub.refl _, Nat.le_refl _⟩
        have := kept_count L
        rw [← hL, keptL_all (by omega), hL]
end Go.Proofs.YtlkpgjicpjjlcaaGreatDoor
