import Derived.Test.YtlkpgjicpjjlcaaGreatDoorTileDo
/- A replacer is built. -/
set_option linter.unusedSimpArgs false
namespace Go.Proofs.YtlkpgjicpjjlcaaGreatDoor
open Go Go.Vc Go.Tile
set_option maxRecDepth 20000
set_option linter.unusedVariables false
def oldL : List ByteArray := [⟨#[120]⟩, ⟨#[]⟩, ⟨#[47]⟩, ⟨#[]⟩]
abbrev nilS : Value := .slice none 0 0
abbrev RC (A : List Value) (s : Value) : Array Value := ((A ++ [s]).map id).toArray
def A0 : List Value := List.replicate 256 nilS
theorem rep_info : ∃ inf z fields, Tryz.prog.info? 193 = some inf ∧ inf.zero = some z ∧ Tryz.prog.underlying 193 = some (.struct fields) ∧ fieldsKnown Tryz.prog fields.toList = true ∧
    (∀ (a : Option Addr) (n c : Nat), fillL (placeF Tryz.prog fields.toList) (cellsL z) [(1, .slice a n c)] = some (RC A0 (.slice a n c)).toList) := by
  refine ⟨_, _, _, rfl, rfl, Tryz.underlying193, by kernel_rfl, ?_⟩
  intro a n c; kernel_rfl
theorem rep_build {a : Option Addr} {n c : Nat} {K : Value → Prop} (hk : K (.agg (RC A0 (.slice a n c)))) : BuildS Tryz.prog 193 [(1, .slice a n c)] K := by
  obtain ⟨inf, z, fields, h1, h2, h3, h4, h5⟩ := rep_info
  exact build_i h1 h2 h3 h4 (h5 a n c) (by rw [Array.toArray_toList]; exact hk)
def RepObj (h : Heap) (q : Nat) : Prop := ∃ (A : List Value) (a2 : Option Addr) (c2 : Nat), h q = some (.cells (RC A (.slice a2 2 c2)) 193 (0, 0)) ∧ A.length = 256 ∧ (∀ j, j < 256 → if (j = 47 ∧ 1 ≤ 2) ∨ (j = 120 ∧ 2 ≤ 2) then ∃ x cx, A[j]? = some (.slice (some x) 0 cx) else A[j]? = some nilS)
  ∧ Sl h a2 2 Value.string ([⟨#[47]⟩, ⟨#[120]⟩] : List ByteArray) ∧ 2 ≤ c2
theorem rc_last {A : List Value} {s : Value} (h : A.length = 256) : (RC A s)[256]? = some s := by
  unfold RC
  simp [h]
theorem rc_size {A : List Value} {s : Value} (h : A.length = 256) : (RC A s).size = 257 := by
  unfold RC
  simp [h]
theorem rc_set {A : List Value} {s s' : Value} (h : A.length = 256) : (RC A s).setIfInBounds (0 + (255 + 1)) s' = RC A s' := by
  unfold RC
  apply Array.ext'
  simp [h]
theorem rc_setA {A : List Value} {s v : Value} {j : Nat} (hj : j < A.length) : (((A ++ [s]).set j v).map id).toArray = RC (A.set j v) s := by
  unfold RC
  rw [List.set_append_left _ _ hj]
theorem build_spec {h : Heap} {t r c : Nat} {a : Option Addr} {T : TypeId} (hr : h r = some (.cells #[.int .u32 0, .int .i32 1, .int .u32 0, .nilIface, .slice a 4 c] T (0, 0))) (hsl : Sl h a 4 Value.string oldL) (hc : 4 ≤ c) :
    CallSpec Tryz.prog 86 #[.pointer (some ⟨r, 0, none⟩)] h t (fun v h' t' => ∃ q, v = .iface 194 (.pointer (some ⟨q, 0, none⟩)) ∧ RepObj h' q ∧ t ≤ q ∧ q < t' ∧ Vc.Sub h h') := by
  refine Go.Vc.spec_of_vc (fn := Tryz.f86) Tryz.func86 rfl (by kernel_rfl) (by kernel_rfl) (Nat.le_of_ble_eq_true rfl) ?_
  intro hd
  conv => whnf
  repeat (first | ((with_reducible apply Go.Vc.ld_i); (focus ((repeat (first | with_reducible assumption | with_reducible exact Go.Vc.hset_same _ _ _ | with_reducible refine (Go.Vc.hset_ne _ _ (by omega)).trans ?_)); done)); (focus exact rfl); conv => whnf) | (refine Go.Vc.br_f ?_ ?_; (focus omega); conv => whnf))
  refine loop_intro (fun (k : Nat) => [(3, .slice a 4 c), (4, .bool (decide (k = 0))), (5, .int .i64 (2 * k : Nat))])
    (fun k h' t' => k ≤ 2 ∧ h' = h ∧ t' = t) (fun k => 2 - k) 0 ⟨rfl, rfl, rfl, trivial⟩ ⟨by omega, rfl, rfl⟩ ?_
  rintro k e1 g t1 hd1 ⟨hk, rfl, rfl⟩
  conv => whnf
  refine br (fun h1 => ?_) (fun h1 => ?_)
  · rcases (show k = 0 ∨ k = 1 by omega) with rfl | rfl
    · conv => whnf
      repeat (first | ((with_reducible apply Go.Vc.sl_ix); (focus with_reducible assumption); (focus exact And.intro (by omega) (by omega)); intro xI bI offI hxI hcI; conv => whnf) | ((with_reducible apply Go.Vc.cell_i); (focus assumption); conv => whnf))
      obtain rfl : (⟨#[120]⟩ : ByteArray) = xI := Option.some.inj hxI
      refine br_f (by decide) ?_
      conv => whnf
      repeat (first | ((with_reducible apply Go.Vc.sl_ix); (focus with_reducible assumption); (focus exact And.intro (by omega) (by omega)); intro xI bI offI hxI hcI; conv => whnf) | ((with_reducible apply Go.Vc.cell_i); (focus assumption); conv => whnf) | ((with_reducible apply Go.Vc.wr_i64); (focus exact And.intro (by omega) (by omega)); conv => whnf))
      obtain rfl : (⟨#[]⟩ : ByteArray) = xI := Option.some.inj hxI
      refine br_t (by decide) ?_
      conv => whnf
      repeat (first | ((with_reducible apply Go.Vc.wr_i64); (focus exact And.intro (by omega) (by omega)); conv => whnf))
      exact round_end 1 (by omega) ⟨rfl, rfl, rfl, trivial⟩ ⟨by omega, rfl, rfl⟩
    · conv => whnf
      repeat (first | ((with_reducible apply Go.Vc.sl_ix); (focus with_reducible assumption); (focus exact And.intro (by omega) (by omega)); intro xI bI offI hxI hcI; conv => whnf) | ((with_reducible apply Go.Vc.cell_i); (focus assumption); conv => whnf))
      obtain rfl : (⟨#[47]⟩ : ByteArray) = xI := Option.some.inj hxI
      refine br_f (by decide) ?_
      conv => whnf
      repeat (first | ((with_reducible apply Go.Vc.sl_ix); (focus with_reducible assumption); (focus exact And.intro (by omega) (by omega)); intro xI bI offI hxI hcI; conv => whnf) | ((with_reducible apply Go.Vc.cell_i); (focus assumption); conv => whnf) | ((with_reducible apply Go.Vc.wr_i64); (focus exact And.intro (by omega) (by omega)); conv => whnf))
      obtain rfl : (⟨#[]⟩ : ByteArray) = xI := Option.some.inj hxI
      refine br_t (by decide) ?_
      conv => whnf
      repeat (first | ((with_reducible apply Go.Vc.wr_i64); (focus exact And.intro (by omega) (by omega)); conv => whnf))
      exact round_end 2 (by omega) ⟨rfl, rfl, rfl, trivial⟩ ⟨by omega, rfl, rfl⟩
  · obtain rfl : k = 2 := by omega
    conv => whnf
    repeat (first | ((with_reducible apply Go.Vc.mk_b); (focus exact And.intro (by omega) (by omega)); (focus exact rfl); (focus omega); intro rM csM hrM hcsM; (first | (replace hcsM := hcsM.trans (Go.Vc.zc (Value.int .i64) 0 _)) | (replace hcsM := hcsM.trans (Go.Vc.zc Go.Vc.bv 0 _)) | (replace hcsM := hcsM.trans (Go.Vc.zc Value.string ByteArray.empty _))); subst hcsM; conv => whnf) | ((with_reducible apply Go.Vc.quo_i64); (focus exact And.intro (by omega) (And.intro (by omega) (by omega))); conv => whnf) | ((with_reducible refine And.intro ?_ (And.intro ?_ ?_)); (focus exact rfl); (focus omega); conv => whnf))
    refine rep_build ?_
    conv => whnf
    repeat (first | ((with_reducible apply Go.Vc.strow); (focus ((repeat (first | with_reducible assumption | with_reducible exact Go.Vc.hset_same _ _ _ | with_reducible refine (Go.Vc.hset_ne _ _ (by omega)).trans ?_)); done)); (focus exact rfl); (focus exact rfl); (focus exact rfl); rintro _ rfl; conv => whnf) | (intro _ _; conv => whnf) | ((with_reducible apply Go.Vc.wr_i64); (focus exact And.intro (by omega) (by omega)); conv => whnf))
    rename_i q hq
    have hsM := hd1.sub_new hrM (.cells (List.map Value.string (List.replicate ((4 : Int) / 2).toNat ByteArray.empty)).toArray 9 (0, 0))
    have hdM := hd1.set rM (.cells (List.map Value.string (List.replicate ((4 : Int) / 2).toNat ByteArray.empty)).toArray 9 (0, 0)) (rM + 1) (by omega) (by omega)
    refine loop_intro4 (fun (k : Nat) (A : List Value) (a2 : Option Addr) (c2 : Nat) => [(3, .slice a 4 c), (11, .pointer (some ⟨q, 0, none⟩)), (12, .int .i64 (2 - 2 * (k : Int)))])
      (fun k A a2 c2 h' t' => k ≤ 2 ∧ h' q = some (.cells (RC A (.slice a2 k c2)) 193 (0, 0)) ∧ A.length = 256 ∧ (∀ j, j < 256 → if (j = 47 ∧ 1 ≤ k) ∨ (j = 120 ∧ 2 ≤ k) then ∃ x cx, A[j]? = some (.slice (some x) 0 cx) else A[j]? = some nilS)
        ∧ Vc.Own h' 9 a2 k c2 Value.string (([⟨#[47]⟩, ⟨#[120]⟩] : List ByteArray).take k) ∧ (∀ b, owner a2 = some b → t1 ≤ b ∧ b ≠ q) ∧ Vc.Sub g h' ∧ q < t') (fun k _ _ _ => 2 - k) 0 A0 (some ⟨rM, 0, none⟩) 2 ⟨rfl, rfl, rfl, trivial⟩
      ⟨by omega, (hset_same _ _ _).trans (by kernel_rfl), rfl, ?_, ?_, ?_, ?_, ?_⟩ ?_
    · intro j hj
      rw [if_neg (by omega)]
      show (List.replicate 256 nilS)[j]? = some nilS
      rw [List.getElem?_replicate, if_pos hj]
    · exact ⟨rfl, .inr ⟨rM, 0, _, (0, 0), rfl, by omega, by rw [hset_ne _ _ (by omega), hset_ne _ _ (by omega)]; exact hset_same _ _ _, by decide, fun i _ => by simp [fz], fun i hi => absurd hi (by simp)⟩⟩
    · intro b hb
      obtain rfl : rM = b := Option.some.inj hb
      omega
    · intro b o hb
      have := hd1 b o hb
      rw [hset_ne _ _ (by omega), hset_ne _ _ (by omega), hset_ne _ _ (by omega)]
      exact hb
    · show q < q + 1
      omega
    rintro k A a2 c2 e2 g2 t2 hd2 ⟨hk2, hq2, hAl, hA, ho2, hw2, hs2, ht2⟩
    conv => whnf
    refine br (fun h2 => ?_) (fun h2 => ?_)
    · rcases (show k = 0 ∨ k = 1 by omega) with rfl | rfl
      · have hsg := hsl.sub hs2
        conv => whnf
        repeat (first | ((with_reducible apply Go.Vc.sl_ix); (focus with_reducible assumption); (focus exact And.intro (by omega) (by omega)); intro xI bI offI hxI hcI; conv => whnf) | ((with_reducible apply Go.Vc.cell_i); (focus assumption); conv => whnf))
        obtain rfl : (⟨#[47]⟩ : ByteArray) = xI := Option.some.inj hxI
        refine ⟨⟨by decide, by decide⟩, fun _ _ => ?_⟩
        rw [show byteAt ⟨#[47]⟩ (Int.toNat 0) = 47 from rfl]
        conv => whnf
        repeat (first | ((with_reducible apply Go.Vc.sl_ix); (focus with_reducible assumption); (focus exact And.intro (by omega) (by omega)); intro xI bI offI hxI hcI; conv => whnf) | ((with_reducible refine And.intro (And.intro ?_ ?_) ?_); (focus omega); (focus omega); conv => whnf) | ((with_reducible apply Go.Vc.ar_ld); (focus ((repeat (first | with_reducible assumption | with_reducible exact Go.Vc.hset_same _ _ _ | with_reducible refine (Go.Vc.hset_ne _ _ (by omega)).trans ?_)); done)); (focus exact rfl); (focus (first | omega | (simp; done) | (simp; omega))); intro xA hxA; conv => whnf) | ((with_reducible apply Go.Vc.cell_i); (focus assumption); conv => whnf) | ((with_reducible apply Go.Vc.wr_i64); (focus exact And.intro (by omega) (by omega)); conv => whnf))
        obtain rfl : (⟨#[]⟩ : ByteArray) = xI := Option.some.inj hxI
        obtain rfl : nilS = xA := by
          have h47 := hA 47 (by omega)
          rw [if_neg (by omega)] at h47
          rw [List.getElem?_append_left (by rw [hAl]; decide)] at hxA
          exact Option.some.inj (h47.symm.trans hxA)
        have hc256 : Cell g2 ⟨q, 256, none⟩ (.slice a2 0 c2) := ⟨_, _, _, hq2, rfl, by rw [rc_last hAl]⟩
        conv => whnf
        repeat (first | ((with_reducible apply Go.Vc.cell_i); (focus assumption); conv => whnf) | (intro _ _; conv => whnf))
        rename_i r5 hr5
        refine Go.Vc.readB1 (by (repeat (first | with_reducible assumption | with_reducible exact Go.Vc.hset_same _ _ _ | with_reducible refine (Go.Vc.hset_ne _ _ (by omega)).trans ?_)); done) (by omega) ?_
        rintro _ rfl
        conv => whnf
        repeat (first | (intro _ _; conv => whnf))
        rename_i r6 hr6
        have hs5 := hd2.sub_new hr5 (.cells #[.int .u8 47] 5 (0, 0))
        have hd5 := hd2.set r5 (.cells #[.int .u8 47] 5 (0, 0)) (r5 + 1) (by omega) (by omega)
        have hs6 := hd5.sub_new hr6 (.cells #[.string ⟨#[47]⟩] 9 (0, 0))
        have hd6 := hd5.set r6 (.cells #[.string ⟨#[47]⟩] 9 (0, 0)) (r6 + 1) (by omega) (by omega)
        have hs7 := hs5.trans hs6
        refine app_strs (m := 1) (l2 := [⟨#[47]⟩]) (ho2.fr (fun b o _ hb => hs7 b o hb)) (ar_sl (l := ([⟨#[47]⟩] : List ByteArray)) (hset_same _ _ _) rfl) (by omega) hd6 ?_
        intro a7 c7 h7 t7 ho7 ht7 hd7 hk7 how7
        have hq7 : h7 q = some (.cells (RC A (.slice a2 0 c2)) 193 (0, 0)) := by
          rw [hk7 q (by omega) (fun e => (hw2 q e).2 rfl)]
          exact hs7 _ _ hq2
        have hw7 : ∀ b, owner a7 = some b → t1 ≤ b ∧ b ≠ q := by
          intro b hb
          rcases how7 with e | ⟨b', e, hb'⟩
          · exact hw2 b (by rw [← e]; exact hb)
          · rw [e] at hb
            obtain rfl : b' = b := Option.some.inj hb
            omega
        conv => whnf
        refine Go.Vc.st_s (hq7) rfl (by rw [rc_size hAl]; decide) (rc_set hAl) ?_
        intro heS
        conv => whnf
        intro cS hcS
        rw [heS] at hcS
        clear heS
        subst hcS
        conv => whnf
        intro r8 c8 hr8 hc8
        conv => whnf
        repeat (first | ((with_reducible refine And.intro (And.intro ?_ ?_) ?_); (focus omega); (focus omega); conv => whnf) | ((with_reducible apply Go.Vc.ar_st); (focus ((repeat (first | with_reducible assumption | with_reducible exact Go.Vc.hset_same _ _ _ | with_reducible refine (Go.Vc.hset_ne _ _ (by omega)).trans ?_)); done)); (focus exact rfl); (focus exact rfl); (focus (first | omega | (simp; done) | (simp; omega))); (focus exact rfl); intro heqA; (conv => whnf); intro cA hcA; rw [heqA] at hcA; clear heqA; subst hcA; conv => whnf) | ((with_reducible apply Go.Vc.wr_i64); (focus exact And.intro (by omega) (by omega)); conv => whnf))
        refine round_end4 1 (A.set 47 (.slice (some ⟨r8, 0, none⟩) 0 c8)) a7 c7 (by omega) ⟨rfl, rfl, rfl, trivial⟩ ⟨by omega, (hset_same _ _ _).trans (by rw [← rc_setA (by rw [hAl]; decide)]; rfl), by rw [List.length_set, hAl], ?_, ?_, hw7, ?_, by omega⟩
        · intro j hj
          rw [List.getElem?_set]
          by_cases hj1 : 47 = j
          · rw [if_pos hj1, if_pos (by omega), if_pos (by omega)]
            exact ⟨_, _, rfl⟩
          · rw [if_neg hj1]
            have := hA j hj
            by_cases hj2 : (j = 47 ∧ 1 ≤ 0) ∨ (j = 120 ∧ 2 ≤ 0)
            · rw [if_pos hj2] at this
              rw [if_pos (by omega)]
              exact this
            · rw [if_neg hj2] at this
              rw [if_neg (by omega)]
              exact this
        · refine ho7.fr (fun b o hb ho => ?_)
          have h1 := hw7 b hb
          have h2 := hd7 b o ho
          rw [hset_ne _ _ h1.2, hset_ne _ _ (by omega), hset_ne _ _ h1.2]
          exact ho
        · intro b o hb
          have h1 := hd1 b o hb
          rw [hset_ne _ _ (by omega), hset_ne _ _ (by omega), hset_ne _ _ (by omega), hk7 b (by omega) (fun e => by have := (hw2 b e).1; omega)]
          exact hs7 _ _ (hs2 _ _ hb)
      · have hsg := hsl.sub hs2
        conv => whnf
        repeat (first | ((with_reducible apply Go.Vc.sl_ix); (focus with_reducible assumption); (focus exact And.intro (by omega) (by omega)); intro xI bI offI hxI hcI; conv => whnf) | ((with_reducible apply Go.Vc.cell_i); (focus assumption); conv => whnf))
        obtain rfl : (⟨#[120]⟩ : ByteArray) = xI := Option.some.inj hxI
        refine ⟨⟨by decide, by decide⟩, fun _ _ => ?_⟩
        rw [show byteAt ⟨#[120]⟩ (Int.toNat 0) = 120 from rfl]
        conv => whnf
        repeat (first | ((with_reducible apply Go.Vc.sl_ix); (focus with_reducible assumption); (focus exact And.intro (by omega) (by omega)); intro xI bI offI hxI hcI; conv => whnf) | ((with_reducible refine And.intro (And.intro ?_ ?_) ?_); (focus omega); (focus omega); conv => whnf) | ((with_reducible apply Go.Vc.ar_ld); (focus ((repeat (first | with_reducible assumption | with_reducible exact Go.Vc.hset_same _ _ _ | with_reducible refine (Go.Vc.hset_ne _ _ (by omega)).trans ?_)); done)); (focus exact rfl); (focus (first | omega | (simp; done) | (simp; omega))); intro xA hxA; conv => whnf) | ((with_reducible apply Go.Vc.cell_i); (focus assumption); conv => whnf) | ((with_reducible apply Go.Vc.wr_i64); (focus exact And.intro (by omega) (by omega)); conv => whnf))
        obtain rfl : (⟨#[]⟩ : ByteArray) = xI := Option.some.inj hxI
        obtain rfl : nilS = xA := by
          have h47 := hA 120 (by omega)
          rw [if_neg (by omega)] at h47
          rw [List.getElem?_append_left (by rw [hAl]; decide)] at hxA
          exact Option.some.inj (h47.symm.trans hxA)
        have hc256 : Cell g2 ⟨q, 256, none⟩ (.slice a2 1 c2) := ⟨_, _, _, hq2, rfl, by rw [rc_last hAl]⟩
        conv => whnf
        repeat (first | ((with_reducible apply Go.Vc.cell_i); (focus assumption); conv => whnf) | (intro _ _; conv => whnf))
        rename_i r5 hr5
        refine Go.Vc.readB1 (by (repeat (first | with_reducible assumption | with_reducible exact Go.Vc.hset_same _ _ _ | with_reducible refine (Go.Vc.hset_ne _ _ (by omega)).trans ?_)); done) (by omega) ?_
        rintro _ rfl
        conv => whnf
        repeat (first | (intro _ _; conv => whnf))
        rename_i r6 hr6
        have hs5 := hd2.sub_new hr5 (.cells #[.int .u8 120] 5 (0, 0))
        have hd5 := hd2.set r5 (.cells #[.int .u8 120] 5 (0, 0)) (r5 + 1) (by omega) (by omega)
        have hs6 := hd5.sub_new hr6 (.cells #[.string ⟨#[120]⟩] 9 (0, 0))
        have hd6 := hd5.set r6 (.cells #[.string ⟨#[120]⟩] 9 (0, 0)) (r6 + 1) (by omega) (by omega)
        have hs7 := hs5.trans hs6
        refine app_strs (m := 1) (l2 := [⟨#[120]⟩]) (ho2.fr (fun b o _ hb => hs7 b o hb)) (ar_sl (l := ([⟨#[120]⟩] : List ByteArray)) (hset_same _ _ _) rfl) (by omega) hd6 ?_
        intro a7 c7 h7 t7 ho7 ht7 hd7 hk7 how7
        have hq7 : h7 q = some (.cells (RC A (.slice a2 1 c2)) 193 (0, 0)) := by
          rw [hk7 q (by omega) (fun e => (hw2 q e).2 rfl)]
          exact hs7 _ _ hq2
        have hw7 : ∀ b, owner a7 = some b → t1 ≤ b ∧ b ≠ q := by
          intro b hb
          rcases how7 with e | ⟨b', e, hb'⟩
          · exact hw2 b (by rw [← e]; exact hb)
          · rw [e] at hb
            obtain rfl : b' = b := Option.some.inj hb
            omega
        conv => whnf
        refine Go.Vc.st_s (hq7) rfl (by rw [rc_size hAl]; decide) (rc_set hAl) ?_
        intro heS
        conv => whnf
        intro cS hcS
        rw [heS] at hcS
        clear heS
        subst hcS
        conv => whnf
        intro r8 c8 hr8 hc8
        conv => whnf
        repeat (first | ((with_reducible refine And.intro (And.intro ?_ ?_) ?_); (focus omega); (focus omega); conv => whnf) | ((with_reducible apply Go.Vc.ar_st); (focus ((repeat (first | with_reducible assumption | with_reducible exact Go.Vc.hset_same _ _ _ | with_reducible refine (Go.Vc.hset_ne _ _ (by omega)).trans ?_)); done)); (focus exact rfl); (focus exact rfl); (focus (first | omega | (simp; done) | (simp; omega))); (focus exact rfl); intro heqA; (conv => whnf); intro cA hcA; rw [heqA] at hcA; clear heqA; subst hcA; conv => whnf) | ((with_reducible apply Go.Vc.wr_i64); (focus exact And.intro (by omega) (by omega)); conv => whnf))
        refine round_end4 2 (A.set 120 (.slice (some ⟨r8, 0, none⟩) 0 c8)) a7 c7 (by omega) ⟨rfl, rfl, rfl, trivial⟩ ⟨by omega, (hset_same _ _ _).trans (by rw [← rc_setA (by rw [hAl]; decide)]; rfl), by rw [List.length_set, hAl], ?_, ?_, hw7, ?_, by omega⟩
        · intro j hj
          rw [List.getElem?_set]
          by_cases hj1 : 120 = j
          · rw [if_pos hj1, if_pos (by omega), if_pos (by omega)]
            exact ⟨_, _, rfl⟩
          · rw [if_neg hj1]
            have := hA j hj
            by_cases hj2 : (j = 47 ∧ 1 ≤ 1) ∨ (j = 120 ∧ 2 ≤ 1)
            · rw [if_pos hj2] at this
              rw [if_pos (by omega)]
              exact this
            · rw [if_neg hj2] at this
              rw [if_neg (by omega)]
              exact this
        · refine ho7.fr (fun b o hb ho => ?_)
          have h1 := hw7 b hb
          have h2 := hd7 b o ho
          rw [hset_ne _ _ h1.2, hset_ne _ _ (by omega), hset_ne _ _ h1.2]
          exact ho
        · intro b o hb
          have h1 := hd1 b o hb
          rw [hset_ne _ _ (by omega), hset_ne _ _ (by omega), hset_ne _ _ (by omega), hk7 b (by omega) (fun e => by have := (hw2 b e).1; omega)]
          exact hs7 _ _ (hs2 _ _ hb)
    · obtain rfl : k = 2 := by omega
      conv => whnf
      refine ⟨q, rfl, ⟨A, a2, c2, hq2, hAl, hA, ho2.sl, ?_⟩, by omega, by omega, hs2⟩
      rcases ho2.2 with ⟨_, h0, _⟩ | ⟨_, _, _, _, _, h0, _⟩
      · cases h0
      · exact h0
end Go.Proofs.YtlkpgjicpjjlcaaGreatDoor
