import Derived.Test.YtikpfffhcjlcjaaProg
import Derived.Test.YtikpfffhcjlcjaaVcB
import Derived.Test.YtikpfffhcjlcjaaHuffPlain
set_option linter.unusedSimpArgs false
namespace Go.Proofs.Ytikpfffhcjlcjaa
open Go Go.Vc Go.Huf
set_option maxRecDepth 10000
set_option linter.unusedVariables false
theorem shl_one {k : Int} (h0 : 0 ≤ k) (h1 : k ≤ 15) : shlV .i64 1 (15 - k) = 2 ^ (15 - k).toNat := by
  have : k = 0 ∨ k = 1 ∨ k = 2 ∨ k = 3 ∨ k = 4 ∨ k = 5 ∨ k = 6 ∨ k = 7 ∨ k = 8 ∨ k = 9 ∨ k = 10 ∨ k = 11 ∨ k = 12 ∨ k = 13 ∨ k = 14 ∨ k = 15 := by omega
  rcases this with rfl|rfl|rfl|rfl|rfl|rfl|rfl|rfl|rfl|rfl|rfl|rfl|rfl|rfl|rfl|rfl <;> decide
theorem shl_w {k : Int} (h0 : 0 < k) (h1 : k ≤ 15) : shlV .i64 1 (15 - k) = w k := by
  rw [shl_one (by omega) h1]; unfold w; rw [if_pos h0]
theorem room_spec {h : Heap} {t : Nat} {a : Option Addr} {n c : Nat} {l : List Int} (s : Sl h a n (Value.int .i64) l) (hn : n ≤ 1048576) :
    CallSpec Try.prog 96 #[.slice a n c] h t (fun v h' t' => v = .tuple #[.int .i64 (if err l = 0 then wsum l else 0), .int .i64 (err l)] ∧ h = h' ∧ t = t') := by
  have hl := s.1
  refine Go.Vc.spec_of_vc (fn := Try.f96) Try.func96 rfl (by kernel_rfl) (by kernel_rfl) (Nat.le_of_ble_eq_true rfl) ?_
  intro hd
  conv => whnf
  refine br (fun hb => ?_) (fun hb => ?_)
  · conv => whnf
    have e : err l = 1 := by unfold err; rw [if_pos (by omega)]
    rw [e]; exact ⟨rfl, rfl, rfl⟩
  · conv => whnf
    refine loop_intro2 (fun (i : Nat) (m : Int) => [(4, .int .i64 m), (10, .slice a n c), (11, .int .i64 (n : Nat)), (12, .int .i64 (i : Nat))])
      (fun i m h' t' => h = h' ∧ t = t' ∧ i ≤ n ∧ (l.take i).all good = true ∧ m = wsum (l.take i)) (fun i _ => n - i) 0 0 ⟨rfl, rfl, rfl, rfl, trivial⟩ ⟨rfl, rfl, by omega, rfl, rfl⟩ ?_
    rintro i m g _ _ _ ⟨rfl, rfl, hi, hg, rfl⟩
    have hr := wsum_range _ hg
    simp only [List.length_take] at hr
    conv => whnf
    refine br (fun hb1 => ?_) (fun hb1 => ?_)
    · have hlt : i < n := by omega
      conv => whnf
      repeat (first | ((with_reducible apply Go.Vc.sl_ix); (focus with_reducible assumption); (focus exact And.intro (by omega) (by omega)); intro xI bI offI hxI hcI; conv => whnf) | ((with_reducible apply Go.Vc.cell_i); (focus assumption); conv => whnf))
      obtain ⟨x, rfl⟩ : ∃ x, x = xI := ⟨xI, rfl⟩
      have hx : l[i]? = some x := hxI
      have hbad : good x = false → err l = 1 := by
        intro hgx
        unfold err
        rw [if_neg (by omega), if_pos]
        rw [List.all_eq_false]
        exact ⟨x, List.mem_of_getElem? hx, by simp [hgx]⟩
      refine br (fun hb2 => ?_) (fun hb2 => ?_)
      · conv => whnf
        rw [hbad (by simp [good]; omega)]; exact ⟨rfl, rfl, rfl⟩
      · conv => whnf
        refine br (fun hb3 => ?_) (fun hb3 => ?_)
        · conv => whnf
          rw [hbad (by simp [good]; omega)]; exact ⟨rfl, rfl, rfl⟩
        · have hgx : good x = true := good_iff.2 (by omega)
          have hw := w_range hgx
          have ht := all_take good hx
          have hs := wsum_take hx
          rw [hg, hgx] at ht
          conv => whnf
          refine br (fun hb4 => ?_) (fun hb4 => ?_)
          · conv => whnf
            repeat (first | ((with_reducible apply Go.Vc.wr_i64); (focus exact And.intro (by omega) (by omega)); conv => whnf) | ((with_reducible apply Go.Vc.and_leI); (focus omega); conv => whnf))
            refine ⟨w x, (shl_w (by omega) (by omega)).symm, ?_⟩
            conv => whnf
            repeat (first | ((with_reducible apply Go.Vc.wr_i64); (focus exact And.intro (by omega) (by omega)); conv => whnf))
            refine round_end2 (i + 1) _ (by omega) ⟨rfl, rfl, rfl, rfl, trivial⟩ ⟨rfl, rfl, by omega, ht, ?_⟩
            rw [hs]
          · conv => whnf
            repeat (first | ((with_reducible apply Go.Vc.wr_i64); (focus exact And.intro (by omega) (by omega)); conv => whnf))
            have e : w x = 0 := by unfold w; rw [if_neg (by omega)]
            refine round_end2 (i + 1) _ (by omega) ⟨rfl, rfl, rfl, rfl, trivial⟩ ⟨rfl, rfl, by omega, ht, by rw [hs, e]; omega⟩
    · conv => whnf
      have hin : i = n := by omega
      subst hin
      rw [List.take_of_length_le (by omega)] at hg hr ⊢
      have e : err l = if wsum l > 32768 then 2 else 0 := by
        unfold err; rw [if_neg (by omega), if_neg (by rw [hg]; simp)]
      refine br (fun hb2 => ?_) (fun hb2 => ?_)
      · conv => whnf
        rw [e, if_pos hb2]; exact ⟨rfl, rfl, rfl⟩
      · conv => whnf
        rw [e, if_neg hb2]; exact ⟨rfl, rfl, rfl⟩
def tab (f : Nat → Int) : List Int := (List.range 17).map f
theorem tab_get (f : Nat → Int) {i : Nat} {x : Int} (h : (tab f)[i]? = some x) : i < 17 ∧ x = f i := by
  unfold tab at h
  rw [List.getElem?_map] at h
  by_cases hi : i < 17
  · rw [List.getElem?_range hi] at h
    exact ⟨hi, by simpa using h.symm⟩
  · rw [List.getElem?_eq_none (by simp; omega)] at h; cases h
theorem tab_set (f g : Nat → Int) (j : Nat) (x : Int) (hx : x = g j) (hg : ∀ i, i < 17 → i ≠ j → g i = f i) : (tab f).set j x = tab g := by
  unfold tab
  apply List.ext_getElem
  · simp
  · intro i h1 h2
    simp at h1
    rw [List.getElem_set]
    split
    · rename_i e; subst e; simp [hx]
    · rename_i e; simp; exact (hg i h1 (fun e2 => e e2.symm)).symm
@[simp] theorem tab_length (f : Nat → Int) : (tab f).length = 17 := by simp [tab]
def outTo (l : List Int) (i : Nat) : List Int := (List.range l.length).map fun j => if j < i then codeAt l j else 0
@[simp] theorem outTo_length (l : List Int) (i : Nat) : (outTo l i).length = l.length := by simp [outTo]
theorem outTo_zero (l : List Int) : outTo l 0 = List.replicate l.length 0 := by
  apply List.ext_getElem
  · simp [outTo]
  · intro i h1 h2; simp [outTo]
theorem outTo_all (l : List Int) {i : Nat} (h : l.length ≤ i) : outTo l i = codes l := by
  apply List.ext_getElem
  · simp [outTo, codes]
  · intro j h1 h2
    simp [outTo] at h1
    simp [outTo, codes]; omega
theorem outTo_set {l : List Int} {i : Nat} {x : Int} (hi : i < l.length) (hx : x = codeAt l i) : (outTo l i).set i x = outTo l (i + 1) := by
  apply List.ext_getElem
  · simp [outTo]
  · intro j h1 h2
    simp [outTo] at h1
    rw [List.getElem_set]
    split
    · rename_i e; subst e; simp [outTo, hx]
    · rename_i e; simp only [outTo, List.getElem_map, List.getElem_range]
      by_cases hj : j < i
      · rw [if_pos hj, if_pos (by omega)]
      · rw [if_neg hj, if_neg (by omega)]
theorem outTo_same {l : List Int} {i : Nat} (h0 : codeAt l i = 0) : outTo l i = outTo l (i + 1) := by
  apply List.ext_getElem
  · simp [outTo]
  · intro j h1 h2
    simp only [outTo, List.getElem_map, List.getElem_range]
    by_cases hj : j = i
    · subst hj; rw [if_neg (by omega), if_pos (by omega), h0]
    · by_cases hj2 : j < i
      · rw [if_pos hj2, if_pos (by omega)]
      · rw [if_neg hj2, if_neg (by omega)]
theorem codes_spec {h : Heap} {t : Nat} {a : Option Addr} {n c : Nat} {l : List Int} (s : Sl h a n (Value.int .i64) l) (hn : n ≤ 1048576) :
    CallSpec Try.prog 73 #[.slice a n c] h t (fun v h' t' => ∃ a' n', v = .tuple #[.slice a' n' n', .int .i64 (err l)] ∧ Sub h h' ∧ Own h' 3 a' n' n' (Value.int .i64) (if err l = 0 then codes l else []) ∧ ∀ b, owner a' = some b → t ≤ b) := by
  have hl := s.1
  refine Go.Vc.spec_of_vc (fn := Try.f73) Try.func73 rfl (by kernel_rfl) (by kernel_rfl) (Nat.le_of_ble_eq_true rfl) ?_
  intro hd
  conv => whnf
  refine (room_spec s hn).mono ?_
  rintro _ _ _ _ _ ⟨rfl, rfl, rfl⟩
  conv => whnf
  refine br (fun hb => ?_) (fun hb => ?_)
  · conv => whnf
    rw [if_neg hb]
    exact ⟨none, 0, rfl, Sub.refl _, Own.nil _ _ _, fun b h => by cases h⟩
  · have he : err l = 0 := by simpa using hb
    have hg : l.all good = true := by
      unfold err at he
      split at he
      · cases he
      · split at he
        · cases he
        · rename_i h; simpa using h
    have hn3 : n ≤ 300 := by
      unfold err at he
      split at he
      · cases he
      · omega
    have hr300 := fun s (h : s ≤ 16) => nx_le l (by omega) h
    have hcr := fun i s => cnt_range (l.take i) s
    conv => whnf
    repeat (first | (intro _ _; conv => whnf))
    rename_i r1 hr1 r2 hr2
    have z1 : (Value.agg #[Value.int IntKind.i64 0, Value.int IntKind.i64 0, Value.int IntKind.i64 0, Value.int IntKind.i64 0, Value.int IntKind.i64 0, Value.int IntKind.i64 0, Value.int IntKind.i64 0, Value.int IntKind.i64 0, Value.int IntKind.i64 0, Value.int IntKind.i64 0, Value.int IntKind.i64 0, Value.int IntKind.i64 0, Value.int IntKind.i64 0, Value.int IntKind.i64 0, Value.int IntKind.i64 0, Value.int IntKind.i64 0, Value.int IntKind.i64 0]).cells = ((tab (fun _ => 0)).map (Value.int .i64)).toArray := rfl
    have hs2 := (hd.sub_new hr1 (.cells ((tab (fun _ => 0)).map (Value.int .i64)).toArray 144)).trans ((hd.set r1 (.cells ((tab (fun _ => 0)).map (Value.int .i64)).toArray 144) (r1 + 1) (by omega) (by omega)).sub_new hr2 (.cells ((tab (fun _ => 0)).map (Value.int .i64)).toArray 144))
    refine loop_intro (fun (i : Nat) => [(0, .slice a n c), (6, .pointer (some ⟨r1, 0, none⟩)), (7, .pointer (some ⟨r2, 0, none⟩)), (22, .slice a n c), (23, .int .i64 (n : Nat)), (24, .int .i64 (i : Nat))])
      (fun i h' t' => r2 < t' ∧ i ≤ n ∧ Sub h h' ∧ h' r1 = some (.cells ((tab (cnt (l.take i))).map (Value.int .i64)).toArray 144 (0, 0)) ∧ h' r2 = some (.cells ((tab (fun _ => 0)).map (Value.int .i64)).toArray 144 (0, 0)))
      (fun i => n - i) 0 ⟨rfl, rfl, rfl, rfl, rfl, rfl, trivial⟩ ⟨by omega, by omega, hs2, by rw [hset_ne _ _ (by omega), hset_same, z1]; rfl, by rw [hset_same, z1]⟩ ?_
    rintro i g h3 t3 hd3 ⟨ht3, hi, hs3, hh1, hh2⟩
    have s3 := s.sub hs3
    conv => whnf
    refine br (fun hb1 => ?_) (fun hb1 => ?_)
    · have hlt : i < n := by omega
      conv => whnf
      repeat (first | ((with_reducible apply Go.Vc.sl_ix); (focus with_reducible assumption); (focus exact And.intro (by omega) (by omega)); intro xI bI offI hxI hcI; conv => whnf) | ((with_reducible apply Go.Vc.cell_i); (focus assumption); conv => whnf))
      obtain ⟨x, rfl⟩ : ∃ x, x = xI := ⟨xI, rfl⟩
      have hx : l[i]? = some x := hxI
      clear hxI
      have hgx := good_iff.1 (List.all_eq_true.1 hg x (List.mem_of_getElem? hx))
      have hcx := hcr i x.toNat
      simp only [List.length_take] at hcx
      conv => whnf
      repeat (first | ((with_reducible refine And.intro (And.intro ?_ ?_) ?_); (focus omega); (focus omega); conv => whnf) | ((with_reducible apply Go.Vc.ar_ld); (focus ((repeat (first | with_reducible assumption | with_reducible exact Go.Vc.hset_same _ _ _ | with_reducible refine (Go.Vc.hset_ne _ _ (by omega)).trans ?_)); done)); (focus exact rfl); (focus (first | omega | (simp; done) | (simp; omega))); intro xA hxA; conv => whnf))
      obtain ⟨hx17, rfl⟩ := tab_get _ hxA
      conv => whnf
      repeat (first | ((with_reducible refine And.intro (And.intro ?_ ?_) ?_); (focus omega); (focus omega); conv => whnf) | ((with_reducible apply Go.Vc.ar_st); (focus ((repeat (first | with_reducible assumption | with_reducible exact Go.Vc.hset_same _ _ _ | with_reducible refine (Go.Vc.hset_ne _ _ (by omega)).trans ?_)); done)); (focus exact rfl); (focus exact rfl); (focus (first | omega | (simp; done) | (simp; omega))); (focus exact rfl); intro heqA; (conv => whnf); intro cA hcA; rw [heqA] at hcA; clear heqA; subst hcA; conv => whnf) | ((with_reducible apply Go.Vc.wr_i64); (focus exact And.intro (by omega) (by omega)); conv => whnf))
      have hset : (tab (cnt (l.take i))).set x.toNat (cnt (l.take i) x.toNat + 1) = tab (cnt (l.take (i + 1))) := by
        refine tab_set _ _ _ _ ?_ ?_
        · rw [cnt_take hx, if_pos (by omega)]
        · intro j hj hne
          rw [cnt_take hx, if_neg (by omega)]; omega
      rw [hset]
      refine round_end (i + 1) (by omega) ⟨rfl, rfl, rfl, rfl, rfl, rfl, trivial⟩ ⟨by omega, by omega, ?_, hset_same _ _ _, by rw [hset_ne _ _ (by omega)]; exact hh2⟩
      intro k o ho
      have := hd k o ho
      rw [hset_ne _ _ (by omega)]; exact hs3 k o ho
    · have hin : i = n := by omega
      subst hin
      rw [List.take_of_length_le (by omega)] at hh1
      conv => whnf
      repeat (first | ((with_reducible refine And.intro (And.intro ?_ ?_) ?_); (focus omega); (focus omega); conv => whnf) | ((with_reducible apply Go.Vc.ar_st); (focus ((repeat (first | with_reducible assumption | with_reducible exact Go.Vc.hset_same _ _ _ | with_reducible refine (Go.Vc.hset_ne _ _ (by omega)).trans ?_)); done)); (focus exact rfl); (focus exact rfl); (focus (first | omega | (simp; done) | (simp; omega))); (focus exact rfl); intro heqA; (conv => whnf); intro cA hcA; rw [heqA] at hcA; clear heqA; subst hcA; conv => whnf))
      have hset0 : (tab (cnt l)).set (Int.toNat 0) 0 = tab (fun s => if s = 0 then 0 else cnt l s) := tab_set _ _ _ _ rfl (fun j hj hne => by have hne : ¬ j = 0 := hne; rw [if_neg hne])
      rw [hset0]
      refine loop_intro (fun (k : Nat) => [(0, .slice a i c), (6, .pointer (some ⟨r1, 0, none⟩)), (7, .pointer (some ⟨r2, 0, none⟩)), (10, .int .i64 (k : Nat))])
        (fun k h' t' => r2 < t' ∧ 1 ≤ k ∧ k ≤ 16 ∧ Sub h h' ∧ h' r1 = some (.cells ((tab (fun s => if s = 0 then 0 else cnt l s)).map (Value.int .i64)).toArray 144 (0, 0)) ∧ h' r2 = some (.cells ((tab (fun s => if s ≤ k then nx l s else 0)).map (Value.int .i64)).toArray 144 (0, 0)))
        (fun k => 16 - k) 1 ⟨rfl, rfl, rfl, rfl, trivial⟩ ⟨by omega, by omega, by omega, ?_, hset_same _ _ _, ?_⟩ ?_
      · intro k o ho
        have := hd k o ho
        rw [hset_ne _ _ (by omega)]; exact hs3 k o ho
      · rw [hset_ne _ _ (by omega), hh2]
        have : tab (fun _ => 0) = tab (fun s => if s ≤ 1 then nx l s else 0) := by
          unfold tab
          refine List.map_congr_left (fun s _ => ?_)
          match s with
          | 0 => rfl
          | 1 => rfl
          | s + 2 => rw [if_neg (by omega)]
        rw [this]
      rintro k g4 h4 t4 hd4 ⟨ht4, hk1, hk16, hs4, hh1, hh2⟩
      conv => whnf
      refine br (fun hb1 => ?_) (fun hb1 => ?_)
      · have hlt : k < 16 := by omega
        have hnk := hr300 k (by omega)
        have hnk1 := hr300 (k + 1) (by omega)
        have hck := cnt_range l k
        conv => whnf
        refine Go.Vc.draw_intro [⟨0, false, false, false, 0⟩, ⟨1, false, false, false, 1⟩, ⟨2, false, false, false, 0⟩, ⟨3, false, false, false, 4⟩, ⟨4, false, false, false, 12⟩, ⟨5, false, false, false, 0⟩, ⟨6, false, false, false, 32⟩, ⟨7, false, false, false, 96⟩, ⟨8, false, false, false, 252⟩, ⟨9, false, false, false, 508⟩, ⟨10, false, false, false, 1023⟩, ⟨11, true, false, false, 2047⟩] (hs := (hdel h4 r2)) (hsub := (sub_del h4 r2)) (hm := by kernel_rfl) (hpl := by kernel_rfl) ?_
        conv => whnf
        conv => whnf
        repeat (first | ((with_reducible refine And.intro (And.intro ?_ ?_) ?_); (focus omega); (focus omega); conv => whnf) | ((with_reducible apply Go.Vc.ar_ld); (focus ((repeat (first | with_reducible assumption | with_reducible exact Go.Vc.hset_same _ _ _ | with_reducible refine (Go.Vc.hset_ne _ _ (by omega)).trans ?_)); done)); (focus exact rfl); (focus (first | omega | (simp; done) | (simp; omega))); intro xA hxA; conv => whnf) | ((with_reducible apply Go.Vc.wr_i64); (focus exact And.intro (by omega) (by omega)); conv => whnf))
        obtain ⟨x2, rfl⟩ : ∃ x2, x2 = xA := ⟨xA, rfl⟩
        have hx2 := hxA
        clear hxA
        obtain ⟨x1, rfl⟩ : ∃ x1, x1 = xA := ⟨xA, rfl⟩
        have hx1 := hxA
        clear hxA
        have e1 : x1 = nx l k := by
          have := (tab_get _ hx1).2
          rw [this]; exact if_pos (by show k ≤ k; omega)
        have e2 : x2 = cnt l k := by
          have := (tab_get _ hx2).2
          rw [this]; exact if_neg (by show ¬ k = 0; omega)
        subst e1; subst e2
        have hset : (tab (fun s => if s ≤ k then nx l s else 0)).set ((k : Int) + 1).toNat ((nx l k + cnt l k) * 2) = tab (fun s => if s ≤ k + 1 then nx l s else 0) := by
          refine tab_set _ _ _ _ ?_ ?_
          · rw [if_pos (by omega)]
            obtain ⟨j, rfl⟩ : ∃ j, k = j + 1 := ⟨k - 1, by omega⟩
            rfl
          · intro j hj hne
            by_cases hjk : j ≤ k
            · rw [if_pos hjk, if_pos (by omega)]
            · rw [if_neg hjk, if_neg (by omega)]
        conv => whnf
        repeat (first | ((with_reducible refine And.intro (And.intro ?_ ?_) ?_); (focus omega); (focus omega); conv => whnf) | ((with_reducible apply Go.Vc.ar_st); (focus ((repeat (first | with_reducible assumption | with_reducible exact Go.Vc.hset_same _ _ _ | with_reducible refine (Go.Vc.hset_ne _ _ (by omega)).trans ?_)); done)); (focus exact rfl); (focus exact rfl); (focus (first | omega | (simp; done) | (simp; omega))); (focus exact rfl); intro heqA; (conv => whnf); intro cA hcA; rw [heqA] at hcA; clear heqA; subst hcA; conv => whnf) | ((with_reducible apply Go.Vc.wr_i64); (focus exact And.intro (by omega) (by omega)); conv => whnf) | ((with_reducible apply Go.Vc.shl1_i64); (focus exact And.intro (by omega) (by omega)); conv => whnf) | ((with_reducible apply Go.Vc.and_leI); (focus omega); conv => whnf))
        rw [hset]
        refine round_end (k + 1) (by omega) ⟨rfl, rfl, rfl, rfl, trivial⟩ ⟨by omega, by omega, by omega, ?_, by rw [hset_ne _ _ (by omega)]; exact hh1, hset_same _ _ _⟩
        intro k o ho
        have := hd k o ho
        rw [hset_ne _ _ (by omega)]; exact hs4 k o ho
      · have hk : k = 16 := by omega
        subst hk
        have hnext : tab (fun s => if s ≤ 16 then nx l s else 0) = tab (nx l) := by
          unfold tab
          refine List.map_congr_left (fun s hs => ?_)
          have := List.mem_range.1 hs
          rw [if_pos (by omega)]
        rw [hnext] at hh2
        conv => whnf
        repeat (first | ((with_reducible apply Go.Vc.mk_b); (focus exact And.intro (by omega) (by omega)); (focus exact rfl); (focus omega); intro rM csM hrM hcsM; (first | (replace hcsM := hcsM.trans (Go.Vc.zc (Value.int .i64) 0 _)) | (replace hcsM := hcsM.trans (Go.Vc.zc Go.Vc.bv 0 _)) | (replace hcsM := hcsM.trans (Go.Vc.zc Value.string ByteArray.empty _))); subst hcsM; conv => whnf))
        obtain ⟨r3, rfl⟩ : ∃ r3, r3 = rM := ⟨rM, rfl⟩
        refine loop_intro (fun (j : Nat) => [(0, .slice a i c), (7, .pointer (some ⟨r2, 0, none⟩)), (11, .slice (some ⟨r3, 0, none⟩) i i), (53, .slice a i c), (54, .int .i64 (i : Nat)), (55, .int .i64 (j : Nat))])
          (fun j h' t' => r3 < t' ∧ j ≤ i ∧ Sub h h' ∧ h' r2 = some (.cells ((tab (fun s => if s = 0 then 0 else nx l s + cnt (l.take j) s)).map (Value.int .i64)).toArray 144 (0, 0)) ∧ h' r3 = some (.cells ((outTo l j).map (Value.int .i64)).toArray 3 (0, 0)))
          (fun j => i - j) 0 ⟨rfl, rfl, rfl, rfl, rfl, rfl, trivial⟩ ⟨by omega, by omega, ?_, ?_, ?_⟩ ?_
        · intro k o ho
          have := hd k o ho
          rw [hset_ne _ _ (by omega)]; exact hs4 k o ho
        · rw [hset_ne _ _ (by omega), hh2]
          have : tab (nx l) = tab (fun s => if s = 0 then 0 else nx l s + cnt (l.take 0) s) := by
            unfold tab
            refine List.map_congr_left (fun s _ => ?_)
            by_cases h0 : s = 0
            · subst h0; rfl
            · rw [if_neg h0]; simp [cnt]
          rw [this]
        · rw [hset_same, outTo_zero, hl]; rfl
        clear hh1 hh2
        rintro j g5 h5 t5 hd5 ⟨ht5, hj, hs5, hh2, hh3⟩
        have s5 := s.sub hs5
        conv => whnf
        refine br (fun hb2 => ?_) (fun hb2 => ?_)
        · have hlt : j < i := by omega
          conv => whnf
          repeat (first | ((with_reducible apply Go.Vc.sl_ix); (focus with_reducible assumption); (focus exact And.intro (by omega) (by omega)); intro xI bI offI hxI hcI; conv => whnf) | ((with_reducible apply Go.Vc.cell_i); (focus assumption); conv => whnf))
          obtain ⟨x, rfl⟩ : ∃ x, x = xI := ⟨xI, rfl⟩
          have hx : l[j]? = some x := hxI
          clear hxI
          have hgx := good_iff.1 (List.all_eq_true.1 hg x (List.mem_of_getElem? hx))
          have hxg : l.getD j 0 = x := by simp [List.getD_eq_getElem?_getD, hx]
          refine br (fun hb3 => ?_) (fun hb3 => ?_)
          · have hca : codeAt l j = nx l x.toNat + cnt (l.take j) x.toNat := by
              simp only [codeAt, hxg]; rw [if_pos hb3]
            have hcr2 := hcr j x.toNat
            have hnr := hr300 x.toNat (by omega)
            simp only [List.length_take] at hcr2
            have e1 : (if x.toNat = 0 then 0 else nx l x.toNat + cnt (l.take j) x.toNat) = nx l x.toNat + cnt (l.take j) x.toNat := if_neg (by omega)
            have hset : (tab (fun s => if s = 0 then 0 else nx l s + cnt (l.take j) s)).set x.toNat (nx l x.toNat + cnt (l.take j) x.toNat + 1) = tab (fun s => if s = 0 then 0 else nx l s + cnt (l.take (j + 1)) s) := by
              refine tab_set _ _ _ _ ?_ ?_
              · rw [if_neg (by omega), cnt_take hx, if_pos (by omega)]; omega
              · intro k hk hne
                by_cases h0 : k = 0
                · rw [if_pos h0, if_pos h0]
                · rw [if_neg h0, if_neg h0, cnt_take hx, if_neg (by omega)]; omega
            conv => whnf
            repeat (first | ((with_reducible apply Go.Vc.own_ix); (focus exact And.intro (by omega) (by omega)); conv => whnf) | ((with_reducible refine And.intro (And.intro ?_ ?_) ?_); (focus omega); (focus omega); conv => whnf) | ((with_reducible apply Go.Vc.ar_ld); (focus ((repeat (first | with_reducible assumption | with_reducible exact Go.Vc.hset_same _ _ _ | with_reducible refine (Go.Vc.hset_ne _ _ (by omega)).trans ?_)); done)); (focus exact rfl); (focus (first | omega | (simp; done) | (simp; omega))); intro xA hxA; conv => whnf) | ((with_reducible apply Go.Vc.ar_st); (focus ((repeat (first | with_reducible assumption | with_reducible exact Go.Vc.hset_same _ _ _ | with_reducible refine (Go.Vc.hset_ne _ _ (by omega)).trans ?_)); done)); (focus exact rfl); (focus exact rfl); (focus (first | omega | (simp; done) | (simp; omega))); (focus exact rfl); intro heqA; (conv => whnf); intro cA hcA; rw [heqA] at hcA; clear heqA; subst hcA; conv => whnf))
            obtain ⟨x2, rfl⟩ : ∃ x2, x2 = xA := ⟨xA, rfl⟩
            have hx2 := (tab_get _ hxA).2.trans e1
            clear hxA
            obtain ⟨x1, rfl⟩ : ∃ x1, x1 = xA := ⟨xA, rfl⟩
            have hx1 := (tab_get _ hxA).2.trans e1
            clear hxA
            subst hx2; subst hx1
            conv => whnf
            repeat (first | ((with_reducible refine And.intro (And.intro ?_ ?_) ?_); (focus omega); (focus omega); conv => whnf) | ((with_reducible apply Go.Vc.ar_st); (focus ((repeat (first | with_reducible assumption | with_reducible exact Go.Vc.hset_same _ _ _ | with_reducible refine (Go.Vc.hset_ne _ _ (by omega)).trans ?_)); done)); (focus exact rfl); (focus exact rfl); (focus (first | omega | (simp; done) | (simp; omega))); (focus exact rfl); intro heqA; (conv => whnf); intro cA hcA; rw [heqA] at hcA; clear heqA; subst hcA; conv => whnf) | ((with_reducible apply Go.Vc.wr_i64); (focus exact And.intro (by omega) (by omega)); conv => whnf))
            rw [hset, show (outTo l j).set ((j : Int)).toNat (nx l x.toNat + cnt (l.take j) x.toNat) = outTo l (j + 1) from outTo_set (by omega) hca.symm]
            refine round_end (j + 1) (by omega) ⟨rfl, rfl, rfl, rfl, rfl, rfl, trivial⟩ ⟨by omega, by omega, ?_, hset_same _ _ _, by rw [hset_ne _ _ (by omega), hset_same]⟩
            intro k o ho
            have := hd k o ho
            rw [hset_ne _ _ (by omega), hset_ne _ _ (by omega)]; exact hs5 k o ho
          · have hca : codeAt l j = 0 := by
              simp only [codeAt, hxg]; rw [if_neg hb3]
            conv => whnf
            repeat (first | ((with_reducible apply Go.Vc.wr_i64); (focus exact And.intro (by omega) (by omega)); conv => whnf))
            refine round_end (j + 1) (by omega) ⟨rfl, rfl, rfl, rfl, rfl, rfl, trivial⟩ ⟨by omega, by omega, hs5, ?_, by rw [← outTo_same hca]; exact hh3⟩
            rw [hh2]
            have : tab (fun s => if s = 0 then 0 else nx l s + cnt (l.take j) s) = tab (fun s => if s = 0 then 0 else nx l s + cnt (l.take (j + 1)) s) := by
              unfold tab
              refine List.map_congr_left (fun s _ => ?_)
              by_cases h0 : s = 0
              · rw [if_pos h0, if_pos h0]
              · rw [if_neg h0, if_neg h0, cnt_take hx, if_neg (by omega)]; omega
            rw [this]
        · conv => whnf
          rw [outTo_all l (by omega)] at hh3
          rw [if_pos he, he]
          exact ⟨some ⟨r3, 0, none⟩, i, rfl, hs5, ar_own hh3 (by rw [codes_length, hl]), fun b hb => by simp [owner] at hb; omega⟩
def outS (l : List Int) (s i : Nat) : List Int := (List.range l.length).map fun j => if 0 < l.getD j 0 ∧ (l.getD j 0 < s ∨ l.getD j 0 = s ∧ j < i) then codeAt l j else 0
@[simp] theorem outS_length (l : List Int) (s i : Nat) : (outS l s i).length = l.length := by simp [outS]
end Go.Proofs.Ytikpfffhcjlcjaa
