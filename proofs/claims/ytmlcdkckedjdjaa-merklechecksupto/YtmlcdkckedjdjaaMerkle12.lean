/- The reference's long, lead, many, both, Included, Grown; the law's turned. -/
import Derived.Test.YtmlcdkckedjdjaaMerkle11
namespace Go.Mk
open Go Go.Vc
theorem many_ge {n m : Nat} {w : Bool} (h : n ≤ m) : many n m w = if w then 0 else 1 := by rw [many, dif_pos h]
theorem many_lo {n m : Nat} {w : Bool} (h : m < n) (h2 : 2 ≤ n) (hk : m ≤ sp n) : many n m w = 1 + many (sp n) m w := by rw [many, dif_neg (by omega), dif_neg (by omega), if_pos hk]
theorem many_hi {n m : Nat} {w : Bool} (h : m < n) (h2 : 2 ≤ n) (hk : ¬ m ≤ sp n) : many n m w = 1 + many (n - sp n) (m - sp n) false := by rw [many, dif_neg (by omega), dif_neg (by omega), if_neg hk]
theorem many_le : ∀ (n m : Nat) (w : Bool), 1 ≤ m → m ≤ n → many n m w ≤ n := by
  intro n
  induction n using Nat.strongRecOn with
  | ind n ih =>
    intro m w hm hmn
    by_cases h : n ≤ m
    · rw [many_ge h]; split <;> omega
    · have h1 := sp_lt (n := n) (by omega)
      have h2 := sp_pos n
      by_cases hk : m ≤ sp n
      · rw [many_lo (by omega) (by omega) hk]
        have := ih (sp n) h1 m w hm hk
        omega
      · rw [many_hi (by omega) (by omega) hk]
        have := ih (n - sp n) (by omega) (m - sp n) false (by omega) (by omega)
        omega
section
variable (nd : ByteArray → ByteArray → ByteArray) (em : ByteArray)
theorem both_ge {old : ByteArray} {n m : Nat} {w : Bool} {p : List ByteArray} (h : n ≤ m) : both nd em old n m w p = if w then (old, old) else (p.headD em, p.headD em) := by rw [both, dif_pos h]
theorem both_lo {old : ByteArray} {n m : Nat} {w : Bool} {p : List ByteArray} (h : m < n) (h2 : 2 ≤ n) (hk : m ≤ sp n) : both nd em old n m w p = ((both nd em old (sp n) m w p.dropLast).1, nd (both nd em old (sp n) m w p.dropLast).2 (p.getLastD em)) := by
  rw [both, dif_neg (by omega), dif_neg (by omega), if_pos hk]
theorem both_hi {old : ByteArray} {n m : Nat} {w : Bool} {p : List ByteArray} (h : m < n) (h2 : 2 ≤ n) (hk : ¬ m ≤ sp n) : both nd em old n m w p = (nd (p.getLastD em) (both nd em old (n - sp n) (m - sp n) false p.dropLast).1, nd (p.getLastD em) (both nd em old (n - sp n) (m - sp n) false p.dropLast).2) := by
  rw [both, dif_neg (by omega), dif_neg (by omega), if_neg hk]
end
theorem up_last (nd : ByteArray → ByteArray → ByteArray) (ts : List Bool) (t : Bool) (ps : List ByteArray) (p x : ByteArray) (h : ts.length = ps.length) : up nd (ts ++ [t]) (ps ++ [p]) x = if t then nd p (up nd ts ps x) else nd (up nd ts ps x) p := by
  rw [up_app nd ts [t] ps [p] x h]; rfl
theorem up_last_f (nd : ByteArray → ByteArray → ByteArray) (ts : List Bool) (ps : List ByteArray) (p x : ByteArray) (h : ts.length = ps.length) : up nd (ts ++ [false]) (ps ++ [p]) x = nd (up nd ts ps x) p := up_last nd ts false ps p x h
theorem up_last_t (nd : ByteArray → ByteArray → ByteArray) (ts : List Bool) (ps : List ByteArray) (p x : ByteArray) (h : ts.length = ps.length) : up nd (ts ++ [true]) (ps ++ [p]) x = nd p (up nd ts ps x) := up_last nd ts true ps p x h
theorem last_split {P : List ByteArray} {k : Nat} (h : P.length = k + 1) (em : ByteArray) : ∃ Q p, P = Q ++ [p] ∧ Q.length = k ∧ P.take k = Q ∧ P[k]? = some p ∧ P.dropLast = Q ∧ P.getLastD em = p := by
  rcases List.eq_nil_or_concat P with rfl | ⟨Q, p, rfl⟩
  · simp at h
  · have hq : Q.length = k := by simpa using h
    subst hq
    exact ⟨Q, p, List.concat_eq_append, rfl, by simp, by simp, by simp, by simp⟩
end Go.Mk
namespace Go.Proofs.Ytmlcdkckedjdjaa
open Go Go.Vc Go.Sha Go.Mk
set_option maxRecDepth 10000
set_option linter.unusedVariables false

theorem long_spec : ∀ (n i : Nat) (hn : n ≤ 65536) (hi : i < n) (h : Heap) (t : Nat),
    CallSpec Try.prog 38 #[.int .i64 (n : Nat), .int .i64 (i : Nat)] h t (fun v h' t' => v = .int .i64 (((way n i).length : Nat) : Int) ∧ h = h' ∧ t = t') := by
  intro n
  induction n using Nat.strongRecOn with
  | ind n ih =>
    intro i hn hi h t
    refine Go.Vc.spec_of_vc (fn := Try.f38) Try.func38 rfl (by kernel_rfl) (by kernel_rfl) (Nat.le_of_ble_eq_true rfl) ?_
    intro hd
    conv => whnf
    refine br (fun hb1 => ?_) (fun hb1 => ?_)
    · conv => whnf
      exact ⟨by rw [way_one (by omega)]; rfl, rfl, rfl⟩
    · conv => whnf
      refine (refsplit_spec n (by omega) (by omega) _ _).mono ?_
      rintro _ _ _ _ _ ⟨rfl, rfl, rfl⟩
      have hp := sp_pos n
      have hlt := sp_lt (n := n) (by omega)
      have e1 := way_lt (n := n) (i := i) (by omega)
      have e2 := way_ge (n := n) (i := i) (by omega)
      generalize hk : sp n = k at *
      conv => whnf
      refine br (fun hb2 => ?_) (fun hb2 => ?_)
      · have hl := way_le 16 k i (by omega)
        conv => whnf
        refine (ih k (by omega) i (by omega) (by omega) _ _).mono ?_
        rintro _ _ _ _ _ ⟨rfl, rfl, rfl⟩
        conv => whnf
        repeat (first | ((with_reducible apply Go.Vc.wr_i64); (focus exact And.intro (by omega) (by omega)); conv => whnf))
        refine ⟨?_, rfl, rfl⟩
        rw [e1 (by omega), List.length_cons]
        show Value.int .i64 _ = Value.int .i64 _
        congr 1; omega
      · have hl := way_le 16 (n - k) (i - k) (by omega)
        conv => whnf
        repeat (first | ((with_reducible apply Go.Vc.wr_i64); (focus exact And.intro (by omega) (by omega)); conv => whnf))
        rw [show ((n : Int) - (k : Int)) = ((n - k : Nat) : Int) by omega, show ((i : Int) - (k : Int)) = ((i - k : Nat) : Int) by omega]
        refine (ih (n - k) (by omega) (i - k) (by omega) (by omega) _ _).mono ?_
        rintro _ _ _ _ _ ⟨rfl, rfl, rfl⟩
        conv => whnf
        repeat (first | ((with_reducible apply Go.Vc.wr_i64); (focus exact And.intro (by omega) (by omega)); conv => whnf))
        refine ⟨?_, rfl, rfl⟩
        rw [e2 (by omega), List.length_cons]
        show Value.int .i64 _ = Value.int .i64 _
        congr 1; omega

theorem lead_spec : ∀ (n i : Nat) (hash : ByteArray) {h : Heap} {t : Nat} {a : Option Addr} {m c : Nat} {P : List ByteArray} (hn : n ≤ 65536) (hi : i < n) (hh : hash.size ≤ 274877906944) (s : Sl h a m Value.string P) (hmc : m ≤ c) (hm : m = (way n i).length) (hx : ∀ x ∈ P, x.size ≤ 274877906944),
    CallSpec Try.prog 39 #[.int .i64 (n : Nat), .int .i64 (i : Nat), .string hash, .slice a m c] h t (fun v h' t' => v = .string (up ndB (way n i).reverse P hash) ∧ (up ndB (way n i).reverse P hash).size ≤ 274877906944 ∧ Sub h h') := by
  intro n
  induction n using Nat.strongRecOn with
  | ind n ih =>
    intro i hash h t a m c P hn hi hh s hmc hm hx
    have hPl := s.1
    refine Go.Vc.spec_of_vc (fn := Try.f39) Try.func39 rfl (by kernel_rfl) (by kernel_rfl) (Nat.le_of_ble_eq_true rfl) ?_
    intro hd
    conv => whnf
    refine br (fun hb1 => ?_) (fun hb1 => ?_)
    · rw [way_one (by omega)]
      conv => whnf
      exact ⟨rfl, hh, Sub.refl _⟩
    · have hp := sp_pos n
      have hlt := sp_lt (n := n) (by omega)
      have e1 := way_lt (n := n) (i := i) (by omega)
      have e2 := way_ge (n := n) (i := i) (by omega)
      have hwl := way_le 17 n i (by omega)
      conv => whnf
      refine (refsplit_spec n (by omega) (by omega) _ _).mono ?_
      rintro _ _ _ _ _ ⟨rfl, rfl, rfl⟩
      generalize hk : sp n = k at *
      conv => whnf
      repeat (first | ((with_reducible apply Go.Vc.wr_i64); (focus exact And.intro (by omega) (by omega)); conv => whnf))
      refine br (fun hb2 => ?_) (fun hb2 => ?_)
      · rw [e1 (by omega)] at hm ⊢
        rw [List.length_cons] at hm
        obtain ⟨Q, p, hPQ, hQ, hT, hG, _, _⟩ := last_split (k := (way k i).length) (by omega : P.length = _) ByteArray.empty
        rw [List.reverse_cons, hPQ, up_last_f ndB _ _ _ _ (by rw [List.length_reverse, hQ])]
        have s6 : Sl h a (m - 1) Value.string Q := by rw [← hT, show (way k i).length = m - 1 by omega]; exact s.take (by omega)
        have hpx := hx p (List.mem_of_getElem? hG)
        have hmi : ((m : Int) - 1) = ((m - 1 : Nat) : Int) := by omega
        conv => whnf
        rw [hmi]
        refine Go.Vc.draw_intro [⟨0, false, false, false, 0⟩, ⟨1, false, false, false, 0⟩, ⟨2, false, false, false, 0⟩, ⟨3, false, false, false, 0⟩, ⟨4, false, false, false, 0⟩, ⟨5, false, false, false, 24⟩, ⟨7, false, true, false, 0⟩, ⟨8, false, true, false, 0⟩, ⟨9, false, true, false, 384⟩, ⟨10, false, true, false, 896⟩, ⟨6, true, false, true, 63⟩, ⟨11, true, false, false, 2047⟩, ⟨12, false, false, false, 4095⟩] (hs := h) (hsub := (Sub.refl _)) (hm := by kernel_rfl) (hpl := by kernel_rfl) ?_
        conv => whnf
        conv => whnf
        repeat (first | ((with_reducible apply Go.Vc.sl_ix); (focus with_reducible assumption); (focus exact And.intro (by omega) (by omega)); intro xI bI offI hxI hcI; conv => whnf) | ((with_reducible refine And.intro (And.intro ?_ ?_) ?_); (focus omega); (focus omega); conv => whnf) | ((with_reducible apply Go.Vc.cell_i); (focus assumption); conv => whnf))
        rw [Int.toNat_natCast] at *
        refine (ih k (by omega) i hash (by omega) (by omega) hh s6 (by omega) (by omega) (fun x hx' => hx x (by rw [hPQ]; exact List.mem_append_left _ hx'))).mono ?_
        rintro _ h2 t2 hd2 ht2 ⟨rfl, hz2, hs2⟩
        have s7 := s.sub hs2
        conv => whnf
        refine ⟨hs2, ?_⟩
        conv => whnf
        have ex : p = xI := by rw [show m - 1 = (way k i).length by omega, hG] at hxI; exact Option.some.inj hxI
        subst ex
        refine (refnode_spec _ _ hz2 hpx _ _).mono ?_
        rintro _ h4 t4 hd4 ht4 ⟨rfl, hs4⟩
        conv => whnf
        exact ⟨rfl, nd_le _ (by decide) _ _, hs2.trans hs4⟩
      · rw [e2 (by omega)] at hm ⊢
        rw [List.length_cons] at hm
        obtain ⟨Q, p, hPQ, hQ, hT, hG, _, _⟩ := last_split (k := (way (n - k) (i - k)).length) (by omega : P.length = _) ByteArray.empty
        rw [List.reverse_cons, hPQ, up_last_t ndB _ _ _ _ (by rw [List.length_reverse, hQ])]
        have s6 : Sl h a (m - 1) Value.string Q := by rw [← hT, show (way (n - k) (i - k)).length = m - 1 by omega]; exact s.take (by omega)
        have hpx := hx p (List.mem_of_getElem? hG)
        have hmi : ((m : Int) - 1) = ((m - 1 : Nat) : Int) := by omega
        have hni : ((n : Int) - (k : Int)) = ((n - k : Nat) : Int) := by omega
        have hii : ((i : Int) - (k : Int)) = ((i - k : Nat) : Int) := by omega
        conv => whnf
        rw [hmi]
        refine Go.Vc.draw_intro [⟨0, false, true, false, 0⟩, ⟨1, false, true, false, 0⟩, ⟨2, false, true, false, 3⟩, ⟨3, false, true, false, 7⟩, ⟨4, false, false, false, 0⟩, ⟨5, false, false, false, 0⟩, ⟨6, false, false, false, 48⟩, ⟨7, false, false, false, 0⟩, ⟨8, false, false, false, 0⟩, ⟨9, false, false, false, 384⟩, ⟨10, false, false, false, 0⟩, ⟨11, false, false, false, 0⟩, ⟨12, false, false, false, 0⟩, ⟨13, false, false, false, 6144⟩, ⟨14, true, false, true, 16368⟩, ⟨15, true, false, false, 32767⟩, ⟨16, false, false, false, 65535⟩] (hs := h) (hsub := (Sub.refl _)) (hm := by kernel_rfl) (hpl := by kernel_rfl) ?_
        conv => whnf
        conv => whnf
        repeat (first | ((with_reducible apply Go.Vc.sl_ix); (focus with_reducible assumption); (focus exact And.intro (by omega) (by omega)); intro xI bI offI hxI hcI; conv => whnf) | ((with_reducible refine And.intro (And.intro ?_ ?_) ?_); (focus omega); (focus omega); conv => whnf) | ((with_reducible apply Go.Vc.cell_i); (focus assumption); conv => whnf) | ((with_reducible apply Go.Vc.wr_i64); (focus exact And.intro (by omega) (by omega)); conv => whnf))
        rw [Int.toNat_natCast] at *
        have ex : p = xI := by rw [show m - 1 = (way (n - k) (i - k)).length by omega, hG] at hxI; exact Option.some.inj hxI
        subst ex
        rw [hni, hii]
        refine (ih (n - k) (by omega) (i - k) hash (by omega) (by omega) hh s6 (by omega) (by omega) (fun x hx' => hx x (by rw [hPQ]; exact List.mem_append_left _ hx'))).mono ?_
        rintro _ h2 t2 hd2 ht2 ⟨rfl, hz2, hs2⟩
        conv => whnf
        refine ⟨hs2, ?_⟩
        conv => whnf
        refine (refnode_spec _ _ hpx hz2 _ _).mono ?_
        rintro _ h4 t4 hd4 ht4 ⟨rfl, hs4⟩
        conv => whnf
        exact ⟨rfl, nd_le _ (by decide) _ _, hs2.trans hs4⟩

theorem many_spec : ∀ (n m : Nat) (w : Bool) (hn : n ≤ 65536) (hm : 1 ≤ m) (hmn : m ≤ n) (h : Heap) (t : Nat),
    CallSpec Try.prog 42 #[.int .i64 (n : Nat), .int .i64 (m : Nat), .bool w] h t (fun v h' t' => v = .int .i64 ((many n m w : Nat) : Int) ∧ h = h' ∧ t = t') := by
  intro n
  induction n using Nat.strongRecOn with
  | ind n ih =>
    intro m w hn hm hmn h t
    refine Go.Vc.spec_of_vc (fn := Try.f42) Try.func42 rfl (by kernel_rfl) (by kernel_rfl) (Nat.le_of_ble_eq_true rfl) ?_
    intro hd
    conv => whnf
    refine br (fun hb1 => ?_) (fun hb1 => ?_)
    · rw [many_ge (by omega)]
      cases w with
      | true =>
        conv => whnf
        exact ⟨rfl, rfl, rfl⟩
      | false =>
        conv => whnf
        exact ⟨rfl, rfl, rfl⟩
    · conv => whnf
      refine (refsplit_spec n (by omega) (by omega) _ _).mono ?_
      rintro _ _ _ _ _ ⟨rfl, rfl, rfl⟩
      have hp := sp_pos n
      have hlt := sp_lt (n := n) (by omega)
      have e1 := many_lo (n := n) (m := m) (w := w) (by omega) (by omega)
      have e2 := many_hi (n := n) (m := m) (w := w) (by omega) (by omega)
      generalize hk : sp n = k at *
      conv => whnf
      refine br (fun hb2 => ?_) (fun hb2 => ?_)
      · have hl := many_le k m w hm (by omega)
        conv => whnf
        refine (ih k (by omega) m w (by omega) hm (by omega) _ _).mono ?_
        rintro _ _ _ _ _ ⟨rfl, rfl, rfl⟩
        conv => whnf
        repeat (first | ((with_reducible apply Go.Vc.wr_i64); (focus exact And.intro (by omega) (by omega)); conv => whnf))
        refine ⟨?_, rfl, rfl⟩
        rw [e1 (by omega)]
        show Value.int .i64 _ = Value.int .i64 _
        congr 1
      · have hl := many_le (n - k) (m - k) false (by omega) (by omega)
        conv => whnf
        repeat (first | ((with_reducible apply Go.Vc.wr_i64); (focus exact And.intro (by omega) (by omega)); conv => whnf))
        rw [show ((n : Int) - (k : Int)) = ((n - k : Nat) : Int) by omega, show ((m : Int) - (k : Int)) = ((m - k : Nat) : Int) by omega]
        refine (ih (n - k) (by omega) (m - k) false (by omega) (by omega) (by omega) _ _).mono ?_
        rintro _ _ _ _ _ ⟨rfl, rfl, rfl⟩
        conv => whnf
        repeat (first | ((with_reducible apply Go.Vc.wr_i64); (focus exact And.intro (by omega) (by omega)); conv => whnf))
        refine ⟨?_, rfl, rfl⟩
        rw [e2 (by omega)]
        show Value.int .i64 _ = Value.int .i64 _
        congr 1

theorem both_spec : ∀ (n m : Nat) (w : Bool) (old : ByteArray) {h : Heap} {t : Nat} {a : Option Addr} {z c : Nat} {P : List ByteArray} (hn : n ≤ 65536) (hm : 1 ≤ m) (hmn : m ≤ n) (hh : old.size ≤ 274877906944) (s : Sl h a z Value.string P) (hzc : z ≤ c) (hz : z = many n m w) (hx : ∀ x ∈ P, x.size ≤ 274877906944),
    CallSpec Try.prog 43 #[.string old, .int .i64 (n : Nat), .int .i64 (m : Nat), .bool w, .slice a z c] h t (fun v h' t' => v = .tuple #[.string (both ndB emB old n m w P).1, .string (both ndB emB old n m w P).2] ∧ (both ndB emB old n m w P).1.size ≤ 274877906944 ∧ (both ndB emB old n m w P).2.size ≤ 274877906944 ∧ Sub h h') := by
  intro n
  induction n using Nat.strongRecOn with
  | ind n ih =>
    intro m w old h t a z c P hn hm hmn hh s hzc hz hx
    have hPl := s.1
    refine Go.Vc.spec_of_vc (fn := Try.f43) Try.func43 rfl (by kernel_rfl) (by kernel_rfl) (Nat.le_of_ble_eq_true rfl) ?_
    intro hd
    conv => whnf
    refine br (fun hb1 => ?_) (fun hb1 => ?_)
    · rw [both_ge ndB emB (by omega)]
      rw [many_ge (by omega)] at hz
      cases w with
      | true =>
        conv => whnf
        exact ⟨rfl, hh, hh, Sub.refl _⟩
      | false =>
        obtain ⟨x, rfl⟩ : ∃ x, P = [x] := List.length_eq_one_iff.1 (by rw [hPl, hz]; rfl)
        have hz1 : z = 1 := hz
        have hxx := hx x (by simp)
        conv => whnf
        refine Go.Vc.draw_intro [⟨0, false, false, false, 0⟩, ⟨1, false, false, false, 1⟩, ⟨2, false, false, false, 3⟩, ⟨3, false, false, false, 0⟩, ⟨4, false, false, false, 8⟩, ⟨5, false, false, false, 24⟩, ⟨6, false, false, false, 7⟩, ⟨7, false, false, false, 127⟩] (hs := (fun _ => none)) (hsub := (fun _ _ h => nomatch h)) (hm := by kernel_rfl) (hpl := by kernel_rfl) ?_
        conv => whnf
        conv => whnf
        repeat (first | ((with_reducible apply Go.Vc.sl_ix); (focus with_reducible assumption); (focus exact And.intro (by omega) (by omega)); intro xI bI offI hxI hcI; conv => whnf) | ((with_reducible apply Go.Vc.cell_i); (focus assumption); conv => whnf))
        obtain ⟨y, rfl⟩ : ∃ y, y = xI := ⟨xI, rfl⟩
        have hy := hxI
        clear hxI
        have e : x = xI := Option.some.inj hxI
        have e2 : x = y := Option.some.inj hy
        subst e
        subst e2
        exact ⟨rfl, hxx, hxx, Sub.refl _⟩
    · have hp := sp_pos n
      have hlt := sp_lt (n := n) (by omega)
      have e1 := both_lo ndB emB (old := old) (n := n) (m := m) (w := w) (p := P) (by omega) (by omega)
      have e2 := both_hi ndB emB (old := old) (n := n) (m := m) (w := w) (p := P) (by omega) (by omega)
      have f1 := many_lo (n := n) (m := m) (w := w) (by omega) (by omega)
      have f2 := many_hi (n := n) (m := m) (w := w) (by omega) (by omega)
      have hml := many_le n m w hm hmn
      conv => whnf
      refine (refsplit_spec n (by omega) (by omega) _ _).mono ?_
      rintro _ _ _ _ _ ⟨rfl, rfl, rfl⟩
      generalize hk : sp n = k at *
      conv => whnf
      repeat (first | ((with_reducible apply Go.Vc.wr_i64); (focus exact And.intro (by omega) (by omega)); conv => whnf))
      refine br (fun hb2 => ?_) (fun hb2 => ?_)
      · rw [e1 (by omega)]
        rw [f1 (by omega)] at hz
        obtain ⟨Q, p, hPQ, hQ, hT, hG, hD, hL⟩ := last_split (k := many k m w) (by omega : P.length = _) emB
        rw [hD, hL]
        have s6 : Sl h a (z - 1) Value.string Q := by rw [← hT, show many k m w = z - 1 by omega]; exact s.take (by omega)
        have hpx := hx p (List.mem_of_getElem? hG)
        have hmi : ((z : Int) - 1) = ((z - 1 : Nat) : Int) := by omega
        conv => whnf
        repeat (first | ((with_reducible refine And.intro (And.intro ?_ ?_) ?_); (focus omega); (focus omega); conv => whnf))
        rw [hmi, Int.toNat_natCast]
        refine (ih k (by omega) m w old (by omega) hm (by omega) hh s6 (by omega) (by omega) (fun x hx' => hx x (by rw [hPQ]; exact List.mem_append_left _ hx'))).mono ?_
        rintro _ h2 t2 hd2 ht2 ⟨rfl, hy2, hz2, hs2⟩
        have s7 := s.sub hs2
        conv => whnf
        repeat (first | ((with_reducible apply Go.Vc.sl_ix); (focus with_reducible assumption); (focus exact And.intro (by omega) (by omega)); intro xI bI offI hxI hcI; conv => whnf) | ((with_reducible apply Go.Vc.cell_i); (focus assumption); conv => whnf))
        rw [Int.toNat_natCast] at *
        have ex : p = xI := by rw [show z - 1 = many k m w by omega, hG] at hxI; exact Option.some.inj hxI
        subst ex
        refine (refnode_spec _ _ hz2 hpx _ _).mono ?_
        rintro _ h4 t4 hd4 ht4 ⟨rfl, hs4⟩
        conv => whnf
        repeat (first | ((with_reducible refine And.intro ?_ (And.intro ?_ ?_)); (focus exact rfl); (focus omega); conv => whnf))
        exact ⟨nd_le _ (by decide) _ _, hs2.trans hs4⟩
      · rw [e2 (by omega)]
        rw [f2 (by omega)] at hz
        obtain ⟨Q, p, hPQ, hQ, hT, hG, hD, hL⟩ := last_split (k := many (n - k) (m - k) false) (by omega : P.length = _) emB
        rw [hD, hL]
        have s6 : Sl h a (z - 1) Value.string Q := by rw [← hT, show many (n - k) (m - k) false = z - 1 by omega]; exact s.take (by omega)
        have hpx := hx p (List.mem_of_getElem? hG)
        have hmi : ((z : Int) - 1) = ((z - 1 : Nat) : Int) := by omega
        have hni : ((n : Int) - (k : Int)) = ((n - k : Nat) : Int) := by omega
        have hii : ((m : Int) - (k : Int)) = ((m - k : Nat) : Int) := by omega
        conv => whnf
        repeat (first | ((with_reducible refine And.intro (And.intro ?_ ?_) ?_); (focus omega); (focus omega); conv => whnf) | ((with_reducible apply Go.Vc.wr_i64); (focus exact And.intro (by omega) (by omega)); conv => whnf))
        rw [hmi, Int.toNat_natCast, hni, hii]
        refine (ih (n - k) (by omega) (m - k) false old (by omega) (by omega) (by omega) hh s6 (by omega) (by omega) (fun x hx' => hx x (by rw [hPQ]; exact List.mem_append_left _ hx'))).mono ?_
        rintro _ h2 t2 hd2 ht2 ⟨rfl, hy2, hz2, hs2⟩
        have s7 := s.sub hs2
        conv => whnf
        refine Go.Vc.draw_intro [⟨0, false, false, false, 0⟩, ⟨1, false, false, false, 0⟩, ⟨2, false, false, false, 3⟩, ⟨3, false, false, false, 7⟩, ⟨4, false, false, false, 0⟩, ⟨6, false, true, false, 0⟩, ⟨7, false, true, false, 0⟩, ⟨8, false, true, false, 192⟩, ⟨9, false, true, false, 448⟩, ⟨10, false, true, false, 0⟩, ⟨5, true, false, true, 31⟩, ⟨11, true, false, false, 2047⟩, ⟨12, false, false, false, 4095⟩, ⟨13, false, false, false, 8191⟩] (hs := h2) (hsub := (Sub.refl _)) (hm := by kernel_rfl) (hpl := by kernel_rfl) ?_
        conv => whnf
        conv => whnf
        repeat (first | ((with_reducible apply Go.Vc.sl_ix); (focus with_reducible assumption); (focus exact And.intro (by omega) (by omega)); intro xI bI offI hxI hcI; conv => whnf) | ((with_reducible apply Go.Vc.cell_i); (focus assumption); conv => whnf))
        obtain ⟨y, rfl⟩ : ∃ y, y = xI := ⟨xI, rfl⟩
        have hy := hxI
        clear hxI
        rw [Int.toNat_natCast, show z - 1 = many (n - k) (m - k) false by omega, hG] at hxI hy
        have ex := Option.some.inj hxI
        have ey := Option.some.inj hy
        subst ex
        subst ey
        refine (refnode_spec _ _ hpx hy2 _ _).mono ?_
        rintro _ h4 t4 hd4 ht4 ⟨rfl, hs4⟩
        conv => whnf
        refine ⟨hs4, ?_⟩
        conv => whnf
        refine (refnode_spec _ _ hpx hz2 _ _).mono ?_
        rintro _ h5 t5 hd5 ht5 ⟨rfl, hs5⟩
        conv => whnf
        exact ⟨rfl, nd_le _ (by decide) _ _, nd_le _ (by decide) _ _, hs2.trans (hs4.trans hs5)⟩

theorem refincluded_spec (root : ByteArray) (n i : Int) (hn : -9223372036854775808 ≤ n ∧ n ≤ 65536) (hi : -9223372036854775808 ≤ i ∧ i ≤ 9223372036854775807) (hash : ByteArray) (hh : hash.size ≤ 274877906944)
    {h : Heap} {t : Nat} {a : Option Addr} {m c : Nat} {P : List ByteArray} (s : Sl h a m Value.string P) (hm : m ≤ 1000000000) (hmc : m ≤ c) (hx : ∀ x ∈ P, x.size ≤ 274877906944) :
    CallSpec Try.prog 25 #[.string root, .int .i64 n, .int .i64 i, .string hash, .slice a m c] h t (fun v h' t' => v = .bool (incd root n i hash P) ∧ Sub h h') := by
  have hPl := s.1
  refine Go.Vc.spec_of_vc (fn := Try.f25) Try.func25 rfl (by kernel_rfl) (by kernel_rfl) (Nat.le_of_ble_eq_true rfl) ?_
  intro hd
  by_cases hok : 0 ≤ i ∧ i < n
  · obtain ⟨i0, rfl⟩ : ∃ i0 : Nat, i = i0 := ⟨i.toNat, by omega⟩
    obtain ⟨n0, rfl⟩ : ∃ n0 : Nat, n = n0 := ⟨n.toNat, by omega⟩
    unfold incd
    rw [decide_eq_true hok, Bool.true_and, Int.toNat_natCast, Int.toNat_natCast]
    have hwl := way_le 17 n0 i0 (by omega)
    conv => whnf
    repeat (first | (refine Go.Vc.br_f ?_ ?_; (focus omega); conv => whnf))
    refine (long_spec n0 i0 (by omega) (by omega) _ _).mono ?_
    rintro _ _ _ _ _ ⟨rfl, rfl, rfl⟩
    conv => whnf
    refine br (fun hb1 => ?_) (fun hb1 => ?_)
    · conv => whnf
      exact ⟨by rw [decide_eq_false (by omega)]; rfl, Sub.refl _⟩
    · rw [decide_eq_true (by omega), Bool.true_and]
      conv => whnf
      refine (lead_spec n0 i0 hash (by omega) (by omega) hh s hmc (by omega) hx).mono ?_
      rintro _ h2 t2 hd2 ht2 ⟨rfl, hz2, hs2⟩
      conv => whnf
      exact ⟨by rw [opq_eq], hs2⟩
  · have e : incd root n i hash P = false := by unfold incd; rw [decide_eq_false hok]; rfl
    rw [e]
    by_cases hneg : i < 0
    · conv => whnf
      repeat (first | (refine Go.Vc.br_t ?_ ?_; (focus omega); conv => whnf))
      exact ⟨rfl, Sub.refl _⟩
    · conv => whnf
      repeat (first | (refine Go.Vc.br_t ?_ ?_; (focus omega); conv => whnf) | (refine Go.Vc.br_f ?_ ?_; (focus omega); conv => whnf))
      exact ⟨rfl, Sub.refl _⟩

theorem grwd_eq (old : ByteArray) (m : Int) (root : ByteArray) (n : Int) (P : List ByteArray) : grwd old m root n P =
    (decide (1 ≤ m ∧ m ≤ n) && (decide (P.length = many n.toNat m.toNat true) && (decide ((both ndB emB old n.toNat m.toNat true P).1 = old) && decide ((both ndB emB old n.toNat m.toNat true P).2 = root)))) := by
  unfold grwd
  by_cases hok : 1 ≤ m ∧ m ≤ n
  · rw [decide_eq_true hok, Bool.true_and, Bool.true_and]
    have h1 : 1 ≤ m.toNat := by omega
    have h2 : m.toNat ≤ n.toNat := by omega
    generalize m.toNat = m at *
    generalize n.toNat = n at *
    by_cases hP : P.length = many n m true
    · have e : endS old m n P = ⟨(both ndB emB old n m true P).1, (both ndB emB old n m true P).2, [], true⟩ := climb_ok ndB emB old n m true ⟨old, old, P, true⟩ P [] h1 h2 rfl (by simp) hP rfl rfl
      rw [e, decide_eq_true hP]; simp
    · rw [decide_eq_false hP, Bool.false_and]
      by_cases hlt : P.length < many n m true
      · have e : (endS old m n P).fits = false := climb_short ndB n m true ⟨old, old, P, true⟩ h1 h2 rfl rfl hlt
        rw [e, Bool.false_and]
      · have e : endS old m n P = ⟨(both ndB emB old n m true (P.take (many n m true))).1, (both ndB emB old n m true (P.take (many n m true))).2, P.drop (many n m true), true⟩ :=
          climb_ok ndB emB old n m true ⟨old, old, P, true⟩ (P.take (many n m true)) (P.drop (many n m true)) h1 h2 rfl (by simp) (by rw [List.length_take]; omega) rfl rfl
        have hne : ¬ P.drop (many n m true) = [] := by
          intro e
          have := congrArg List.length e
          rw [List.length_drop] at this
          simp at this; omega
        rw [e]
        simp only [decide_eq_false hne, Bool.false_and, Bool.and_false]
  · rw [decide_eq_false hok, Bool.false_and, Bool.false_and]

theorem refgrown_spec (old : ByteArray) (hold : old.size ≤ 274877906944) (m : Int) (hm : -9223372036854775808 ≤ m ∧ m ≤ 9223372036854775807) (root : ByteArray) (n : Int) (hn : -9223372036854775808 ≤ n ∧ n ≤ 65536)
    {h : Heap} {t : Nat} {a : Option Addr} {l c : Nat} {P : List ByteArray} (s : Sl h a l Value.string P) (hl : l ≤ 1000000000) (hlc : l ≤ c) (hx : ∀ x ∈ P, x.size ≤ 274877906944) :
    CallSpec Try.prog 27 #[.string old, .int .i64 m, .string root, .int .i64 n, .slice a l c] h t (fun v h' t' => v = .bool (grwd old m root n P) ∧ Sub h h') := by
  have hPl := s.1
  rw [grwd_eq]
  refine Go.Vc.spec_of_vc (fn := Try.f27) Try.func27 rfl (by kernel_rfl) (by kernel_rfl) (Nat.le_of_ble_eq_true rfl) ?_
  intro hd
  by_cases hok : 1 ≤ m ∧ m ≤ n
  · obtain ⟨m0, rfl⟩ : ∃ i0 : Nat, m = i0 := ⟨m.toNat, by omega⟩
    obtain ⟨n0, rfl⟩ : ∃ n0 : Nat, n = n0 := ⟨n.toNat, by omega⟩
    rw [decide_eq_true hok, Bool.true_and, Int.toNat_natCast, Int.toNat_natCast]
    have hml := many_le n0 m0 true (by omega) (by omega)
    conv => whnf
    repeat (first | (refine Go.Vc.br_f ?_ ?_; (focus omega); conv => whnf))
    refine (many_spec n0 m0 true (by omega) (by omega) (by omega) _ _).mono ?_
    rintro _ _ _ _ _ ⟨rfl, rfl, rfl⟩
    conv => whnf
    refine br (fun hb1 => ?_) (fun hb1 => ?_)
    · conv => whnf
      exact ⟨by rw [decide_eq_false (by omega)]; rfl, Sub.refl _⟩
    · rw [decide_eq_true (by omega), Bool.true_and]
      conv => whnf
      refine (both_spec n0 m0 true old (by omega) (by omega) (by omega) hold s hlc (by omega) hx).mono ?_
      rintro _ h2 t2 hd2 ht2 ⟨rfl, hy2, hz2, hs2⟩
      conv => whnf
      refine br (fun hb2 => ?_) (fun hb2 => ?_)
      · rw [decide_eq_true hb2]
        conv => whnf
        exact ⟨by rw [opq_eq]; rfl, hs2⟩
      · rw [decide_eq_false hb2]
        conv => whnf
        exact ⟨rfl, hs2⟩
  · rw [decide_eq_false hok]
    by_cases hneg : m < 1
    · conv => whnf
      repeat (first | (refine Go.Vc.br_t ?_ ?_; (focus omega); conv => whnf))
      exact ⟨rfl, Sub.refl _⟩
    · conv => whnf
      repeat (first | (refine Go.Vc.br_t ?_ ?_; (focus omega); conv => whnf) | (refine Go.Vc.br_f ?_ ?_; (focus omega); conv => whnf))
      exact ⟨rfl, Sub.refl _⟩

def turnd (l : List ByteArray) (w : Int) (s : ByteArray) : List ByteArray := l.set ((if w < 0 then 0 - (w + 1) else w).toNat % l.length) s
theorem turned_spec {h : Heap} {t : Nat} {a : Option Addr} {n c : Nat} {l : List ByteArray} (s : Sl h a n Value.string l) (hn : n ≤ 100000000) (w : Int) (hw : -9223372036854775808 ≤ w ∧ w ≤ 9223372036854775807) (x : ByteArray) :
    CallSpec Try.prog 24 #[.slice a n c, .int .i64 w, .string x] h t (fun v h' t' => ∃ a' c', v = .slice a' n c' ∧ Own h' 9 a' n c' Value.string (turnd l w x) ∧ (∀ b, owner a' = some b → t ≤ b) ∧ Sub h h') := by
  have hll := s.1
  refine Go.Vc.spec_of_vc (fn := Try.f24) Try.func24 rfl (by kernel_rfl) (by kernel_rfl) (Nat.le_of_ble_eq_true rfl) ?_
  intro hd
  refine if hneg : w < 0 then ?_ else ?_
  · unfold turnd
    rw [if_pos hneg]
    conv => whnf
    repeat (first | ((with_reducible apply Go.Vc.wr_i64); (focus exact And.intro (by omega) (by omega)); conv => whnf) | (refine Go.Vc.br_t ?_ ?_; (focus omega); conv => whnf))
    refine app_strs (m := n) (l2 := l) (Own.nil _ _ _) s (by omega) hd ?_
    intro a2 c2 h2 t2 o2 ht2 hd2 hk2 how2
    have hs2 : Sub h h2 := fun b o hb => by rw [hk2 b (hd b o hb) (fun e => by cases e)]; exact hb
    have hw2 : ∀ b, owner a2 = some b → t ≤ b := by
      intro b hb
      rcases how2 with e | ⟨b', e, hb'⟩
      · rw [e] at hb; cases hb
      · rw [e] at hb; cases hb; omega
    rw [Nat.zero_add, List.nil_append] at o2
    rw [Nat.zero_add]
    conv => whnf
    refine br (fun hb1 => ?_) (fun hb1 => ?_)
    · conv => whnf
      repeat (first | ((with_reducible apply Go.Vc.rem_i); (focus omega); conv => whnf) | ((with_reducible refine And.intro ?_ (And.intro ?_ ?_)); (focus exact rfl); (focus omega); conv => whnf))
      obtain ⟨b2, off2, rfl⟩ := o2.at (by omega)
      refine ⟨⟨Int.emod_nonneg _ (by omega), Int.emod_lt_of_pos _ (by omega)⟩, b2, off2, rfl, ?_⟩
      generalize hj : (_ % ((n : Nat) : Int)).toNat = j
      have hjn : j < n := by rw [← hj]; have := Int.emod_lt_of_pos (0 - (w + 1)) (b := ((n : Nat) : Int)) (by omega); have := Int.emod_nonneg (0 - (w + 1)) (b := ((n : Nat) : Int)) (by omega); omega
      have hjj : (0 - (w + 1)).toNat % l.length = j := by
        rw [← hj, hll]
        have e : (0 - (w + 1)) = (((0 - (w + 1)).toNat : Nat) : Int) := by omega
        generalize (0 - (w + 1)).toNat = q at *
        rw [e, ← Int.natCast_emod, Int.toNat_natCast]
      obtain ⟨cs, fr, hb2, hsz, hfz, o3⟩ := o2.put (j := j) hjn x
      conv => whnf
      refine ⟨rfl, _, _, _, hb2, hsz, hfz, ?_⟩
      rintro _ rfl
      conv => whnf
      refine ⟨_, _, rfl, by rw [hjj]; exact o3, hw2, ?_⟩
      intro b o hb
      have := hd b o hb
      rw [hset_ne _ _ (by have := hw2 b2 rfl; omega)]
      exact hs2 b o hb
    · have h0 : n = 0 := by omega
      subst h0
      obtain rfl : l = [] := List.length_eq_zero_iff.1 hll
      conv => whnf
      exact ⟨_, _, rfl, o2, hw2, hs2⟩
  · unfold turnd
    rw [if_neg hneg]
    conv => whnf
    repeat (first | (refine Go.Vc.br_f ?_ ?_; (focus omega); conv => whnf))
    refine app_strs (m := n) (l2 := l) (Own.nil _ _ _) s (by omega) hd ?_
    intro a2 c2 h2 t2 o2 ht2 hd2 hk2 how2
    have hs2 : Sub h h2 := fun b o hb => by rw [hk2 b (hd b o hb) (fun e => by cases e)]; exact hb
    have hw2 : ∀ b, owner a2 = some b → t ≤ b := by
      intro b hb
      rcases how2 with e | ⟨b', e, hb'⟩
      · rw [e] at hb; cases hb
      · rw [e] at hb; cases hb; omega
    rw [Nat.zero_add, List.nil_append] at o2
    rw [Nat.zero_add]
    conv => whnf
    refine br (fun hb1 => ?_) (fun hb1 => ?_)
    · conv => whnf
      repeat (first | ((with_reducible apply Go.Vc.rem_i); (focus omega); conv => whnf) | ((with_reducible refine And.intro ?_ (And.intro ?_ ?_)); (focus exact rfl); (focus omega); conv => whnf))
      obtain ⟨b2, off2, rfl⟩ := o2.at (by omega)
      refine ⟨⟨Int.emod_nonneg _ (by omega), Int.emod_lt_of_pos _ (by omega)⟩, b2, off2, rfl, ?_⟩
      generalize hj : (_ % ((n : Nat) : Int)).toNat = j
      have hjn : j < n := by rw [← hj]; have := Int.emod_lt_of_pos (w) (b := ((n : Nat) : Int)) (by omega); have := Int.emod_nonneg (w) (b := ((n : Nat) : Int)) (by omega); omega
      have hjj : (w).toNat % l.length = j := by
        rw [← hj, hll]
        have e : (w) = (((w).toNat : Nat) : Int) := by omega
        generalize (w).toNat = q at *
        rw [e, ← Int.natCast_emod, Int.toNat_natCast]
      obtain ⟨cs, fr, hb2, hsz, hfz, o3⟩ := o2.put (j := j) hjn x
      conv => whnf
      refine ⟨rfl, _, _, _, hb2, hsz, hfz, ?_⟩
      rintro _ rfl
      conv => whnf
      refine ⟨_, _, rfl, by rw [hjj]; exact o3, hw2, ?_⟩
      intro b o hb
      have := hd b o hb
      rw [hset_ne _ _ (by have := hw2 b2 rfl; omega)]
      exact hs2 b o hb
    · have h0 : n = 0 := by omega
      subst h0
      obtain rfl : l = [] := List.length_eq_zero_iff.1 hll
      conv => whnf
      exact ⟨_, _, rfl, o2, hw2, hs2⟩
end Go.Proofs.Ytmlcdkckedjdjaa
