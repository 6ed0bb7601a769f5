/- The bucket's functions, each by a contract over the known heap. -/
import Derived.Test.YtjolbngckdfelaaProg
import Derived.Test.YtjolbngckdfelaaVc5
import Derived.KernelRfl
namespace Go.Proofs.Ytjolbngckdfelaa
open Go Go.Vc
set_option maxRecDepth 10000
set_option linter.unusedVariables false

structure BS where
  D : List (ByteArray × ByteArray)
  lock : ByteArray
  ver : Int
  fs : List Int

/-- The tag of a bucket's block. -/
def TagB : Type := { T : TypeId // T = 56 }
instance : CoeOut TagB TypeId := ⟨fun T => T.1⟩
/-- The bucket at block b, with the map at block m; its fates lie at d. -/
def Bkt (h : Heap) (b m : Nat) (d : Option Nat) (s : BS) : Prop :=
  ∃ o a n c, ∃ T : TagB, h b = some (.cells #[.map (some m), .string s.lock, .int .i64 s.ver, .slice a n c] T.1 (0, 0)) ∧ h m = some o ∧ MapObj o Value.string s.D ∧ Sl h a n (Value.int .i64) s.fs ∧ n ≤ c ∧ b ≠ m ∧ d ≠ some b ∧ owner a = d

theorem Bkt.keep {h h' : Heap} {b m : Nat} {d : Option Nat} {s : BS} (B : Bkt h b m d s) (hk : ∀ k, k = b ∨ k = m ∨ d = some k → ∀ o, h k = some o → h' k = some o) : Bkt h' b m d s := by
  obtain ⟨o, a, n, c, T, hb, hm, hmo, hsl, hnc, hbm, hdb, how⟩ := B
  refine ⟨o, a, n, c, T, hk b (.inl rfl) _ hb, hk m (.inr (.inl rfl)) _ hm, hmo, ⟨hsl.1, fun h2 => ?_⟩, hnc, hbm, hdb, how⟩
  obtain ⟨b3, off3, cs, T3, fr, e1, e2, e3⟩ := hsl.2 h2
  exact ⟨b3, off3, cs, T3, fr, e1, hk b3 (.inr (.inr (by rw [← how, e1]; rfl))) _ e2, e3⟩

def BS.next (s : BS) : BS := { s with fs := s.fs.tail }
def fateOf : List Int → Int
  | [] => 0
  | n :: _ => (max n 0) % 3

theorem owner_cut {a : Option Addr} {l size c : Nat} : owner (cutA a l size c) = owner a := by
  unfold cutA owner
  split
  · rfl
  · cases a with
    | none => rfl
    | some a => simp [Addr.add]; split <;> rfl

theorem fate_spec {h : Heap} {t b m : Nat} {d : Option Nat} {s : BS} (B : Bkt h b m d s) :
    CallSpec Try.prog 36 #[.pointer (some ⟨b, 0, none⟩)] h t (fun v h' t' => v = .int .i64 (fateOf s.fs) ∧ t ≤ t' ∧ Bkt h' b m d s.next ∧ (∀ k, k ≠ b → h' k = h k)) := by
  obtain ⟨D, lock, ver, fs⟩ := s
  obtain ⟨o, a, n, c, T, hb, hm, hmo, hsl, hnc, hbm, hdb, how⟩ := B
  simp only at hb hmo hsl
  refine Go.Vc.spec_of_vc (fn := Try.f36) Try.func36 rfl (by kernel_rfl) (by kernel_rfl) (Nat.le_of_ble_eq_true rfl) ?_
  intro hd
  conv => whnf
  refine ⟨_, ⟨_, _, _, hb, rfl, rfl⟩, ?_⟩
  conv => whnf
  refine bsel_intro (fun h0 => ?_) (fun h0 => ?_)
  · conv => whnf
    have : n = 0 := by simpa using h0
    have hfs : fs = [] := List.length_eq_zero_iff.1 (by rw [hsl.1, this])
    subst hfs
    exact ⟨rfl, Nat.le_refl _, ⟨o, a, n, c, T, hb, hm, hmo, hsl, hnc, hbm, hdb, how⟩, fun _ _ => rfl⟩
  · conv => whnf
    refine ⟨_, ⟨_, _, _, hb, rfl, rfl⟩, ?_⟩
    conv => whnf
    have hn : 0 < n := by
      simp at h0; omega
    refine ⟨⟨by omega, by omega⟩, ?_⟩
    obtain ⟨b2, off2, ha, hc⟩ := hsl.at 0 (i := 0) (by omega) (by omega)
    refine ⟨b2, off2, ha, ?_⟩
    conv => whnf
    refine ⟨_, hc, ?_⟩
    conv => whnf
    refine ⟨_, ⟨_, _, _, hb, rfl, rfl⟩, ?_⟩
    conv => whnf
    refine ⟨⟨by omega, by omega⟩, ?_⟩
    intro a' ha'
    conv => whnf
    refine ⟨rfl, _, _, _, hb, Go.Vc.lt_of_blt rfl, rfl, ?_⟩
    rintro _ rfl
    conv => whnf
    refine ⟨rfl, by decide, ?_⟩
    refine ⟨_, rfl, ?_⟩
    conv => whnf
    refine ⟨?_, Nat.le_refl _, ?_, ?_⟩
    · cases fs with
      | nil => have := hsl.1; simp at this; omega
      | cons f0 fs =>
        simp only [fateOf, Int.toNat_zero, List.getD_cons_zero]
        congr 1
        have : (if 0 > f0 then (0 : Int) else f0) = max f0 0 := by omega
        rw [this]
        exact Int.tmod_eq_emod_of_nonneg (by omega)
    · refine ⟨o, a', n - 1, c - 1, T, ?_, ?_, hmo, ?_, by omega, hbm, hdb, ?_⟩
      · exact hset_same _ _ _
      · rw [hset_ne _ _ (fun e => hbm e.symm)]; exact hm
      · have h1 := hsl.drop (m := 1) (c := c) (by omega) hnc ha'
        rw [List.drop_one] at h1
        refine ⟨h1.1, fun h2 => ?_⟩
        obtain ⟨b3, off3, cs, T3, fr, e1, e2, e3⟩ := h1.2 h2
        refine ⟨b3, off3, cs, T3, fr, e1, ?_, e3⟩
        rw [hset_ne]
        · exact e2
        · intro e
          apply hdb
          rw [← how, ← owner_cut (l := Int.toNat 1) (size := 1) (c := c)]
          rw [show cutA a (Int.toNat 1) 1 c = a' from ha'.symm, e1, ← e]; rfl
      · rw [ha', owner_cut]; exact how
    · intro k hk
      exact hset_ne _ _ hk

theorem named_spec (s : ByteArray) (h : Heap) (t : Nat) :
    CallSpec Try.prog 22 #[.string s] h t (fun v h' t' => v = .bool (decide (s ≠ ⟨#[]⟩ ∧ s.size ≤ 100)) ∧ h = h' ∧ t = t') := by
  refine Go.Vc.spec_of_vc (fn := Try.f22) Try.func22 rfl (by kernel_rfl) (by kernel_rfl) (Nat.le_of_ble_eq_true rfl) ?_
  intro hd
  conv => whnf
  refine bsel_intro (fun hb => ?_) (fun hb => ?_)
  · conv => whnf
    have hs : s ≠ ⟨#[]⟩ := by simpa using hb
    refine ⟨?_, rfl, rfl⟩
    congr 1
    have : ((s.size : Int) ≤ 100) ↔ s.size ≤ 100 := by omega
    simp [hs, this]
  · conv => whnf
    have hs : s = ⟨#[]⟩ := by simpa using hb
    exact ⟨by simp [hs], rfl, rfl⟩

/-- A captured variable's block. -/
def Box (h : Heap) (r : Nat) (v : Value) : Prop := ∃ T, h r = some (.cells #[v] T (0, 0))

def callR (s : BS) (may : Bool) (act : BS → Int × BS) : Int × BS :=
  if may = false then (1, s.next) else if fateOf s.fs = 1 then (7, s.next) else if fateOf s.fs = 0 then act s.next else (7, (act s.next).2)

theorem fate_range (l : List Int) : 0 ≤ fateOf l ∧ fateOf l ≤ 2 := by
  cases l with
  | nil => simp [fateOf]
  | cons n r => simp only [fateOf]; omega

theorem call_spec {h : Heap} {t b m : Nat} {d : Option Nat} {s : BS} (B : Bkt h b m d s) (may : Bool) (k : Nat) (hx0 : isExt Try.prog k = false) (caps : Array Value) (act : BS → Int × BS) (X : Heap → Heap → Prop) (hX0 : ∀ h' : Heap, X h' h')
    (hact : ∀ h1 t1, t ≤ t1 → Dom h1 t1 → Bkt h1 b m d s.next → (∀ k, k ≠ b → h1 k = h k) → CallSpec Try.prog k caps h1 t1 (fun v h' _ => v = .int .i64 (act s.next).1 ∧ Bkt h' b m d (act s.next).2 ∧ X h1 h')) :
    CallSpec Try.prog 20 #[.pointer (some ⟨b, 0, none⟩), .bool may, .func (.func k) #[] caps] h t
      (fun v h' _ => v = .int .i64 (callR s may act).1 ∧ Bkt h' b m d (callR s may act).2 ∧ ∃ h1, (∀ k, k ≠ b → h1 k = h k) ∧ X h1 h') := by
  refine Go.Vc.spec_of_vc (fn := Try.f20) Try.func20 rfl (by kernel_rfl) (by kernel_rfl) (Nat.le_of_ble_eq_true rfl) ?_
  intro hd
  conv => whnf
  refine (fate_spec B).mono ?_
  rintro _ h1 t1 hd1 ht1 ⟨rfl, _, B1, hk1⟩
  conv => whnf
  refine bsel_intro (fun hb => ?_) (fun hb => ?_)
  · conv => whnf
    have hm : may = false := by simpa using hb
    subst hm
    exact ⟨rfl, B1, h1, hk1, hX0 _⟩
  · conv => whnf
    have hm : may = true := by simpa using hb
    subst hm
    refine bsel_intro (fun h1b => ?_) (fun h1b => ?_)
    · conv => whnf
      have hne : fateOf s.fs ≠ 1 := by simpa using h1b
      have hsp := hact h1 t1 ht1 hd1 B1 hk1
      rw [forceL_eq, hx0, cond_false]
      refine CallSpec.args_eq (a := caps) (by simp) ?_
      refine hsp.mono ?_
      rintro _ h2 t2 hd2 ht2 ⟨rfl, B2, hx⟩
      conv => whnf
      refine bsel_intro (fun h2b => ?_) (fun h2b => ?_)
      · conv => whnf
        have hne2 : fateOf s.fs ≠ 0 := by simpa using h2b
        exact ⟨by simp [callR, hne, hne2], by simpa [callR, hne, hne2] using B2, h1, hk1, hx⟩
      · conv => whnf
        have hne2 : fateOf s.fs = 0 := by simpa using h2b
        exact ⟨by simp [callR, hne2], by simpa [callR, hne2] using B2, h1, hk1, hx⟩
    · conv => whnf
      have hne : fateOf s.fs = 1 := by simpa using h1b
      refine bsel_t (by simp [hne]) ?_
      conv => whnf
      exact ⟨by simp [callR, hne], by simpa [callR, hne] using B1, h1, hk1, hX0 _⟩

theorem put1_spec {h : Heap} {t b m : Nat} {d : Option Nat} {s : BS} (B : Bkt h b m d s) {r0 r1 r2 : Nat} {v name : ByteArray} (h0 : Box h r0 (.string v)) (h1 : Box h r1 (.pointer (some ⟨b, 0, none⟩))) (h2 : Box h r2 (.string name)) :
    CallSpec Try.prog 23 #[.pointer (some ⟨r0, 0, none⟩), .pointer (some ⟨r1, 0, none⟩), .pointer (some ⟨r2, 0, none⟩)] h t
      (fun v' h' _ => v' = .int .i64 0 ∧ Bkt h' b m d { s with D := aPut s.D name v } ∧ ∀ k, k ≠ m → h' k = h k) := by
  obtain ⟨D, lock, ver, fs⟩ := s
  obtain ⟨o, a, n, c, T, hb, hm, hmo, hsl, hnc, hbm, hdb, how⟩ := B
  obtain ⟨T0, h0⟩ := h0
  obtain ⟨T1, h1⟩ := h1
  obtain ⟨T2, h2⟩ := h2
  simp only at hb hmo hsl
  refine Go.Vc.spec_of_vc (fn := Try.f23) Try.func23 rfl (by kernel_rfl) (by kernel_rfl) (Nat.le_of_ble_eq_true rfl) ?_
  intro hd
  conv => whnf
  refine Go.Vc.draw_intro [⟨0, false, false, false, 0⟩, ⟨1, false, false, false, 1⟩, ⟨2, false, false, false, 3⟩, ⟨3, false, false, false, 7⟩, ⟨4, false, false, false, 0⟩, ⟨5, false, false, false, 0⟩, ⟨6, true, false, false, 63⟩] (hs := (fun _ => none)) (hsub := (fun _ _ h => nomatch h)) (hm := by kernel_rfl) (hpl := by kernel_rfl) ?_
  conv => whnf
  refine ⟨_, ⟨_, _, _, h1, rfl, rfl⟩, ?_⟩
  conv => whnf
  refine ⟨_, ⟨_, _, _, hb, rfl, rfl⟩, ?_⟩
  conv => whnf
  refine ⟨_, ⟨_, _, _, h2, rfl, rfl⟩, ?_⟩
  conv => whnf
  refine ⟨_, ⟨_, _, _, h0, rfl, rfl⟩, ?_⟩
  conv => whnf
  refine mapup_str (f := Value.string) Try.underlying54 Try.underlying9 hm hmo ?_
  intro o' hmo'
  conv => whnf
  refine ⟨rfl, ⟨o', a, n, c, T, by rw [hset_ne _ _ hbm]; exact hb, hset_same _ _ _, hmo', ⟨hsl.1, fun h3 => ?_⟩, hnc, hbm, hdb, how⟩, fun k hk => hset_ne _ _ hk⟩
  obtain ⟨b3, off3, cs, T3, fr, e1, e2, e3⟩ := hsl.2 h3
  refine ⟨b3, off3, cs, T3, fr, e1, ?_, e3⟩
  rw [hset_ne]
  · exact e2
  · intro e
    obtain ⟨es, cl, ho, _⟩ := hmo
    rw [e, hm, ho] at e2
    cases e2

theorem Bkt.data {h : Heap} {m : Nat} {o : Obj} {f : ByteArray → Value} {D : List (ByteArray × ByteArray)} (hm : h m = some o) (hmo : MapObj o f D) {a : Option Addr} {n : Nat} {fs : List Int} (hsl : Sl h a n (Value.int .i64) fs) (x : Obj) : Sl (hset h m x) a n (Value.int .i64) fs := by
  refine ⟨hsl.1, fun h3 => ?_⟩
  obtain ⟨b3, off3, cs, T3, fr, e1, e2, e3⟩ := hsl.2 h3
  refine ⟨b3, off3, cs, T3, fr, e1, ?_, e3⟩
  rw [hset_ne]
  · exact e2
  · intro e
    obtain ⟨es, cl, ho, _⟩ := hmo
    rw [e, hm, ho] at e2
    cases e2

theorem putNew1_spec {h : Heap} {t b m : Nat} {d : Option Nat} {s : BS} (B : Bkt h b m d s) {r0 r1 r2 : Nat} {v name : ByteArray} (h0 : Box h r0 (.pointer (some ⟨b, 0, none⟩))) (h1 : Box h r1 (.string name)) (h2 : Box h r2 (.string v)) :
    CallSpec Try.prog 24 #[.pointer (some ⟨r0, 0, none⟩), .pointer (some ⟨r1, 0, none⟩), .pointer (some ⟨r2, 0, none⟩)] h t
      (fun v' h' _ => v' = .int .i64 (if (aGet s.D name).isSome then 5 else 0) ∧ Bkt h' b m d (if (aGet s.D name).isSome then s else { s with D := aPut s.D name v }) ∧ ∀ k, k ≠ m → h' k = h k) := by
  obtain ⟨D, lock, ver, fs⟩ := s
  obtain ⟨o, a, n, c, T, hb, hm, hmo, hsl, hnc, hbm, hdb, how⟩ := B
  obtain ⟨T0, h0⟩ := h0
  obtain ⟨T1, h1⟩ := h1
  obtain ⟨T2, h2⟩ := h2
  simp only at hb hmo hsl
  refine Go.Vc.spec_of_vc (fn := Try.f24) Try.func24 rfl (by kernel_rfl) (by kernel_rfl) (Nat.le_of_ble_eq_true rfl) ?_
  intro hd
  conv => whnf
  refine Go.Vc.draw_intro [⟨0, false, false, false, 0⟩, ⟨1, false, false, false, 1⟩, ⟨2, false, false, false, 3⟩, ⟨3, false, false, false, 7⟩, ⟨4, false, false, false, 0⟩, ⟨5, false, false, false, 31⟩, ⟨6, false, false, false, 63⟩, ⟨7, false, false, false, 127⟩, ⟨8, false, false, false, 127⟩, ⟨9, false, false, false, 255⟩, ⟨10, false, false, false, 1023⟩] (hs := (fun _ => none)) (hsub := (fun _ _ h => nomatch h)) (hm := by kernel_rfl) (hpl := by kernel_rfl) ?_
  conv => whnf
  refine ⟨_, ⟨_, _, _, h0, rfl, rfl⟩, ?_⟩
  conv => whnf
  refine ⟨_, ⟨_, _, _, hb, rfl, rfl⟩, ?_⟩
  conv => whnf
  refine ⟨_, ⟨_, _, _, h1, rfl, rfl⟩, ?_⟩
  conv => whnf
  refine look_strR (f := Value.string) (d := ByteArray.empty) Try.underlying54 Try.underlying9 (inf := Try.types[9]) (by kernel_rfl) (by kernel_rfl) hm hmo ?_
  conv => whnf
  refine bsel_intro (fun hx => ?_) (fun hx => ?_)
  · conv => whnf
    refine ⟨by simp [hx], by simp only [hx, if_true]; exact ⟨o, a, n, c, T, hb, hm, hmo, hsl, hnc, hbm, hdb, how⟩, fun _ _ => rfl⟩
  · conv => whnf
    refine Go.Vc.draw_intro [⟨0, false, false, false, 0⟩, ⟨1, false, false, false, 1⟩, ⟨2, false, false, false, 3⟩, ⟨3, false, false, false, 7⟩, ⟨4, false, false, false, 0⟩, ⟨5, false, false, false, 0⟩, ⟨6, true, false, false, 63⟩] (hs := (fun _ => none)) (hsub := (fun _ _ h => nomatch h)) (hm := by kernel_rfl) (hpl := by kernel_rfl) ?_
    conv => whnf
    refine ⟨_, ⟨_, _, _, h0, rfl, rfl⟩, ?_⟩
    conv => whnf
    refine ⟨_, ⟨_, _, _, hb, rfl, rfl⟩, ?_⟩
    conv => whnf
    refine ⟨_, ⟨_, _, _, h1, rfl, rfl⟩, ?_⟩
    conv => whnf
    refine ⟨_, ⟨_, _, _, h2, rfl, rfl⟩, ?_⟩
    conv => whnf
    refine mapup_str (f := Value.string) Try.underlying54 Try.underlying9 hm hmo ?_
    intro o' hmo'
    conv => whnf
    refine ⟨by simp [hx], ?_, fun k hk => hset_ne _ _ hk⟩
    simp only [hx, Bool.false_eq_true, if_false]
    exact ⟨o', a, n, c, T, by rw [hset_ne _ _ hbm]; exact hb, hset_same _ _ _, hmo', Bkt.data hm hmo hsl o', hnc, hbm, hdb, how⟩

theorem get1_spec {h : Heap} {t b m : Nat} {d : Option Nat} {s : BS} (B : Bkt h b m d s) {r0 r1 r2 : Nat} {v0 : Value} {name : ByteArray} (h0 : Box h r0 (.pointer (some ⟨b, 0, none⟩))) (h1 : Box h r1 (.string name)) (h2 : Box h r2 v0) :
    CallSpec Try.prog 27 #[.pointer (some ⟨r0, 0, none⟩), .pointer (some ⟨r1, 0, none⟩), .pointer (some ⟨r2, 0, none⟩)] h t
      (fun v' h' _ => v' = .int .i64 (if (aGet s.D name).isSome then 0 else 3) ∧ Box h' r2 (.string ((aGet s.D name).getD ByteArray.empty)) ∧ ∀ k, k ≠ r2 → h' k = h k) := by
  obtain ⟨D, lock, ver, fs⟩ := s
  obtain ⟨o, a, n, c, T, hb, hm, hmo, hsl, hnc, hbm, hdb, how⟩ := B
  obtain ⟨T0, h0⟩ := h0
  obtain ⟨T1, h1⟩ := h1
  obtain ⟨T2, h2⟩ := h2
  simp only at hb hmo hsl
  refine Go.Vc.spec_of_vc (fn := Try.f27) Try.func27 rfl (by kernel_rfl) (by kernel_rfl) (Nat.le_of_ble_eq_true rfl) ?_
  intro hd
  conv => whnf
  refine Go.Vc.draw_intro [⟨0, false, false, false, 0⟩, ⟨1, false, false, false, 1⟩, ⟨2, false, false, false, 3⟩, ⟨3, false, false, false, 7⟩, ⟨4, false, false, false, 0⟩, ⟨5, false, false, false, 31⟩, ⟨6, false, false, false, 63⟩, ⟨7, false, false, false, 127⟩, ⟨8, false, true, false, 127⟩, ⟨9, true, false, true, 255⟩, ⟨10, false, false, false, 1023⟩] (hs := (fun _ => none)) (hsub := (fun _ _ h => nomatch h)) (hm := by kernel_rfl) (hpl := by kernel_rfl) ?_
  conv => whnf
  refine ⟨_, ⟨_, _, _, h0, rfl, rfl⟩, ?_⟩
  conv => whnf
  refine ⟨_, ⟨_, _, _, hb, rfl, rfl⟩, ?_⟩
  conv => whnf
  refine ⟨_, ⟨_, _, _, h1, rfl, rfl⟩, ?_⟩
  conv => whnf
  refine look_strR (f := Value.string) (d := ByteArray.empty) Try.underlying54 Try.underlying9 (inf := Try.types[9]) (by kernel_rfl) (by kernel_rfl) hm hmo ?_
  conv => whnf
  refine ⟨rfl, _, _, _, h2, Go.Vc.lt_of_blt rfl, rfl, ?_⟩
  rintro _ rfl
  conv => whnf
  refine ⟨sub_none _, ?_⟩
  conv => whnf
  refine bsel_intro (fun hx => ?_) (fun hx => ?_)
  · conv => whnf
    have hx : (aGet D name).isSome = false := by simpa using hx
    exact ⟨by simp [hx], ⟨T2, hset_same _ _ _⟩, fun k hk => hset_ne _ _ hk⟩
  · conv => whnf
    have hx : (aGet D name).isSome = true := by simpa using hx
    exact ⟨by simp [hx], ⟨T2, hset_same _ _ _⟩, fun k hk => hset_ne _ _ hk⟩

def swapR (s : BS) (v : Int) (x : ByteArray) : Int × BS := if v = s.ver then (0, { s with lock := x, ver := v + 1 }) else (6, s)

theorem swap1_spec {h : Heap} {t b m : Nat} {d : Option Nat} {s : BS} (B : Bkt h b m d s) {r0 r1 r2 : Nat} {v : Int} {x : ByteArray} (h0 : Box h r0 (.int .i64 v)) (h1 : Box h r1 (.pointer (some ⟨b, 0, none⟩))) (h2 : Box h r2 (.string x)) (hv : -2^62 ≤ v) (hv2 : v ≤ 2^62) (hr : r1 ≠ b) (hr0 : r0 ≠ b) :
    CallSpec Try.prog 21 #[.pointer (some ⟨r0, 0, none⟩), .pointer (some ⟨r1, 0, none⟩), .pointer (some ⟨r2, 0, none⟩)] h t
      (fun v' h' _ => v' = .int .i64 (swapR s v x).1 ∧ Bkt h' b m d (swapR s v x).2 ∧ ∀ k, k ≠ b → h' k = h k) := by
  obtain ⟨D, lock, ver, fs⟩ := s
  obtain ⟨o, a, n, c, T, hb, hm, hmo, hsl, hnc, hbm, hdb, how⟩ := B
  obtain ⟨T0, h0⟩ := h0
  obtain ⟨T1, h1⟩ := h1
  obtain ⟨T2, h2⟩ := h2
  simp only at hb hmo hsl
  refine Go.Vc.spec_of_vc (fn := Try.f21) Try.func21 rfl (by kernel_rfl) (by kernel_rfl) (Nat.le_of_ble_eq_true rfl) ?_
  intro hd
  conv => whnf
  refine Go.Vc.draw_intro [⟨0, false, false, false, 0⟩, ⟨1, false, false, false, 0⟩, ⟨2, false, false, false, 2⟩, ⟨3, false, false, false, 6⟩, ⟨4, false, false, false, 14⟩, ⟨5, false, false, false, 31⟩] (hs := (fun _ => none)) (hsub := (fun _ _ h => nomatch h)) (hm := by kernel_rfl) (hpl := by kernel_rfl) ?_
  conv => whnf
  refine ⟨_, ⟨_, _, _, h0, rfl, rfl⟩, ?_⟩
  conv => whnf
  refine ⟨_, ⟨_, _, _, h1, rfl, rfl⟩, ?_⟩
  conv => whnf
  refine ⟨_, ⟨_, _, _, hb, rfl, rfl⟩, ?_⟩
  conv => whnf
  refine bsel_intro (fun hx => ?_) (fun hx => ?_)
  · conv => whnf
    have hx : v ≠ ver := by simpa using hx
    exact ⟨by simp [swapR, hx], by simp only [swapR, hx, if_false]; exact ⟨o, a, n, c, T, hb, hm, hmo, hsl, hnc, hbm, hdb, how⟩, fun _ _ => rfl⟩
  · conv => whnf
    have hx : v = ver := by simpa using hx
    refine Go.Vc.draw_intro [⟨0, false, false, false, 0⟩, ⟨1, false, true, false, 0⟩, ⟨2, false, false, false, 0⟩, ⟨3, false, true, false, 0⟩, ⟨4, false, true, false, 8⟩, ⟨5, false, false, false, 5⟩, ⟨6, false, false, false, 37⟩, ⟨7, true, false, true, 101⟩, ⟨8, false, false, false, 255⟩, ⟨9, false, false, false, 511⟩, ⟨10, true, false, false, 1023⟩] (hs := (hdel h b)) (hsub := (sub_del h b)) (hm := by kernel_rfl) (hpl := by kernel_rfl) ?_
    conv => whnf
    refine ⟨_, ⟨_, _, _, h1, rfl, rfl⟩, ?_⟩
    conv => whnf
    refine ⟨_, ⟨_, _, _, hdel_ne hr h1, rfl, rfl⟩, ?_⟩
    conv => whnf
    refine ⟨_, ⟨_, _, _, h2, rfl, rfl⟩, ?_⟩
    conv => whnf
    refine ⟨_, ⟨_, _, _, hdel_ne hr0 h0, rfl, rfl⟩, ?_⟩
    conv => whnf
    refine ⟨_, rfl, ?_⟩
    conv => whnf
    refine ⟨rfl, _, _, _, hb, Go.Vc.lt_of_blt rfl, rfl, ?_⟩
    rintro _ rfl
    conv => whnf
    refine ⟨sub_del_set _ _ _, ?_⟩
    conv => whnf
    refine ⟨rfl, _, _, _, hset_same _ _ _, Go.Vc.lt_of_blt rfl, rfl, ?_⟩
    rintro _ rfl
    conv => whnf
    rw [hset_hset]
    subst hx
    refine ⟨by simp [swapR], ?_, fun k hk => hset_ne _ _ hk⟩
    simp only [swapR, if_true]
    refine ⟨o, a, n, c, T, ?_, by rw [hset_ne _ _ (fun e => hbm e.symm)]; exact hm, hmo, ⟨hsl.1, fun h3 => ?_⟩, hnc, hbm, hdb, how⟩
    · rw [hset_same, wi (by omega) (by omega)]; rfl
    · obtain ⟨b3, off3, cs, T3, fr, e1, e2, e3⟩ := hsl.2 h3
      refine ⟨b3, off3, cs, T3, fr, e1, ?_, e3⟩
      rw [hset_ne]
      · exact e2
      · intro e; apply hdb; rw [← how, e1, ← e]; rfl

theorem held_spec {h : Heap} {t b m : Nat} {d : Option Nat} {s : BS} (B : Bkt h b m d s) :
    CallSpec Try.prog 11 #[.pointer (some ⟨b, 0, none⟩)] h t (fun v' h' t' => v' = .tuple #[.string s.lock, .int .i64 s.ver] ∧ h = h' ∧ t = t') := by
  obtain ⟨o, a, n, c, T, hb, _⟩ := B
  refine Go.Vc.spec_of_vc (fn := Try.f11) Try.func11 rfl (by kernel_rfl) (by kernel_rfl) (Nat.le_of_ble_eq_true rfl) ?_
  intro hd
  conv => whnf
  refine Go.Vc.draw_intro [⟨0, false, false, false, 0⟩, ⟨1, false, false, false, 1⟩, ⟨2, false, false, false, 3⟩, ⟨3, false, false, false, 7⟩, ⟨4, false, false, false, 0⟩, ⟨5, false, false, false, 16⟩, ⟨6, false, false, false, 48⟩, ⟨7, false, false, false, 112⟩, ⟨8, false, false, false, 15⟩, ⟨9, false, false, false, 511⟩] (hs := (fun _ => none)) (hsub := (fun _ _ h => nomatch h)) (hm := by kernel_rfl) (hpl := by kernel_rfl) ?_
  conv => whnf
  refine ⟨_, ⟨_, _, _, hb, rfl, rfl⟩, ?_⟩
  conv => whnf
  refine ⟨_, ⟨_, _, _, hb, rfl, rfl⟩, ?_⟩
  conv => whnf
  exact ⟨rfl, rfl, rfl⟩

theorem peek_spec {h : Heap} {t b m : Nat} {d : Option Nat} {s : BS} (B : Bkt h b m d s) (name : ByteArray) :
    CallSpec Try.prog 14 #[.pointer (some ⟨b, 0, none⟩), .string name] h t (fun v' h' t' => v' = .tuple #[.string ((aGet s.D name).getD ByteArray.empty), .bool (aGet s.D name).isSome] ∧ h = h' ∧ t = t') := by
  obtain ⟨o, a, n, c, T, hb, hm, hmo, _⟩ := B
  refine Go.Vc.spec_of_vc (fn := Try.f14) Try.func14 rfl (by kernel_rfl) (by kernel_rfl) (Nat.le_of_ble_eq_true rfl) ?_
  intro hd
  conv => whnf
  refine ⟨_, ⟨_, _, _, hb, rfl, rfl⟩, ?_⟩
  conv => whnf
  refine look_str (f := Value.string) (d := ByteArray.empty) Try.underlying54 Try.underlying9 (inf := Try.types[9]) (by kernel_rfl) (by kernel_rfl) hm hmo ?_
  conv => whnf
  exact ⟨rfl, rfl, rfl⟩

theorem new_spec (h : Heap) (t : Nat) :
    CallSpec Try.prog 9 #[] h t (fun v' h' t' => ∃ b m, v' = .pointer (some ⟨b, 0, none⟩) ∧ t ≤ b ∧ t ≤ m ∧ b < t' ∧ m < t' ∧ Bkt h' b m none ⟨[], ByteArray.empty, 0, []⟩ ∧ Sub h h') := by
  refine Go.Vc.spec_of_vc (fn := Try.f9) Try.func9 rfl (by kernel_rfl) (by kernel_rfl) (Nat.le_of_ble_eq_true rfl) ?_
  intro hd
  conv => whnf
  intro r hr
  conv => whnf
  intro r2 hr2
  conv => whnf
  refine ⟨r2, r, rfl, by omega, hr, by omega, by omega, ?_, ?_⟩
  · refine ⟨_, none, 0, 0, ⟨56, rfl⟩, hset_same _ _ _, by rw [hset_ne _ _ (by omega), hset_same], ⟨#[], 0, rfl, rfl, by simp, by simp, by simp⟩, Sl.nil _ _ _, Nat.le_refl _, by omega, by simp, rfl⟩
  · exact (hd.sub_new hr _).trans ((hd.set r _ (r + 1) (by omega) (by omega)).sub_new hr2 _)
end Go.Proofs.Ytjolbngckdfelaa
