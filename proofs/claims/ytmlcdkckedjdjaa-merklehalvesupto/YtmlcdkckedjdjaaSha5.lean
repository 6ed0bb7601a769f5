/- Write, Sum, Len, Reset, One. -/
import Derived.Test.YtmlcdkckedjdjaaSha4
namespace Go.Proofs.Ytmlcdkckedjdjaa
open Go Go.Vc Go.Sha
set_option maxRecDepth 10000
set_option linter.unusedVariables false

/-- A sum under way at block b: its eight numbers, what waits (at d), how much was written. -/
def HashG (h : Heap) (b : Nat) (d : Option Nat) (HM : St) (R : List UInt8) (N : Int) : Prop :=
  ∃ a n c, h b = some (.cells (HC HM.list KT (.slice a n c) N) 73 (0, 0)) ∧ Own h 5 a n c bv R ∧ owner a = d ∧ d ≠ some b
/-- A sum under way at block b, that was written M; what waits lies at d. -/
def HashAt (h : Heap) (b : Nat) (d : Option Nat) (M : List UInt8) : Prop :=
  ∃ a n c, h b = some (.cells (HC (run (M.length / 64) H0 M).list KT (.slice a n c) M.length) 73 (0, 0)) ∧ Own h 5 a n c bv (M.drop (64 * (M.length / 64))) ∧ owner a = d ∧ d ≠ some b
theorem HashAt.fr {h h' : Heap} {b : Nat} {d : Option Nat} {M : List UInt8} (x : HashAt h b d M) (hk : ∀ k o, k = b ∨ d = some k → h k = some o → h' k = some o) : HashAt h' b d M := by
  obtain ⟨a, n, c, h1, h2, h3, h4⟩ := x
  exact ⟨a, n, c, hk _ _ (.inl rfl) h1, h2.fr (fun k o e ho => hk k o (.inr (h3.symm.trans e)) ho), h3, h4⟩
theorem HashAt.sub {h h' : Heap} {b : Nat} {d : Option Nat} {M : List UInt8} (x : HashAt h b d M) (hs : Sub h h') : HashAt h' b d M := x.fr (fun k o _ ho => hs k o ho)

/-- Known, but not by the walk itself. -/
def Cel (h : Heap) (b : Nat) (c : Array Value) (T : TypeId) : Prop := h b = some (.cells c T (0, 0))

theorem drop_app {M S : List UInt8} : (M ++ S).drop (64 * (M.length / 64)) = M.drop (64 * (M.length / 64)) ++ S := List.drop_append_of_le_length (by omega)
theorem run_write (M S : List UInt8) : run ((M ++ S).length / 64) H0 (M ++ S) = run ((M.drop (64 * (M.length / 64)) ++ S).length / 64) (run (M.length / 64) H0 M) (M.drop (64 * (M.length / 64)) ++ S) := by
  have h1 : (M ++ S).length / 64 = M.length / 64 + (M.drop (64 * (M.length / 64)) ++ S).length / 64 := by
    rw [List.length_append, List.length_append, List.length_drop]; omega
  rw [h1, run_add, run_app _ _ _ _ (by omega), drop_app]
theorem run_succ (i : Nat) (s : St) (m : List UInt8) : run (i + 1) s m = compress (run i s m) ((m.drop (64 * i)).take 64) := by
  rw [run_add]; rfl

theorem write_gen {h : Heap} {t b : Nat} {d : Option Nat} {HM : St} {R : List UInt8} {N : Int} (x : HashG h b d HM R N) (s : ByteArray) (hs : R.length + s.size ≤ 1099511627775) (hN : 0 ≤ N ∧ N + s.size ≤ 4611686018427387904) :
    CallSpec Try.prog 45 #[.pointer (some ⟨b, 0, none⟩), .string s] h t (fun v h' t' => v = .tuple #[] ∧ ∃ d', HashG h' b d' (run ((R ++ s.data.toList).length / 64) HM (R ++ s.data.toList)) ((R ++ s.data.toList).drop (64 * ((R ++ s.data.toList).length / 64))) (N + s.size) ∧ (d' = d ∨ ∃ k, d' = some k ∧ t ≤ k ∧ k < t') ∧ ∀ k o, k ≠ b → d ≠ some k → h k = some o → h' k = some o) := by
  obtain ⟨a, n, c, hb, ho, hod, hdb⟩ := x
  have hsl : s.data.toList.length = s.size := by rw [Array.length_toList]; rfl
  have hbC : Cel h b (HC (HM).list KT (.slice a n c) N) 73 := hb
  refine Go.Vc.spec_of_vc (fn := Try.f45) Try.func45 rfl (by kernel_rfl) (by kernel_rfl) (Nat.le_of_ble_eq_true rfl) ?_
  intro hd
  have hbt := hd _ _ hb
  clear hb
  conv => whnf
  refine Go.Vc.ld_i hbC (HC_n rfl rfl) ?_
  conv => whnf
  repeat (first | ((with_reducible apply Go.Vc.wr_i64); (focus exact And.intro (by omega) (by omega)); conv => whnf))
  refine Go.Vc.st_s (hbC) rfl (by rw [HC_size rfl rfl]; decide) (HC_set_n rfl rfl _) ?_
  intro heS
  conv => whnf
  intro cS hcS
  rw [heS] at hcS
  clear heS
  subst hcS
  conv => whnf
  generalize hh1 : hset h b _ = h1
  have hk1 : ∀ k, k ≠ b → h1 k = h k := fun k hk => by rw [← hh1, hset_ne _ _ hk]
  have hd1 : Dom h1 t := by rw [← hh1]; exact hd.set b _ t (Nat.le_refl _) hbt
  have hb1 : Cel h1 b (HC (HM).list KT (.slice a n c) (N + s.size)) 73 := by rw [← hh1]; exact hset_same _ _ _
  conv => whnf
  refine Go.Vc.ld_i hb1 (HC_r rfl rfl) ?_
  have hnl := ho.1
  conv => whnf
  refine app_str Try.underlying42 Try.underlying9 (inf := Try.types[5]) (by kernel_rfl) (by kernel_rfl) (by kernel_rfl) (ho.keep (fun k hk => hk1 k (fun e => hdb (by rw [← hod, hk, e])))) (by show (n + s.size) * 1 ≤ _; omega) (by omega) (by show 1 ≤ 1000; omega) hd1 ?_
  intro a2 c2 h2 t2 ho2 ht2 hd2 hk2 how2
  have hb2 : Cel h2 b (HC (HM).list KT (.slice a n c) (N + s.size)) 73 := (hk2 b hbt (by rw [hod]; exact hdb)).trans hb1
  conv => whnf
  refine Go.Vc.st_s (hb2) rfl (by rw [HC_size rfl rfl]; decide) (HC_set_r rfl rfl _) ?_
  intro heS
  conv => whnf
  intro cS hcS
  rw [heS] at hcS
  clear heS
  subst hcS
  conv => whnf
  generalize hh3 : hset h2 b _ = h3
  have hk3 : ∀ k, k ≠ b → h3 k = h2 k := fun k hk => by rw [← hh3, hset_ne _ _ hk]
  have hb3 : Cel h3 b (HC (HM).list KT (.slice a2 (n + s.size) c2) (N + s.size)) 73 := by rw [← hh3]; exact hset_same _ _ _
  have how : owner a2 = owner a ∨ ∃ k, owner a2 = some k ∧ t ≤ k ∧ k < t2 := by
    rcases how2 with h | ⟨k, h, hk⟩
    · exact .inl h
    · right
      refine ⟨k, h, hk, ?_⟩
      rcases ho2.2 with ⟨h1, _⟩ | ⟨b', _, cs, fr, ha, _, hb', _⟩
      · rw [h1] at h; cases h
      · rw [ha] at h; cases h; exact hd2 _ _ hb'
  have hne2 : owner a2 ≠ some b := by
    rcases how with h | ⟨k, h, hk, _⟩
    · rw [h, hod]; exact hdb
    · rw [h]; intro e; cases e; omega
  have ho3 := ho2.keep (h' := h3) (fun k hk => hk3 k (fun e => hne2 (by rw [hk, e])))
  have hfin : ∀ k o, k ≠ b → d ≠ some k → h k = some o → h3 k = some o := by
    intro k o hk hdk ho
    rw [hk3 k hk, hk2 k (hd k o ho) (by rw [hod]; exact hdk), hk1 k hk]; exact ho
  generalize hR : R ++ s.data.toList = R0 at *
  refine loop_intro4 (fun (i : Nat) (a' : Option Addr) (n' c' : Nat) => [(0, .pointer (some ⟨b, 0, none⟩))])
    (fun i a' n' c' h' t' => t2 ≤ t' ∧ Cel h' b (HC (run i HM R0).list KT (.slice a' n' c') (N + s.size)) 73 ∧ Own h' 5 a' n' c' bv (R0.drop (64 * i)) ∧ 64 * i ≤ R0.length ∧ owner a' = owner a2 ∧ ∀ k o, k ≠ b → h3 k = some o → h' k = some o)
    (fun _ _ n' _ => n') 0 a2 (n + s.size) c2 ⟨rfl, trivial⟩ ⟨Nat.le_refl _, hb3, by rw [Nat.mul_zero, List.drop_zero]; exact ho3, by omega, rfl, fun k o _ ho => ho⟩ ?_
  rintro i a' n' c' g h4 t4 hd4 ⟨ht4, hb4, ho4, hi4, how4, hk4⟩
  have hl4 := ho4.1
  rw [List.length_drop] at hl4
  have hc4 := ho4.cap
  conv => whnf
  refine Go.Vc.ld_i hb4 (HC_r rfl rfl) ?_
  conv => whnf
  refine br (fun hb1 => ?_) (fun hb1 => ?_)
  · conv => whnf
    refine Go.Vc.ld_i hb4 (HC_r rfl rfl) ?_
    conv => whnf
    repeat (first | ((with_reducible refine And.intro (And.intro ?_ ?_) ?_); (focus omega); (focus omega); conv => whnf))
    refine (block_spec (n := N + s.size) (rest := .slice a' n' c') hb4 (l := (R0.drop (64 * i)).take 64) (ho4.sl.take (by omega))).mono ?_
    rintro _ h5 t5 hd5 ht5 ⟨rfl, hb5', hk5⟩
    have hb5 : Cel h5 b (HC (compress (run i HM R0) ((R0.drop (64 * i)).take 64)).list KT (.slice a' n' c') (N + s.size)) 73 := hb5'
    clear hb5'
    conv => whnf
    refine Go.Vc.ld_i hb5 (HC_r rfl rfl) ?_
    conv => whnf
    repeat (first | ((with_reducible refine And.intro (And.intro ?_ ?_) ?_); (focus omega); (focus omega); conv => whnf) | (intro _ _; conv => whnf))
    rename_i a6 ha6
    have ho5 := (ho4.fr (h' := h5) (fun k o hk ho => hk5 k o (fun e => hne2 (by rw [← how4, hk, e])) ho)).drop (m := 64) (a' := a6) (by omega) ha6
    have how6 : owner a6 = owner a2 := by rw [ha6, owner_cut']; exact how4
    refine Go.Vc.st_s (hb5) rfl (by rw [HC_size rfl rfl]; decide) (HC_set_r rfl rfl _) ?_
    intro heS
    conv => whnf
    intro cS hcS
    rw [heS] at hcS
    clear heS
    subst hcS
    conv => whnf
    conv => whnf
    refine round_end4 (i + 1) a6 (n' - 64) (c' - 64) (by omega) ⟨rfl, trivial⟩ ⟨by omega, ?_, ?_, by omega, how6, ?_⟩
    · rw [run_succ]; exact hset_same _ _ _
    · rw [show 64 * (i + 1) = 64 * i + 64 from by omega, ← List.drop_drop]
      exact ho5.keep (fun k hk => hset_ne _ _ (fun e => hne2 (by rw [← how6, hk, e])))
    · intro k o hk ho
      rw [hset_ne _ _ hk]; exact hk5 k o hk (hk4 k o hk ho)
  · conv => whnf
    have hi5 : R0.length / 64 = i := by omega
    rw [hi5]
    refine ⟨rfl, owner a2, ⟨a', n', c', ?_, ?_, how4, hne2⟩, ?_, ?_⟩
    · exact hb4
    · exact ho4
    · rcases how with h | ⟨k, h, hk, hk2⟩
      · exact .inl (h.trans hod)
      · exact .inr ⟨k, h, hk, by omega⟩
    · intro k o hk hdk ho
      exact hk4 k o hk (hfin k o hk hdk ho)

theorem HashAt.gen {h : Heap} {b : Nat} {d : Option Nat} {M : List UInt8} (x : HashAt h b d M) : HashG h b d (run (M.length / 64) H0 M) (M.drop (64 * (M.length / 64))) M.length := x
theorem write_spec {h : Heap} {t b : Nat} {d : Option Nat} {M : List UInt8} (x : HashAt h b d M) (s : ByteArray) (hs : M.length + s.size ≤ 1099511627775) :
    CallSpec Try.prog 45 #[.pointer (some ⟨b, 0, none⟩), .string s] h t (fun v h' t' => v = .tuple #[] ∧ ∃ d', HashAt h' b d' (M ++ s.data.toList) ∧ (d' = d ∨ ∃ k, d' = some k ∧ t ≤ k ∧ k < t') ∧ ∀ k o, k ≠ b → d ≠ some k → h k = some o → h' k = some o) := by
  have hsl : s.data.toList.length = s.size := by rw [Array.length_toList]; rfl
  refine (write_gen x.gen s (by rw [List.length_drop]; omega) (by omega)).mono ?_
  rintro _ h' t' _ _ ⟨rfl, d', hx, hd', hk⟩
  refine ⟨rfl, d', ?_, hd', hk⟩
  have hall := run_write M s.data.toList
  have htl : ((M ++ s.data.toList).length : Int) = M.length + s.size := by rw [List.length_append, hsl]; simp
  have hdr : (M ++ s.data.toList).drop (64 * ((M ++ s.data.toList).length / 64)) = (M.drop (64 * (M.length / 64)) ++ s.data.toList).drop (64 * ((M.drop (64 * (M.length / 64)) ++ s.data.toList).length / 64)) := by
    have e : (M ++ s.data.toList).length / 64 = M.length / 64 + (M.drop (64 * (M.length / 64)) ++ s.data.toList).length / 64 := by
      rw [List.length_append, List.length_append, List.length_drop]; omega
    rw [e, Nat.mul_add, ← List.drop_drop, drop_app]
  obtain ⟨a, n, c, h1, h2, h3⟩ := hx
  exact ⟨a, n, c, by rw [hall, htl]; exact h1, by rw [hdr]; exact h2, h3⟩

end Go.Proofs.Ytmlcdkckedjdjaa
