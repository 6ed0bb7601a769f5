/- The bucket's calls: Swap, Put, PutNew, Get, Lock, each by a contract over the known heap. -/
import Derived.Test.YtjolbngckdfelaaBucket1
namespace Go.Proofs.Ytjolbngckdfelaa
open Go Go.Vc
set_option maxRecDepth 10000
set_option linter.unusedVariables false

theorem Bkt.sub {h h' : Heap} {b m : Nat} {d : Option Nat} {s : BS} (B : Bkt h b m d s) (hs : Sub h h') : Bkt h' b m d s := B.keep (fun k _ o ho => hs k o ho)
/-- All but the bucket's own two blocks stays. -/
def FrB (b m : Nat) (h h' : Heap) : Prop := ∀ k o, k ≠ b → k ≠ m → h k = some o → h' k = some o
theorem FrB.of_sub {b m : Nat} {h h' : Heap} (hs : Sub h h') : FrB b m h h' := fun k o _ _ ho => hs k o ho
theorem FrB.trans {b m : Nat} {x y z : Heap} (p : FrB b m x y) (q : FrB b m y z) : FrB b m x z := fun k o h1 h2 ho => q k o h1 h2 (p k o h1 h2 ho)
theorem Bkt.inb {h : Heap} {b m : Nat} {d : Option Nat} {s : BS} (B : Bkt h b m d s) : ∃ o, h b = some o := let ⟨_, _, _, _, _, hb, _⟩ := B; ⟨_, hb⟩
theorem Bkt.inm {h : Heap} {b m : Nat} {d : Option Nat} {s : BS} (B : Bkt h b m d s) : ∃ o, h m = some o := let ⟨o, _, _, _, _, _, hm, _⟩ := B; ⟨o, hm⟩

theorem swap_spec {h : Heap} {t b m : Nat} {d : Option Nat} {s : BS} (B : Bkt h b m d s) {v : Int} (x : ByteArray) (hv : -2^62 ≤ v) (hv2 : v ≤ 2^62) :
    CallSpec Try.prog 12 #[.pointer (some ⟨b, 0, none⟩), .int .i64 v, .string x] h t
      (fun v' h' _ => v' = .int .i64 (callR s true (fun s => swapR s v x)).1 ∧ Bkt h' b m d (callR s true (fun s => swapR s v x)).2 ∧ FrB b m h h') := by
  refine Go.Vc.spec_of_vc (fn := Try.f12) Try.func12 rfl (by kernel_rfl) (by kernel_rfl) (Nat.le_of_ble_eq_true rfl) ?_
  intro hd
  conv => whnf
  intro r3 hr3
  conv => whnf
  intro r4 hr4
  conv => whnf
  intro r5 hr5
  conv => whnf
  have hs1 := hd.sub_new hr3 (.cells #[.pointer (some ⟨b, 0, none⟩)] 24)
  have hd1 := hd.set r3 (.cells #[.pointer (some ⟨b, 0, none⟩)] 24) (r3 + 1) (by omega) (by omega)
  have hs2 := hd1.sub_new hr4 (.cells #[.int .i64 v] 3)
  have hd2 := hd1.set r4 (.cells #[.int .i64 v] 3) (r4 + 1) (by omega) (by omega)
  have hs3 := hd2.sub_new hr5 (.cells #[.string x] 9)
  have hsub := hs1.trans (hs2.trans hs3)
  have B1 := B.sub hsub
  obtain ⟨ob, hob⟩ := B.inb
  have hbt := hd _ _ hob
  refine ⟨_, ⟨_, _, _, hs3 _ _ (hs2 _ _ (hset_same _ _ _)), rfl, rfl⟩, ?_⟩
  conv => whnf
  refine (call_spec B1 true _ rfl _ (fun s => swapR s v x) (fun h1 h' => ∀ k, k ≠ b → h' k = h1 k) (fun _ _ _ => rfl) ?_).mono ?_
  · intro h1 t1 _ hd1' B2 hk
    have e3 : Box h1 r3 (.pointer (some ⟨b, 0, none⟩)) := ⟨_, by rw [hk _ (by omega)]; exact hs3 _ _ (hs2 _ _ (hset_same _ _ _))⟩
    have e4 : Box h1 r4 (.int .i64 v) := ⟨_, by rw [hk _ (by omega)]; exact hs3 _ _ (hset_same _ _ _)⟩
    have e5 : Box h1 r5 (.string x) := ⟨_, by rw [hk _ (by omega)]; exact hset_same _ _ _⟩
    exact swap1_spec B2 e4 e3 e5 hv hv2 (by omega) (by omega)
  · rintro _ h' t' hd' _ ⟨rfl, B3, h1, hk1, hk2⟩
    conv => whnf
    refine ⟨rfl, B3, ?_⟩
    intro k o hkb _ ho
    rw [hk2 k hkb, hk1 k hkb]
    exact hsub k o ho

def putR (name x : ByteArray) (s : BS) : Int × BS := (0, { s with D := aPut s.D name x })
def isNamed (name : ByteArray) : Bool := decide (name ≠ ⟨#[]⟩ ∧ name.size ≤ 100)

theorem put_spec {h : Heap} {t b m : Nat} {d : Option Nat} {s : BS} (B : Bkt h b m d s) (name x : ByteArray) :
    CallSpec Try.prog 13 #[.pointer (some ⟨b, 0, none⟩), .string name, .string x] h t
      (fun v' h' _ => v' = .int .i64 (callR s (isNamed name) (putR name x)).1 ∧ Bkt h' b m d (callR s (isNamed name) (putR name x)).2 ∧ FrB b m h h') := by
  refine Go.Vc.spec_of_vc (fn := Try.f13) Try.func13 rfl (by kernel_rfl) (by kernel_rfl) (Nat.le_of_ble_eq_true rfl) ?_
  intro hd
  conv => whnf
  intro r3 hr3
  conv => whnf
  intro r4 hr4
  conv => whnf
  intro r5 hr5
  conv => whnf
  have hs1 := hd.sub_new hr3 (.cells #[.pointer (some ⟨b, 0, none⟩)] 24)
  have hd1 := hd.set r3 (.cells #[.pointer (some ⟨b, 0, none⟩)] 24) (r3 + 1) (by omega) (by omega)
  have hs2 := hd1.sub_new hr4 (.cells #[.string name] 9)
  have hd2 := hd1.set r4 (.cells #[.string name] 9) (r4 + 1) (by omega) (by omega)
  have hs3 := hd2.sub_new hr5 (.cells #[.string x] 9)
  have hsub := hs1.trans (hs2.trans hs3)
  have B1 := B.sub hsub
  obtain ⟨ob, hob⟩ := B.inb
  have hbt := hd _ _ hob
  obtain ⟨om, hom⟩ := B.inm
  have hmt := hd _ _ hom
  have g3 := hs3 _ _ (hs2 _ _ (hset_same h r3 (.cells #[.pointer (some ⟨b, 0, none⟩)] 24)))
  have g4 := hs3 _ _ (hset_same _ r4 (.cells #[.string name] 9))
  refine Go.Vc.draw_intro [⟨0, false, true, false, 0⟩, ⟨1, false, false, false, 0⟩, ⟨3, false, true, false, 0⟩, ⟨2, true, false, true, 2⟩, ⟨4, true, false, false, 15⟩, ⟨5, false, false, false, 31⟩] (hs := _) (hsub := (Sub.refl _)) (hm := by kernel_rfl) (hpl := by kernel_rfl) ?_
  conv => whnf
  refine ⟨_, ⟨_, _, _, g3, rfl, rfl⟩, ?_⟩
  conv => whnf
  refine ⟨_, ⟨_, _, _, g4, rfl, rfl⟩, ?_⟩
  conv => whnf
  refine (named_spec name _ _).mono ?_
  rintro _ _ _ _ _ ⟨rfl, rfl, rfl⟩
  conv => whnf
  refine ⟨Sub.refl _, ?_⟩
  conv => whnf
  refine (call_spec B1 (isNamed name) _ rfl _ (putR name x) (fun h1 h' => ∀ k, k ≠ m → h' k = h1 k) (fun _ _ _ => rfl) ?_).mono ?_
  · intro h1 t1 _ hd1' B2 hk
    have e3 : Box h1 r3 (.pointer (some ⟨b, 0, none⟩)) := ⟨_, by rw [hk _ (by omega)]; exact g3⟩
    have e4 : Box h1 r4 (.string name) := ⟨_, by rw [hk _ (by omega)]; exact g4⟩
    have e5 : Box h1 r5 (.string x) := ⟨_, by rw [hk _ (by omega)]; exact hset_same _ _ _⟩
    exact put1_spec B2 e5 e3 e4
  · rintro _ h' t' hd' _ ⟨rfl, B3, h1, hk1, hk2⟩
    conv => whnf
    refine ⟨rfl, B3, ?_⟩
    intro k o hkb hkm ho
    rw [hk2 k hkm, hk1 k hkb]
    exact hsub k o ho

def putNewR (name x : ByteArray) (s : BS) : Int × BS := if (aGet s.D name).isSome then (5, s) else (0, { s with D := aPut s.D name x })

theorem putNew_spec {h : Heap} {t b m : Nat} {d : Option Nat} {s : BS} (B : Bkt h b m d s) (name x : ByteArray) :
    CallSpec Try.prog 15 #[.pointer (some ⟨b, 0, none⟩), .string name, .string x] h t
      (fun v' h' _ => v' = .int .i64 (callR s (isNamed name) (putNewR name x)).1 ∧ Bkt h' b m d (callR s (isNamed name) (putNewR name x)).2 ∧ FrB b m h h') := by
  refine Go.Vc.spec_of_vc (fn := Try.f15) Try.func15 rfl (by kernel_rfl) (by kernel_rfl) (Nat.le_of_ble_eq_true rfl) ?_
  intro hd
  conv => whnf
  intro r3 hr3
  conv => whnf
  intro r4 hr4
  conv => whnf
  intro r5 hr5
  conv => whnf
  have hs1 := hd.sub_new hr3 (.cells #[.pointer (some ⟨b, 0, none⟩)] 24)
  have hd1 := hd.set r3 (.cells #[.pointer (some ⟨b, 0, none⟩)] 24) (r3 + 1) (by omega) (by omega)
  have hs2 := hd1.sub_new hr4 (.cells #[.string name] 9)
  have hd2 := hd1.set r4 (.cells #[.string name] 9) (r4 + 1) (by omega) (by omega)
  have hs3 := hd2.sub_new hr5 (.cells #[.string x] 9)
  have hsub := hs1.trans (hs2.trans hs3)
  have B1 := B.sub hsub
  obtain ⟨ob, hob⟩ := B.inb
  have hbt := hd _ _ hob
  obtain ⟨om, hom⟩ := B.inm
  have hmt := hd _ _ hom
  have g3 := hs3 _ _ (hs2 _ _ (hset_same h r3 (.cells #[.pointer (some ⟨b, 0, none⟩)] 24)))
  have g4 := hs3 _ _ (hset_same _ r4 (.cells #[.string name] 9))
  refine Go.Vc.draw_intro [⟨0, false, true, false, 0⟩, ⟨1, false, false, false, 0⟩, ⟨3, false, true, false, 0⟩, ⟨2, true, false, true, 2⟩, ⟨4, true, false, false, 15⟩, ⟨5, false, false, false, 31⟩] (hs := _) (hsub := (Sub.refl _)) (hm := by kernel_rfl) (hpl := by kernel_rfl) ?_
  conv => whnf
  refine ⟨_, ⟨_, _, _, g3, rfl, rfl⟩, ?_⟩
  conv => whnf
  refine ⟨_, ⟨_, _, _, g4, rfl, rfl⟩, ?_⟩
  conv => whnf
  refine (named_spec name _ _).mono ?_
  rintro _ _ _ _ _ ⟨rfl, rfl, rfl⟩
  conv => whnf
  refine ⟨Sub.refl _, ?_⟩
  conv => whnf
  refine (call_spec B1 (isNamed name) _ rfl _ (putNewR name x) (fun h1 h' => ∀ k, k ≠ m → h' k = h1 k) (fun _ _ _ => rfl) ?_).mono ?_
  · intro h1 t1 _ hd1' B2 hk
    have e3 : Box h1 r3 (.pointer (some ⟨b, 0, none⟩)) := ⟨_, by rw [hk _ (by omega)]; exact g3⟩
    have e4 : Box h1 r4 (.string name) := ⟨_, by rw [hk _ (by omega)]; exact g4⟩
    have e5 : Box h1 r5 (.string x) := ⟨_, by rw [hk _ (by omega)]; exact hset_same _ _ _⟩
    refine (putNew1_spec B2 e3 e4 e5).mono ?_
    rintro _ h' t' _ _ ⟨rfl, B3, hk3⟩
    refine ⟨?_, ?_, hk3⟩
    · unfold putNewR; split <;> rfl
    · unfold putNewR
      split
      · rename_i hx; rw [if_pos hx] at B3; exact B3
      · rename_i hx; rw [if_neg hx] at B3; exact B3
  · rintro _ h' t' hd' _ ⟨rfl, B3, h1, hk1, hk2⟩
    conv => whnf
    refine ⟨rfl, B3, ?_⟩
    intro k o hkb hkm ho
    rw [hk2 k hkm, hk1 k hkb]
    exact hsub k o ho
end Go.Proofs.Ytjolbngckdfelaa
