import Derived.Test.YtlkpgjicpjjlcaaGreatDoorTileSlow
import Derived.Lib.Builder
import Derived.Lib.UnsafeStr
import Derived.Tactics
import Derived.Tactics2
import Derived.RegionTactic
import Derived.RegionCalls
/- A strings.Builder that is written. -/
set_option linter.unusedSimpArgs false
namespace Go.Vc
open Go
set_option maxRecDepth 20000
variable {P : Program}
theorem gen_loadBytes : ∀ (l : List UInt8) (b off : Nat) (acc : ByteArray) {K : ByteArray → Heap → Nat → Prop} {h : Heap} {t : Nat}, (∀ i (hi : i < l.length), Cell h ⟨b, off + i, none⟩ (bv l[i])) → K ⟨acc.data ++ l.toArray⟩ h t → gen P (loadBytes ⟨b, off, none⟩ acc l.length) K h t
  | [], b, off, acc, K, h, t, _, hk => by
    simp only [List.length_nil, loadBytes, gen_p]
    rwa [show (acc.data ++ ([] : List UInt8).toArray) = acc.data by simp] at hk
  | x :: l, b, off, acc, K, h, t, hc, hk => by
    simp only [List.length_cons, loadBytes, load, gen_b]
    refine ⟨_, hc 0 (by simp), ?_⟩
    have ih := gen_loadBytes l b (off + 1) (acc.push x) (K := K) (h := h) (t := t) (fun i hi => by
      have := hc (i + 1) (by simp; omega)
      rw [show off + (i + 1) = off + 1 + i by omega] at this
      exact this) (by
      rwa [show ((acc.push x).data ++ l.toArray) = acc.data ++ (x :: l).toArray by simp [ByteArray.push]])
    have e : ((x.toNat : Nat) : Int).toNat.toUInt8 = x := by simp
    simp only [bv, List.getElem_cons_zero, addr_add]
    show gen P (loadBytes ⟨b, off + 1, none⟩ (acc.push ((x.toNat : Nat) : Int).toNat.toUInt8) l.length) K h t
    rw [e]
    exact ih
theorem gen_sliceData {ats : Array TypeId} {ty : TypeId} {a : Addr} {n c : Nat} {K : Value → Heap → Nat → Prop} {h : Heap} {t : Nat} (hc : c ≠ 0) (hk : K (.pointer (some a)) h t) : gen P (builtin .unsafeSliceData ats ty #[] #[.slice (some a) n c]) (nextK P K) h t := by
  obtain ⟨k, rfl⟩ : ∃ k, c = k + 1 := ⟨c - 1, by omega⟩
  exact hk
theorem gen_unsafeString {pt it ty e : TypeId} (hp : P.underlying pt = some (.pointer e)) (hc : P.cellsOf e = 1) {b off : Nat} {cs : Array Value} {fr : Nat × Nat} {l : List UInt8} {n : Nat} {K : Value → Heap → Nat → Prop} {h : Heap} {t : Nat} (hb : h b = some (.cells cs e fr)) (hn : l.length = n) (h0 : n ≠ 0) (h63 : n ≤ 1000000000) (hsz : off + n ≤ cs.size)
    (hcs : ∀ i (hi : i < l.length), cs[off + i]? = some (bv l[i])) (hk : K (.string ⟨l.toArray⟩) (hset h b (freezeO (.cells cs e fr) off n)) t) :
    gen P (builtin .unsafeString #[pt, it] ty #[] #[.pointer (some ⟨b, off, none⟩), .int .i64 (n : Nat)]) (nextK P K) h t := by
  have hdef : builtin .unsafeString #[pt, it] ty #[] #[.pointer (some ⟨b, off, none⟩), .int .i64 (n : Nat)] =
      (do
        let v ← (do
          let n ← asInt (.int .i64 (n : Nat))
          if n < 0 then runtimePanic (.error "unsafe.String: len out of range")
          if n > IntKind.i64.max then unsupported (.unsafePointer "String: a length above the largest int")
          if n = 0 then pure (.string .empty)
          else if ← variablesAt ⟨b, off, none⟩ (← elemOf pt) n.toNat then do
            let s ← loadBytes ⟨b, off, none⟩ .empty n.toNat
            freeze ⟨b, off, none⟩ n.toNat
            pure (.string s)
          else unsupported (.unsafePointer "String: not so many bytes at ptr"))
        pure (.value v)) := rfl
  rw [hdef]
  have hmax : IntKind.i64.max = 9223372036854775807 := rfl
  have hneg : ¬ ((n : Nat) : Int) < 0 := by omega
  have hbig : ¬ ((n : Nat) : Int) > 9223372036854775807 := by omega
  have hz : ¬ ((n : Nat) : Int) = 0 := by omega
  have hlies : liesAt P P.depth e (cs.size / P.cellsOf e) off e n = true := by
    have hd : P.depth = (2 * (P.types.size + Made.depth) + 1) + 1 := rfl
    rw [hd]
    simp only [liesAt, Bool.or_eq_true]
    left
    rw [hd]
    simp [rowAt, hc, hsz, sameLayout, Nat.mod_one]
  simp only [gen_b, asInt, asIntOf, gen_p, hmax, hneg, hbig, hz, if_false, variablesAt, elemOf, gen_underlying hp, program, gen, shape]
  refine ⟨_, hb, ?_⟩
  simp only [shapeO, gen_p, hlies, if_true, gen_b, Int.toNat_natCast]
  subst hn
  refine gen_loadBytes l b off .empty (fun i hi => ⟨cs, e, fr, hb, rfl, hcs i hi⟩) ?_
  simp only [freeze, gen]
  refine ⟨h0, _, hb, ?_⟩
  show K (.string ⟨ByteArray.empty.data ++ l.toArray⟩) (hset h b (freezeO (.cells cs e fr) off l.length)) t
  simpa using hk
end Go.Vc
namespace Go.Proofs.YtlkpgjicpjjlcaaGreatDoor
open Go Go.Vc
set_option maxRecDepth 100000
set_option linter.unusedVariables false
theorem cc_used (b : Nat) (w : World) (h0 : w.cell? ⟨b, 0, none⟩ = some (.pointer (some ⟨b, 0, none⟩))) :
    Calls Tryz.prog 71 #[.pointer (some ⟨b, 0, none⟩)] w fun e w' => e = .returned (.tuple #[]) ∧ w' = w := by
  go_enter Tryz.func71, Tryz.ntmps71
  go_wp2
  rw [Lib.run_neq_ptr_same (P := Tryz.prog) w _ Tryz.underlying83 (show Tryz.prog.info? 85 = some Tryz.types[85] by kernel_rfl)]
  go_wp2
  go_end0
  exact ⟨rfl, rfl⟩
theorem cc_fresh (b : Nat) (w : World) (h0 : w.cell? ⟨b, 0, none⟩ = some (.pointer none)) (hsh : w.shape? b = some (85, 2)) (hfz : w.frozen? ⟨b, 0, none⟩ = false) :
    Calls Tryz.prog 71 #[.pointer (some ⟨b, 0, none⟩)] w fun e w' => e = .returned (.tuple #[]) ∧ w' = w.setCell ⟨b, 0, none⟩ (.pointer (some ⟨b, 0, none⟩)) := by
  have hj : Tryz.prog.info? 85 = some Tryz.types[85] := by kernel_rfl
  go_enter Tryz.func71, Tryz.ntmps71
  go_wp2
  rw [Lib.run_to_unsafe (P := Tryz.prog) w ⟨b, 0, none⟩ Tryz.underlying83 Tryz.underlying159 hj (by decide) hsh (Nat.zero_lt_succ 1)]
  simp only [Result.andThen]
  rw [Oper.upon_value]
  go_wp2
  rw [run_callFunc_extern Tryz.func90 (by kernel_rfl) (by kernel_rfl) (by kernel_rfl) (e := Extern.AbiNoEscape.same) (by kernel_rfl)]
  rw [Lib.run_noEscape]
  simp only [Result.andThen]
  rw [Oper.upon_value]
  go_wp2
  rw [Lib.run_from_unsafe (P := Tryz.prog) w ⟨b, 0, none⟩ Tryz.underlying159 Tryz.underlying83 hj hsh (by kernel_rfl)]
  simp only [Result.andThen]
  rw [Oper.upon_value]
  go_wp2
  go_end0
  exact ⟨rfl, rfl⟩
theorem frz_no {g w : World} {h : Heap} {t b i : Nat} {c : Array Value} {T : TypeId} (hr : Rel g h t w) (hb : h b = some (.cells c T (0, 0))) : w.frozen? ⟨b, i, none⟩ = false := by
  have := hr.blk _ _ hb
  simp [World.frozen?, this]
theorem copycheck_used {h : Heap} {t b : Nat} {v : Value} (hb : h b = some (.cells #[.pointer (some ⟨b, 0, none⟩), v] 85 (0, 0))) :
    CallSpec Tryz.prog 71 #[.pointer (some ⟨b, 0, none⟩)] h t (fun v h' t' => v = .tuple #[] ∧ h' = h ∧ t' = t) := by
  refine ⟨callable_of Tryz.func71 rfl (by kernel_rfl), fun g w hr => ?_⟩
  refine (cc_used b w ((cell_of_rel hr hb rfl).trans rfl)).mono ?_
  rintro _ _ ⟨rfl, rfl⟩
  exact ⟨_, h, t, rfl, hr, Nat.le_refl _, rfl, rfl, rfl⟩
theorem copycheck_fresh {h : Heap} {t b : Nat} {v : Value} (hb : h b = some (.cells #[.pointer none, v] 85 (0, 0))) :
    CallSpec Tryz.prog 71 #[.pointer (some ⟨b, 0, none⟩)] h t (fun y h' t' => y = .tuple #[] ∧ h' = hset h b (.cells #[.pointer (some ⟨b, 0, none⟩), v] 85 (0, 0)) ∧ t' = t) := by
  refine ⟨callable_of Tryz.func71 rfl (by kernel_rfl), fun g w hr => ?_⟩
  refine (cc_fresh b w ((cell_of_rel hr hb rfl).trans rfl) (by have := hr.blk _ _ hb; simp [World.shape?, this]) (frz_no hr hb)).mono ?_
  rintro _ _ ⟨rfl, rfl⟩
  exact ⟨_, _, t, rfl, hr.setCell (i := 0) (.pointer (some ⟨b, 0, none⟩)) hb, Nat.le_refl _, rfl, rfl, rfl⟩
/-- A builder that holds some bytes. -/
def BldAt (h : Heap) (b q : Nat) (l : List UInt8) : Prop := ∃ p a n c, h b = some (.cells #[p, .slice a n c] 85 (0, 0)) ∧ (p = .pointer none ∨ p = .pointer (some ⟨b, 0, none⟩)) ∧ Vc.Own h 5 a n c bv l ∧ (∀ x, owner a = some x → q ≤ x) ∧ b < q
theorem bwrite_spec {h : Heap} {t b q : Nat} {l : List UInt8} (s : ByteArray) (hB : BldAt h b q l) (hq : q ≤ t) (hs : l.length + s.size ≤ 1000000000) :
    CallSpec Tryz.prog 45 #[.pointer (some ⟨b, 0, none⟩), .string s] h t (fun v h' t' => v = .tuple #[.int .i64 (s.size : Nat), .nilIface] ∧ BldAt h' b q (l ++ s.data.toList) ∧ (∀ k, k < q → k ≠ b → h' k = h k) ∧ t ≤ t') := by
  obtain ⟨p, a, n, c, hb, hp, ho, hw, hbq⟩ := hB
  have hn : l.length = n := ho.1
  refine Go.Vc.spec_of_vc (fn := Tryz.f45) Tryz.func45 rfl (by kernel_rfl) (by kernel_rfl) (Nat.le_of_ble_eq_true rfl) ?_
  intro hd
  conv => whnf
  rcases hp with rfl | rfl
  · refine (copycheck_fresh hb).mono ?_
    rintro _ h1 t1 hd1 _ ⟨rfl, he, rfl⟩
    have hb1 : h1 b = some (.cells #[.pointer (some ⟨b, 0, none⟩), .slice a n c] 85 (0, 0)) := by rw [he, hset_same]
    have ho1 : Vc.Own h1 5 a n c bv l := ho.fr (fun x o hx ho => by have := hw x hx; rw [he, hset_ne _ _ (by omega)]; exact ho)
    have hf1 : ∀ k, k ≠ b → h1 k = h k := fun k hk => by rw [he, hset_ne _ _ hk]
    clear he
    have hdb := hd _ _ hb
    conv => whnf
    repeat (first | ((with_reducible apply Go.Vc.ld_i); (focus ((repeat (first | with_reducible assumption | with_reducible exact Go.Vc.hset_same _ _ _ | with_reducible refine (Go.Vc.hset_ne _ _ (by omega)).trans ?_)); done)); (focus exact rfl); conv => whnf))
    refine app_str (inf := Tryz.types[5]) Tryz.underlying48 Tryz.underlying9 rfl (by kernel_rfl) (by kernel_rfl) ho1 (by
      show (n + s.size) * 1 ≤ _
      omega) (by omega) (by show 1 ≤ 1000; decide) hd1 ?_
    intro a7 c7 h7 t7 ho7 ht7 hd7 hk7 how7
    have hw7 : ∀ x, owner a7 = some x → q ≤ x := by
      intro x hx
      rcases how7 with e | ⟨r, e, hr⟩
      · exact hw x (by rw [← e]; exact hx)
      · rw [e] at hx
        obtain rfl := Option.some.inj hx
        omega
    have hb7 : h7 b = some (.cells #[.pointer (some ⟨b, 0, none⟩), .slice a n c] 85 (0, 0)) := by
      rw [hk7 b (by omega) (fun e => by have := hw b e; omega)]
      exact hb1
    conv => whnf
    repeat (first | ((with_reducible apply Go.Vc.st_i); (focus ((repeat (first | with_reducible assumption | with_reducible exact Go.Vc.hset_same _ _ _ | with_reducible refine (Go.Vc.hset_ne _ _ (by omega)).trans ?_)); done)); (focus exact rfl); (focus exact rfl); (focus exact rfl); (conv => whnf); intro cA hcA; (first | (simp only [List.setIfInBounds_toArray, List.set_cons_succ, List.set_cons_zero] at hcA; subst hcA) | subst hcA); conv => whnf))
    refine ⟨rfl, ⟨_, a7, _, c7, hset_same _ _ _, .inr rfl, ?_, hw7, hbq⟩, ?_, by omega⟩
    · exact ho7.fr (fun x o hx ho => by have := hw7 x hx; rw [hset_ne _ _ (by omega)]; exact ho)
    · intro k hk hkb
      rw [hset_ne _ _ hkb, hk7 k (by omega) (fun e => by have := hw k e; omega)]
      exact hf1 k hkb
  · refine (copycheck_used hb).mono ?_
    rintro _ h1 t1 hd1 _ ⟨rfl, he, rfl⟩
    have hb1 : h1 b = some (.cells #[.pointer (some ⟨b, 0, none⟩), .slice a n c] 85 (0, 0)) := by rw [he]; exact hb
    have ho1 : Vc.Own h1 5 a n c bv l := by rw [he]; exact ho
    have hf1 : ∀ k, k ≠ b → h1 k = h k := fun k hk => by rw [he]
    clear he
    have hdb := hd _ _ hb
    conv => whnf
    repeat (first | ((with_reducible apply Go.Vc.ld_i); (focus ((repeat (first | with_reducible assumption | with_reducible exact Go.Vc.hset_same _ _ _ | with_reducible refine (Go.Vc.hset_ne _ _ (by omega)).trans ?_)); done)); (focus exact rfl); conv => whnf))
    refine app_str (inf := Tryz.types[5]) Tryz.underlying48 Tryz.underlying9 rfl (by kernel_rfl) (by kernel_rfl) ho1 (by
      show (n + s.size) * 1 ≤ _
      omega) (by omega) (by show 1 ≤ 1000; decide) hd1 ?_
    intro a7 c7 h7 t7 ho7 ht7 hd7 hk7 how7
    have hw7 : ∀ x, owner a7 = some x → q ≤ x := by
      intro x hx
      rcases how7 with e | ⟨r, e, hr⟩
      · exact hw x (by rw [← e]; exact hx)
      · rw [e] at hx
        obtain rfl := Option.some.inj hx
        omega
    have hb7 : h7 b = some (.cells #[.pointer (some ⟨b, 0, none⟩), .slice a n c] 85 (0, 0)) := by
      rw [hk7 b (by omega) (fun e => by have := hw b e; omega)]
      exact hb1
    conv => whnf
    repeat (first | ((with_reducible apply Go.Vc.st_i); (focus ((repeat (first | with_reducible assumption | with_reducible exact Go.Vc.hset_same _ _ _ | with_reducible refine (Go.Vc.hset_ne _ _ (by omega)).trans ?_)); done)); (focus exact rfl); (focus exact rfl); (focus exact rfl); (conv => whnf); intro cA hcA; (first | (simp only [List.setIfInBounds_toArray, List.set_cons_succ, List.set_cons_zero] at hcA; subst hcA) | subst hcA); conv => whnf))
    refine ⟨rfl, ⟨_, a7, _, c7, hset_same _ _ _, .inr rfl, ?_, hw7, hbq⟩, ?_, by omega⟩
    · exact ho7.fr (fun x o hx ho => by have := hw7 x hx; rw [hset_ne _ _ (by omega)]; exact ho)
    · intro k hk hkb
      rw [hset_ne _ _ hkb, hk7 k (by omega) (fun e => by have := hw k e; omega)]
      exact hf1 k hkb
theorem bstring_spec {h : Heap} {t b q : Nat} {l : List UInt8} (hB : BldAt h b q l) (hq : q ≤ t) (hs : l.length ≤ 1000000000) (h0 : l ≠ []) :
    CallSpec Tryz.prog 46 #[.pointer (some ⟨b, 0, none⟩)] h t (fun v h' t' => v = .string ⟨l.toArray⟩ ∧ (∀ k, k < q → h' k = h k) ∧ t ≤ t') := by
  obtain ⟨p, a, n, c, hb, hp, ho, hw, hbq⟩ := hB
  have hn : l.length = n := ho.1
  refine Go.Vc.spec_of_vc (fn := Tryz.f46) Tryz.func46 rfl (by kernel_rfl) (by kernel_rfl) (Nat.le_of_ble_eq_true rfl) ?_
  intro hd
  conv => whnf
  have hl0 : n ≠ 0 := by
    rw [← hn]
    simpa using h0
  rcases ho.2 with ⟨_, h1, _⟩ | ⟨b2, off, cs, fr, rfl, hnc, hb2, hsz, _, hcs⟩
  · exact absurd h1 hl0
  have hq2 := hw b2 rfl
  refine Go.Vc.draw_intro [⟨0, false, false, false, 0⟩, ⟨1, false, false, false, 1⟩, ⟨2, false, false, false, 3⟩, ⟨3, false, false, false, 7⟩, ⟨5, false, true, false, 0⟩, ⟨6, false, true, false, 32⟩, ⟨7, false, true, false, 96⟩, ⟨8, false, true, false, 224⟩, ⟨9, false, true, false, 480⟩, ⟨4, true, false, true, 15⟩, ⟨10, true, false, false, 1023⟩, ⟨11, false, false, false, 2047⟩] (hs := h) (hsub := (Sub.refl _)) (hm := by kernel_rfl) (hpl := by kernel_rfl) ?_
  conv => whnf
  conv => whnf
  repeat (first | ((with_reducible apply Go.Vc.ld_i); (focus ((repeat (first | with_reducible assumption | with_reducible exact Go.Vc.hset_same _ _ _ | with_reducible refine (Go.Vc.hset_ne _ _ (by omega)).trans ?_)); done)); (focus exact rfl); conv => whnf))
  refine gen_sliceData (by omega) ?_
  conv => whnf
  repeat (first | ((with_reducible refine And.intro (Go.Vc.Sub.refl _) ?_); conv => whnf))
  refine gen_unsafeString (l := l) Tryz.underlying140 (by kernel_rfl) hb2 hn hl0 (by omega) (by omega) hcs ?_
  conv => whnf
  exact ⟨rfl, fun k hk => by rw [hset_ne _ _ (by omega)], by omega⟩
end Go.Proofs.YtlkpgjicpjjlcaaGreatDoor
