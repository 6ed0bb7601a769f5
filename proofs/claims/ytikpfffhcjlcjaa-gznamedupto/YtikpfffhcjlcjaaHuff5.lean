import Derived.Test.YtikpfffhcjlcjaaHuff4
import Derived.Test.YtikpfffhcjlcjaaShelf2
import Derived.Shelf.SlSortCmp.NoneTotal
import Derived.WalkKit
set_option linter.unusedSimpArgs false
namespace Go.Proofs.Ytikpfffhcjlcjaa
open Go Go.Vc Go.Huf Go.Shelf Go.RowKit Go.Lib Go.Sort
set_option maxRecDepth 10000
set_option linter.unusedVariables false
theorem closure_w (a b c d : Int) (W : World) (h1 : -9223372036854775808 ≤ a - c ∧ a - c ≤ 9223372036854775807) (h2 : -9223372036854775808 ≤ b - d ∧ b - d ≤ 9223372036854775807) :
    Calls Try.prog 105 #[.agg #[.int .i64 a, .int .i64 b, .slice none 0 0], .agg #[.int .i64 c, .int .i64 d, .slice none 0 0]] W fun e w' => e = .returned (.int .i64 (if a = c then b - d else a - c)) ∧ ∃ q os', w' = grow (W.drewN q) os' := by
  by_cases hc : a = c
  · subst hc
    go_enter Try.func105, Try.ntmps105
    go_wp2
    go_ret
    exact ⟨rfl, 0, _, by rw [alloc_eq_grow, alloc_eq_grow, grow_grow]; rfl⟩
  · go_enter Try.func105, Try.ntmps105
    go_wp2
    go_ret
    exact ⟨rfl, 0, _, by rw [alloc_eq_grow, alloc_eq_grow, grow_grow]; rfl⟩
abbrev NdO := { x : Nd // okN x }
instance : Inhabited NdO := ⟨⟨(0, 0), by unfold okN; omega⟩⟩
def ndO (x : NdO) : List Value := nd x.1
def cfO (x y : NdO) : Int := cmpN x.1 y.1
theorem ltO (x y : NdO) : ltOf cfO x y = decide (Huf.ahead x.1 y.1) := by
  unfold ltOf cfO
  simp only [cmp_ahead]
theorem swoO : SWO (ltOf cfO) where
  irrefl x := by rw [ltO]; simp [ahead_irr]
  trans x y z h1 h2 := by rw [ltO] at *; simp only [decide_eq_true_eq] at *; exact ahead_trans h1 h2
  ntrans x y z h1 h2 := by
    rw [ltO] at *; simp only [decide_eq_false_iff_not] at *
    unfold Huf.ahead at *; omega
theorem cmpLays (blk off size : Nat) (w : World) : CmpLays Try.prog 105 #[] ndO 3 cfO blk off size w := fun m os dk _ x y => by
  obtain ⟨x, hx0, hx1, hx2⟩ := x
  obtain ⟨y, hy0, hy1, hy2⟩ := y
  exact closure_w x.1 x.2 y.1 y.2 _ (by omega) (by omega)
theorem flatK_eq (d : Array NdO) : flatK ndO 3 d = ((d.toList.map (·.1)).flatMap nd).toArray := by
  apply Array.ext
  · show _ = ((d.toList.map (·.1)).flatMap nd).length
    rw [size_flatK, flat_len nd_len, List.length_map, Array.length_toList]
  · intro i h1 h2
    rw [size_flatK] at h1
    have h3 : i / 3 < d.size := by omega
    have e1 : (d.toList.map (·.1))[i / 3]? = some (d[i / 3]).1 := by simp [h3]
    have e2 := flat_get nd_len (j := i % 3) e1 (by omega)
    rw [show i / 3 * 3 + i % 3 = i from by omega] at e2
    have e3 := get_flatK ndO 3 d i h1
    have h4 : i % 3 < (ndO d[i / 3]).length := by show _ < 3; omega
    have e4 : (flatK ndO 3 d)[i]! = (flatK ndO 3 d)[i] := getElem!_pos (flatK ndO 3 d) i (by rw [size_flatK]; exact h1)
    have e5 : d[i / 3]! = d[i / 3] := getElem!_pos d _ h3
    have e6 : (ndO d[i / 3])[i % 3]! = (ndO d[i / 3])[i % 3] := getElem!_pos (ndO d[i / 3]) _ h4
    rw [e4, e5, e6] at e3
    rw [e3, List.getElem_toArray]
    rw [List.getElem?_eq_getElem (by simpa using h2)] at e2
    have e7 : (nd d[i / 3].1)[i % 3]? = some (ndO d[i / 3])[i % 3] := List.getElem?_eq_getElem h4
    rw [e7] at e2
    exact (Option.some.inj e2).symm
theorem arr_get {L : List Value} {j : Nat} (hj : j < L.length) : L.toArray[j]! = L[j] := by
  rw [getElem!_pos L.toArray j (by simpa using hj)]; simp
theorem sorted_is {l : List Nd} {n : Nat} {d d' : Array NdO} (hd1 : d.toList.map (·.1) = l) (hds : d.size = n) (hnum : Nums l) (hp : PermIn 0 n d d') (hso : SortedIn (ltOf cfO) 0 n d') : d'.toList.map (·.1) = l.foldr ins [] := by
  obtain ⟨hs, _, hpm⟩ := hp
  have hs' : d'.size = n := by rw [hs, hds]
  have e1 : d'.extract 0 n = d' := by rw [← hs']; exact Array.extract_size
  have e2 : d.extract 0 n = d := by rw [← hds]; exact Array.extract_size
  rw [e1, e2] at hpm
  have hpm2 : (d'.toList.map (·.1)).Perm l := by rw [← hd1]; exact hpm.map _
  have hnum' : Nums (d'.toList.map (·.1)) := (hpm2.map (fun x : Nd => x.2)).nodup_iff.2 hnum
  refine srt_unique ?_ (foldr_srt hnum) (hpm2.trans (foldr_perm l).symm)
  refine List.pairwise_iff_getElem.2 fun i j hi hj hij => ?_
  simp only [List.length_map, Array.length_toList] at hi hj
  have h1 := hso i j (Nat.zero_le _) hij (by omega)
  have e3 : d'[i]! = d'[i] := getElem!_pos d' i hi
  have e4 : d'[j]! = d'[j] := getElem!_pos d' j hj
  rw [ltO, e3, e4] at h1
  simp only [List.getElem_map, Array.getElem_toList]
  have h2 : ¬ Huf.ahead d'[j].1 d'[i].1 := by simpa using h1
  have h3 : d'[i].1.2 ≠ d'[j].1.2 := by
    have := List.pairwise_iff_getElem.1 hnum' i j (by simpa using hi) (by simpa using hj) hij
    simpa using this
  rcases ahead_total h3 with h | h
  · exact h
  · exact absurd h h2
theorem sortn_spec {h : Heap} {t b off n c : Nat} {l : List Nd} (ho : Vc.Own h 160 (some ⟨b, off, none⟩) (n * 3) (c * 3) id (l.flatMap nd)) (hok : ∀ x ∈ l, okN x) (hnum : Nums l) (hn : n ≤ 100000) :
    CallSpec Try.prog 106 #[.slice (some ⟨b, off, none⟩) n c, .func (.func 105) #[] #[]] h t
      (fun v h' t' => v = .tuple #[] ∧ Vc.Own h' 160 (some ⟨b, off, none⟩) (n * 3) (c * 3) id ((l.foldr ins []).flatMap nd) ∧ t' = t ∧ ∀ k, k ≠ b → h' k = h k) := by
  have hll : l.length = n := by
    have := ho.1
    rw [flat_len nd_len] at this
    omega
  refine ⟨callable_of Try.func106 rfl (by kernel_rfl), fun g w hr => ?_⟩
  obtain ⟨hnl, ⟨h1, _, _⟩ | ⟨b', off', cs, fr, ha, hnc, hb, hsz, hfz, hc⟩⟩ := ho
  · cases h1
  cases ha
  have hblk := hr.blk _ _ hb
  have hbs : b < w.heap.size := (Array.getElem?_eq_some_iff.1 hblk).1
  let d : Array NdO := (l.attachWith okN hok).toArray
  have hd1 : d.toList.map (·.1) = l := by
    simp [d]
    exact List.attach_map_subtype_val l
  have hds : d.size = n := by simp [d, hll]
  have hH : HoldsK ndO 3 w b off d := by
    show Holds id w b off (flatK ndO 3 d)
    rw [flatK_eq, hd1]
    intro j hj
    have hj' : j < (l.flatMap nd).length := by simpa using hj
    have h1 := hc j hj'
    have h2 := hfz j (by omega)
    refine ⟨?_, ?_⟩
    · rw [cell_of_rel hr hb rfl]
      show cs[off + j]? = _
      rw [h1, arr_get hj']
    · obtain ⟨lo, hi⟩ := fr
      simpa [World.frozen?, hblk, fz] using h2
  have hcl := AnyQ.slices_SortFunc Try.sortNode 3 Try.isAgg160 Try.sizeOf160 ndO (fun _ => rfl) (fun x v hv => by simp [ndO, nd] at hv; rcases hv with rfl | rfl | rfl <;> rfl) cfO swoO 105 #[] b off c d w (callable_of Try.func105 rfl (by kernel_rfl)) (cmpLays b off d.size w) hH hbs (by omega)
  change Calls Try.prog 106 _ _ _ at hcl
  rw [hds] at hcl
  refine hcl.mono ?_
  rintro _ w' ⟨rfl, d', m, os, hp, hso, rfl⟩
  have hl' := sorted_is hd1 hds hnum hp hso
  refine ⟨_, _, _, rfl, rel_sorted (n := m) (d := flatK ndO 3 d') (os := os) hr hb, Nat.le_refl _, rfl, ?_, rfl, fun k hk => hset_ne _ _ hk⟩
  rw [flatK_eq, hl']
  have hlen : ((l.foldr ins []).flatMap nd).length = n * 3 := by rw [flat_len nd_len, (foldr_perm l).length_eq, hll]
  refine ⟨hlen, .inr ⟨b, off, _, fr, rfl, hnc, hset_same _ _ _, by simpa [Sort.putCells] using hsz, hfz, ?_⟩⟩
  intro i hi
  have hi2 : off + i < cs.size := by omega
  simp only [Sort.putCells, Array.getElem?_mapIdx, Array.getElem?_eq_getElem hi2, Option.map_some]
  rw [if_pos ⟨by omega, by rw [List.size_toArray]; omega⟩, show off + i - off = i from by omega, arr_get hi]
theorem sorta_spec {h : Heap} {t n c : Nat} {a : Option Addr} {l : List Nd} (ho : Vc.Own h 160 a (n * 3) (c * 3) id (l.flatMap nd)) (hok : ∀ x ∈ l, okN x) (hnum : Nums l) (hn : n ≤ 100000) :
    CallSpec Try.prog 106 #[.slice a n c, .func (.func 105) #[] #[]] h t
      (fun v h' t' => v = .tuple #[] ∧ Vc.Own h' 160 a (n * 3) (c * 3) id ((l.foldr ins []).flatMap nd) ∧ t' = t ∧ ∀ k, owner a ≠ some k → h' k = h k) := by
  rcases ho.2 with ⟨rfl, h1, h2⟩ | ⟨b, off, cs, fr, rfl, _⟩
  · have hn0 : n = 0 := by omega
    subst hn0
    have hll := ho.1
    rw [flat_len nd_len] at hll
    have hl0 : l = [] := List.length_eq_zero_iff.1 (by omega)
    subst hl0
    refine (same_bridge (v := .tuple #[]) (callable_of Try.func106 rfl (by kernel_rfl)) (fun w => ?_)).mono ?_
    · exact AnyF.slices_SortFunc_none Try.sortNode none c (.func (.func 105) #[] #[]) w
    · rintro _ h' t' hd' ht' ⟨rfl, rfl, rfl⟩
      exact ⟨rfl, ho, rfl, fun _ _ => rfl⟩
  · refine (sortn_spec ho hok hnum hn).mono ?_
    rintro _ h' t' hd' ht' ⟨rfl, o, rfl, hk⟩
    exact ⟨rfl, o, rfl, fun k hne => hk k (fun e => hne (by rw [e]; rfl))⟩
end Go.Proofs.Ytikpfffhcjlcjaa
