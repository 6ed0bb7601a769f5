import Derived.Test.YtlkpgjicpjjlcaaGreatDoorVc11
import Derived.Sort.Row
import Derived.Sort.Grow
/- Ranges over maps whose keys are strings; the library's sort of strings. -/
namespace Go.Vc
open Go
set_option maxRecDepth 10000
set_option linter.unusedVariables false
set_option linter.unusedSimpArgs false
variable {P : Program}

/-- An iterator over the map object o (of block m) that has handed on the entries at the places vis. -/
def MIter (o : Obj) (m : Nat) (vis : List Nat) (x : Obj) : Prop :=
  ∃ es clock, o = .map es clock ∧ x = .mapIter (some m) clock (vis.map fun i => (es.toList.map (·.born)).getD i 0).toArray clock ∧ (∀ i ∈ vis, i < es.size) ∧ vis.Nodup

theorem rangeM_i {T KT VT : TypeId} (hT : P.underlying T = some (.map KT VT)) {m : Nat} {o : Obj} {h : Heap} {t : Nat} {K : Value → Heap → Nat → Prop} (hm : h m = some o) {β : Type} {f : β → Value} {l : List (ByteArray × β)} (hmo : MapObj o f l)
    (hk : ∀ r x, t ≤ r → MIter o m [] x → K (.pointer (some ⟨r, 0, none⟩)) (hset h r x) (r + 1)) : RangeMVC P T (.map (some m)) K h t := by
  obtain ⟨es, clock, rfl, _, _, _, _⟩ := hmo
  refine ⟨?_⟩
  unfold Instr.range
  simp only [gen_b, gen_underlying hT, getObj, gen]
  refine ⟨_, hm, rfl, ?_⟩
  simp only [gen_b, gen_p, newObj, gen]
  intro r hr
  exact hk r _ hr ⟨es, clock, rfl, rfl, by simp, by simp⟩

theorem next_m {r m : Nat} {T : TypeId} {o x : Obj} {vis : List Nat} {h : Heap} {t : Nat} {K : Value → Heap → Nat → Prop} (hr : h r = some x) (hm : h m = some o) {β : Type} {f : β → Value} {l : List (ByteArray × β)} (hmo : MapObj o f l) (hx : MIter o m vis x)
    (hend : (∀ i, i < l.length → i ∈ vis) → K (.tuple #[.bool false]) h t)
    (hstep : ∀ i k v x', i ∉ vis → l[i]? = some (k, v) → MIter o m (vis ++ [i]) x' → K (.tuple #[.bool true, .string k, f v]) (hset h r x') t) : NextVC P (.pointer (some ⟨r, 0, none⟩)) false T K h t := by
  obtain ⟨es, clock, rfl, hkv, hnd, hbn, hlt⟩ := hmo
  obtain ⟨es', clock', he, rfl, hvl, hvn⟩ := hx
  cases he
  refine ⟨?_⟩
  unfold Instr.next
  simp only [gen_b, getObj, gen]
  refine ⟨_, hr, rfl, ?_⟩
  simp only [gen_b, gen_p, gen]
  refine ⟨_, hm, rfl, ?_⟩
  simp only [gen_b, gen_p, gen]
  generalize hseen : (vis.map fun i => (es.toList.map (·.born)).getD i 0).toArray = seen at *
  have hcond : (!seen.isEmpty && !es.isEmpty && es.all (fun e => decide (e.born ≥ clock))) = false := by
    by_cases h0 : es.isEmpty = true
    · simp [h0]
    · have : es.all (fun e => decide (e.born ≥ clock)) = false := by
        rw [Bool.eq_false_iff]
        intro ha
        have hne : es.toList ≠ [] := by simpa [Array.isEmpty_iff] using h0
        obtain ⟨e, hemem⟩ := List.exists_mem_of_ne_nil _ hne
        have h1 := hlt e hemem
        have h2 : ∀ i (hi : i < es.size), es[i].born ≥ clock := by simpa using ha
        obtain ⟨i, hi, rfl⟩ := List.mem_iff_getElem.1 hemem
        have := h2 i (by simpa using hi)
        simp at h1; omega
      rw [this]; simp
  rw [hcond]
  simp only [Bool.false_eq_true, if_false, gen_b, gen_p]
  have hold : (es.filter fun e => !seen.contains e.born).filter (fun e => decide (e.born < clock)) = es.filter fun e => !seen.contains e.born := by
    apply Array.filter_eq_self.2
    intro e hemem
    have : e ∈ es.toList := by
      have := (Array.mem_filter.1 hemem).1
      exact Array.mem_toList_iff.2 this
    simpa using hlt e this
  have hnew : (es.filter fun e => !seen.contains e.born).filter (fun e => decide (e.born ≥ clock)) = #[] := by
    apply Array.filter_eq_empty_iff.2
    intro e hemem
    have : e ∈ es.toList := by
      have := (Array.mem_filter.1 hemem).1
      exact Array.mem_toList_iff.2 this
    have := hlt e this
    simp; omega
  rw [hold, hnew]
  generalize hleft : (es.filter fun e => !seen.contains e.born) = left at *
  simp only [choose, gen]
  intro n hf0 hf1
  have hmemL : ∀ e, e ∈ left → ∃ i, i ∉ vis ∧ es.toList[i]? = some e := by
    intro e hemem
    rw [← hleft] at hemem
    obtain ⟨h1, h2⟩ := Array.mem_filter.1 hemem
    obtain ⟨i, hi, he⟩ := List.mem_iff_getElem.1 (Array.mem_toList_iff.2 h1)
    refine ⟨i, fun hv => ?_, by rw [List.getElem?_eq_getElem hi, he]⟩
    have : seen.contains e.born = true := by
      rw [← hseen, Array.contains_iff_mem]
      simp only [List.mem_toArray, List.mem_map]
      refine ⟨i, hv, ?_⟩
      rw [← he, List.getD_eq_getElem?_getD, List.getElem?_map, List.getElem?_eq_getElem hi]; rfl
    have h3 : (!seen.contains e.born) = true := h2
    rw [this] at h3; cases h3
  have hlen : es.toList.length = l.length := by have := congrArg List.length hkv; simpa using this
  by_cases hE : left.isEmpty = true
  · have hl0 : left = #[] := by simpa [Array.isEmpty_iff] using hE
    subst hl0
    have hn : n = 0 := hf0 (by simp [Question.forced])
    subst hn
    simp only [Array.isEmpty_empty, if_true]
    have e0 : (#[none] ++ Array.map some (#[] ++ #[]) : Array (Option MapEntry))[0]? = some none := by simp
    rw [e0]
    simp only [gen_p]
    refine hend (fun i hi => ?_)
    apply Classical.byContradiction
    intro hv
    have hi' : i < es.toList.length := by omega
    have hmem : es.toList[i] ∈ es.filter fun e => !seen.contains e.born := by
      apply Array.mem_filter.2
      refine ⟨Array.mem_toList_iff.1 (List.getElem_mem hi'), ?_⟩
      rw [Bool.not_eq_true', Bool.eq_false_iff]
      intro hc
      rw [← hseen, Array.contains_iff_mem] at hc
      simp only [List.mem_toArray, List.mem_map] at hc
      obtain ⟨j, hj, hje⟩ := hc
      have hjs : j < es.toList.length := by have := hvl j hj; simpa using this
      have hb : (es.toList.map (·.born))[j]'(by simpa using hjs) = (es.toList.map (·.born))[i]'(by simpa using hi') := by
        rw [List.getD_eq_getElem?_getD, List.getElem?_eq_getElem (by simpa using hjs)] at hje
        simpa using hje
      have := (List.getElem_inj hbn).1 hb
      subst this
      exact hv hj
    rw [hleft] at hmem
    simp at hmem
  · have hE' : left.isEmpty = false := by simpa using hE
    rw [hE'] at hf1 hf0 ⊢
    simp only [Bool.false_eq_true, if_false, Array.empty_append, Array.append_empty, Array.size_map] at hf0 hf1 ⊢
    have hpos : 0 < left.size := by
      rcases Nat.eq_zero_or_pos left.size with h0 | h0
      · exact absurd (by simpa [Array.isEmpty_iff] using Array.size_eq_zero_iff.1 h0) hE
      · exact h0
    have hn : n < left.size := by
      by_cases hfo : (Question.mapNext left.size).forced = true
      · rw [hf0 hfo]; exact hpos
      · obtain ⟨k, rfl⟩ := hf1 (by simpa using hfo)
        exact Nat.mod_lt _ hpos
    have hget : (left.map some)[n]? = some (some left[n]) := by simp [hn]
    rw [hget]
    obtain ⟨i, hiv, hie⟩ := hmemL left[n] (Array.getElem_mem hn)
    obtain ⟨hi, hie'⟩ := List.getElem?_eq_some_iff.1 hie
    have hil : i < l.length := by omega
    have hpair := congrArg (fun L => L[i]?) hkv
    simp only [List.getElem?_map, hie, List.getElem?_eq_getElem hil, Option.map_some, Option.some.injEq, Prod.mk.injEq] at hpair
    simp only [gen_b, setObj, gen]
    refine ⟨_, hr, rfl, ?_⟩
    simp only [gen_p]
    rw [hpair.1, hpair.2]
    refine hstep i l[i].1 l[i].2 _ hiv (List.getElem?_eq_getElem hil) ⟨es, clock, rfl, ?_, ?_, ?_⟩
    · have e1 : (es.toList.map (·.born)).getD i 0 = left[n].born := by
        rw [List.getD_eq_getElem?_getD, List.getElem?_map, hie]; rfl
      rw [← hseen, ← e1]
      simp
    · intro j hj
      rcases List.mem_append.1 hj with h1 | h1
      · exact hvl j h1
      · rw [List.mem_singleton.1 h1]; simpa using hi
    · rw [List.nodup_append]
      exact ⟨hvn, by simp, fun a ha b hb => by rw [List.mem_singleton.1 hb]; intro e; subst e; exact hiv ha⟩

theorem entry_m {r m : Nat} {o x : Obj} {vis : List Nat} {i : Nat} {h : Heap} {t : Nat} {K : Value → Heap → Nat → Prop} (hr : h r = some x) (hm : h m = some o) {β : Type} {f : β → Value} {l : List (ByteArray × β)} (hmo : MapObj o f l) (hx : MIter o m (vis ++ [i]) x)
    {k : ByteArray} {v : β} (hl : l[i]? = some (k, v)) (hk : K (.tuple #[.string k, f v]) h t) : EntryVC P (.pointer (some ⟨r, 0, none⟩)) K h t := by
  obtain ⟨es, clock, rfl, hkv, hnd, hbn, hlt⟩ := hmo
  obtain ⟨es', clock', he, rfl, hvl, hvn⟩ := hx
  cases he
  refine ⟨?_⟩
  unfold Instr.entry
  have hi : i < es.toList.length := by have := hvl i (by simp); simpa using this
  have hback : (List.map (fun i => (es.toList.map (·.born)).getD i 0) (vis ++ [i])).toArray.back? = some es.toList[i].born := by
    simp [List.getD_eq_getElem?_getD]
    rw [Array.getElem?_eq_getElem (by simpa using hi)]; rfl
  simp only [gen_b, getObj, gen]
  refine ⟨_, hr, rfl, ?_⟩
  simp only [gen_b, gen_p, gen, hback]
  refine ⟨_, hm, rfl, ?_⟩
  simp only [gen_b, gen_p, gen, bne_self_eq_false, Bool.false_eq_true, if_false]
  have hfind : es.find? (fun e => e.born == es.toList[i].born) = some es.toList[i] := by
    rw [← Array.find?_toList, List.find?_eq_some_iff_getElem]
    refine ⟨by simp, i, hi, rfl, fun j hj => ?_⟩
    have hji : j < es.toList.length := by omega
    simp only [Bool.not_eq_true', beq_eq_false_iff_ne]
    intro hb
    have : (es.toList.map (·.born))[j]'(by simpa using hji) = (es.toList.map (·.born))[i]'(by simpa using hi) := by simpa using hb
    have := (List.getElem_inj hbn).1 this
    omega
  rw [hfind]
  simp only [gen_p]
  have hlen : es.toList.length = l.length := by have := congrArg List.length hkv; simpa using this
  have hpair := congrArg (fun L => L[i]?) hkv
  simp only [List.getElem?_map, hl, List.getElem?_eq_getElem hi, Option.map_some, Option.some.injEq, Prod.mk.injEq] at hpair
  rw [hpair.1, hpair.2]
  exact hk

/-! ### the library's sort, by the kit's contract -/
theorem rel_sorted {α : Type} [Inhabited α] {g w : World} {h : Heap} {t b off n : Nat} {cs : Array Value} {E : TypeId} {fr : Nat × Nat} {enc : α → Value} {d : Array α} {os : Array Obj} (hr : Rel g h t w) (hb : h b = some (.cells cs E fr)) :
    Rel g (hset h b (.cells (Sort.putCells enc off d cs) E fr)) t (Sort.grow (Sort.putRow enc (Sort.ahead w n) b off d) os) := by
  have hblk := hr.blk _ _ hb
  have hbs : b < w.heap.size := (Array.getElem?_eq_some_iff.1 hblk).1
  have hheap : (Sort.grow (Sort.putRow enc (Sort.ahead w n) b off d) os).heap = (w.heap.modify b (Sort.onCells (Sort.putCells enc off d))) ++ os := rfl
  refine ⟨hr.os, hr.tape, hr.output, ?_, ?_, ?_⟩
  · intro k o hk
    rw [hheap]
    by_cases e : k = b
    · subst e
      rw [hset_same] at hk
      cases hk
      rw [Array.getElem?_append_left (by simpa using hbs), Array.getElem?_modify, if_pos rfl, hblk]
      rfl
    · rw [hset_ne _ _ e] at hk
      have hk2 := hr.blk _ _ hk
      have hks : k < w.heap.size := (Array.getElem?_eq_some_iff.1 hk2).1
      rw [Array.getElem?_append_left (by simpa using hks), Array.getElem?_modify, if_neg (fun x => e x.symm)]
      exact hk2
  · intro k o hk
    by_cases e : k = b
    · subst e; exact hr.dom _ _ hb
    · rw [hset_ne _ _ e] at hk; exact hr.dom _ _ hk
  · rw [hheap]
    have := hr.top
    simp; omega

theorem sort_bridge {α : Type} [Inhabited α] {f : FuncId} {h : Heap} {t b off n c : Nat} {E : TypeId} {enc : α → Value} {l l' : List α} (hl : l'.length = l.length) (hcal : Callable P f) (o : Vc.Own h E (some ⟨b, off, none⟩) n c enc l)
    (hk : ∀ w, Sort.Holds enc w b off l.toArray → b < w.heap.size → Calls P f #[.slice (some ⟨b, off, none⟩) l.length c] w fun e w' => e = .returned (.tuple #[]) ∧ ∃ m os, w' = Sort.grow (Sort.putRow enc (Sort.ahead w m) b off l'.toArray) os) :
    CallSpec P f #[.slice (some ⟨b, off, none⟩) n c] h t (fun v h' t' => v = .tuple #[] ∧ Vc.Own h' E (some ⟨b, off, none⟩) n c enc l' ∧ t' = t ∧ ∀ k, k ≠ b → h' k = h k) := by
  refine ⟨hcal, fun g w hr => ?_⟩
  obtain ⟨hn, ho⟩ := o
  rcases ho with ⟨h1, _, _⟩ | ⟨b', off', cs, fr, ha, hnc, hb, hsz, hfz, hc⟩
  · cases h1
  · cases ha
    have hblk := hr.blk _ _ hb
    have hbs : b < w.heap.size := (Array.getElem?_eq_some_iff.1 hblk).1
    have hH : Sort.Holds enc w b off l.toArray := by
      intro j hj
      have hj' : j < l.length := by simpa using hj
      have h1 := hc j hj'
      have h2 := hfz j (by omega)
      refine ⟨?_, ?_⟩
      · rw [cell_of_rel hr hb rfl]
        show cs[off + j]? = _
        rw [h1]; simp [hj']
      · obtain ⟨lo, hi⟩ := fr
        simpa [World.frozen?, hblk, fz] using h2
    have hcl := hk w hH hbs
    rw [hn] at hcl
    refine hcl.mono ?_
    rintro _ w' ⟨rfl, m, os, rfl⟩
    refine ⟨_, _, _, rfl, rel_sorted hr hb, Nat.le_refl _, rfl, ⟨by omega, .inr ⟨b, off, _, fr, rfl, hnc, hset_same _ _ _, by simpa [Sort.putCells] using hsz, hfz, ?_⟩⟩, rfl, fun k hk => hset_ne _ _ hk⟩
    intro i hi
    have hi2 : off + i < cs.size := by omega
    simp only [Sort.putCells, Array.getElem?_mapIdx, Array.getElem?_eq_getElem hi2, Option.map_some]
    rw [if_pos ⟨by omega, by simpa using hi⟩]
    simp [hi]
theorem Own.conv {α β : Type} {h : Heap} {E : TypeId} {a : Option Addr} {n c : Nat} {f : α → Value} {g : β → Value} {l : List α} (φ : α → β) (o : Vc.Own h E a n c f l) (hf : ∀ x ∈ l, f x = g (φ x)) : Vc.Own h E a n c g (l.map φ) := by
  refine ⟨by simp [o.1], ?_⟩
  rcases o.2 with h1 | ⟨b, off, cs, fr, ha, hn, hb, hs, hfz, hc⟩
  · exact .inl h1
  · refine .inr ⟨b, off, cs, fr, ha, hn, hb, hs, hfz, fun i hi => ?_⟩
    have hi' : i < l.length := by simpa using hi
    rw [hc i hi', hf _ (List.getElem_mem hi')]; simp
end Go.Vc
