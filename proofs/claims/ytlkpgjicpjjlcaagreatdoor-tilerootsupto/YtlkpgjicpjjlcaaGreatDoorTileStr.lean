import Derived.Test.YtlkpgjicpjjlcaaGreatDoorTileLib
import Derived.Test.YtlkpgjicpjjlcaaGreatDoorTileGrown
import Derived.Test.YtlkpgjicpjjlcaaGreatDoorShelf
/- The library's calls on strings. -/
set_option linter.unusedSimpArgs false
namespace Go.Vc
open Go
theorem Rel.cell {g w : World} {h : Heap} {t : Nat} (hr : Rel g h t w) {b : Nat} {v : Value} (hc : Cell h ⟨b, 0, none⟩ v) : w.cell? ⟨b, 0, none⟩ = some v := by
  obtain ⟨c, T, f, h1, -, h3⟩ := hc
  have := hr.blk _ _ h1
  simp only [World.cell?, this]
  exact h3
theorem drewN_eq (w : World) : ∀ n, (w.drewN n).heap = w.heap ∧ (w.drewN n).os = w.os ∧ (w.drewN n).tape = w.tape ∧ (w.drewN n).output = w.output := by
  intro n
  exact ⟨rfl, rfl, rfl, rfl⟩
theorem Rel.drewN {g w : World} {h : Heap} {t : Nat} (hr : Rel g h t w) (n : Nat) : Rel g h t (w.drewN n) := by
  obtain ⟨e1, e2, e3, e4⟩ := drewN_eq w n
  exact ⟨by rw [e2]; exact hr.os, by rw [e3]; exact hr.tape, by rw [e4]; exact hr.output, by rw [e1]; exact hr.blk, hr.dom, by rw [e1]; exact hr.top⟩
theorem Cell.sub {h h' : Heap} {a : Addr} {v : Value} (hs : Vc.Sub h h') (hc : Cell h a v) : Cell h' a v := by
  obtain ⟨c, T, f, h1, h2, h3⟩ := hc
  exact ⟨c, T, f, hs _ _ h1, h2, h3⟩
end Go.Vc
namespace Go.Proofs.YtlkpgjicpjjlcaaGreatDoor
open Go Go.Vc Go.Tile
set_option maxRecDepth 20000
set_option linter.unusedVariables false
/-- What the longest piece is that is looked for at once: some number. -/
def MaxC (h : Heap) : Prop := ∃ m : Int, Cell h ⟨0, 0, none⟩ (.int .i64 m)
theorem MaxC.sub {h h' : Heap} (hc : MaxC h) (hs : Vc.Sub h h') : MaxC h' := by
  obtain ⟨m, hm⟩ := hc
  exact ⟨m, hm.sub hs⟩
theorem cutprefix_spec {h : Heap} {t : Nat} (s p : ByteArray) : CallSpec Tryz.prog 34 #[.string s, .string p] h t (fun v' h' t' => v' = .tuple #[.string ⟨(Lib.trimPrefix s.data.toList p.data.toList).toArray⟩, .bool (Lib.hasPrefix s.data.toList p.data.toList)] ∧ h' = h ∧ t' = t) :=
  same_bridge (callable_of Tryz.func34 rfl (by kernel_rfl)) (fun w => Tryz.strings_CutPrefix s p w)
theorem trimleft_spec {h : Heap} {t : Nat} (s : ByteArray) (c : UInt8) (hc : c.toNat < 128) : CallSpec Tryz.prog 39 #[.string s, .string ⟨#[c]⟩] h t (fun v' h' t' => v' = .string ⟨(Lib.trimLeftB s.data.toList c).toArray⟩ ∧ h' = h ∧ t' = t) :=
  same_bridge (callable_of Tryz.func39 rfl (by kernel_rfl)) (fun w => Tryz.strings_TrimLeft_one s c hc w)
theorem count_spec {h : Heap} {t : Nat} (s : ByteArray) (c : UInt8) : CallSpec Tryz.prog 179 #[.string s, .string ⟨#[c]⟩] h t (fun v' h' t' => v' = .int .i64 (Lib.countByte s.data.toList c : Nat) ∧ h' = h ∧ t' = t) :=
  same_bridge (callable_of Tryz.func179 rfl (by kernel_rfl)) (fun w => Tryz.strings_Count_one s c w)
theorem cut_spec {h : Heap} {t : Nat} (s p : ByteArray) (hs : s.size < 4294967281) (hm : MaxC h) : CallSpec Tryz.prog 35 #[.string s, .string p] h t (fun v' h' t' => v' = .tuple #[.string ⟨(Lib.cut s.data.toList p.data.toList).1.toArray⟩, .string ⟨(Lib.cut s.data.toList p.data.toList).2.1.toArray⟩, .bool (Lib.cut s.data.toList p.data.toList).2.2] ∧ h' = h ∧ t' = t) := by
  obtain ⟨m, hm⟩ := hm
  refine ⟨callable_of Tryz.func35 rfl (by kernel_rfl), fun g w hr => (Tryz.strings_Cut s p m w hs (hr.cell hm)).mono ?_⟩
  rintro _ w' ⟨rfl, n, rfl⟩
  exact ⟨_, _, _, rfl, hr.drewN n, Nat.le_refl _, rfl, rfl, rfl⟩
theorem app_strs {h : Heap} {t : Nat} {a xa : Option Addr} {n c xc m : Nat} {l l2 : List ByteArray} {ty : TypeId} (ho : Vc.Own h 9 a n c Value.string l) (hx : Sl h xa m Value.string l2) (hb : n + m ≤ 1000000000) (hd : Dom h t) {K : Value → Heap → Nat → Prop}
    (hK : ∀ a' c' h' t', Vc.Own h' 9 a' (n + m) c' Value.string (l ++ l2) → t ≤ t' → Dom h' t' → (∀ k, k < t → owner a ≠ some k → h' k = h k) → (owner a' = owner a ∨ ∃ r, owner a' = some r ∧ t ≤ r) → K (.slice a' (n + m) c') h' t') :
    AppVC Tryz.prog #[42, 42] ty (.slice a n c) (.slice xa m xc) K h t :=
  app_vc (f := Value.string) Tryz.underlying42 Tryz.underlying42 rfl (inf := Tryz.types[9]) (z := .string ByteArray.empty) (by kernel_rfl) (by kernel_rfl) (by kernel_rfl) rfl ho ⟨_, _, rfl, hx⟩ (fun _ => rfl) (by show (n + m) * 16 ≤ _; omega) (by omega) (by show 16 ≤ 1000; omega) hd hK
end Go.Proofs.YtlkpgjicpjjlcaaGreatDoor
