/- The law's own: hex, words. -/
import Derived.Test.YtmlcdkckedjdjaaMerkle8
namespace Go.Proofs.Ytmlcdkckedjdjaa
open Go Go.Vc Go.Sha Go.Mk
set_option maxRecDepth 10000
set_option linter.unusedVariables false

def hexD (n : Nat) : UInt8 := (#[48, 49, 50, 51, 52, 53, 54, 55, 56, 57, 97, 98, 99, 100, 101, 102] : Array UInt8).getD n 0
def hex2 (b : UInt8) : List UInt8 := [hexD (b.toNat / 16), hexD (b.toNat % 16)]
theorem and15 : ∀ x : Nat, x < 256 → IntKind.u8.wrap ((BitVec.ofInt (IntKind.bits .u8) (x : Int) &&& BitVec.ofInt (IntKind.bits .u8) 15).toNat : Int) = ((x % 16 : Nat) : Int) := by decide
theorem hex_spec (l : List UInt8) (hl : l.length ≤ 1000000) (h : Heap) (t : Nat) : CallSpec Try.prog 28 #[.string (strL l)] h t (fun v h' t' => v = .string (strL (l.flatMap hex2)) ∧ Sub h h') := by
  have hs := strL_size l
  refine Go.Vc.spec_of_vc (fn := Try.f28) Try.func28 rfl (by kernel_rfl) (by kernel_rfl) (Nat.le_of_ble_eq_true rfl) ?_
  intro hd
  conv => whnf
  refine loop_intro3 (fun (i : Nat) (a : Option Addr) (c : Nat) => [(0, .string (strL l)), (3, .slice a (2 * i) c), (4, .int .i64 (i : Nat))])
    (fun i a c h' t' => t ≤ t' ∧ i ≤ l.length ∧ Own h' 5 a (2 * i) c bv ((l.take i).flatMap hex2) ∧ (∀ k, owner a = some k → t ≤ k) ∧ Sub h h') (fun i _ _ => l.length - i) 0 none 0 ⟨rfl, rfl, rfl, trivial⟩ ⟨by omega, by omega, Own.nil _ _ _, (fun k hk => by cases hk), Sub.refl _⟩ ?_
  rintro i a c g h2 t2 hd2 ⟨ht2, hi, ho2, hf2, hs2⟩
  conv => whnf
  rw [hs]
  refine br (fun hb1 => ?_) (fun hb1 => ?_)
  · have hlt : i < l.length := by omega
    conv => whnf
    refine Go.Vc.draw_intro [⟨0, false, true, false, 0⟩, ⟨1, false, false, false, 0⟩, ⟨2, false, false, false, 0⟩, ⟨3, false, false, false, 6⟩, ⟨4, false, false, false, 14⟩, ⟨5, false, false, false, 30⟩, ⟨6, false, false, false, 0⟩, ⟨7, false, false, false, 0⟩, ⟨8, false, false, false, 192⟩, ⟨9, false, false, false, 448⟩, ⟨10, false, false, false, 960⟩, ⟨11, true, false, true, 2046⟩, ⟨12, true, false, false, 4095⟩, ⟨13, false, false, false, 8191⟩] (hs := _) (hsub := (Sub.refl _)) (hm := by kernel_rfl) (hpl := by kernel_rfl) ?_
    conv => whnf
    conv => whnf
    repeat (first | ((with_reducible refine And.intro (And.intro ?_ ?_) ?_); (focus omega); (focus omega); conv => whnf) | (intro _ _; conv => whnf) | ((with_reducible apply Go.Vc.shr_u8); (focus exact And.intro (by omega) (by omega)); intro zS hzS hzS0 hzS1; conv => whnf) | ((with_reducible apply Go.Vc.and_leI); (focus omega); conv => whnf))
    have hby : byteAt (strL l) ((i : Int)).toNat = (((l.getD i 0).toNat : Nat) : Int) := by
      show (((strL l).data.getD i 0).toNat : Int) = _
      rw [← byte_data, strL_toList]; rfl
    generalize hB : l.getD i 0 = B at *
    have hBl := B.toNat_lt
    rw [hby] at hzS hzS1
    have hz16 : zS = ((B.toNat / 16 : Nat) : Int) := by rw [hzS]; show (B.toNat : Int) / 16 = _; omega
    have hdig : (⟨#[48, 49, 50, 51, 52, 53, 54, 55, 56, 57, 97, 98, 99, 100, 101, 102]⟩ : ByteArray).size = 16 := rfl
    rw [hdig]
    conv => whnf
    repeat (first | ((with_reducible refine And.intro (And.intro ?_ ?_) ?_); (focus omega); (focus omega); conv => whnf) | (intro _ _; conv => whnf))
    rw [hby]
    refine ⟨_, (and15 B.toNat hBl).symm, ?_⟩
    conv => whnf
    rw [hdig]
    conv => whnf
    repeat (first | ((with_reducible refine And.intro (And.intro ?_ ?_) ?_); (focus omega); (focus omega); conv => whnf) | (intro _ _; conv => whnf))
    rename_i r3 hr3
    have hs3 := hd2.sub_new hr3 (.cells ((hex2 B).map bv).toArray 5)
    have hd3 := hd2.set r3 (.cells ((hex2 B).map bv).toArray 5) (r3 + 1) (by omega) (by omega)
    have hcell : #[Value.int .u8 (byteAt ⟨#[48, 49, 50, 51, 52, 53, 54, 55, 56, 57, 97, 98, 99, 100, 101, 102]⟩ zS.toNat), Value.int .u8 (byteAt ⟨#[48, 49, 50, 51, 52, 53, 54, 55, 56, 57, 97, 98, 99, 100, 101, 102]⟩ ((B.toNat % 16 : Nat) : Int).toNat)] = ((hex2 B).map bv).toArray := by
      rw [hz16]; rfl
    rw [hcell]
    refine ⟨hs3, ?_⟩
    conv => whnf
    refine app_bytes (m := 2) (l2 := hex2 B) (ho2.fr (fun k o _ ho => hs3 k o ho)) (ar_sl (hset_same _ _ _) rfl) (by omega) hd3 ?_
    intro a4 c4 h4 t4 ho4 ht4 hd4 hk4 how4
    conv => whnf
    repeat (first | ((with_reducible apply Go.Vc.wr_i64); (focus exact And.intro (by omega) (by omega)); conv => whnf))
    refine round_end3 (i + 1) a4 c4 (by omega) ⟨rfl, ?_, rfl, trivial⟩ ⟨by omega, by omega, ?_, ?_, ?_⟩
    · show Value.slice a4 (2 * i + 2) c4 = Value.slice a4 (2 * (i + 1)) c4
      rw [Nat.mul_add]
    · have hx : l[i]? = some B := by rw [← hB]; simp [List.getD_eq_getElem?_getD, hlt]
      rw [List.take_add_one, hx, List.flatMap_append, show 2 * (i + 1) = 2 * i + 2 by omega]
      simpa using ho4
    · intro k hk
      rcases how4 with h | ⟨q, h, hq⟩
      · rw [h] at hk; exact hf2 k hk
      · rw [h] at hk; cases hk; omega
    · intro k o hk
      have hkt := hd k o hk
      rw [hk4 k (by have := hd2 k o (hs2 k o hk); omega) (fun e => by have := hf2 k e; omega)]
      exact hs3 k o (hs2 k o hk)
  · have hil : i = l.length := by omega
    rw [List.take_of_length_le (by omega)] at ho2
    rcases ho2.2 with ⟨rfl, h0, _⟩ | ⟨b', off', _, _, rfl, _⟩
    · conv => whnf
      have : l.flatMap hex2 = [] := List.length_eq_zero_iff.1 (by rw [ho2.1, h0])
      rw [this]; exact ⟨rfl, hs2⟩
    · conv => whnf
      refine ⟨_, readB_sl ho2.sl, ?_⟩
      conv => whnf
      exact ⟨rfl, hs2⟩

theorem words_spec {h : Heap} {t : Nat} {a b : Option Addr} {n m c d : Nat} {l k : List ByteArray} (s : Sl h a n Value.string l) (u : Sl h b m Value.string k) (hn : n ≤ 1000000000) (hm : m ≤ 1000000000) :
    CallSpec Try.prog 19 #[.slice a n c, .slice b m d] h t (fun v h' t' => v = .bool (decide (l = k)) ∧ Sub h h') := by
  have hl := s.1
  have hk := u.1
  refine Go.Vc.spec_of_vc (fn := Try.f19) Try.func19 rfl (by kernel_rfl) (by kernel_rfl) (Nat.le_of_ble_eq_true rfl) ?_
  intro hd
  conv => whnf
  refine br (fun hb1 => ?_) (fun hb1 => ?_)
  · have e : ¬ l = k := by intro e; subst e; omega
    rw [decide_eq_false e]
    conv => whnf
    exact ⟨rfl, Sub.refl _⟩
  · conv => whnf
    refine loop_intro (fun (i : Nat) => [(0, .slice a n c), (1, .slice b m d), (5, .int .i64 (i : Nat))])
      (fun i h' t' => i ≤ n ∧ l.take i = k.take i ∧ h' = h ∧ t' = t) (fun i => n - i) 0 ⟨rfl, rfl, rfl, trivial⟩ ⟨by omega, rfl, rfl, rfl⟩ ?_
    rintro i g h1 t1 hd1 ⟨hi, hlk, rfl, rfl⟩
    conv => whnf
    refine br (fun hb2 => ?_) (fun hb2 => ?_)
    · refine Go.Vc.draw_intro [⟨0, false, false, false, 0⟩, ⟨1, false, false, false, 0⟩, ⟨2, false, false, false, 3⟩, ⟨3, false, false, false, 7⟩, ⟨4, false, false, false, 0⟩, ⟨5, false, false, false, 0⟩, ⟨6, false, false, false, 48⟩, ⟨7, false, false, false, 112⟩, ⟨8, false, false, false, 255⟩] (hs := (fun _ => none)) (hsub := (fun _ _ h => nomatch h)) (hm := by kernel_rfl) (hpl := by kernel_rfl) ?_
      conv => whnf
      conv => whnf
      repeat (first | ((with_reducible apply Go.Vc.sl_ix); (focus with_reducible assumption); (focus exact And.intro (by omega) (by omega)); intro xI bI offI hxI hcI; conv => whnf) | ((with_reducible apply Go.Vc.cell_i); (focus assumption); conv => whnf))
      obtain ⟨y, rfl⟩ : ∃ y, y = xI := ⟨xI, rfl⟩
      have hy := hxI
      clear hxI
      rw [Int.toNat_natCast] at hxI hy
      have hor : (l[i]? = some xI ∧ k[i]? = some y) ∨ (l[i]? = some y ∧ k[i]? = some xI) := by first | exact .inl ⟨hxI, hy⟩ | exact .inr ⟨hy, hxI⟩
      have hne : xI ≠ y → ¬ l = k := by
        intro e1 e2
        subst e2
        rcases hor with ⟨p, q⟩ | ⟨p, q⟩
        · exact e1 (Option.some.inj (p.symm.trans q))
        · exact e1 (Option.some.inj (q.symm.trans p))
      refine br (fun hb3 => ?_) (fun hb3 => ?_)
      · rw [decide_eq_false (hne hb3)]
        conv => whnf
        exact ⟨rfl, Sub.refl _⟩
      · have e3 : xI = y := Decidable.not_not.1 hb3
        subst e3
        conv => whnf
        repeat (first | ((with_reducible apply Go.Vc.wr_i64); (focus exact And.intro (by omega) (by omega)); conv => whnf))
        refine round_end (i + 1) (by omega) ⟨rfl, rfl, rfl, trivial⟩ ⟨by omega, ?_, rfl, rfl⟩
        rcases hor with ⟨p, q⟩ | ⟨p, q⟩ <;> rw [List.take_add_one, List.take_add_one, hlk, p, q]
    · have e : l = k := by
        rw [List.take_of_length_le (by omega), List.take_of_length_le (by omega)] at hlk
        exact hlk
      rw [decide_eq_true e]
      conv => whnf
      exact ⟨rfl, Sub.refl _⟩
end Go.Proofs.Ytmlcdkckedjdjaa
