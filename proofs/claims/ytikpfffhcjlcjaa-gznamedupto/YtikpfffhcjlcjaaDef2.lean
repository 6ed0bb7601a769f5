import Derived.Test.YtikpfffhcjlcjaaDef1
import Derived.Test.YtikpfffhcjlcjaaDefA
set_option linter.unusedSimpArgs false
namespace Go.Proofs.Ytikpfffhcjlcjaa
open Go Go.Vc Go.Dfl
set_option maxRecDepth 20000
set_option linter.unusedVariables false
theorem own_app1 {h0 h : Heap} {t0 t r : Nat} {a : Option Addr} {n c : Nat} {l : List Int} {x : Int} {ty : TypeId} (hd0 : Dom h0 t0) (ht : t0 ≤ t) (hs : Vc.Sub h0 h) (hw : ∀ b, owner a = some b → t0 ≤ b) (hd : Dom h t) (hr : t ≤ r)
    (ho : Vc.Own h 3 a n c (Value.int .i64) l) (hn : n ≤ 100000000) {K : Value → Heap → Nat → Prop}
    (hK : ∀ a' c' h' t', Vc.Own h' 3 a' (n + 1) c' (Value.int .i64) (l ++ [x]) → t ≤ t' → Dom h' t' → Vc.Sub h0 h' → (∀ b, owner a' = some b → t0 ≤ b) → (∀ k, k < t → owner a ≠ some k → h' k = h k) → (owner a' = owner a ∨ ∃ q, owner a' = some q ∧ t ≤ q) → K (.slice a' (n + 1) c') h' t') :
    AppVC Try.prog #[31, 31] ty (.slice a n c) (.slice (some ⟨r, 0, none⟩) 1 1) K (hset h r (.cells #[.int .i64 x] 3 (0, 0))) (r + 1) := by
  have hs1 := hd.sub_new hr (.cells #[.int .i64 x] 3)
  refine app_int (l2 := [x]) (Own.fr ho fun k o _ hk => hs1 k o hk) (sl1 (hset_same _ _ _)) (by omega) (hd.set r _ (r + 1) (by omega) (by omega)) ?_
  intro a' c' h' t' ho' ht' hd' hk' hown'
  have hold : ∀ k, k < t → owner a ≠ some k → h' k = h k := fun k h1 h2 => by rw [hk' k (by omega) h2, hset_ne _ _ (by omega)]
  refine hK a' c' h' t' ho' (by omega) hd' (fun k o hk => ?_) (fun b hb => ?_) hold ?_
  · have := hd0 k o hk
    rw [hold k (by omega) (fun e => by have := hw k e; omega)]
    exact hs k o hk
  · rcases hown' with e | ⟨q, e, hq⟩
    · exact hw b (by rw [← e]; exact hb)
    · rw [e] at hb; cases hb; omega
  · rcases hown' with e | ⟨q, e, hq⟩
    · exact .inl e
    · exact .inr ⟨q, e, by omega⟩
end Go.Proofs.Ytikpfffhcjlcjaa
