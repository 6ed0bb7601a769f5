import Derived.Test.YtikpfffhcjlcjaaHuff7
import Derived.Test.YtikpfffhcjlcjaaHuffPlain
set_option linter.unusedSimpArgs false
namespace Go.Proofs.Ytikpfffhcjlcjaa
open Go Go.Vc Go.Huf
set_option maxRecDepth 10000
set_option linter.unusedVariables false
def iv (v : Nat) : Value := .int .i64 (v : Nat)
def two (m : NR) : Nd × List Nat := (m.x, m.l)
def LS (h : Heap) (m : NR) : Prop := Sl h m.a m.n iv m.l ∧ ∀ q, owner m.a = some q → ∃ cs fr, h q = some (.cells cs 3 fr)
theorem LS.keep {h h' : Heap} {m : NR} (s : LS h m) (hk : ∀ q cs fr, owner m.a = some q → h q = some (.cells cs 3 fr) → h' q = some (.cells cs 3 fr)) : LS h' m := by
  refine ⟨⟨s.1.1, fun h0 => ?_⟩, fun q hq => ?_⟩
  · obtain ⟨b, off, cs, T, fr, e1, e2, e3⟩ := s.1.2 h0
    obtain ⟨cs2, fr2, e4⟩ := s.2 b (by rw [e1]; rfl)
    rw [e2] at e4
    cases e4
    exact ⟨b, off, cs, _, fr, e1, hk b cs fr (by rw [e1]; rfl) e2, e3⟩
  · obtain ⟨cs, fr, e⟩ := s.2 q hq
    exact ⟨cs, fr, hk q cs fr hq e⟩
end Go.Proofs.Ytikpfffhcjlcjaa
