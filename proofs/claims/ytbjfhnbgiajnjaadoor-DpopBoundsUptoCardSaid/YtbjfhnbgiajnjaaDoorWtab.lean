/- Tables of the library's as what is taken for granted of the world. -/
import Derived.Test.YtbjfhnbgiajnjaaDoorWad
import Derived.Lib.LaidTab
namespace Go.Proofs.YtbjfhnbgiajnjaaDoor
open Go.RowKit
def tabInv (P : Program) (l : List (String × IntKind × List Int)) : Inv where
  I := fun w F => ∀ t ∈ l, Lib.TabIs P w t.1 t.2.1 t.2.2 ∧ ∃ g, P.globalNamed t.1 = some g ∧ g < w.heap.size ∧ ¬ F g
  out := fun {w w' F F'} h hs hb hF t ht => by
    obtain ⟨h1, g, h2, h3, h4⟩ := h t ht
    refine ⟨?_, g, h2, Nat.lt_of_lt_of_le h3 hs, fun hg => (hF g hg).elim h4 fun h => by omega⟩
    unfold Lib.TabIs World.var? at h1 ⊢
    rw [h2] at h1 ⊢
    simp only [Option.bind_some] at h1 ⊢
    rw [hb g h3 h4]
    exact h1
  gl := ⟨fun _ => none, none, fun _ _ _ => none⟩
  lkOk := fun _ _ _ _ _ h => by cases h
  glOk := fun _ _ h => by cases h
end Go.Proofs.YtbjfhnbgiajnjaaDoor
