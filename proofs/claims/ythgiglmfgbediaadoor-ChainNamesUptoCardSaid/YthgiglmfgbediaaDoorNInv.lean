/- What is taken for granted of the world: the tables of UTF-8, a number of the library's. -/
import Derived.Test.YthgiglmfgbediaaDoorWT
import Derived.Test.YthgiglmfgbediaaDoorWad
import Derived.Test.YthgiglmfgbediaaDoorNData
import Derived.Shelf.Unicode.DecodeSlow
namespace Go.Proofs.YthgiglmfgbediaaDoor
open Go.RowKit
set_option linter.unusedSimpArgs false
set_option maxRecDepth 100000
theorem cell_same {w w' : World} {b : Nat} (e : w'.heap[b]? = w.heap[b]?) (o : Nat) : w'.cell? ⟨b, o, none⟩ = w.cell? ⟨b, o, none⟩ := by
  simp only [World.cell?, e]
def JN : Inv where
  I := fun w F => Lib.Utf8Tabs 1 2 w ∧ (∃ m, w.cell? ⟨0, 0, none⟩ = some (.int .i64 m)) ∧ 3 ≤ w.heap.size ∧ ∀ g, g < 3 → ¬ F g
  out := fun {w w' F F'} h hs hb hF => by
    obtain ⟨⟨h1, h1'⟩, ⟨m, h2⟩, h3, h4⟩ := h
    have e : ∀ g, g < 3 → w'.heap[g]? = w.heap[g]? := fun g hg => hb g (by omega) (h4 g hg)
    exact ⟨⟨fun c hc => (cell_same (e _ (by decide)) c).trans (h1 c hc), fun i hi => ⟨(cell_same (e _ (by decide)) _).trans (h1' i hi).1, (cell_same (e _ (by decide)) _).trans (h1' i hi).2⟩⟩, ⟨m, (cell_same (e _ (by decide)) _).trans h2⟩, by omega, fun g hg hf => (hF g hf).elim (h4 g hg) fun h => by omega⟩
  gl := fun _ => none
  glOk := fun _ _ h => by cases h
end Go.Proofs.YthgiglmfgbediaaDoor
