/- What is taken for granted of the world: the table of x509's algorithms. -/
import Derived.Test.YtmafmdnmoccohaaGreatDoorWad
namespace Go.Proofs.YtmafmdnmoccohaaGreatDoor
open Go.RowKit
set_option linter.unusedSimpArgs false
/-- The table: a name, a number, a sign. -/
def algT : List (List UInt8 × Int × Bool) := [([49, 46, 50, 46, 56, 52, 48, 46, 49, 48, 48, 52, 53, 46, 52, 46, 51, 46, 50], 10, false), ([49, 46, 50, 46, 56, 52, 48, 46, 49, 48, 48, 52, 53, 46, 52, 46, 51, 46, 51], 11, false), ([49, 46, 51, 46, 49, 48, 49, 46, 49, 49, 50], 12, false), ([49, 46, 50, 46, 56, 52, 48, 46, 49, 49, 51, 53, 52, 57, 46, 49, 46, 49, 46, 49, 49], 4, true), ([49, 46, 50, 46, 56, 52, 48, 46, 49, 49, 51, 53, 52, 57, 46, 49, 46, 49, 46, 49, 50], 5, true), ([49, 46, 50, 46, 56, 52, 48, 46, 49, 49, 51, 53, 52, 57, 46, 49, 46, 49, 46, 49, 51], 6, true)]
def algU (i j : Nat) : Value := match algT[i]? with
  | some (s, n, b) => if j = 0 then .string ⟨s.toArray⟩ else if j = 1 then .int .i64 n else .bool b
  | none => undef
def algL : List V := [.st [.str [49, 46, 50, 46, 56, 52, 48, 46, 49, 48, 48, 52, 53, 46, 52, 46, 51, 46, 50], .val (.int .i64 10), .bb false], .st [.str [49, 46, 50, 46, 56, 52, 48, 46, 49, 48, 48, 52, 53, 46, 52, 46, 51, 46, 51], .val (.int .i64 11), .bb false], .st [.str [49, 46, 51, 46, 49, 48, 49, 46, 49, 49, 50], .val (.int .i64 12), .bb false], .st [.str [49, 46, 50, 46, 56, 52, 48, 46, 49, 49, 51, 53, 52, 57, 46, 49, 46, 49, 46, 49, 49], .val (.int .i64 4), .bb true], .st [.str [49, 46, 50, 46, 56, 52, 48, 46, 49, 49, 51, 53, 52, 57, 46, 49, 46, 49, 46, 49, 50], .val (.int .i64 5), .bb true], .st [.str [49, 46, 50, 46, 56, 52, 48, 46, 49, 49, 51, 53, 52, 57, 46, 49, 46, 49, 46, 49, 51], .val (.int .i64 6), .bb true]]
def algV : V := .sq 3 .any algL
theorem cell_keep {w w' : World} {b : Nat} (e : w'.heap[b]? = w.heap[b]?) (o : Nat) : w'.cell? ⟨b, o, none⟩ = w.cell? ⟨b, o, none⟩ := by
  simp only [World.cell?, e]
def JC : Inv where
  I := fun w F => ∃ b off cap, w.cell? ⟨0, 0, none⟩ = some (.slice (some ⟨b, off, none⟩) 6 cap) ∧ 6 ≤ cap ∧ b < w.heap.size ∧ ¬ F b ∧ 0 < w.heap.size ∧ ¬ F 0 ∧ ∀ i, i < 6 → ∀ j, j < 3 → w.cell? ⟨b, off + (i * 3 + j), none⟩ = some (algU i j)
  out := fun {w w' F F'} h hs hb hF => by
    obtain ⟨b, off, cap, h1, h2, h3, h4, h5, h6, h7⟩ := h
    refine ⟨b, off, cap, (cell_keep (hb _ h5 h6) _).trans h1, h2, by omega, fun hf => (hF _ hf).elim h4 fun h => by omega, by omega, fun hf => (hF _ hf).elim h6 fun h => by omega, fun i hi j hj => (cell_keep (hb _ h3 h4) _).trans (h7 i hi j hj)⟩
  gl := fun g => if g = 0 then some (.pe (.sq 1 .any [algV]) 0 0) else none
  glOk := fun {w F} g v hg h O W => by
    split at hg
    · rename_i hgg
      subst hgg
      obtain rfl := Option.some.inj hg
      obtain ⟨b, off, cap, h1, h2, h3, h4, h5, h6, h7⟩ := h
      have hrep : Rep w ⟨F, O, W⟩ algV (.slice (some ⟨b, off, none⟩) 6 cap) := by
        refine .sl algV 3 6 (fun i => algL.getD i .any) _ cap b off algU rfl h2 (fun _ => ⟨rfl, h3, h4⟩) (fun i hi j hj => ⟨h7 i hi j hj, ?_⟩) (fun i hi j hj => ?_)
        · have hi : i = 0 ∨ i = 1 ∨ i = 2 ∨ i = 3 ∨ i = 4 ∨ i = 5 := by omega
          have hj : j = 0 ∨ j = 1 ∨ j = 2 := by omega
          rcases hi with rfl | rfl | rfl | rfl | rfl | rfl <;> rcases hj with rfl | rfl | rfl <;> rfl
        · have hi : i = 0 ∨ i = 1 ∨ i = 2 ∨ i = 3 ∨ i = 4 ∨ i = 5 := by omega
          have hj : j = 0 ∨ j = 1 ∨ j = 2 := by omega
          rcases hi with rfl | rfl | rfl | rfl | rfl | rfl <;> rcases hj with rfl | rfl | rfl <;> first | exact .str _ | exact .val _ | exact .bb _
      refine .pe _ 1 1 (fun i => [algV].getD i .any) 0 0 _ 0 (fun _ _ => .slice (some ⟨b, off, none⟩) 6 cap) rfl (by omega) h5 h6 (fun i hi j hj => ?_) (fun i hi j hj => ?_)
      · obtain rfl : i = 0 := by omega
        obtain rfl : j = 0 := by omega
        exact ⟨h1, rfl⟩
      · obtain rfl : i = 0 := by omega
        exact hrep
    · cases hg
end Go.Proofs.YtmafmdnmoccohaaGreatDoor
