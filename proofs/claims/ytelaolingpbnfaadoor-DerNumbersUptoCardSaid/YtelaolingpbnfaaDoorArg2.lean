/- How long an argument's bytes are, by its reading. -/
import Derived.Test.YtelaolingpbnfaaDoorArg
import Derived.Test.YtelaolingpbnfaaDoorRows
namespace Go.Proofs.YtelaolingpbnfaaDoor
open Go.ChangeShapes Go.WideShapes Go.ChangeAt Go.RowKit
theorem arg_len {H : Type} {enc : TypeId × Value → H} {P : Program} {w : World} {base : Nat} {sp : Nat → Bool} {hd : Bool} {t e : TypeId} {a0 : Option Addr} {len0 cap0 : Nat} {d : DataW H} {ps : List MemPlace}
    (ht : P.underlying t = some (.slice e)) (h : DataW.Trod enc P w base sp hd t (.slice a0 len0 cap0) d ps) : len0 = 0 ∨ ∃ es sp, d = .slice es sp ∧ es.length = len0 := by
  obtain ⟨fuel, hf⟩ := h
  rcases _root_.Go.Deep.open_slice ht hf with ⟨hcs, _⟩ | ⟨x, l, c, m, n, D, Pl, hcs, _, hl, hm, hmm, hx, _⟩
  · simp [Value.cells] at hcs
    exact .inl hcs.2.1
  · simp [Value.cells] at hcs
    obtain ⟨rfl, rfl, rfl⟩ := hcs
    obtain ⟨hd1, _⟩ := Prod.mk.inj hx
    exact .inr ⟨_, _, hd1, by simp⟩
theorem rep_len {w : World} {F : Cx} {l : List UInt8} {a0 : Option Addr} {len0 cap0 : Nat} (h : Rep w F (.by l) (.slice a0 len0 cap0)) : l.length = len0 := by
  obtain ⟨A, cap, b, off, u, he, _⟩ := rep_sl (x := .by l) rfl h
  simp only [Value.slice.injEq] at he
  exact he.2.1.symm
theorem bulk_one {H : Type} (d : DataW H) : 1 ≤ Rows.uptoBulk d := by
  cases d with
  | lit l => cases l <;> simp [Rows.uptoBulk]
  | _ => simp [Rows.uptoBulk]
theorem bulk_len {H : Type} : ∀ l : List (DataW H), l.length ≤ Rows.uptoBulkAll l
  | [] => by simp [Rows.uptoBulkAll]
  | d :: r => by
    have h1 := bulk_one d
    have h2 := bulk_len r
    simp only [Rows.uptoBulkAll, List.length_cons]; omega
theorem bulk_slice {H : Type} (es sp : List (DataW H)) : es.length ≤ Rows.uptoBulk (.slice es sp) := by
  have := bulk_len es
  simp only [Rows.uptoBulk]; omega
end Go.Proofs.YtelaolingpbnfaaDoor
