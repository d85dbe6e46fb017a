/- Texts cut at one byte. Plain Lean. -/
import Derived.Test.YtelaolingpbnfaaDoorWT
import Derived.Lib.SplitLaws
namespace Go.Proofs.YtelaolingpbnfaaDoor
def spl (c : UInt8) : List UInt8 → List (List UInt8)
  | [] => [[]]
  | b :: l => if b = c then [] :: spl c l else match spl c l with
    | h :: t => (b :: h) :: t
    | [] => [[b]]
theorem spl_ne (c : UInt8) (l : List UInt8) : spl c l ≠ [] := by
  cases l with
  | nil => simp [spl]
  | cons b r => unfold spl; split; · simp
                split <;> simp
theorem index_one (b c : UInt8) (l : List UInt8) : Lib.index (b :: l) [c] = if b = c then 0 else if Lib.index l [c] = -1 then -1 else Lib.index l [c] + 1 := by
  rw [Lib.index]
  by_cases h : b = c
  · subst h; simp [List.isPrefixOf]
  · have hp : ([c] : List UInt8).isPrefixOf (b :: l) = false := by simp [List.isPrefixOf, Ne.symm h]
    rw [hp, if_neg h]
    simp
theorem splitK_cons {b c : UInt8} (h : b ≠ c) (k : Nat) (l : List UInt8) : ∃ x r, Lib.splitK [c] 0 k l = x :: r ∧ Lib.splitK [c] 0 k (b :: l) = (b :: x) :: r := by
  cases k with
  | zero => exact ⟨l, [], rfl, rfl⟩
  | succ k =>
    have hx := index_one b c l
    rw [if_neg h] at hx
    by_cases hm : Lib.index l [c] = -1
    · rw [if_pos hm] at hx
      exact ⟨l, [], by rw [Lib.splitK, hm]; rfl, by rw [Lib.splitK, hx]; rfl⟩
    · have hge := Lib.index_ge l [c]
      obtain ⟨j, hj⟩ : ∃ j : Nat, Lib.index l [c] = j := ⟨(Lib.index l [c]).toNat, by omega⟩
      rw [if_neg hm, hj] at hx
      refine ⟨l.take j, Lib.splitK [c] 0 k (l.drop (j + 1)), ?_, ?_⟩
      · rw [Lib.splitK, hj, if_neg (by simp)]; simp
      · rw [Lib.splitK, hx, if_neg (by simp; omega)]
        have e : ((j : Int) + 1).toNat = j + 1 := by omega
        simp [e]
theorem splitK_spl (c : UInt8) : ∀ l : List UInt8, Lib.splitK [c] 0 (l.count c) l = spl c l
  | [] => rfl
  | b :: l => by
    by_cases h : b = c
    · subst h
      rw [List.count_cons_self, Lib.splitK, index_one, if_pos rfl, spl, if_pos rfl, ← splitK_spl b l]
      simp
    · obtain ⟨x, r, e1, e2⟩ := splitK_cons h (l.count c) l
      rw [List.count_cons_of_ne (by simpa using h), e2, spl, if_neg h, ← splitK_spl c l, e1]
theorem splitB_spl (c : UInt8) (s : ByteArray) : (Lib.splitB ⟨#[c]⟩ 0 (Lib.countB s ⟨#[c]⟩) s).map (·.data.toList) = spl c s.data.toList := by
  rw [Lib.splitB_data, ← splitK_spl]
  congr 1
  exact Lib.count_one c _
theorem spl_len (c : UInt8) : ∀ l : List UInt8, (spl c l).length = l.count c + 1
  | [] => rfl
  | b :: l => by
    have ih := spl_len c l
    unfold spl
    by_cases h : b = c
    · subst h; rw [if_pos rfl, List.count_cons_self, List.length_cons, ih]
    · rw [if_neg h, List.count_cons_of_ne (by simpa using h), ← ih]
      split
      · rename_i e; rw [e]; rfl
      · rename_i e; exact absurd e (spl_ne c l)
theorem spl_le (c : UInt8) : ∀ (l : List UInt8), ∀ x ∈ spl c l, x.length ≤ l.length
  | [], x, hx => by simp [spl] at hx; subst hx; simp
  | b :: l, x, hx => by
    have ih := spl_le c l
    rw [spl] at hx
    split at hx
    · rcases List.mem_cons.1 hx with rfl | hx
      · simp
      · have := ih x hx; simp; omega
    · split at hx
      · rename_i a r e
        rw [e] at ih
        rcases List.mem_cons.1 hx with rfl | hx
        · have := ih a (List.mem_cons_self ..); simp; omega
        · have := ih x (List.mem_cons_of_mem _ hx); simp; omega
      · rename_i e; exact absurd e (spl_ne c l)
end Go.Proofs.YtelaolingpbnfaaDoor
