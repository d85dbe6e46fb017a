/- Numbers and identifiers, there and back: what is reckoned. Plain Lean. -/
import Derived.Test.YtelaolingpbnfaaDoorUint
import Derived.Test.YtelaolingpbnfaaDoorSpl
import Derived.Lib.AtoiAll
import Derived.Lib.ItoaMem
namespace Go.Proofs.YtelaolingpbnfaaDoor
set_option linter.unusedSimpArgs false
set_option maxRecDepth 100000
theorem byteAt_cons (c : UInt8) (r : List UInt8) : byteAt (c :: r) 0 = (c.toNat : Int) := rfl
theorem byteAt_cons1 (c d : UInt8) (r : List UInt8) : byteAt (c :: d :: r) 1 = (d.toNat : Int) := rfl
theorem leastF_head : ∀ l : List UInt8, leastF l = [] ∨ ∃ c r, leastF l = c :: r ∧ c ≠ 0 ∧ leastF (c :: r) = c :: r
  | [] => .inl rfl
  | c :: r => by
    by_cases h : c = 0
    · rw [leastF, if_pos h]; exact leastF_head r
    · rw [leastF, if_neg h]; exact .inr ⟨c, r, rfl, h, by rw [leastF, if_neg h]⟩
/-- What stands in the INTEGER of bytes. -/
def ofuD (b : List UInt8) : List UInt8 := if (leastF b).length = 0 ∨ 128 ≤ byteAt (leastF b) 0 then u8 0 :: leastF b else leastF b
theorem ne0 {c : UInt8} (h : c ≠ 0) : c.toNat ≠ 0 := fun e => h (UInt8.toNat_inj.1 (by rw [e]; rfl))
theorem uint_no {t : Tlv} (h : (uintF t).2 = false) : (uintF t).1 = [] := by
  unfold uintF at h ⊢
  split
  · rename_i hc; rw [if_pos hc] at h; cases h
  · rfl
/-! ## Identifiers -/
def hiF (n : Nat) : List UInt8 := if _h : n = 0 then [] else hiF (n / 128) ++ [u8 ((128 + n % 128 : Nat) : Int)]
termination_by n
decreasing_by omega
def grpF (n : Nat) : List UInt8 := hiF (n / 128) ++ [u8 ((n % 128 : Nat) : Int)]
theorem hiF_zero : hiF 0 = [] := by rw [hiF, dif_pos rfl]
theorem hiF_pos {n : Nat} (h : n ≠ 0) : hiF n = hiF (n / 128) ++ [u8 ((128 + n % 128 : Nat) : Int)] := by rw [hiF, dif_neg h]
theorem u8_nat {n : Nat} (h : n < 256) : (u8 (n : Int)).toNat = n := by
  have := u8_toNat (n : Int) (by omega) (by omega)
  omega
theorem u8_self (c : UInt8) : u8 ((c.toNat : Nat) : Int) = c := by unfold u8; simp
theorem grpF_ne (m : Nat) : 0 < (grpF m).length := by unfold grpF; simp
/-! ## Numbers as texts -/
theorem dec_digits : ∀ n : Nat, ∀ b ∈ Lib.decDigits n, 48 ≤ b.toNat ∧ b.toNat ≤ 57 := by
  intro n
  induction n using Nat.strongRecOn with
  | _ n ih =>
    intro b hb
    rw [Lib.decDigits] at hb
    split at hb
    · obtain rfl := List.mem_singleton.1 hb
      rw [UInt8.toNat_ofNat']; omega
    · rcases List.mem_append.1 hb with h | h
      · exact ih (n / 10) (by omega) b h
      · obtain rfl := List.mem_singleton.1 h
        rw [UInt8.toNat_ofNat']; omega
theorem dec_ne (n : Nat) : Lib.decDigits n ≠ [] := by
  rw [Lib.decDigits]; split <;> simp
theorem parse_snoc (c : UInt8) (h48 : 48 ≤ c.toNat) (h57 : c.toNat ≤ 57) : ∀ (l : List UInt8) (a u : Nat), Lib.parseUint10 a l = .ok u → u < 1000000000000 → Lib.parseUint10 a (l ++ [c]) = .ok (u * 10 + (c.toNat - 48))
  | [], a, u, h, hu => by
    simp only [Lib.parseUint10] at h
    injection h with h
    subst h
    rw [List.nil_append, Lib.parseUint10, if_pos ⟨h48, h57⟩, if_neg (by omega), if_neg (by omega)]
    rfl
  | b :: r, a, u, h, hu => by
    rw [Lib.parseUint10] at h
    rw [List.cons_append, Lib.parseUint10]
    split at h
    · rename_i hd
      rw [if_pos hd]
      split at h
      · cases h
      · rename_i h1
        rw [if_neg h1]
        split at h
        · cases h
        · rename_i h2
          rw [if_neg h2]
          exact parse_snoc c h48 h57 r _ u h hu
    · cases h
theorem parse_dec : ∀ n : Nat, n < 1000000000000 → Lib.parseUint10 0 (Lib.decDigits n) = .ok n := by
  intro n
  induction n using Nat.strongRecOn with
  | _ n ih =>
    intro hn
    rw [Lib.decDigits]
    split
    · rename_i h
      rw [Lib.parseUint10]
      have e : (UInt8.ofNat (48 + n)).toNat = 48 + n := by rw [UInt8.toNat_ofNat']; omega
      rw [e, if_pos (by omega), if_neg (by omega), if_neg (by omega), Lib.parseUint10]
      congr 1; omega
    · rename_i h
      have e : (UInt8.ofNat (48 + n % 10)).toNat = 48 + n % 10 := by rw [UInt8.toNat_ofNat']; omega
      rw [parse_snoc _ (by rw [e]; omega) (by rw [e]; omega) _ 0 (n / 10) (ih (n / 10) (by omega) (by omega)) (by omega), e]
      congr 1; omega
theorem atoi_dec (n : Nat) (h : n < 1000000000000) : Lib.atoiAll (Lib.decDigits n) = .ok (n : Int) := by
  have hp := parse_dec n h
  cases hd : Lib.decDigits n with
  | nil => exact absurd hd (dec_ne n)
  | cons c r =>
    have hc := dec_digits n c (by rw [hd]; simp)
    rw [hd] at hp
    unfold Lib.atoiAll
    simp only
    rw [if_neg (by omega)]
    unfold Lib.parseMag
    rw [if_neg (by simp), hp]
    simp only
    rw [if_neg (by omega), if_neg (by omega), if_neg (by omega)]
def numV (p : List UInt8) : Int := match Lib.atoiAll p with
  | .ok v => v
  | .range => Lib.atoiSat p
  | _ => 0
def numOk (p : List UInt8) : Bool := match Lib.atoiAll p with
  | .ok v => decide (0 ≤ v) && decide (v ≤ 2147483647) && (Lib.itoa v == p)
  | _ => false
theorem num_itoa {n : Nat} (h : n ≤ 2147483647) : numOk (Lib.itoa n) = true ∧ numV (Lib.itoa n) = n := by
  have e := atoi_dec n (by omega)
  rw [← Lib.itoa_nonneg] at e
  unfold numOk numV
  rw [e]
  simp only
  have : (n : Int) ≤ 2147483647 := by omega
  simp [this]
theorem num_of {p : List UInt8} (h : numOk p = true) : ∃ n : Nat, n ≤ 2147483647 ∧ p = Lib.itoa n ∧ numV p = n := by
  unfold numOk at h
  unfold numV
  split at h
  · rename_i v hv
    rw [hv]
    simp only [Bool.and_eq_true, decide_eq_true_eq, beq_iff_eq] at h
    obtain ⟨⟨h1, h2⟩, h3⟩ := h
    refine ⟨v.toNat, by omega, ?_, by simp only; omega⟩
    rw [Int.toNat_of_nonneg h1]; exact h3.symm
  · cases h
/-- What stands in the identifier of the texts between the dots. -/
def ooF (l : List (List UInt8)) : Option (List UInt8) :=
  match l with
  | a :: b :: r => if (a :: b :: r).all numOk = true ∧ numV a ≤ 2 ∧ (numV a < 2 → numV b ≤ 39) then some (grpF (40 * numV a + numV b).toNat ++ r.flatMap fun p => grpF (numV p).toNat) else none
  | _ => none
def ofOidF (s : List UInt8) : Tlv × Bool := match ooF (spl 46 s) with
  | some d => (⟨6, d, 0⟩, true)
  | none => (⟨0, [], 0⟩, false)
theorem join_cons2 (x y : List UInt8) (r : List (List UInt8)) (c : UInt8) : Lib.join (x :: y :: r) [c] = x ++ c :: Lib.join (y :: r) [c] := by
  rw [Lib.join_cons, Lib.join_cons]; simp [Lib.joinTail]
theorem join_spl (c : UInt8) : ∀ l : List UInt8, Lib.join (spl c l) [c] = l
  | [] => by simp [spl, Lib.join_one]
  | b :: r => by
    have ih := join_spl c r
    rw [spl]
    cases hs : spl c r with
    | nil => exact absurd hs (spl_ne c r)
    | cons x t =>
      rw [hs] at ih
      split
      · rename_i h
        subst h
        rw [join_cons2, ih]; rfl
      · simp only
        cases t with
        | nil => rw [Lib.join_one] at ih ⊢; rw [ih]
        | cons y t => rw [join_cons2] at ih ⊢; rw [← ih]; rfl
theorem spl_app (c : UInt8) (z : List UInt8) : ∀ x : List UInt8, c ∉ x → spl c (x ++ c :: z) = x :: spl c z
  | [], _ => by rw [List.nil_append, spl, if_pos rfl]
  | b :: x, h => by
    have hb : ¬ b = c := fun e => h (by simp [e])
    rw [List.cons_append, spl, if_neg hb, spl_app c z x fun hx => h (by simp [hx])]
theorem spl_self (c : UInt8) : ∀ x : List UInt8, c ∉ x → spl c x = [x]
  | [], _ => rfl
  | b :: x, h => by
    have hb : ¬ b = c := fun e => h (by simp [e])
    rw [spl, if_neg hb, spl_self c x fun hx => h (by simp [hx])]
theorem spl_join (c : UInt8) : ∀ (x : List UInt8) (L : List (List UInt8)), (∀ y ∈ x :: L, c ∉ y) → spl c (Lib.join (x :: L) [c]) = x :: L
  | x, [], h => by rw [Lib.join_one, spl_self c x (h x (by simp))]
  | x, y :: L, h => by
    rw [join_cons2, spl_app c _ x (h x (by simp)), spl_join c y L fun z hz => h z (List.mem_cons_of_mem _ hz)]
theorem dot_itoa (n : Nat) : (46 : UInt8) ∉ Lib.itoa n := by
  rw [Lib.itoa_nonneg]
  intro h
  have := dec_digits n _ h
  simp at this
end Go.Proofs.YtelaolingpbnfaaDoor
