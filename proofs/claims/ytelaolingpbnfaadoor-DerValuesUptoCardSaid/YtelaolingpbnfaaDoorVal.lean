/- Numbers and identifiers, there and back. Plain Lean. -/
import Derived.Test.YtelaolingpbnfaaDoorUint
import Derived.Test.YtelaolingpbnfaaDoorSpl
import Derived.Lib.AtoiAll
import Derived.Lib.ItoaMem
namespace Go.Proofs.YtelaolingpbnfaaDoor
set_option linter.unusedSimpArgs false
set_option maxRecDepth 100000
theorem byteAt_cons (c : UInt8) (r : List UInt8) : byteAt (c :: r) 0 = (c.toNat : Int) := rfl
theorem byteAt_cons1 (c d : UInt8) (r : List UInt8) : byteAt (c :: d :: r) 1 = (d.toNat : Int) := rfl
theorem leastF_head : ∀ l : List UInt8, leastF l = [] ∨ ∃ c r, leastF l = c :: r ∧ c ≠ 0 ∧ leastF (c :: r) = c :: r
  | [] => .inl rfl
  | c :: r => by
    by_cases h : c = 0
    · rw [leastF, if_pos h]; exact leastF_head r
    · rw [leastF, if_neg h]; exact .inr ⟨c, r, rfl, h, by rw [leastF, if_neg h]⟩
/-- What stands in the INTEGER of bytes. -/
def ofuD (b : List UInt8) : List UInt8 := if (leastF b).length = 0 ∨ 128 ≤ byteAt (leastF b) 0 then u8 0 :: leastF b else leastF b
theorem ne0 {c : UInt8} (h : c ≠ 0) : c.toNat ≠ 0 := fun e => h (UInt8.toNat_inj.1 (by rw [e]; rfl))
theorem right2 (l : List UInt8) : rightF 2 l = ((l.length : Int) == 1 || (decide (1 < (l.length : Int)) && !(byteAt l 0 == 0 && decide (byteAt l 1 < 128)) && !(byteAt l 0 == 255 && decide (128 ≤ byteAt l 1)))) := by
  unfold rightF; rw [if_neg (by decide), if_pos rfl]
theorem uint_of (b : List UInt8) : uintF ⟨2, ofuD b, 0⟩ = (leastF b, true) := by
  unfold ofuD
  rcases leastF_head b with h | ⟨c, r, h, hc, hl⟩
  · rw [h]; decide
  · rw [h]
    have h0 := ne0 hc
    have hb := c.toNat_lt
    by_cases h8 : 128 ≤ c.toNat
    · rw [if_pos (.inr (by rw [byteAt_cons]; omega))]
      unfold uintF
      rw [if_pos]
      · show (leastF (0 :: c :: r), true) = _
        rw [leastF, if_pos rfl, hl]
      · refine ⟨rfl, rfl, ?_, ?_⟩
        · show rightF 2 (0 :: c :: r) = true
          rw [right2, byteAt_cons, byteAt_cons1]
          have : ¬ (c.toNat : Int) < 128 := by omega
          simp [this]
          omega
        · show byteAt (0 :: c :: r) 0 < 128
          rw [byteAt_cons]; decide
    · have hlt : ¬ ((c :: r).length = 0 ∨ 128 ≤ byteAt (c :: r) 0) := by rw [byteAt_cons]; simp; omega
      rw [if_neg hlt]
      unfold uintF
      rw [if_pos]
      · show (leastF (c :: r), true) = _
        rw [hl]
      · refine ⟨rfl, rfl, ?_, ?_⟩
        · show rightF 2 (c :: r) = true
          rw [right2, byteAt_cons]
          have e1 : ((c.toNat : Int) == 0) = false := by simp; omega
          have e2 : ((c.toNat : Int) == 255) = false := by simp; omega
          rw [e1, e2]
          cases r <;> simp <;> omega
        · show byteAt (c :: r) 0 < 128
          rw [byteAt_cons]; omega
theorem of_uint {t : Tlv} {n : List UInt8} (h : uintF t = (n, true)) : ofuD n = t.data ∧ t.tag = 2 ∧ t.kids = 0 ∧ rightF 2 t.data = true ∧ 0 < t.data.length ∧ byteAt t.data 0 < 128 := by
  unfold uintF at h
  split at h
  · rename_i hc
    obtain ⟨h1, h2, h3, h4⟩ := hc
    obtain rfl : leastF t.data = n := (Prod.mk.inj h).1
    have key : ∀ d : List UInt8, rightF 2 d = true → byteAt d 0 < 128 → ofuD (leastF d) = d ∧ 0 < d.length := by
      intro d hr hb
      match d with
      | [] => rw [show rightF 2 [] = false from by decide] at hr; cases hr
      | [c] =>
        refine ⟨?_, by simp⟩
        rw [byteAt_cons] at hb
        by_cases h0 : c = 0
        · subst h0; decide
        · have e : leastF [c] = [c] := by rw [leastF, if_neg h0]
          rw [e]; unfold ofuD; rw [e, if_neg (by rw [byteAt_cons]; simp; omega)]
      | c :: e :: r =>
        refine ⟨?_, by simp⟩
        rw [right2, byteAt_cons, byteAt_cons1] at hr
        rw [byteAt_cons] at hb
        by_cases h0 : c = 0
        · subst h0
          have h8 : 128 ≤ e.toNat := by
            by_cases h8 : 128 ≤ e.toNat
            · exact h8
            · have : (e.toNat : Int) < 128 := by omega
              simp [this] at hr
              omega
          have he : e ≠ 0 := fun h => by subst h; simp at h8
          have l1 : leastF (e :: r) = e :: r := by rw [leastF, if_neg he]
          have l0 : leastF (0 :: e :: r) = e :: r := by rw [leastF, if_pos rfl, l1]
          rw [l0]; unfold ofuD; rw [l1, if_pos (.inr (by rw [byteAt_cons]; omega))]; rfl
        · have l1 : leastF (c :: e :: r) = c :: e :: r := by rw [leastF, if_neg h0]
          rw [l1]; unfold ofuD; rw [l1, if_neg (by rw [byteAt_cons]; simp; omega)]
    obtain ⟨k1, k2⟩ := key t.data h3 h4
    exact ⟨k1, h1, h2, h3, k2, h4⟩
  · cases (Prod.mk.inj h).2
theorem uint_no {t : Tlv} (h : (uintF t).2 = false) : (uintF t).1 = [] := by
  unfold uintF at h ⊢
  split
  · rename_i hc; rw [if_pos hc] at h; cases h
  · rfl
theorem shaped_one {t : Tlv} (h1 : tagF t.tag = true) (h2 : innerF t.tag = false) (h3 : t.kids = 0) (h4 : rightF t.tag t.data = true) : shapedF [t] = true := by
  unfold shapedF stF stB
  simp [h1, h2, h3, h4]
/-! ## Identifiers -/
def hiF (n : Nat) : List UInt8 := if _h : n = 0 then [] else hiF (n / 128) ++ [u8 ((128 + n % 128 : Nat) : Int)]
termination_by n
decreasing_by omega
def grpF (n : Nat) : List UInt8 := hiF (n / 128) ++ [u8 ((n % 128 : Nat) : Int)]
theorem hiF_zero : hiF 0 = [] := by rw [hiF, dif_pos rfl]
theorem hiF_pos {n : Nat} (h : n ≠ 0) : hiF n = hiF (n / 128) ++ [u8 ((128 + n % 128 : Nat) : Int)] := by rw [hiF, dif_neg h]
theorem u8_nat {n : Nat} (h : n < 256) : (u8 (n : Int)).toNat = n := by
  have := u8_toNat (n : Int) (by omega) (by omega)
  omega
theorem u8_self (c : UInt8) : u8 ((c.toNat : Nat) : Int) = c := by unfold u8; simp
def gr : Bool → List UInt8 → Bool
  | b, [] => b
  | b, c :: r => !(b && decide (c.toNat = 128)) && gr (decide (c.toNat < 128)) r
theorem gr_groups (l : List UInt8) : ∀ k i, i + k = l.length → (groupsTo l i && gr (beginsAt l i) (l.drop i)) = (beginsAt l l.length && groupsTo l l.length) := by
  intro k
  induction k with
  | zero =>
    intro i hi
    obtain rfl : i = l.length := by omega
    rw [List.drop_length, gr, Bool.and_comm]
  | succ k ih =>
    intro i hi
    have hlt : i < l.length := by omega
    have h := ih (i + 1) (by omega)
    rw [← h, groupsTo_succ, List.drop_eq_getElem_cons hlt, gr]
    have e : byteAt l i = (l[i].toNat : Int) := by unfold byteAt; rw [List.getD_eq_getElem?_getD, List.getElem?_eq_getElem hlt]; rfl
    have e1 : (byteAt l i == 128) = decide (l[i].toNat = 128) := by rw [Bool.eq_iff_iff, beq_iff_eq, decide_eq_true_eq, e]; omega
    have e2 : beginsAt l (i + 1) = decide (l[i].toNat < 128) := by
      show decide (byteAt l i < 128) = _
      rw [e]; exact decide_eq_decide.2 (by omega)
    rw [e1, e2, Bool.and_assoc]
theorem groupsF_gr (l : List UInt8) : groupsF l = (decide (0 < l.length) && gr true l) := by
  have h := gr_groups l l.length 0 (by omega)
  unfold groupsF
  rw [Bool.and_assoc, ← h]
  simp [groupsTo, beginsAt]
theorem gr_hi (m : Nat) : ∀ r, gr true (hiF m ++ r) = if m = 0 then gr true r else gr false r := by
  induction m using Nat.strongRecOn with
  | _ m ih =>
    intro r
    by_cases h : m = 0
    · subst h; rw [hiF_zero]; simp
    · rw [hiF_pos h, List.append_assoc, ih (m / 128) (by omega), if_neg h]
      have hu := u8_nat (n := 128 + m % 128) (by omega)
      have h2 : ¬ (128 + m % 128 < 128) := by omega
      by_cases h0 : m / 128 = 0
      · have h1 : ¬ (128 + m % 128 = 128) := by omega
        rw [if_pos h0, List.singleton_append, gr, hu]
        simp only [h1, h2, decide_false, Bool.and_false, Bool.not_false, Bool.true_and]
      · rw [if_neg h0, List.singleton_append, gr, hu]
        simp only [h2, decide_false, Bool.false_and, Bool.not_false, Bool.true_and]
theorem gr_grp (m : Nat) (r : List UInt8) : gr true (grpF m ++ r) = gr true r := by
  unfold grpF
  rw [List.append_assoc, gr_hi]
  have hu := u8_nat (n := m % 128) (by omega)
  have h2 : m % 128 < 128 := by omega
  have h1 : ¬ (m % 128 = 128) := by omega
  split <;> rw [List.singleton_append, gr, hu] <;> simp only [h1, h2, decide_true, decide_false, Bool.and_false, Bool.false_and, Bool.not_false, Bool.true_and]
theorem gr_grps : ∀ ms : List Nat, gr true (ms.flatMap grpF) = true
  | [] => rfl
  | m :: r => by rw [List.flatMap_cons, gr_grp, gr_grps r]
theorem grpF_ne (m : Nat) : 0 < (grpF m).length := by unfold grpF; simp
theorem oidS_hi (m : Nat) : m ≤ 2147483727 → ∀ r out, oidS (hiF m ++ r) out 0 = oidS r out m := by
  induction m using Nat.strongRecOn with
  | _ m ih =>
    intro hm r out
    by_cases h : m = 0
    · subst h; rw [hiF_zero]; rfl
    · rw [hiF_pos h, List.append_assoc, ih (m / 128) (by omega) (by omega), List.singleton_append, oidS]
      have hu := u8_nat (n := 128 + m % 128) (by omega)
      rw [hu, show m / 128 * 128 + (128 + m % 128) % 128 = m from by omega, if_neg (by omega), if_pos (by omega)]
theorem oidS_grp (m : Nat) (hm : m ≤ 2147483727) (r : List UInt8) (out : List (List UInt8)) : oidS (grpF m ++ r) out 0 =
    if out.length = 0 then if 2147483647 < m - 40 * min (m / 40) 2 then none else oidS r [Lib.itoa (min (m / 40) 2 : Nat), Lib.itoa (m - 40 * min (m / 40) 2 : Nat)] 0
    else if 2147483647 < m then none else oidS r (out ++ [Lib.itoa (m : Nat)]) 0 := by
  unfold grpF
  rw [List.append_assoc, oidS_hi (m / 128) (by omega), List.singleton_append, oidS]
  have hu := u8_nat (n := m % 128) (by omega)
  rw [hu, show m / 128 * 128 + m % 128 % 128 = m from by omega, if_neg (by omega), if_neg (by omega)]
theorem oidS_all : ∀ (ms : List Nat) (out : List (List UInt8)), out.length ≠ 0 → (∀ m ∈ ms, m ≤ 2147483647) → oidS (ms.flatMap grpF) out 0 = some (out ++ ms.map fun m : Nat => Lib.itoa m)
  | [], out, _, _ => by simp [oidS]
  | m :: r, out, h, hm => by
    have h1 := hm m (by simp)
    rw [List.flatMap_cons, oidS_grp m (by omega), if_neg h, if_neg (by omega), oidS_all r _ (by simp) fun x hx => hm x (by simp [hx])]
    simp
theorem oidS_inv : ∀ (d : List UInt8) (out : List (List UInt8)) (n : Nat) (L : List (List UInt8)), oidS d out n = some L → out.length ≠ 0 → gr (decide (n = 0)) d = true →
    ∃ ms : List Nat, (∀ m ∈ ms, m ≤ 2147483647) ∧ L = out ++ ms.map (fun m : Nat => Lib.itoa m) ∧ hiF n ++ d = ms.flatMap grpF
  | [], out, n, L, h, ho, hg => by
    obtain rfl : n = 0 := by simpa [gr] using hg
    refine ⟨[], by simp, ?_, by rw [hiF_zero]; rfl⟩
    rw [oidS] at h; simpa using h.symm
  | c :: r, out, n, L, h, ho, hg => by
    rw [oidS] at h
    rw [gr] at hg
    simp only [Bool.and_eq_true, Bool.not_eq_true', Bool.and_eq_false_iff, decide_eq_false_iff_not] at hg
    obtain ⟨hg1, hg2⟩ := hg
    have hc := c.toNat_lt
    generalize hm : n * 128 + c.toNat % 128 = m at h
    split at h
    · cases h
    · rename_i hb
      split at h
      · rename_i h8
        have hm0 : m ≠ 0 := by omega
        rw [show decide (c.toNat < 128) = decide (m = 0) from decide_eq_decide.2 (by omega)] at hg2
        obtain ⟨ms, q1, q2, q3⟩ := oidS_inv r out m L h ho hg2
        refine ⟨ms, q1, q2, ?_⟩
        rw [← q3, hiF_pos hm0, show m / 128 = n from by omega, List.append_assoc, show 128 + m % 128 = c.toNat from by omega, u8_self]
        rfl
      · rename_i h8
        split at h
        · cases h
        · rename_i hmm
          rw [show decide (c.toNat < 128) = decide (0 = 0) from decide_eq_decide.2 (by omega)] at hg2
          obtain ⟨ms, q1, q2, q3⟩ := oidS_inv r (out ++ [Lib.itoa (m : Nat)]) 0 L h (by simp) hg2
          refine ⟨m :: ms, ?_, ?_, ?_⟩
          · intro x hx
            rcases List.mem_cons.1 hx with rfl | hx
            · omega
            · exact q1 x hx
          · rw [q2]; simp
          · rw [List.flatMap_cons, ← q3, hiF_zero]
            unfold grpF
            rw [show m / 128 = n from by omega, show m % 128 = c.toNat from by omega, u8_self]
            simp
theorem oidS_inv0 : ∀ (d : List UInt8) (n : Nat) (L : List (List UInt8)), oidS d [] n = some L → gr (decide (n = 0)) d = true → (d ≠ [] ∨ n ≠ 0) →
    ∃ (m : Nat) (ms : List Nat), m - 40 * min (m / 40) 2 ≤ 2147483647 ∧ (∀ m ∈ ms, m ≤ 2147483647) ∧ L = Lib.itoa (min (m / 40) 2 : Nat) :: Lib.itoa (m - 40 * min (m / 40) 2 : Nat) :: ms.map (fun m : Nat => Lib.itoa m) ∧ hiF n ++ d = grpF m ++ ms.flatMap grpF
  | [], n, L, h, hg, hd => by
    have : n = 0 := by simpa [gr] using hg
    rcases hd with hd | hd
    · exact absurd rfl hd
    · exact absurd this hd
  | c :: r, n, L, h, hg, hd => by
    rw [oidS] at h
    rw [gr] at hg
    simp only [Bool.and_eq_true, Bool.not_eq_true', Bool.and_eq_false_iff, decide_eq_false_iff_not] at hg
    obtain ⟨hg1, hg2⟩ := hg
    have hc := c.toNat_lt
    generalize hm : n * 128 + c.toNat % 128 = m at h
    split at h
    · cases h
    · rename_i hb
      split at h
      · rename_i h8
        have hm0 : m ≠ 0 := by omega
        rw [show decide (c.toNat < 128) = decide (m = 0) from decide_eq_decide.2 (by omega)] at hg2
        obtain ⟨k, ms, q0, q1, q2, q3⟩ := oidS_inv0 r m L h hg2 (.inr hm0)
        refine ⟨k, ms, q0, q1, q2, ?_⟩
        rw [← q3, hiF_pos hm0, show m / 128 = n from by omega, List.append_assoc, show 128 + m % 128 = c.toNat from by omega, u8_self]
        rfl
      · rename_i h8
        rw [if_pos (show ([] : List (List UInt8)).length = 0 from rfl)] at h
        split at h
        · cases h
        · rename_i hmm
          rw [show decide (c.toNat < 128) = decide (0 = 0) from decide_eq_decide.2 (by omega)] at hg2
          obtain ⟨ms, q1, q2, q3⟩ := oidS_inv r _ 0 L h (by simp) hg2
          refine ⟨m, ms, by omega, q1, q2, ?_⟩
          rw [← q3, hiF_zero]
          unfold grpF
          rw [show m / 128 = n from by omega, show m % 128 = c.toNat from by omega, u8_self]
          simp
/-! ## Numbers as texts -/
theorem dec_digits : ∀ n : Nat, ∀ b ∈ Lib.decDigits n, 48 ≤ b.toNat ∧ b.toNat ≤ 57 := by
  intro n
  induction n using Nat.strongRecOn with
  | _ n ih =>
    intro b hb
    rw [Lib.decDigits] at hb
    split at hb
    · obtain rfl := List.mem_singleton.1 hb
      rw [UInt8.toNat_ofNat']; omega
    · rcases List.mem_append.1 hb with h | h
      · exact ih (n / 10) (by omega) b h
      · obtain rfl := List.mem_singleton.1 h
        rw [UInt8.toNat_ofNat']; omega
theorem dec_ne (n : Nat) : Lib.decDigits n ≠ [] := by
  rw [Lib.decDigits]; split <;> simp
theorem parse_snoc (c : UInt8) (h48 : 48 ≤ c.toNat) (h57 : c.toNat ≤ 57) : ∀ (l : List UInt8) (a u : Nat), Lib.parseUint10 a l = .ok u → u < 1000000000000 → Lib.parseUint10 a (l ++ [c]) = .ok (u * 10 + (c.toNat - 48))
  | [], a, u, h, hu => by
    simp only [Lib.parseUint10] at h
    injection h with h
    subst h
    rw [List.nil_append, Lib.parseUint10, if_pos ⟨h48, h57⟩, if_neg (by omega), if_neg (by omega)]
    rfl
  | b :: r, a, u, h, hu => by
    rw [Lib.parseUint10] at h
    rw [List.cons_append, Lib.parseUint10]
    split at h
    · rename_i hd
      rw [if_pos hd]
      split at h
      · cases h
      · rename_i h1
        rw [if_neg h1]
        split at h
        · cases h
        · rename_i h2
          rw [if_neg h2]
          exact parse_snoc c h48 h57 r _ u h hu
    · cases h
theorem parse_dec : ∀ n : Nat, n < 1000000000000 → Lib.parseUint10 0 (Lib.decDigits n) = .ok n := by
  intro n
  induction n using Nat.strongRecOn with
  | _ n ih =>
    intro hn
    rw [Lib.decDigits]
    split
    · rename_i h
      rw [Lib.parseUint10]
      have e : (UInt8.ofNat (48 + n)).toNat = 48 + n := by rw [UInt8.toNat_ofNat']; omega
      rw [e, if_pos (by omega), if_neg (by omega), if_neg (by omega), Lib.parseUint10]
      congr 1; omega
    · rename_i h
      have e : (UInt8.ofNat (48 + n % 10)).toNat = 48 + n % 10 := by rw [UInt8.toNat_ofNat']; omega
      rw [parse_snoc _ (by rw [e]; omega) (by rw [e]; omega) _ 0 (n / 10) (ih (n / 10) (by omega) (by omega)) (by omega), e]
      congr 1; omega
theorem atoi_dec (n : Nat) (h : n < 1000000000000) : Lib.atoiAll (Lib.decDigits n) = .ok (n : Int) := by
  have hp := parse_dec n h
  cases hd : Lib.decDigits n with
  | nil => exact absurd hd (dec_ne n)
  | cons c r =>
    have hc := dec_digits n c (by rw [hd]; simp)
    rw [hd] at hp
    unfold Lib.atoiAll
    simp only
    rw [if_neg (by omega)]
    unfold Lib.parseMag
    rw [if_neg (by simp), hp]
    simp only
    rw [if_neg (by omega), if_neg (by omega), if_neg (by omega)]
def numV (p : List UInt8) : Int := match Lib.atoiAll p with
  | .ok v => v
  | .range => Lib.atoiSat p
  | _ => 0
def numOk (p : List UInt8) : Bool := match Lib.atoiAll p with
  | .ok v => decide (0 ≤ v) && decide (v ≤ 2147483647) && (Lib.itoa v == p)
  | _ => false
theorem num_itoa {n : Nat} (h : n ≤ 2147483647) : numOk (Lib.itoa n) = true ∧ numV (Lib.itoa n) = n := by
  have e := atoi_dec n (by omega)
  rw [← Lib.itoa_nonneg] at e
  unfold numOk numV
  rw [e]
  simp only
  have : (n : Int) ≤ 2147483647 := by omega
  simp [this]
theorem num_of {p : List UInt8} (h : numOk p = true) : ∃ n : Nat, n ≤ 2147483647 ∧ p = Lib.itoa n ∧ numV p = n := by
  unfold numOk at h
  unfold numV
  split at h
  · rename_i v hv
    rw [hv]
    simp only [Bool.and_eq_true, decide_eq_true_eq, beq_iff_eq] at h
    obtain ⟨⟨h1, h2⟩, h3⟩ := h
    refine ⟨v.toNat, by omega, ?_, by simp only; omega⟩
    rw [Int.toNat_of_nonneg h1]; exact h3.symm
  · cases h
/-- What stands in the identifier of the texts between the dots. -/
def ooF (l : List (List UInt8)) : Option (List UInt8) :=
  match l with
  | a :: b :: r => if (a :: b :: r).all numOk = true ∧ numV a ≤ 2 ∧ (numV a < 2 → numV b ≤ 39) then some (grpF (40 * numV a + numV b).toNat ++ r.flatMap fun p => grpF (numV p).toNat) else none
  | _ => none
def ofOidF (s : List UInt8) : Tlv × Bool := match ooF (spl 46 s) with
  | some d => (⟨6, d, 0⟩, true)
  | none => (⟨0, [], 0⟩, false)
theorem join_cons2 (x y : List UInt8) (r : List (List UInt8)) (c : UInt8) : Lib.join (x :: y :: r) [c] = x ++ c :: Lib.join (y :: r) [c] := by
  rw [Lib.join_cons, Lib.join_cons]; simp [Lib.joinTail]
theorem join_spl (c : UInt8) : ∀ l : List UInt8, Lib.join (spl c l) [c] = l
  | [] => by simp [spl, Lib.join_one]
  | b :: r => by
    have ih := join_spl c r
    rw [spl]
    cases hs : spl c r with
    | nil => exact absurd hs (spl_ne c r)
    | cons x t =>
      rw [hs] at ih
      split
      · rename_i h
        subst h
        rw [join_cons2, ih]; rfl
      · simp only
        cases t with
        | nil => rw [Lib.join_one] at ih ⊢; rw [ih]
        | cons y t => rw [join_cons2] at ih ⊢; rw [← ih]; rfl
theorem spl_app (c : UInt8) (z : List UInt8) : ∀ x : List UInt8, c ∉ x → spl c (x ++ c :: z) = x :: spl c z
  | [], _ => by rw [List.nil_append, spl, if_pos rfl]
  | b :: x, h => by
    have hb : ¬ b = c := fun e => h (by simp [e])
    rw [List.cons_append, spl, if_neg hb, spl_app c z x fun hx => h (by simp [hx])]
theorem spl_self (c : UInt8) : ∀ x : List UInt8, c ∉ x → spl c x = [x]
  | [], _ => rfl
  | b :: x, h => by
    have hb : ¬ b = c := fun e => h (by simp [e])
    rw [spl, if_neg hb, spl_self c x fun hx => h (by simp [hx])]
theorem spl_join (c : UInt8) : ∀ (x : List UInt8) (L : List (List UInt8)), (∀ y ∈ x :: L, c ∉ y) → spl c (Lib.join (x :: L) [c]) = x :: L
  | x, [], h => by rw [Lib.join_one, spl_self c x (h x (by simp))]
  | x, y :: L, h => by
    rw [join_cons2, spl_app c _ x (h x (by simp)), spl_join c y L fun z hz => h z (List.mem_cons_of_mem _ hz)]
theorem dot_itoa (n : Nat) : (46 : UInt8) ∉ Lib.itoa n := by
  rw [Lib.itoa_nonneg]
  intro h
  have := dec_digits n _ h
  simp at this
theorem right6 (l : List UInt8) : rightF 6 l = groupsF l := by
  unfold rightF; rw [if_neg (by decide), if_neg (by decide), if_neg (by decide), if_neg (by decide), if_pos rfl]
theorem nums_map : ∀ {r : List (List UInt8)}, r.all numOk = true → ∃ ms : List Nat, (∀ m ∈ ms, m ≤ 2147483647) ∧ r = ms.map (fun m : Nat => Lib.itoa m) ∧ (r.flatMap fun p => grpF (numV p).toNat) = ms.flatMap grpF
  | [], _ => ⟨[], by simp, rfl, rfl⟩
  | p :: r, h => by
    simp only [List.all_cons, Bool.and_eq_true] at h
    obtain ⟨n, h1, h2, h3⟩ := num_of h.1
    obtain ⟨ms, q1, q2, q3⟩ := nums_map h.2
    refine ⟨n :: ms, ?_, by rw [List.map_cons, ← q2, ← h2], by rw [List.flatMap_cons, List.flatMap_cons, q3, h3]; rfl⟩
    intro x hx
    rcases List.mem_cons.1 hx with rfl | hx
    · exact h1
    · exact q1 x hx
/-- An identifier comes back from its text. -/
theorem oid_of {s d : List UInt8} (h : ooF (spl 46 s) = some d) : oidF ⟨6, d, 0⟩ = (s, true) ∧ shapedF [⟨6, d, 0⟩] = true := by
  have hj := join_spl 46 s
  unfold ooF at h
  split at h
  · rename_i a b r hs
    split at h
    · rename_i hc
      obtain ⟨h1, h2, h3⟩ := hc
      simp only [List.all_cons, Bool.and_eq_true] at h1
      obtain ⟨na, a1, a2, a3⟩ := num_of h1.1
      obtain ⟨nb, b1, b2, b3⟩ := num_of h1.2.1
      obtain ⟨ms, q1, q2, q3⟩ := nums_map h1.2.2
      obtain rfl := Option.some.inj h
      rw [q3, a3, b3, show ((40 * (na : Int) + (nb : Int)).toNat) = 40 * na + nb from by omega]
      have hg : rightF 6 (grpF (40 * na + nb) ++ ms.flatMap grpF) = true := by
        rw [right6, groupsF_gr, gr_grp, gr_grps]
        have := grpF_ne (40 * na + nb)
        have : 0 < (grpF (40 * na + nb) ++ ms.flatMap grpF).length := by rw [List.length_append]; omega
        rw [decide_eq_true this]; rfl
      refine ⟨?_, shaped_one (show tagF 6 = true by decide) (show innerF 6 = false by decide) rfl hg⟩
      unfold oidF
      rw [if_pos ⟨rfl, rfl, hg⟩]
      have ht : min ((40 * na + nb) / 40) 2 = na := by omega
      show (match oidS (grpF (40 * na + nb) ++ ms.flatMap grpF) [] 0 with
        | some l => (Lib.join l [46], true)
        | none => ([], false)) = (s, true)
      rw [oidS_grp _ (by omega), if_pos (show ([] : List (List UInt8)).length = 0 from rfl), ht, show 40 * na + nb - 40 * na = nb from by omega, if_neg (by omega), oidS_all ms _ (by simp) q1]
      simp only
      rw [← a2, ← b2, ← q2, List.cons_append, List.cons_append, List.nil_append, ← hs, hj]
    · cases h
  · cases h
/-- A text comes back from its identifier. -/
theorem of_oid {t : Tlv} {o : List UInt8} (h : oidF t = (o, true)) : ooF (spl 46 o) = some t.data ∧ t.tag = 6 ∧ t.kids = 0 ∧ shapedF [t] = true := by
  unfold oidF at h
  split at h
  · rename_i hc
    obtain ⟨h1, h2, h3⟩ := hc
    split at h
    · rename_i L hL
      obtain rfl : Lib.join L [46] = o := (Prod.mk.inj h).1
      have hg := h3
      rw [right6, groupsF_gr, Bool.and_eq_true, decide_eq_true_eq] at hg
      obtain ⟨m, ms, q0, q1, q2, q3⟩ := oidS_inv0 t.data 0 L hL hg.2 (.inl (List.ne_nil_of_length_pos hg.1))
      refine ⟨?_, h1, h2, shaped_one (by rw [h1]; decide) (by rw [h1]; decide) h2 (by rw [h1]; exact h3)⟩
      have hdot : ∀ y ∈ L, (46 : UInt8) ∉ y := by
        intro y hy
        rw [q2] at hy
        rcases List.mem_cons.1 hy with rfl | hy
        · exact dot_itoa _
        · rcases List.mem_cons.1 hy with rfl | hy
          · exact dot_itoa _
          · obtain ⟨k, _, rfl⟩ := List.mem_map.1 hy
            exact dot_itoa _
      rw [hiF_zero, List.nil_append] at q3
      have ea := num_itoa (n := min (m / 40) 2) (by omega)
      have eb := num_itoa (n := m - 40 * min (m / 40) 2) q0
      have er : (ms.map (fun m : Nat => Lib.itoa m)).all numOk = true ∧ ((ms.map (fun m : Nat => Lib.itoa m)).flatMap fun p => grpF (numV p).toNat) = ms.flatMap grpF := by
        clear q2 q3 hL
        induction ms with
        | nil => exact ⟨rfl, rfl⟩
        | cons k r ih =>
          have hk := num_itoa (q1 k (by simp))
          obtain ⟨i1, i2⟩ := ih fun x hx => q1 x (by simp [hx])
          refine ⟨by rw [List.map_cons, List.all_cons, hk.1, i1]; rfl, ?_⟩
          rw [List.map_cons, List.flatMap_cons, i2, hk.2, List.flatMap_cons]; rfl
      have hsp : spl 46 (Lib.join L [46]) = L := by
        rw [q2] at hdot ⊢
        exact spl_join 46 _ _ hdot
      rw [hsp, q2]
      unfold ooF
      simp only
      have hall : (Lib.itoa (min (m / 40) 2 : Nat) :: Lib.itoa (m - 40 * min (m / 40) 2 : Nat) :: ms.map (fun m : Nat => Lib.itoa m)).all numOk = true := by
        rw [List.all_cons, List.all_cons, ea.1, eb.1, er.1]; rfl
      rw [if_pos ⟨hall, by rw [ea.2]; omega, by rw [ea.2, eb.2]; omega⟩, ea.2, eb.2, er.2, q3]
      congr 3
      omega
    · cases (Prod.mk.inj h).2
  · cases (Prod.mk.inj h).2
end Go.Proofs.YtelaolingpbnfaaDoor
