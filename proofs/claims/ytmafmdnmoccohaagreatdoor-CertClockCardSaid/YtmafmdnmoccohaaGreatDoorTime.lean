/- Dates: what reading one comes to. Plain Lean. -/
import Derived.Test.YtmafmdnmoccohaaGreatDoorWT
import Derived.Lib.Atoi
namespace Go.Proofs.YtmafmdnmoccohaaGreatDoor
def dayF (y m d : Int) : Int := 365 * y + y / 4 - y / 100 + y / 400 + (153 * (m - 3) + 2) / 5 + d - 719469
def daysF : Int → Int → Int → Int := sealed _ fun y m d => if m < 3 then dayF (y - 1) (m + 12) d else dayF y m d
theorem daysF_def (y m d : Int) : daysF y m d = if m < 3 then dayF (y - 1) (m + 12) d else dayF y m d := by unfold daysF; rw [sealed_id]
def leapF (y : Int) : Bool := y % 4 == 0 && (!(y % 100 == 0) || y % 400 == 0)
def monF (y m : Int) : Int := if m = 2 then (if leapF y = true then 29 else 28) else if m = 4 ∨ m = 6 ∨ m = 9 ∨ m = 11 then 30 else 31
theorem leap_iff (y : Int) : leapF y = true ↔ y % 4 = 0 ∧ (y % 100 ≠ 0 ∨ y % 400 = 0) := by
  simp [leapF]
theorem mon_eq (y m : Int) (h1 : 1 ≤ m) (h2 : m ≤ 12) : daysF y (m + 1) 1 = daysF y m 1 + monF y m := by
  have hl := leap_iff y
  have : m = 1 ∨ m = 2 ∨ m = 3 ∨ m = 4 ∨ m = 5 ∨ m = 6 ∨ m = 7 ∨ m = 8 ∨ m = 9 ∨ m = 10 ∨ m = 11 ∨ m = 12 := by omega
  rcases this with rfl | rfl | rfl | rfl | rfl | rfl | rfl | rfl | rfl | rfl | rfl | rfl
  case inr.inl =>
    rw [daysF_def, daysF_def]
    unfold dayF monF
    rw [if_neg (by omega), if_pos (by omega), if_pos rfl]
    by_cases h : leapF y = true
    · rw [if_pos h]
      have := hl.1 h
      omega
    · rw [if_neg h]
      have : ¬ (y % 4 = 0 ∧ (y % 100 ≠ 0 ∨ y % 400 = 0)) := fun e => h (hl.2 e)
      omega
  all_goals
    simp only [daysF_def]
    unfold dayF monF
    simp
    omega
theorem yr_step (y : Int) : daysF (y + 1) 1 1 = daysF y 1 1 + 365 + (if leapF y = true then 1 else 0) := by
  have hl := leap_iff y
  rw [daysF_def, daysF_def]
  unfold dayF
  rw [if_pos (by omega), if_pos (by omega)]
  by_cases h : leapF y = true
  · rw [if_pos h]
    have := hl.1 h
    omega
  · rw [if_neg h]
    have : ¬ (y % 4 = 0 ∧ (y % 100 ≠ 0 ∨ y % 400 = 0)) := fun e => h (hl.2 e)
    omega
theorem yr_1970 : daysF 1970 1 1 = 0 := by rw [daysF_def]; decide
theorem daysF_add (y m d : Int) : daysF y m d = daysF y m 1 + d - 1 := by
  simp only [daysF_def]; unfold dayF; split <;> omega
theorem daysF_range (y m d : Int) (h0 : 0 ≤ y) (h1 : y ≤ 10000) (m0 : 1 ≤ m) (m1 : m ≤ 13) (d0 : 0 ≤ d) (d1 : d ≤ 100) : -800000 ≤ daysF y m d ∧ daysF y m d ≤ 4000000 := by
  simp only [daysF_def]; unfold dayF; split <;> omega
def dig (b : Int) : Prop := 48 ≤ b ∧ b ≤ 57
instance (b : Int) : Decidable (dig b) := by unfold dig; infer_instance
def twoF (l : List UInt8) (i : Nat) : Int := if dig (byteAt l i) ∧ dig (byteAt l (i + 1)) then 10 * (byteAt l i - 48) + (byteAt l (i + 1) - 48) else -1
theorem twoF_range (l : List UInt8) (i : Nat) : -1 ≤ twoF l i ∧ twoF l i ≤ 99 := by
  unfold twoF dig; split <;> omega
theorem twoF_drop (l : List UInt8) (a i : Nat) : twoF (l.drop a) i = twoF l (a + i) := by
  have h : ∀ j, byteAt (l.drop a) j = byteAt l (a + j) := fun j => by
    unfold byteAt; rw [List.getD_eq_getElem?_getD, List.getElem?_drop, List.getD_eq_getElem?_getD]
  unfold twoF
  rw [h, h, show a + (i + 1) = a + i + 1 from by omega]
theorem twoF_cons (c : UInt8) (l : List UInt8) (i : Nat) : twoF (c :: l) (i + 1) = twoF l i := by
  have h : ∀ j, byteAt (c :: l) (j + 1) = byteAt l j := fun j => by unfold byteAt; simp
  unfold twoF
  rw [h, h]
def numF : List UInt8 → Int := sealed _ fun s => match Lib.decFrom 0 s with
  | some n => (n : Int)
  | none => -1
theorem numF_def (s : List UInt8) : numF s = match Lib.decFrom 0 s with
  | some n => (n : Int)
  | none => -1 := by unfold numF; rw [sealed_id]
theorem digitVal_at {l : List UInt8} {i : Nat} (h : i < l.length) : Lib.digitVal l[i] = if dig (byteAt l i) then some (byteAt l i - 48).toNat else none := by
  have e : byteAt l i = (l[i].toNat : Int) := by unfold byteAt; rw [List.getD_eq_getElem?_getD, List.getElem?_eq_getElem h]; rfl
  rw [e]
  unfold Lib.digitVal
  by_cases hd : dig (l[i].toNat : Int)
  · rw [if_pos hd]
    unfold dig at hd
    rw [if_pos (by omega)]
    congr 1; omega
  · rw [if_neg hd]
    unfold dig at hd
    rw [if_neg (by omega)]
theorem num2 {l : List UInt8} {a : Nat} (h : a + 2 ≤ l.length) : numF ((l.drop a).take 2) = twoF l a := by
  have e : (l.drop a).take 2 = [l[a], l[a + 1]] := by
    rw [List.drop_eq_getElem_cons (by omega), List.drop_eq_getElem_cons (i := a + 1) (by omega)]; rfl
  rw [e]
  unfold twoF
  rw [numF_def, Lib.decFrom, digitVal_at (by omega)]
  by_cases h1 : dig (byteAt l a)
  · rw [if_pos h1]
    simp only [Lib.decFrom]
    rw [digitVal_at (by omega)]
    by_cases h2 : dig (byteAt l (a + 1))
    · rw [if_pos h2, if_pos ⟨h1, h2⟩]
      simp only
      unfold dig at h1 h2
      omega
    · rw [if_neg h2, if_neg (fun h => h2 h.2)]
  · rw [if_neg h1, if_neg (fun h => h1 h.1)]
theorem num4 {l : List UInt8} (h : 4 ≤ l.length) : numF (l.take 4) = if twoF l 0 < 0 ∨ twoF l 2 < 0 then -1 else 100 * twoF l 0 + twoF l 2 := by
  have e : l.take 4 = [l[0], l[1], l[2], l[3]] := by
    conv => lhs; rw [show l = l.drop 0 from rfl, List.drop_eq_getElem_cons (i := 0) (by omega), List.drop_eq_getElem_cons (i := 0 + 1) (by omega), List.drop_eq_getElem_cons (i := 0 + 1 + 1) (by omega), List.drop_eq_getElem_cons (i := 0 + 1 + 1 + 1) (by omega)]
    rfl
  rw [e]
  rw [numF_def]
  simp only [Lib.decFrom]
  rw [digitVal_at (by omega)]
  by_cases h0 : dig (byteAt l 0)
  · rw [if_pos h0]
    simp only
    rw [digitVal_at (by omega)]
    by_cases h1 : dig (byteAt l 1)
    · rw [if_pos h1]
      simp only
      have t0 : twoF l 0 = 10 * (byteAt l 0 - 48) + (byteAt l 1 - 48) := by unfold twoF; rw [if_pos ⟨h0, h1⟩]
      rw [digitVal_at (by omega)]
      by_cases h2 : dig (byteAt l 2)
      · rw [if_pos h2]
        simp only
        rw [digitVal_at (by omega)]
        by_cases h3 : dig (byteAt l 3)
        · rw [if_pos h3]
          have t2 : twoF l 2 = 10 * (byteAt l 2 - 48) + (byteAt l 3 - 48) := by unfold twoF; rw [if_pos ⟨h2, h3⟩]
          simp only
          unfold dig at h0 h1 h2 h3
          rw [if_neg (by omega), t0, t2]
          omega
        · have t2 : twoF l 2 = -1 := by unfold twoF; rw [if_neg (fun h => h3 h.2)]
          rw [if_neg h3, if_pos (by omega)]
      · have t2 : twoF l 2 = -1 := by unfold twoF; rw [if_neg (fun h => h2 h.1)]
        rw [if_neg h2, if_pos (by omega)]
    · have t0 : twoF l 0 = -1 := by unfold twoF; rw [if_neg (fun h => h1 h.2)]
      rw [if_neg h1, if_pos (by omega)]
  · have t0 : twoF l 0 = -1 := by unfold twoF; rw [if_neg (fun h => h0 h.1)]
    rw [if_neg h0, if_pos (by omega)]
theorem numF_no {s : List UInt8} {i : Nat} (h : i < s.length) (hd : ¬ dig (byteAt s i)) : numF s = -1 := by
  rw [numF_def]
  cases e : Lib.decFrom 0 s with
  | none => rfl
  | some n =>
    obtain ⟨d, hd2⟩ := Lib.digit_of_decFrom s 0 n e i s[i] (List.getElem?_eq_getElem h)
    rw [digitVal_at h, if_neg hd] at hd2
    cases hd2
theorem decFrom_all : ∀ (l : List UInt8) (acc : Nat), (∀ b ∈ l, ∃ d, Lib.digitVal b = some d) → ∃ n, Lib.decFrom acc l = some n
  | [], acc, _ => ⟨acc, rfl⟩
  | b :: r, acc, h => by
    obtain ⟨d, hd⟩ := h b (by simp)
    rw [Lib.decFrom, hd]
    exact decFrom_all r _ fun c hc => h c (List.mem_cons_of_mem _ hc)
theorem atoi_num {s : List UInt8} (hs : 0 < s.length) (h : ∀ i, i < s.length → dig (byteAt s i)) : Lib.atoi s = some (numF s) := by
  obtain ⟨n, hn⟩ := decFrom_all s 0 fun b hb => by
    obtain ⟨i, hi, rfl⟩ := List.getElem_of_mem hb
    exact ⟨_, by rw [digitVal_at hi, if_pos (h i hi)]⟩
  have e : numF s = (n : Int) := by rw [numF_def, hn]
  rw [e]
  cases s with
  | nil => simp at hs
  | cons b r =>
    have hb := h 0 hs
    have e2 : byteAt (b :: r) 0 = (b.toNat : Int) := rfl
    rw [e2] at hb
    unfold dig at hb
    unfold Lib.atoi
    have n1 : (b == 45) = false := by rw [beq_eq_false_iff_ne]; rintro rfl; have : (45 : UInt8).toNat = 45 := rfl; omega
    have n2 : (b == 43) = false := by rw [beq_eq_false_iff_ne]; rintro rfl; have : (43 : UInt8).toNat = 43 := rfl; omega
    simp only [n1, n2]
    simp only [Bool.false_eq_true, if_false]
    unfold Lib.decNat
    simp [hn]
/-- The time from the month on, of a year. -/
def badT (y : Int) (l : List UInt8) : Bool := decide (twoF l 0 < 1) || decide (12 < twoF l 0) || decide (twoF l 2 < 1) || decide (twoF l 4 < 0) || decide (23 < twoF l 4) || decide (twoF l 6 < 0) || decide (59 < twoF l 6) || decide (twoF l 8 < 0) || decide (59 < twoF l 8) || !(byteAt l 10 == 90) || decide (monF y (twoF l 0) < twoF l 2)
def tailF (y : Int) (l : List UInt8) : Int × Bool := if badT y l = true then (0, false) else ((daysF y (twoF l 0) 1 + twoF l 2 - 1) * 86400 + (twoF l 4 * 3600 + twoF l 6 * 60 + twoF l 8), true)
def secF (tag : Int) (l : List UInt8) (kids : Int) : Int × Bool :=
  if kids ≠ 0 then (0, false)
  else if tag = 23 ∧ l.length = 13 then
    if twoF l 0 < 0 then (0, false) else tailF ((if twoF l 0 < 50 then twoF l 0 + 100 else twoF l 0) + 1900) (l.drop 2)
  else if tag = 24 ∧ l.length = 15 then
    if twoF l 0 < 0 ∨ twoF l 2 < 0 ∨ 100 * twoF l 0 + twoF l 2 < 2050 then (0, false) else tailF (100 * twoF l 0 + twoF l 2) (l.drop 4)
  else (0, false)
end Go.Proofs.YtmafmdnmoccohaaGreatDoor
