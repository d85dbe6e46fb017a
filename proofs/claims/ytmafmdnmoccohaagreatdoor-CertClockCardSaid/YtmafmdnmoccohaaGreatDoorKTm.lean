/- Times: six numbers; their order; the next one; their bytes. Plain Lean. -/
import Derived.Test.YtmafmdnmoccohaaGreatDoorTime
namespace Go.Proofs.YtmafmdnmoccohaaGreatDoor
theorem monF_range (y m : Int) : 28 ≤ monF y m ∧ monF y m ≤ 31 := by
  unfold monF
  repeat' split
  all_goals omega
theorem days_13 (y : Int) : daysF y 13 1 = daysF (y + 1) 1 1 := by
  simp only [daysF_def]; unfold dayF
  rw [if_neg (by omega), if_pos (by omega)]; simp
theorem days_year (y : Int) : daysF y 1 1 = 365 * (y - 1) + (y - 1) / 4 - (y - 1) / 100 + (y - 1) / 400 - 719162 := by
  rw [daysF_def, if_pos (by omega)]; unfold dayF; omega
theorem days_mono (y m : Int) : ∀ n : Nat, 1 ≤ m → m + n ≤ 13 → daysF y m 1 ≤ daysF y (m + n) 1
  | 0, _, _ => by simp
  | n + 1, h1, h2 => by
    have h := days_mono y m n h1 (by omega)
    have h3 := mon_eq y (m + n) (by omega) (by omega)
    have h4 := monF_range y (m + n)
    rw [show m + ((n + 1 : Nat) : Int) = m + n + 1 from by omega]
    omega
theorem days_le {y m m' : Int} (h1 : 1 ≤ m) (h2 : m ≤ m') (h3 : m' ≤ 13) : daysF y m 1 ≤ daysF y m' 1 := by
  have := days_mono y m (m' - m).toNat h1 (by omega)
  rwa [show m + ((m' - m).toNat : Int) = m' from by omega] at this
theorem days_yr {y y' : Int} (h : y ≤ y') : daysF y 1 1 ≤ daysF y' 1 1 := by
  rw [days_year, days_year]; omega
/-- A time: six numbers. -/
structure Tm where
  y : Int
  mo : Int
  d : Int
  h : Int
  mi : Int
  s : Int
def Tm.real (t : Tm) : Prop := 1950 ≤ t.y ∧ t.y ≤ 9999 ∧ 1 ≤ t.mo ∧ t.mo ≤ 12 ∧ 1 ≤ t.d ∧ t.d ≤ monF t.y t.mo ∧ 0 ≤ t.h ∧ t.h < 24 ∧ 0 ≤ t.mi ∧ t.mi < 60 ∧ 0 ≤ t.s ∧ t.s < 60
instance (t : Tm) : Decidable t.real := by unfold Tm.real; infer_instance
def Tm.sec (t : Tm) : Int := 86400 * (daysF t.y t.mo 1 + (t.d - 1)) + (3600 * t.h + 60 * t.mi + t.s)
def Tm.list (t : Tm) : List Int := [t.y, t.mo, t.d, t.h, t.mi, t.s]
def befF : List Int → List Int → Bool
  | a :: r, b :: q => if a = b then befF r q else decide (a < b)
  | _, _ => false
theorem sec_lex {a b : Tm} (ha : a.real) (hb : b.real) : (befF a.list b.list = true → a.sec < b.sec) ∧ (a.list ≠ b.list → befF a.list b.list = false → b.sec < a.sec) := by
  obtain ⟨y, mo, d, h, mi, s⟩ := a
  obtain ⟨y', mo', d', h', mi', s'⟩ := b
  simp only [Tm.real] at ha hb
  have key : ∀ {y mo d h mi s y' mo' d' h' mi' s' : Int}, (1950 ≤ y ∧ y ≤ 9999 ∧ 1 ≤ mo ∧ mo ≤ 12 ∧ 1 ≤ d ∧ d ≤ monF y mo ∧ 0 ≤ h ∧ h < 24 ∧ 0 ≤ mi ∧ mi < 60 ∧ 0 ≤ s ∧ s < 60) → (1950 ≤ y' ∧ y' ≤ 9999 ∧ 1 ≤ mo' ∧ mo' ≤ 12 ∧ 1 ≤ d' ∧ d' ≤ monF y' mo' ∧ 0 ≤ h' ∧ h' < 24 ∧ 0 ≤ mi' ∧ mi' < 60 ∧ 0 ≤ s' ∧ s' < 60) →
      (y < y' ∨ y = y' ∧ (mo < mo' ∨ mo = mo' ∧ (d < d' ∨ d = d' ∧ (h < h' ∨ h = h' ∧ (mi < mi' ∨ mi = mi' ∧ s < s'))))) →
      86400 * (daysF y mo 1 + (d - 1)) + (3600 * h + 60 * mi + s) < 86400 * (daysF y' mo' 1 + (d' - 1)) + (3600 * h' + 60 * mi' + s') := by
    intro y mo d h mi s y' mo' d' h' mi' s' ha hb hl
    have e1 := mon_eq y mo (by omega) (by omega)
    rcases hl with hl | ⟨rfl, hl⟩
    · have e2 := days_le (y := y) (m := mo + 1) (m' := 13) (by omega) (by omega) (by omega)
      have e3 := days_13 y
      have e4 := days_yr (y := y + 1) (y' := y') (by omega)
      have e5 := days_le (y := y') (m := 1) (m' := mo') (by omega) (by omega) (by omega)
      omega
    · rcases hl with hl | ⟨rfl, hl⟩
      · have e2 := days_le (y := y) (m := mo + 1) (m' := mo') (by omega) (by omega) (by omega)
        omega
      · omega
  have lex : befF [y, mo, d, h, mi, s] [y', mo', d', h', mi', s'] = true ↔ (y < y' ∨ y = y' ∧ (mo < mo' ∨ mo = mo' ∧ (d < d' ∨ d = d' ∧ (h < h' ∨ h = h' ∧ (mi < mi' ∨ mi = mi' ∧ s < s'))))) := by
    simp only [befF]
    repeat' split
    all_goals simp
    all_goals omega
  refine ⟨fun hl => key ha hb (lex.1 hl), fun hn hl => key hb ha ?_⟩
  change befF [y, mo, d, h, mi, s] [y', mo', d', h', mi', s'] = false at hl
  have hl : ¬ befF [y, mo, d, h, mi, s] [y', mo', d', h', mi', s'] = true := by rw [hl]; simp
  rw [lex] at hl
  change [y, mo, d, h, mi, s] ≠ [y', mo', d', h', mi', s'] at hn
  simp only [ne_eq, List.cons.injEq, and_true] at hn
  dsimp only
  omega
theorem sec_lt {a b : Tm} (ha : a.real) (hb : b.real) : decide (a.sec < b.sec) = befF a.list b.list := by
  obtain ⟨h1, h2⟩ := sec_lex ha hb
  cases e : befF a.list b.list with
  | true => simpa using h1 e
  | false =>
    by_cases h : a.list = b.list
    · obtain ⟨y, mo, d, h, mi, s⟩ := a
      obtain ⟨y', mo', d', h', mi', s'⟩ := b
      simp only [Tm.list, List.cons.injEq, and_true] at h
      obtain ⟨rfl, rfl, rfl, rfl, rfl, rfl⟩ := h
      simp
    · have := h2 h e
      simp; omega
theorem sec_eq {a b : Tm} (ha : a.real) (hb : b.real) : a.sec = b.sec ↔ a.list = b.list := by
  obtain ⟨h1, h2⟩ := sec_lex ha hb
  constructor
  · intro h
    refine Decidable.byContradiction fun hn => ?_
    cases e : befF a.list b.list with
    | true => have := h1 e; omega
    | false => have := h2 hn e; omega
  · intro h
    obtain ⟨y, mo, d, h, mi, s⟩ := a
    obtain ⟨y', mo', d', h', mi', s'⟩ := b
    simp only [Tm.list, List.cons.injEq, and_true] at h
    obtain ⟨rfl, rfl, rfl, rfl, rfl, rfl⟩ := h
    rfl
def Tm.n1 (t : Tm) : Tm := if t.s + 1 = 60 then { t with s := 0, mi := t.mi + 1 } else { t with s := t.s + 1 }
def Tm.n2 (t : Tm) : Tm := if t.mi = 60 then { t with mi := 0, h := t.h + 1 } else t
def Tm.n3 (t : Tm) : Tm := if t.h = 24 then { t with h := 0, d := t.d + 1 } else t
def Tm.n4 (t : Tm) : Tm := if monF t.y t.mo < t.d then { t with d := 1, mo := t.mo + 1 } else t
def Tm.n5 (t : Tm) : Tm := if t.mo = 13 then { t with mo := 1, y := t.y + 1 } else t
def Tm.next (t : Tm) : Tm := t.n1.n2.n3.n4.n5
theorem sec_next {a : Tm} (ha : a.real) : a.next.sec = a.sec + 1 := by
  obtain ⟨y, mo, d, h, mi, s⟩ := a
  simp only [Tm.real] at ha
  have e1 := mon_eq y mo (by omega) (by omega)
  have e2 := days_13 y
  simp only [Tm.next, Tm.n1, Tm.n2, Tm.n3, Tm.n4, Tm.n5, Tm.sec]
  by_cases h1 : s + 1 = 60
  · simp only [h1, if_true]
    by_cases h2 : mi + 1 = 60
    · simp only [h2, if_true]
      by_cases h3 : h + 1 = 24
      · simp only [h3, if_true]
        by_cases h4 : monF y mo < d + 1
        · simp only [h4, if_true]
          by_cases h5 : mo + 1 = 13
          · simp only [h5, if_true]
            rw [h5] at e1
            omega
          · simp only [h5, if_false]; omega
        · simp only [h4, if_false]
          have h5 : ¬ mo = 13 := by omega
          simp only [h5, if_false]; omega
      · have h4 : ¬ monF y mo < d := by omega
        have h5 : ¬ mo = 13 := by omega
        simp only [h3, h4, h5, if_false]; omega
    · have h3 : ¬ h = 24 := by omega
      have h4 : ¬ monF y mo < d := by omega
      have h5 : ¬ mo = 13 := by omega
      simp only [h2, h3, h4, h5, if_false]; omega
  · have h2 : ¬ mi = 60 := by omega
    have h3 : ¬ h = 24 := by omega
    have h4 : ¬ monF y mo < d := by omega
    have h5 : ¬ mo = 13 := by omega
    simp only [h1, h2, h3, h4, h5, if_false]; omega
/-- Two digits. -/
def dig2 (n : Int) : List UInt8 := [u8 (48 + n / 10), u8 (48 + n % 10)]
theorem dig2_len (n : Int) : (dig2 n).length = 2 := rfl
def tailB (mo d h mi s : Int) : List UInt8 := dig2 mo ++ (dig2 d ++ (dig2 h ++ (dig2 mi ++ (dig2 s ++ [90]))))
def Tm.bytes (t : Tm) : List UInt8 := (if 2050 ≤ t.y then dig2 (t.y / 100) else []) ++ (dig2 (t.y % 100) ++ tailB t.mo t.d t.h t.mi t.s)
def Tm.tag (t : Tm) : Int := if 2050 ≤ t.y then 24 else 23
theorem byteAt_c0 (a : UInt8) (l : List UInt8) : byteAt (a :: l) 0 = (a.toNat : Int) := rfl
theorem byteAt_cS (a : UInt8) (l : List UInt8) (i : Nat) : byteAt (a :: l) (i + 1) = byteAt l i := by unfold byteAt; simp
theorem twoF_dig {n : Int} (h0 : 0 ≤ n) (h1 : n ≤ 99) (r : List UInt8) : twoF (dig2 n ++ r) 0 = n := by
  have e0 : byteAt (dig2 n ++ r) 0 = 48 + n / 10 := by
    show ((u8 (48 + n / 10)).toNat : Int) = _
    exact u8_toNat _ (by omega) (by omega)
  have e1 : byteAt (dig2 n ++ r) (0 + 1) = 48 + n % 10 := by
    show ((u8 (48 + n % 10)).toNat : Int) = _
    exact u8_toNat _ (by omega) (by omega)
  unfold twoF
  rw [e0, e1, if_pos]
  · omega
  · unfold dig; omega
theorem twoF_skip (n : Int) (r : List UInt8) (i : Nat) : twoF (dig2 n ++ r) (i + 2) = twoF r i := by
  show twoF (_ :: _ :: r) (i + 1 + 1) = _
  rw [twoF_cons, twoF_cons]
theorem drop_dig (n : Int) (r : List UInt8) : (dig2 n ++ r).drop 2 = r := rfl
theorem tailF_ok {y mo d h mi s : Int} (ht : (Tm.mk y mo d h mi s).real) : tailF y (tailB mo d h mi s) = ((daysF y mo 1 + d - 1) * 86400 + (h * 3600 + mi * 60 + s), true) := by
  simp only [Tm.real] at ht
  have hm := monF_range y mo
  have t0 : twoF (tailB mo d h mi s) 0 = mo := twoF_dig (by omega) (by omega) _
  have t2 : twoF (tailB mo d h mi s) 2 = d := by
    show twoF (dig2 mo ++ _) (0 + 2) = _
    rw [twoF_skip]; exact twoF_dig (by omega) (by omega) _
  have t4 : twoF (tailB mo d h mi s) 4 = h := by
    show twoF (dig2 mo ++ (dig2 d ++ _)) (0 + 2 + 2) = _
    rw [twoF_skip, twoF_skip]; exact twoF_dig (by omega) (by omega) _
  have t6 : twoF (tailB mo d h mi s) 6 = mi := by
    show twoF (dig2 mo ++ (dig2 d ++ (dig2 h ++ _))) (0 + 2 + 2 + 2) = _
    rw [twoF_skip, twoF_skip, twoF_skip]; exact twoF_dig (by omega) (by omega) _
  have t8 : twoF (tailB mo d h mi s) 8 = s := by
    show twoF (dig2 mo ++ (dig2 d ++ (dig2 h ++ (dig2 mi ++ _)))) (0 + 2 + 2 + 2 + 2) = _
    rw [twoF_skip, twoF_skip, twoF_skip, twoF_skip]; exact twoF_dig (by omega) (by omega) _
  have tz : byteAt (tailB mo d h mi s) 10 = 90 := rfl
  have hb : badT y (tailB mo d h mi s) = false := by
    unfold badT
    rw [t0, t2, t4, t6, t8, tz]
    simp
    omega
  unfold tailF
  rw [hb, if_neg (by simp), t0, t2, t4, t6, t8]
theorem sec_bytes {t : Tm} (ht : t.real) : secF t.tag t.bytes 0 = (t.sec, true) := by
  obtain ⟨y, mo, d, h, mi, s⟩ := t
  have hr := ht
  simp only [Tm.real] at hr
  unfold secF Tm.tag Tm.bytes Tm.sec
  simp only
  rw [if_neg (by simp)]
  by_cases hy : 2050 ≤ y
  · simp only [if_pos hy]
    have hl : (dig2 (y / 100) ++ (dig2 (y % 100) ++ tailB mo d h mi s)).length = 15 := rfl
    rw [if_neg (by omega), if_pos ⟨trivial, hl⟩]
    have t0 : twoF (dig2 (y / 100) ++ (dig2 (y % 100) ++ tailB mo d h mi s)) 0 = y / 100 := twoF_dig (by omega) (by omega) _
    have t2 : twoF (dig2 (y / 100) ++ (dig2 (y % 100) ++ tailB mo d h mi s)) 2 = y % 100 := by
      show twoF _ (0 + 2) = _
      rw [twoF_skip]; exact twoF_dig (by omega) (by omega) _
    rw [t0, t2, if_neg (by omega)]
    show tailF _ (tailB mo d h mi s) = _
    rw [show 100 * (y / 100) + y % 100 = y from by omega, tailF_ok ht]
    congr 1; omega
  · simp only [if_neg hy]
    have hl : (([] : List UInt8) ++ (dig2 (y % 100) ++ tailB mo d h mi s)).length = 13 := rfl
    rw [if_pos ⟨trivial, hl⟩]
    have t0 : twoF (([] : List UInt8) ++ (dig2 (y % 100) ++ tailB mo d h mi s)) 0 = y % 100 := twoF_dig (by omega) (by omega) _
    rw [t0, if_neg (by omega)]
    show tailF _ (tailB mo d h mi s) = _
    rw [show (if y % 100 < 50 then y % 100 + 100 else y % 100) + 1900 = y from by split <;> omega, tailF_ok ht]
    congr 1; omega
end Go.Proofs.YtmafmdnmoccohaaGreatDoor
