/- What reading an element comes to. Plain Lean. -/
import Derived.Test.YtmafmdnmoccohaaGreatDoorDHd2
import Derived.Test.YtmafmdnmoccohaaGreatDoorDLen
namespace Go.Proofs.YtmafmdnmoccohaaGreatDoor
structure ER where
  out : List Tlv
  code : Int
  place : Nat
  ret : Nat
def addKid (ts : List Tlv) (me : Nat) : List Tlv := ts.set me ⟨(ts.getD me default).tag, (ts.getD me default).data, (ts.getD me default).kids + 1⟩
/-- The elements of a constructed one. -/
def kdF (rec : Nat → Nat → List Tlv → ER) (me to : Nat) : Nat → Nat → List Tlv → ER
  | 0, _, out => ⟨out, 0, 0, to⟩
  | n + 1, p, out =>
    if p < to then
      if (rec p to out).code = 0 then kdF rec me to n (rec p to out).ret (addKid (rec p to out).out me)
      else ⟨(rec p to out).out, (rec p to out).code, (rec p to out).place, 0⟩
    else ⟨out, 0, 0, to⟩
def tagAt (l : List UInt8) (p q : Nat) : Int := if (headF l p q).2.2 = true then byteAt l p else 0
def cutF (l : List UInt8) (p q : Nat) : List UInt8 := (l.drop (headF l p q).1).take ((headF l p q).2.1 - (headF l p q).1)
def badF (l : List UInt8) (p q : Nat) : Bool := !(headF l p q).2.2 || !tagF (tagAt l p q) || (!innerF (tagAt l p q) && !rightF (tagAt l p q) (cutF l p q))
def elB (l : List UInt8) (rec : Option (Nat → Nat → List Tlv → ER)) (p q : Nat) (out : List Tlv) : ER :=
  if badF l p q = true then ⟨out, 80, p, 0⟩
  else if innerF (tagAt l p q) = false then ⟨out ++ [⟨tagAt l p q, cutF l p q, 0⟩], 0, 0, (headF l p q).2.1⟩
  else match rec with
    | none => ⟨out, 11, p, 0⟩
    | some rec => kdF rec out.length (headF l p q).2.1 ((headF l p q).2.1 - (headF l p q).1 + 1) (headF l p q).1 (out ++ [⟨tagAt l p q, [], 0⟩])
/-- The element at a place, up to another one; d: how much deeper it may go; out: what has been read. -/
def elF (l : List UInt8) : Nat → Nat → Nat → List Tlv → ER
  | 0 => elB l none
  | d + 1 => elB l (some (elF l d))
/-- What is right of any way to read an element. -/
structure RecOk (rec : Nat → Nat → List Tlv → ER) : Prop where
  yes : ∀ p q out, (rec p q out).code = 0 → p + 2 ≤ (rec p q out).ret ∧ (rec p q out).ret ≤ q ∧ (rec p q out).place = 0
  len : ∀ p q out, p ≤ q → (rec p q out).out.length ≤ out.length + (q - p) ∧ out.length ≤ (rec p q out).out.length ∧ ((rec p q out).code = 0 → (rec p q out).out.length ≤ out.length + ((rec p q out).ret - p))
  ret : ∀ p q out, (rec p q out).code = 0 ∨ (rec p q out).ret = 0
  code : ∀ p q out, (rec p q out).code = 0 ∨ (rec p q out).code = 80 ∨ (rec p q out).code = 11
  pre : ∀ p q out, ∃ m, (rec p q out).out = out ++ m
theorem headF_ok {l : List UInt8} {p q : Nat} (h : (headF l p q).2.2 = true) : p + 2 ≤ (headF l p q).1 ∧ (headF l p q).1 ≤ (headF l p q).2.1 ∧ (headF l p q).2.1 ≤ q := by
  unfold headF at h ⊢
  split
  · simp_all
  · split
    · simp_all
    · split
      · simp_all
      · rename_i h1 h2 h3
        rw [if_neg h1, if_neg h2, if_neg h3] at h
        simp only [decide_eq_true_eq] at h
        refine ⟨by simp only; omega, by simp only; omega, h⟩
theorem addKid_at (b : List Tlv) (x : Tlv) (m : List Tlv) : addKid (b ++ x :: m) b.length = b ++ ⟨x.tag, x.data, x.kids + 1⟩ :: m := by
  unfold addKid
  rw [show (b ++ x :: m).getD b.length default = x from by simp [List.getD_eq_getElem?_getD]]
  simp
theorem addKid_len (ts : List Tlv) (me : Nat) : (addKid ts me).length = ts.length := by simp [addKid]
theorem kdF_ok {rec : Nat → Nat → List Tlv → ER} (hr : RecOk rec) (me to : Nat) : ∀ (n p : Nat) (out : List Tlv), p ≤ to → to - p < n →
    ((kdF rec me to n p out).code = 0 → (kdF rec me to n p out).ret = to ∧ (kdF rec me to n p out).place = 0) ∧ ((kdF rec me to n p out).code = 0 ∨ (kdF rec me to n p out).ret = 0) ∧ (kdF rec me to n p out).out.length ≤ out.length + (to - p) ∧ out.length ≤ (kdF rec me to n p out).out.length ∧
      ((kdF rec me to n p out).code = 0 ∨ (kdF rec me to n p out).code = 80 ∨ (kdF rec me to n p out).code = 11)
  | 0, p, out, _, h => by omega
  | n + 1, p, out, hp, hn => by
    rw [kdF]
    split
    · rename_i hlt
      obtain ⟨h1, h2, h3⟩ := hr.len p to out hp
      split
      · rename_i hc
        obtain ⟨g1, g2, g3⟩ := hr.yes p to out hc
        obtain ⟨q1, q2, q3, q4, q5⟩ := kdF_ok hr me to n (rec p to out).ret (addKid (rec p to out).out me) g2 (by omega)
        rw [addKid_len] at q3 q4
        have := h3 hc
        exact ⟨q1, q2, by omega, by omega, q5⟩
      · rename_i hc
        exact ⟨fun h => absurd h hc, .inr rfl, h1, h2, hr.code p to out⟩
    · refine ⟨fun _ => ⟨rfl, rfl⟩, .inl rfl, ?_, ?_, .inl rfl⟩ <;> simp only <;> omega
theorem kdF_pre {rec : Nat → Nat → List Tlv → ER} (hr : ∀ p q out, ∃ m, (rec p q out).out = out ++ m) (b : List Tlv) (to : Nat) : ∀ (n p : Nat) (x : Tlv) (m : List Tlv), ∃ x' m', (kdF rec b.length to n p (b ++ x :: m)).out = b ++ x' :: m'
  | 0, p, x, m => ⟨x, m, rfl⟩
  | n + 1, p, x, m => by
    rw [kdF]
    obtain ⟨k, hk⟩ := hr p to (b ++ x :: m)
    split
    · split
      · rw [hk, List.append_assoc, List.cons_append, addKid_at]
        exact kdF_pre hr b to n _ _ _
      · exact ⟨x, m ++ k, by simp only; rw [hk]; simp⟩
    · exact ⟨x, m, rfl⟩
theorem elB_ok (l : List UInt8) (rec : Option (Nat → Nat → List Tlv → ER)) (hrec : ∀ r, rec = some r → RecOk r) : RecOk (elB l rec) := by
  have key : ∀ p q out, ((elB l rec p q out).code = 0 → p + 2 ≤ (elB l rec p q out).ret ∧ (elB l rec p q out).ret ≤ q ∧ (elB l rec p q out).place = 0 ∧ (elB l rec p q out).out.length ≤ out.length + ((elB l rec p q out).ret - p)) ∧ ((elB l rec p q out).code = 0 ∨ (elB l rec p q out).ret = 0) ∧
      (p ≤ q → (elB l rec p q out).out.length ≤ out.length + (q - p)) ∧ out.length ≤ (elB l rec p q out).out.length ∧ ((elB l rec p q out).code = 0 ∨ (elB l rec p q out).code = 80 ∨ (elB l rec p q out).code = 11) := by
    intro p q out
    unfold elB
    split
    · exact ⟨fun h => absurd h (by simp), .inr rfl, fun _ => by simp only; omega, Nat.le_refl _, .inr (.inl rfl)⟩
    · rename_i hb
      have hh : (headF l p q).2.2 = true := by
        cases h : (headF l p q).2.2
        · exact absurd (by unfold badF; rw [h]; simp) hb
        · rfl
      obtain ⟨a1, a2, a3⟩ := headF_ok hh
      split
      · refine ⟨fun _ => ⟨by simp only; omega, a3, rfl, ?_⟩, .inl rfl, fun _ => ?_, ?_, .inl rfl⟩ <;> simp only [List.length_append, List.length_cons, List.length_nil] <;> omega
      · cases rec with
        | none => exact ⟨fun h => absurd h (by simp), .inr rfl, fun _ => by simp only; omega, Nat.le_refl _, .inr (.inr rfl)⟩
        | some r =>
          obtain ⟨q1, q2, q3, q4, q5⟩ := kdF_ok (hrec r rfl) out.length (headF l p q).2.1 ((headF l p q).2.1 - (headF l p q).1 + 1) (headF l p q).1 (out ++ [⟨tagAt l p q, [], 0⟩]) a2 (by omega)
          simp only [List.length_append, List.length_cons, List.length_nil] at q3 q4
          refine ⟨fun h => ?_, q2, fun _ => ?_, ?_, q5⟩
          · obtain ⟨e1, e2⟩ := q1 h
            refine ⟨by simp only; omega, by simp only; omega, e2, ?_⟩
            simp only
            rw [e1]; omega
          · simp only; omega
          · simp only; omega
  have pre : ∀ p q out, ∃ m, (elB l rec p q out).out = out ++ m := by
    intro p q out
    unfold elB
    split
    · exact ⟨[], by simp⟩
    · split
      · exact ⟨_, rfl⟩
      · cases rec with
        | none => exact ⟨[], by simp⟩
        | some r =>
          obtain ⟨x, m, h⟩ := kdF_pre (hrec r rfl).pre out (headF l p q).2.1 ((headF l p q).2.1 - (headF l p q).1 + 1) (headF l p q).1 ⟨tagAt l p q, [], 0⟩ []
          exact ⟨x :: m, h⟩
  exact ⟨fun p q out h => ⟨((key p q out).1 h).1, ((key p q out).1 h).2.1, ((key p q out).1 h).2.2.1⟩, fun p q out hpq => ⟨(key p q out).2.2.1 hpq, (key p q out).2.2.2.1, fun h => ((key p q out).1 h).2.2.2⟩, fun p q out => (key p q out).2.1, fun p q out => (key p q out).2.2.2.2, pre⟩
theorem elF_ok (l : List UInt8) : ∀ d, RecOk (elF l d)
  | 0 => elB_ok l none fun r h => by cases h
  | d + 1 => elB_ok l _ fun r h => by simp only [Option.some.injEq] at h; subst h; exact elF_ok l d
end Go.Proofs.YtmafmdnmoccohaaGreatDoor
