/- What the reference's reading comes to, and that it is what the program's does. Plain Lean. -/
import Derived.Test.YtelaolingpbnfaaDElem
import Derived.Test.YtelaolingpbnfaaDElW
namespace Go.Proofs.Ytelaolingpbnfaa
def rkF (rec : Nat → Nat → List Tlv → ER) (me to : Nat) : Nat → Nat → List Tlv → ER
  | 0, p, out => ⟨out, 0, 0, p⟩
  | n + 1, p, out =>
    if p < to then
      if (rec p to out).code = 0 then rkF rec me to n (rec p to out).ret (addKid (rec p to out).out me)
      else ⟨addKid (rec p to out).out me, (rec p to out).code, (rec p to out).place, (rec p to out).ret⟩
    else ⟨out, 0, 0, p⟩
def rdB (l : List UInt8) (rec : Option (Nat → Nat → List Tlv → ER)) (p q : Nat) (out : List Tlv) : ER :=
  if badF l p q = true then ⟨out, 80, p, p⟩
  else if innerF (tagAt l p q) = false then ⟨out ++ [⟨tagAt l p q, cutF l p q, 0⟩], 0, 0, (headF l p q).2.1⟩
  else match rec with
    | none => ⟨out ++ [⟨tagAt l p q, [], 0⟩], 11, p, p⟩
    | some rec => rkF rec out.length (headF l p q).2.1 ((headF l p q).2.1 - (headF l p q).1 + 1) (headF l p q).1 (out ++ [⟨tagAt l p q, [], 0⟩])
def rdF (l : List UInt8) : Nat → Nat → Nat → List Tlv → ER
  | 0 => rdB l none
  | d + 1 => rdB l (some (rdF l d))
structure RdR (rec : Nat → Nat → List Tlv → ER) : Prop where
  pre : ∀ p q out, ∃ m, (rec p q out).out = out ++ m
  len : ∀ p q out, p ≤ q → (rec p q out).out.length ≤ out.length + (q - p) ∧ ((rec p q out).code = 0 → (rec p q out).out.length ≤ out.length + ((rec p q out).ret - p))
  ret : ∀ p q out, p ≤ q → p ≤ (rec p q out).ret ∧ (rec p q out).ret ≤ q
  yes : ∀ p q out, (rec p q out).code = 0 → p + 2 ≤ (rec p q out).ret ∧ (rec p q out).place = 0
theorem headF_of {l : List UInt8} {p q : Nat} (h : ¬ badF l p q = true) : p + 2 ≤ (headF l p q).1 ∧ (headF l p q).1 ≤ (headF l p q).2.1 ∧ (headF l p q).2.1 ≤ q := by
  cases hh : (headF l p q).2.2 with
  | true => exact headF_ok hh
  | false => exact absurd (badF_no hh) h
theorem rkF_ok {rec : Nat → Nat → List Tlv → ER} (hr : RdR rec) (out0 : List Tlv) (to : Nat) : ∀ (n p : Nat) (out : List Tlv), p ≤ to → to - p < n → (∃ x m, out = out0 ++ x :: m) →
    (∃ x m, (rkF rec out0.length to n p out).out = out0 ++ x :: m) ∧ (rkF rec out0.length to n p out).out.length ≤ out.length + (to - p) ∧ p ≤ (rkF rec out0.length to n p out).ret ∧ (rkF rec out0.length to n p out).ret ≤ to ∧
      ((rkF rec out0.length to n p out).code = 0 → (rkF rec out0.length to n p out).ret = to ∧ (rkF rec out0.length to n p out).place = 0)
  | 0, p, out, _, h, _ => by omega
  | n + 1, p, out, hp, hn, ⟨x, m, ho⟩ => by
    rw [rkF]
    split
    · rename_i hpt
      obtain ⟨m', h1⟩ := hr.pre p to out
      have h2 : (rec p to out).out = out0 ++ x :: (m ++ m') := by rw [h1, ho]; simp
      have h3 : addKid (rec p to out).out out0.length = out0 ++ ⟨x.tag, x.data, x.kids + 1⟩ :: (m ++ m') := by rw [h2, addKid_at]
      have h4 := hr.len p to out hp
      have h5 := hr.ret p to out hp
      have h6 := addKid_len (rec p to out).out out0.length
      split
      · rename_i hc
        have h7 := hr.yes p to out hc
        have h8 := h4.2 hc
        obtain ⟨q1, q2, q3, q4, q5⟩ := rkF_ok hr out0 to n (rec p to out).ret (addKid (rec p to out).out out0.length) h5.2 (by omega) ⟨_, _, h3⟩
        exact ⟨q1, by omega, by omega, q4, q5⟩
      · rename_i hc
        exact ⟨⟨_, _, h3⟩, by simp only; omega, h5.1, h5.2, fun h => absurd h hc⟩
    · exact ⟨⟨x, m, ho⟩, by simp only; omega, Nat.le_refl _, hp, fun _ => ⟨by simp only; omega, rfl⟩⟩
theorem rdB_ok (l : List UInt8) {rec : Option (Nat → Nat → List Tlv → ER)} (hr : ∀ r, rec = some r → RdR r) : RdR (rdB l rec) := by
  have key : ∀ p q out, badF l p q = true ∧ rdB l rec p q out = ⟨out, 80, p, p⟩ ∨
      (p + 2 ≤ q ∧ ∃ m, (rdB l rec p q out).out = out ++ m ∧ m.length ≤ q - p ∧ ((rdB l rec p q out).code = 0 → m.length ≤ (rdB l rec p q out).ret - p ∧ p + 2 ≤ (rdB l rec p q out).ret ∧ (rdB l rec p q out).place = 0) ∧ p ≤ (rdB l rec p q out).ret ∧ (rdB l rec p q out).ret ≤ q) := by
    intro p q out
    unfold rdB
    by_cases hb : badF l p q = true
    · exact .inl ⟨hb, if_pos hb⟩
    · obtain ⟨a1, a2, a3⟩ := headF_of hb
      refine .inr ⟨by omega, ?_⟩
      simp only [if_neg hb]
      split
      · exact ⟨_, rfl, by simp; omega, fun _ => ⟨by simp; omega, by simp only; omega, rfl⟩, by simp only; omega, a3⟩
      · split
        · exact ⟨_, rfl, by simp; omega, fun h => by simp at h, by simp only; omega, by simp only; omega⟩
        · rename_i r
          obtain ⟨⟨x, m, q1⟩, q2, q3, q4, q5⟩ := rkF_ok (hr r rfl) out (headF l p q).2.1 ((headF l p q).2.1 - (headF l p q).1 + 1) (headF l p q).1 (out ++ [⟨tagAt l p q, [], 0⟩]) a2 (by omega) ⟨_, [], rfl⟩
          have q6 := congrArg List.length q1
          simp only [List.length_append, List.length_cons, List.length_nil] at q2 q6
          exact ⟨x :: m, q1, by simp; omega, fun h => ⟨by have := (q5 h).1; simp; omega, by have := (q5 h).1; omega, (q5 h).2⟩, by omega, by omega⟩
  refine ⟨fun p q out => ?_, fun p q out hpq => ?_, fun p q out hpq => ?_, fun p q out hc => ?_⟩
  · rcases key p q out with ⟨_, e⟩ | ⟨_, m, h1, _⟩
    · exact ⟨[], by rw [e]; simp⟩
    · exact ⟨m, h1⟩
  · rcases key p q out with ⟨_, e⟩ | ⟨_, m, h1, h2, h3, _⟩
    · rw [e]; exact ⟨by simp only; omega, fun h => by simp at h⟩
    · have := congrArg List.length h1
      simp only [List.length_append] at this
      exact ⟨by omega, fun h => by have := h3 h; omega⟩
  · rcases key p q out with ⟨_, e⟩ | ⟨_, m, _, _, _, h4, h5⟩
    · rw [e]; exact ⟨Nat.le_refl _, hpq⟩
    · exact ⟨h4, h5⟩
  · rcases key p q out with ⟨_, e⟩ | ⟨_, m, _, _, h3, _⟩
    · rw [e] at hc; simp at hc
    · exact (h3 hc).2
theorem rdF_ok (l : List UInt8) : ∀ d, RdR (rdF l d)
  | 0 => rdB_ok l fun _ h => by cases h
  | d + 1 => rdB_ok l fun r h => by obtain rfl := Option.some.inj h; exact rdF_ok l d
def ReR (a b : ER) : Prop := a.code = b.code ∧ a.place = b.place ∧ (b.code = 0 → a.out = b.out ∧ a.ret = b.ret)
theorem rk_eq {rR rE : Nat → Nat → List Tlv → ER} (h : ∀ p q out, ReR (rR p q out) (rE p q out)) (hE : RecOk rE) (me to : Nat) : ∀ (n p : Nat) (out : List Tlv), p ≤ to → to - p < n → ReR (rkF rR me to n p out) (kdF rE me to n p out)
  | 0, p, out, _, h => by omega
  | n + 1, p, out, hp, hn => by
    obtain ⟨e1, e2, e3⟩ := h p to out
    rw [rkF, kdF]
    split
    · by_cases hc : (rE p to out).code = 0
      · obtain ⟨e4, e5⟩ := e3 hc
        obtain ⟨w1, w2, _⟩ := hE.yes p to out hc
        rw [if_pos (by rw [e1]; exact hc), if_pos hc, e4, e5]
        exact rk_eq h hE me to n _ _ w2 (by omega)
      · rw [if_neg (by rw [e1]; exact hc), if_neg hc]
        exact ⟨e1, e2, fun h => absurd h hc⟩
    · exact ⟨rfl, rfl, fun _ => ⟨rfl, by simp only; omega⟩⟩
theorem rdB_eq {l : List UInt8} {rR rE : Option (Nat → Nat → List Tlv → ER)} (h : (rR = none ∧ rE = none) ∨ ∃ a b, rR = some a ∧ rE = some b ∧ RecOk b ∧ ∀ p q out, ReR (a p q out) (b p q out)) (p q : Nat) (out : List Tlv) : ReR (rdB l rR p q out) (elB l rE p q out) := by
  unfold rdB elB
  by_cases hb : badF l p q = true
  · rw [if_pos hb, if_pos hb]; exact ⟨rfl, rfl, fun h => by simp at h⟩
  · obtain ⟨a1, a2, a3⟩ := headF_of hb
    rw [if_neg hb, if_neg hb]
    split
    · exact ⟨rfl, rfl, fun _ => ⟨rfl, rfl⟩⟩
    · rcases h with ⟨rfl, rfl⟩ | ⟨a, b, rfl, rfl, hE, h⟩
      · exact ⟨rfl, rfl, fun h => by simp at h⟩
      · exact rk_eq h hE _ _ _ _ _ a2 (by omega)
theorem rd_eq (l : List UInt8) : ∀ d p q out, ReR (rdF l d p q out) (elF l d p q out)
  | 0 => rdB_eq (.inl ⟨rfl, rfl⟩)
  | d + 1 => rdB_eq (.inr ⟨_, _, rfl, rfl, elF_ok l d, rd_eq l d⟩)
end Go.Proofs.Ytelaolingpbnfaa
