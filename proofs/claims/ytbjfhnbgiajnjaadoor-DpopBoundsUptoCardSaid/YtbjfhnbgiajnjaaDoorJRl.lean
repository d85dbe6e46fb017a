/- The document's reading of a number by places is the program's by pieces. Plain Lean. -/
import Derived.Test.YtbjfhnbgiajnjaaDoorJRd
import Derived.Test.YtbjfhnbgiajnjaaDoorJWhole
namespace Go.Proofs.YtbjfhnbgiajnjaaDoor
def Same (q : RR) (r : NumR × Bool) : Prop := q.ok = r.2 ∧ (r.2 = true → q.m = r.1.minus ∧ q.p = r.1.plain ∧ q.t = r.1.whole)
theorem drop_at (s : List UInt8) (a k : Nat) : byteAt (s.drop a) k = byteAt s (a + k) := by unfold byteAt; simp [List.getD_eq_getElem?_getD, List.getElem?_drop]
theorem drop_nil {s : List UInt8} {a : Nat} (ha : a ≤ s.length) : s.drop a = [] ↔ a = s.length := by
  rw [← List.length_eq_zero_iff, List.length_drop]; omega
theorem same3 {n : NumR} {b s : List UInt8} {a : Nat} (ha : a ≤ s.length) : Same (rr3 n.minus n.plain n.whole s a) (rd3 n b (s.drop a)) := by
  refine ⟨?_, fun _ => ⟨rfl, rfl, rfl⟩⟩
  show decide (a = s.length) = decide (s.drop a = [])
  rw [decide_eq_decide, drop_nil ha]
theorem sameE {n n' : NumR} {b s : List UInt8} {a : Nat} (ha : a ≤ s.length) (h1 : n.plain = false) :
    Same (if runF (s.drop a) = 0 then ⟨n.minus, false, n.whole, false⟩ else rr3 n.minus false n.whole s (a + runF (s.drop a))) (if s.drop a = [] ∨ runF (s.drop a) ≠ (s.drop a).length then (n', false) else rd3 n b []) := by
  have hr := runF_le (s.drop a)
  have hl : (s.drop a).length = s.length - a := List.length_drop ..
  by_cases h0 : runF (s.drop a) = 0
  · rw [if_pos h0]
    by_cases h2 : s.drop a = []
    · rw [if_pos (.inl h2)]; exact ⟨rfl, fun h => by cases h⟩
    · rw [if_pos (.inr fun h => h2 (List.length_eq_zero_iff.1 (by omega)))]; exact ⟨rfl, fun h => by cases h⟩
  · rw [if_neg h0]
    by_cases h2 : runF (s.drop a) = (s.drop a).length
    · have h3 : ¬ (s.drop a = [] ∨ runF (s.drop a) ≠ (s.drop a).length) := fun h => h.elim (fun h => by rw [h] at h0; exact h0 rfl) fun h => h h2
      rw [if_neg h3]
      refine ⟨?_, fun _ => ⟨rfl, h1.symm, rfl⟩⟩
      show decide (a + runF (s.drop a) = s.length) = decide (([] : List UInt8) = [])
      rw [decide_eq_decide]
      exact ⟨fun _ => rfl, fun _ => by omega⟩
    · rw [if_pos (.inr h2)]
      refine ⟨?_, fun h => by cases h⟩
      show decide (a + runF (s.drop a) = s.length) = false
      rw [decide_eq_false_iff_not]; omega
theorem same2 {n : NumR} {b s : List UInt8} {a : Nat} (ha : a ≤ s.length) : Same (rr2 n.minus n.plain n.whole s a) (rd2 n b (s.drop a)) := by
  have e0 : ∀ k, byteAt (s.drop k) 0 = byteAt s k := fun k => by rw [drop_at, Nat.add_zero]
  have en : ∀ k, s.drop k ≠ [] ↔ k < s.length := fun k => by rw [ne_eq, ← List.length_eq_zero_iff, List.length_drop]; omega
  unfold rr2 rd2
  simp only [List.drop_drop, e0, en]
  by_cases hc : a < s.length ∧ (byteAt s a = 101 ∨ byteAt s a = 69)
  · rw [if_pos hc, if_pos hc]
    unfold rrS
    by_cases hd : a + 1 < s.length ∧ (byteAt s (a + 1) = 43 ∨ byteAt s (a + 1) = 45)
    · rw [if_pos hd, if_pos hd]
      exact sameE (n := ⟨n.minus, n.whole, n.digits, n.point, false, _, _⟩) (a := a + 2) (by omega) rfl
    · rw [if_neg hd, if_neg hd]
      exact sameE (n := ⟨n.minus, n.whole, n.digits, n.point, false, _, _⟩) (a := a + 1) (by omega) rfl
  · rw [if_neg hc, if_neg hc]
    exact same3 ha
theorem pre_iff {s : List UInt8} {c : UInt8} : Lib.hasPrefix s [c] = true ↔ 0 < s.length ∧ byteAt s 0 = (c.toNat : Int) := by
  cases s with
  | nil => simp [Lib.hasPrefix]
  | cons x r =>
    have : byteAt (x :: r) 0 = (x.toNat : Int) := rfl
    rw [this]
    simp only [Lib.hasPrefix, List.length_cons, Nat.zero_lt_succ, true_and]
    constructor
    · intro h; simp at h; rw [h]
    · intro h
      have : x = c := UInt8.toNat_inj.1 (by omega)
      simp [this]
theorem same1 {n : NumR} {s : List UInt8} {a : Nat} (ha : a ≤ s.length) (hn : n.plain = true) : Same (rr1 n.minus n.whole s a) (rd1 n (s.drop a)) := by
  have e0 : ∀ k, byteAt (s.drop k) 0 = byteAt s k := fun k => by rw [drop_at, Nat.add_zero]
  have hp : Lib.hasPrefix (s.drop a) [46] = true ↔ (a < s.length ∧ byteAt s a = 46) := by
    rw [pre_iff, e0, List.length_drop]
    exact ⟨fun h => ⟨by omega, h.2⟩, fun h => ⟨by omega, h.2⟩⟩
  unfold rr1 rd1
  simp only [List.drop_drop]
  by_cases hc : a < s.length ∧ byteAt s a = 46
  · rw [if_pos hc, if_pos (hp.2 hc)]
    by_cases h0 : runF (s.drop (a + 1)) = 0
    · rw [if_pos h0, if_pos h0]; exact ⟨rfl, fun h => by cases h⟩
    · rw [if_neg h0, if_neg h0]
      have hr := runF_le (s.drop (a + 1))
      rw [List.length_drop] at hr
      exact same2 (n := ⟨n.minus, n.whole, n.digits, n.point, false, n.down, n.exp⟩) (by omega)
  · rw [if_neg hc, if_neg (fun h => hc (hp.1 h))]
    have := same2 (n := n) (b := []) ha
    rwa [hn] at this
theorem same0 {m : Bool} {s : List UInt8} {a : Nat} (ha : a ≤ s.length) : Same (rr0 m s a) (rd0 m (s.drop a)) := by
  have hr := runF_le (s.drop a)
  rw [List.length_drop] at hr
  have e0 : ∀ k, byteAt (s.drop k) 0 = byteAt s k := fun k => by rw [drop_at, Nat.add_zero]
  unfold rr0 rd0
  simp only [List.drop_drop, e0]
  by_cases hc : runF (s.drop a) = 0 ∨ (byteAt s a = 48 ∧ 1 < runF (s.drop a))
  · rw [if_pos hc, if_pos (hc.imp_right fun h => ⟨h.2, h.1⟩)]; exact ⟨rfl, fun h => by cases h⟩
  · rw [if_neg hc, if_neg (fun h => hc (h.imp_right fun h => ⟨h.2, h.1⟩))]
    exact same1 (n := ⟨m, _, [], 0, true, false, []⟩) (by omega) rfl
theorem same_all (s : List UInt8) : Same (rrF s) (readF s) := by
  unfold rrF readF
  by_cases hc : 0 < s.length ∧ byteAt s 0 = 45
  · have hp : Lib.hasPrefix s [45] = true := pre_iff.2 hc
    rw [if_pos hc, hp, trim_hit hp]
    exact same0 hc.1
  · have hp : Lib.hasPrefix s [45] = false := by
      rw [Bool.eq_false_iff]; exact fun h => hc (pre_iff.1 h)
    rw [if_neg hc, hp, trim_miss hp]
    exact same0 (a := 0) (Nat.zero_le _)
end Go.Proofs.YtbjfhnbgiajnjaaDoor
