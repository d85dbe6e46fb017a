/- One's own memory: append, that it does. -/
import Derived.Test.YtbjfhnbgiajnjaaDoorWact6
namespace Go.Proofs.YtbjfhnbgiajnjaaDoor
open Go.RowKit
section
variable {P : Program} {x : Fx} {F : Cx} {w w' : World} {a : Act} {s : S}
theorem refV_own (k i j : Nat) (ty : TypeId) (t : V) (q : Option Nat) : refV (.r k) i j (.own ty t q) = ownR (.c k i j) t q := by
  cases q <;> rfl
theorem refV_not {m : Nm} {i j : Nat} {v : V} (h : ∀ ty t q, v ≠ .own ty t q) : refV m i j v = v := by
  unfold refV
  split
  · exact absurd rfl (h _ _ _)
  · rfl
/-- What a normed cell says. -/
def NrOk (w : World) (F : Cx) (h : List (Nat × Ob)) (u : V) (k : Option Nat) (y : Value) : Prop :=
  ((∀ ty t q, u ≠ .own ty t q) ∧ Rep w F u y) ∨
  ∃ ty t q, u = .own ty t q ∧ ((∃ k', k = some k' ∧ Hget h (.r k') = some (.row ty t) ∧ Rep w F (ownR (.r k') t q) y) ∨ (k = none ∧ q = none ∧ y = .slice none 0 0 ∧ ∃ z f, t.elems = some (z, 0, f)))
theorem rep_not_own {v : V} {y : Value} (h : Rep w F v y) : ∀ ty t q, v ≠ .own ty t q := fun ty t q e => by subst e; exact rep_own h
theorem rep_empty (sz : Nat) (d : V) (hz : sz ≠ 0) : Rep w F (.sq sz d []) (.slice none 0 0) :=
  .sl _ sz 0 (fun i => ([] : List V).getD i d) none 0 0 0 (fun _ _ => undef) (by simp only [V.elems, if_neg hz, List.length_nil]) (Nat.le_refl _) (fun h => by omega) (fun i hi => by omega) (fun i hi => by omega)
theorem nr1_ok {d v u : V} {l : List Prop} {k : Option Nat} {y : Value} (h : nr1 s.h d v = some (u, l, k)) (hl : AllP l) (hv : Rep w F v y) (hvs : ∀ l, v ≠ .st l) : NrOk w F s.h u k y ∧ ∀ j, u.cell j = u := by
  have plain : ∀ u, v = u → NrOk w F s.h u none y ∧ ∀ j, u.cell j = u := fun u e => by
    subst e
    refine ⟨.inl ⟨rep_not_own hv, hv⟩, fun j => ?_⟩
    cases v <;> first | rfl | exact absurd rfl (hvs _)
  unfold nr1 at h
  split at h
  · rename_i ty s0 q0
    split at h
    · rename_i k0
      split at h
      · rename_i ty' c hk
        simp only [Option.some.injEq, Prod.mk.injEq] at h; obtain ⟨rfl, rfl, rfl⟩ := h
        have e : ty' = ty := hl _ (by simp)
        subst e
        exact ⟨.inr ⟨_, _, _, rfl, .inl ⟨k0, rfl, hk, hv⟩⟩, fun j => rfl⟩
      · cases h
    · rename_i k0 sz a' n
      split at h
      · rename_i ty' c hk
        split at h
        · rename_i sz' _ _ he
          simp only [Option.some.injEq, Prod.mk.injEq] at h; obtain ⟨rfl, rfl, rfl⟩ := h
          have e : ty' = ty := hl _ (by simp)
          have e2 : a' = 0 := hl _ (by simp)
          have e3 : sz' = sz := hl _ (by simp)
          subst e e2 e3
          refine ⟨.inr ⟨_, _, _, rfl, .inl ⟨k0, rfl, hk, ?_⟩⟩, fun j => rfl⟩
          simp only [ownR, he]; exact hv
        · cases h
      · cases h
    · rename_i x0
      split at h
      · rename_i hn
        obtain rfl := rep_val hv
        rw [isNil_ok hn]
        split at h
        · simp only [Option.some.injEq, Prod.mk.injEq] at h; obtain ⟨rfl, rfl, rfl⟩ := h
          exact ⟨.inr ⟨_, _, _, rfl, .inr ⟨rfl, rfl, rfl, 1, _, rfl⟩⟩, fun j => rfl⟩
        · split at h
          · cases h
          · rename_i hz
            simp only [Option.some.injEq, Prod.mk.injEq] at h; obtain ⟨rfl, rfl, rfl⟩ := h
            exact ⟨.inr ⟨_, _, _, rfl, .inr ⟨rfl, rfl, rfl, _, _, by simp only [V.elems, if_neg hz]; rfl⟩⟩, fun j => rfl⟩
        · cases h
      · cases h
    · cases h
  · split at h
    · split at h
      · rename_i hn
        simp only [Option.some.injEq, Prod.mk.injEq] at h; obtain ⟨rfl, rfl, rfl⟩ := h
        obtain rfl := rep_val hv
        rw [isNil_ok hn]
        exact ⟨.inl ⟨fun _ _ _ e => (by cases e), .sl _ 1 0 _ none 0 0 0 (fun _ _ => undef) rfl (Nat.le_refl _) (fun h => by omega) (fun i hi => by omega) (fun i hi => by omega)⟩, fun j => rfl⟩
      · cases h
    · simp only [Option.some.injEq, Prod.mk.injEq] at h; obtain ⟨rfl, rfl, rfl⟩ := h
      exact plain _ rfl
  · rename_i z d0 _
    split at h
    · split at h
      · rename_i hn
        simp only [Option.some.injEq, Prod.mk.injEq] at h; obtain ⟨rfl, rfl, rfl⟩ := h
        obtain rfl := rep_val hv
        rw [isNil_ok hn.1]
        exact ⟨.inl ⟨fun _ _ _ e => (by cases e), rep_empty z d0 hn.2⟩, fun j => rfl⟩
      · cases h
    · simp only [Option.some.injEq, Prod.mk.injEq] at h; obtain ⟨rfl, rfl, rfl⟩ := h
      exact plain _ rfl
  · simp only [Option.some.injEq, Prod.mk.injEq] at h; obtain ⟨rfl, rfl, rfl⟩ := h
    exact plain _ rfl
theorem nrL_ok : ∀ {ds vs us : List V} {l : List Prop} {ks : List (Option Nat)} {y : Nat → Value}, nrL s.h ds vs = some (us, l, ks) → AllP l → (∀ j, j < vs.length → Rep w F (vs.getD j .any) (y j)) → (∀ v ∈ vs, ∀ l, v ≠ .st l) →
    us.length = vs.length ∧ ks.length = vs.length ∧ ∀ j, j < vs.length → NrOk w F s.h (us.getD j .any) (ks.getD j none) (y j)
  | [], [], us, l, ks, y, h, hl, hr, hst => by
    simp only [nrL, Option.some.injEq, Prod.mk.injEq] at h; obtain ⟨rfl, rfl, rfl⟩ := h
    exact ⟨rfl, rfl, fun j hj => by simp at hj⟩
  | d :: ds, v :: vs, us, l, ks, y, h, hl, hr, hst => by
    simp only [nrL] at h
    split at h
    · rename_i u l1 k h1
      split at h
      · rename_i us' l2 ks' h2
        simp only [Option.some.injEq, Prod.mk.injEq] at h; obtain ⟨rfl, rfl, rfl⟩ := h
        obtain ⟨hl1, hl2⟩ := allP_app hl
        obtain ⟨q1, q2, q3⟩ := nrL_ok (y := fun j => y (j + 1)) h2 hl2 (fun j hj => by have := hr (j + 1) (by simpa using hj); simpa using this) (fun v hv => hst v (List.mem_cons_of_mem _ hv))
        refine ⟨by simp [q1], by simp [q2], fun j hj => ?_⟩
        cases j with
        | zero =>
          have := (nr1_ok (s := s) h1 hl1 (y := y 0) (by have := hr 0 (by simp); simpa using this) (hst v (List.mem_cons_self ..))).1
          simpa using this
        | succ j =>
          have := q3 j (by simpa using hj)
          simpa using this
      · cases h
    · cases h
  | [], v :: vs, us, l, ks, y, h, hl, hr, hst => by simp [nrL] at h
  | d :: ds, [], us, l, ks, y, h, hl, hr, hst => by simp [nrL] at h
/-- No struct stands in a struct's cell. -/
def V.flatS : V → Bool
  | .st l => l.all fun v => match v with
    | .st _ => false
    | _ => true
  | _ => true
theorem nrm_ok {d v u : V} {l : List Prop} {ks : List (Option Nat)} {y : Nat → Value} (h : nrm s.h d v = some (u, l, ks)) (hl : AllP l) (hr : ∀ j, j < v.csize → Rep w F (v.cell j) (y j)) (hf : ∀ l, v = .st l → ∀ q ∈ l, ∀ l', q ≠ .st l') :
    ∀ j, j < v.csize → NrOk w F s.h (u.cell j) (ks.getD j none) (y j) := by
  unfold nrm at h
  split at h
  · rename_i ds vs
    split at h
    · rename_i us l' ks' h1
      simp only [Option.some.injEq, Prod.mk.injEq] at h; obtain ⟨rfl, rfl, rfl⟩ := h
      obtain ⟨q1, q2, q3⟩ := nrL_ok (y := y) h1 hl (fun j hj => hr j hj) (fun v hv => hf vs rfl v hv)
      exact fun j hj => q3 j hj
    · cases h
  · cases h
  · cases h
  · rename_i hn1 hn2 hn3
    split at h
    · rename_i u' l' k h1
      simp only [Option.some.injEq, Prod.mk.injEq] at h; obtain ⟨rfl, rfl, rfl⟩ := h
      have hvs : ∀ l, v ≠ .st l := fun l e => by
        exact hn2 l e
      have hcz : v.csize = 1 ∧ v.cell 0 = v := by cases v <;> first | exact ⟨rfl, rfl⟩ | exact absurd rfl (hvs _)
      intro j hj
      obtain rfl : j = 0 := by omega
      have h2 := hr 0 hj
      rw [hcz.2] at h2
      obtain ⟨q1, q2⟩ := nr1_ok (s := s) h1 hl h2 hvs
      rw [q2 0]; exact q1
    · cases h
theorem keyL_mem : ∀ {ks : List (Option Nat)} {j k : Nat}, ks.getD j none = some k → k ∈ keyL ks
  | [], j, k, h => by simp at h
  | none :: r, 0, k, h => by simp at h
  | some k0 :: r, 0, k, h => by simp only [List.getD_cons_zero, Option.some.injEq] at h; subst h; exact List.mem_cons_self ..
  | none :: r, j + 1, k, h => by simp only [List.getD_cons_succ] at h; exact keyL_mem (ks := r) h
  | some k0 :: r, j + 1, k, h => by simp only [List.getD_cons_succ] at h; exact List.mem_cons_of_mem _ (keyL_mem (ks := r) h)
theorem neqs_ok : ∀ {ks : List Nat} {k : Nat}, AllP (neqs k ks) → ∀ k', k' ∈ ks → k ≠ k'
  | [], _, _, k', h => by simp at h
  | k1 :: r, k, hl, k', h => by
    rcases List.mem_cons.1 h with rfl | h
    · exact allP_head hl
    · exact neqs_ok (ks := r) (allP_tail hl) k' h
theorem keyL_inj : ∀ {ks : List (Option Nat)}, AllP (diffs (keyL ks)) → ∀ {i j k : Nat}, ks.getD i none = some k → ks.getD j none = some k → i = j
  | [], _, i, j, k, h, _ => by simp at h
  | none :: r, hl, i, j, k, h1, h2 => by
    cases i with
    | zero => simp at h1
    | succ i =>
      cases j with
      | zero => simp at h2
      | succ j =>
        simp only [List.getD_cons_succ] at h1 h2
        rw [keyL_inj (ks := r) hl h1 h2]
  | some k0 :: r, hl, i, j, k, h1, h2 => by
    obtain ⟨ha, hb⟩ := allP_app (l := neqs k0 (keyL r)) hl
    cases i with
    | zero =>
      simp only [List.getD_cons_zero, Option.some.injEq] at h1
      subst h1
      cases j with
      | zero => rfl
      | succ j =>
        simp only [List.getD_cons_succ] at h2
        exact absurd rfl (neqs_ok ha _ (keyL_mem h2))
    | succ i =>
      simp only [List.getD_cons_succ] at h1
      cases j with
      | zero =>
        simp only [List.getD_cons_zero, Option.some.injEq] at h2
        subst h2
        exact absurd rfl (neqs_ok ha _ (keyL_mem h1))
      | succ j =>
        simp only [List.getD_cons_succ] at h2
        rw [keyL_inj (ks := r) hb h1 h2]
/-- A cell of one's own slice. -/
theorem own_cell {k : Nat} {ty : TypeId} {c : V} {sz n : Nat} {cc : Nat → V} {u : Nat → Nat → Value} (hk : Hget s.h (.r k) = some (.row ty c)) (he : c.elems = some (sz, n, cc)) (hr : ∀ i, i < n → ∀ j, j < sz → Rep w F (refV (.r k) i j ((cc i).cell j)) (u i j)) {i j : Nat} (hi : i < n) (hj : j < sz) :
    ((∀ ty t q, (cc i).cell j ≠ .own ty t q) → Rep w F ((cc i).cell j) (u i j)) ∧ ∀ ty t q, (cc i).cell j = .own ty t q → Hget s.h (.c k i j) = some (.row ty t) ∧ Rep w F (ownR (.c k i j) t q) (u i j) := by
  have h := hr i hi j hj
  refine ⟨fun hn => by rw [refV_not hn] at h; exact h, fun ty t q e => ?_⟩
  rw [e, refV_own] at h
  refine ⟨?_, h⟩
  simp only [Hget] at hk ⊢
  simp only [hk, Hchild, he, e, if_pos (And.intro hi hj)]
end
end Go.Proofs.YtbjfhnbgiajnjaaDoor
