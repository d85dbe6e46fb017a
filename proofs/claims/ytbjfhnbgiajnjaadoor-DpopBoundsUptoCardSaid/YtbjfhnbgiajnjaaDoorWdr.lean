/- Statements that draw their order: an operation may be taken first where nothing that can come before it changes what it reads. (After the kit's wpAnyH, with a relation for each operation in the place of one condition.) -/
import Derived.Test.YtbjfhnbgiajnjaaDoorWact8
import Derived.OrdersHeld
namespace Go.Proofs.YtbjfhnbgiajnjaaDoor

section
variable {P : Program} {ops : Array Oper} {Q : Exit → Act → World → Prop} {md : Region.Mode} {S : Nat → World → World → Prop} {C : World → Prop}

/-- Whatever order is picked from here on, and S of each operation that is carried out. -/
def wpAnyG (P : Program) (md : Region.Mode) (ops : Array Oper) (Q : Exit → Act → World → Prop) (S : Nat → World → World → Prop) : Nat → Array Bool → Act → World → Prop
  | 0, listed, a, w => Region.ready md ops listed = [] ∧ Q .normal a w
  | fuel + 1, listed, a, w =>
    (Region.ready md ops listed = [] → Q .normal a w) ∧
    ∀ i ∈ Region.ready md ops listed, wpOp P ops Q i (fun a' w' => S i w w' ∧ wpAnyG P md ops Q S fuel (listed.setIfInBounds i true) a' w') a w
theorem wpAny_of_G : ∀ (fuel : Nat) (listed : Array Bool) (a : Act) (w : World), wpAnyG P md ops Q S fuel listed a w → wpAny P md ops Q fuel listed a w
  | 0, _, _, _, h => h
  | fuel + 1, _, _, _, h => ⟨h.1, fun i hi => wpOp_mono (fun a' w' h' => wpAny_of_G fuel _ a' w' h'.2) (h.2 i hi)⟩
theorem wpAnyG_S {S1 S2 : Nat → World → World → Prop} (h : ∀ i w w', S1 i w w' → S2 i w w') : ∀ (fuel : Nat) (listed : Array Bool) (a : Act) (w : World), wpAnyG P md ops Q S1 fuel listed a w → wpAnyG P md ops Q S2 fuel listed a w
  | 0, _, _, _, hh => hh
  | fuel + 1, _, _, w, hh => ⟨hh.1, fun i hi => wpOp_mono (fun a' w' h' => ⟨h i w w' h'.1, wpAnyG_S h fuel _ a' w' h'.2⟩) (hh.2 i hi)⟩
theorem wpAnyG_first {i : Nat} {oi : Oper} {v : Value} (A : List Nat) (hi : ops[i]? = some oi) (hsel : ∀ (j : Nat) (o : Oper) cs b, ops[j]? = some o → o.op ≠ .select cs b)
    (hQ : ∀ c a w, Q (.panic c) (a.put oi.dst v) w → Q (.panic c) a w)
    (hA : ∀ j, j ∈ A → j ≠ i → ∀ oj, ops[j]? = some oj → ∃ e ∈ oj.after, Region.binds md e = true ∧ e.on ∈ A)
    (hS : ∀ j, j ∉ A → ∀ w w', C w → S j w w' → C w') (hSi : ∀ w, S i w w) :
    ∀ (fuel : Nat) (listed : Array Bool) (a : Act) (w : World),
      (∀ j oj, ops[j]? = some oj → j ≠ i → listed.getD j true = false → (∀ e ∈ oj.after, Region.binds md e = true → e.on ≠ i) → oi.apart ops oj = true) →
      (∀ j, j ∈ A → listed.getD j false = false) → i ∈ Region.ready md ops listed → YieldsIf P ops C oi v a → C w →
      wpAnyG P md ops Q S fuel (listed.setIfInBounds i true) (a.put oi.dst v) w → wpAnyG P md ops Q S (fuel + 1) listed a w := by
  intro fuel
  induction fuel with
  | zero =>
    intro listed a w _ _ hr hy hC H
    refine ⟨fun h => (by rw [h] at hr; cases hr), fun j hj => ?_⟩
    by_cases hji : j = i
    · subst hji; exact hy.wpOp hi hC ⟨hSi w, H⟩
    · have := ready_mono hj hji
      rw [H.1] at this
      cases this
  | succ fuel ih =>
    intro listed a w hfree hun hr hy hC H
    refine ⟨fun h => (by rw [h] at hr; cases hr), fun j hj => ?_⟩
    by_cases hji : j = i
    · subst hji; exact hy.wpOp hi hC ⟨hSi w, H⟩
    · have h1 := H.2 j (ready_mono hj hji)
      obtain ⟨hjun, oj, hoj, hall⟩ := mem_ready.1 hj
      have hjA : j ∉ A := fun hm => by
        obtain ⟨e, he, hb, heA⟩ := hA j hm hji oj hoj
        have h1 := hall e he hb
        rw [hun _ heA] at h1; cases h1
      have hnot : ∀ e ∈ oj.after, Region.binds md e = true → e.on ≠ i := fun e he hb heq => by
        have h1 := hall e he hb
        have h0 := (mem_ready.1 hr).1
        rw [heq] at h1
        rcases Nat.lt_or_ge i listed.size with h' | h'
        · simp [h'] at h0 h1; rw [h0] at h1; cases h1
        · simp [Array.getElem?_eq_none h'] at h1
      have h2 := wpOp_putIf hoj (hfree j oj hoj hji hjun hnot) (fun cs b => hsel i oi cs b hi) (fun cs b => hsel j oj cs b hoj) hQ hy h1
      have hfree' : ∀ k ok, ops[k]? = some ok → k ≠ i → (listed.setIfInBounds j true).getD k true = false →
          (∀ e ∈ ok.after, Region.binds md e = true → e.on ≠ i) → oi.apart ops ok = true := fun k ok hk hki hun hno => by
        refine hfree k ok hk hki ?_ hno
        by_cases hjk : j = k
        · subst hjk; exact hjun
        · rw [Go.getD_set_ne true hjk] at hun; exact hun
      refine wpOp_mono (fun a' w' h3 => ⟨h3.2.1, ih (listed.setIfInBounds j true) a' w' hfree' (fun k hk => ?_) (ready_mono hr (Ne.symm hji)) h3.1 (hS j hjA w w' hC h3.2.1) ?_⟩) h2
      · rw [Go.getD_set_ne false (fun e => hjA (by rw [e]; exact hk))]; exact hun k hk
      · rw [Array.setIfInBounds_comm _ _ hji]
        exact h3.2.2
theorem wpAnyG_all {i : Nat} {fuel : Nat} {listed : Array Bool} {a : Act} {w : World} (hr : Region.ready md ops listed = [i])
    (h : wpOp P ops Q i (fun a' w' => S i w w' ∧ wpAnyG P md ops Q S fuel (listed.setIfInBounds i true) a' w') a w) : wpAnyG P md ops Q S (fuel + 1) listed a w := by
  refine ⟨fun h0 => (by rw [hr] at h0; cases h0), fun j hj => ?_⟩
  rw [hr] at hj
  obtain rfl : j = i := by simpa using hj
  exact h
theorem wpAnyG_done {listed : Array Bool} {a : Act} {w : World} (hr : Region.ready md ops listed = []) (h : Q .normal a w) : ∀ fuel, wpAnyG P md ops Q S fuel listed a w
  | 0 => ⟨hr, h⟩
  | _ + 1 => ⟨fun _ => h, by rw [hr]; simp⟩
end

/-- A step leaves alone what lies below B and is read-only, and the cells of one's own variables but those at js. -/
structure Kb (B : Nat) (js : List Nat) (h : List (Nat × Ob)) (F : Cx) (w w' : World) : Prop where
  size : w.heap.size ≤ w'.heap.size
  ro : ∀ b, b < B → ¬ F.F b → w'.heap[b]? = w.heap[b]?
  bx : ∀ k ty v b, Hget h (.r k) = some (.box ty v) → F.O (.r k) = some b → ∀ j, js.contains j = false → w'.cell? ⟨b, j, none⟩ = w.cell? ⟨b, j, none⟩
theorem Kb.refl (B : Nat) (js : List Nat) (h : List (Nat × Ob)) (F : Cx) (w : World) : Kb B js h F w w := ⟨Nat.le_refl _, fun _ _ _ => rfl, fun _ _ _ _ _ _ _ _ => rfl⟩
theorem Kp.kb {js : List Nat} {h : List (Nat × Ob)} {F : Cx} {w w' : World} (k : Kp false js h F w w') : Kb w.heap.size js h F w w' := ⟨k.size, k.ro, k.bx⟩
theorem Kb.phase {js js0 : List Nat} {h h' : List (Nat × Ob)} {F F' : Cx} {w0 w1 w w' : World} (st : Stp js0 h h' F F' w0 w1) (k : Kb w1.heap.size js h' F' w w') : Kb w0.heap.size js h F w w' where
  size := k.size
  ro := fun b hb hF => k.ro b (Nat.lt_of_lt_of_le hb st.kp.size) fun hG => (st.le.le1 b hG).elim hF fun e => by omega
  bx := fun n ty v b hk hO j hj => by
    obtain ⟨v', hk'⟩ := st.bx n ty v hk
    exact k.bx n ty v' b hk' (st.le.le2 _ b hO) j hj
theorem Kp.kbs {js js' : List Nat} {h : List (Nat × Ob)} {F : Cx} {w0 w w' : World} (k : Kp false js h F w0 w) (k' : Kb w0.heap.size js' h F w w') (hsub : ∀ j, js'.contains j = true → js.contains j = true) : Kp false js h F w0 w' where
  size := Nat.le_trans k.size k'.size
  ro := fun b hb hF => (k'.ro b hb hF).trans (k.ro b hb hF)
  bx := fun n ty v b hk hO j hj => by
    refine (k'.bx n ty v b hk hO j ?_).trans (k.bx n ty v b hk hO j hj)
    cases h : js'.contains j
    · rfl
    · rw [hsub j h] at hj; cases hj
  row := fun h => by cases h
end Go.Proofs.YtbjfhnbgiajnjaaDoor
