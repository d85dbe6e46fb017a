/- Well shaped values: a stack of what is still to come, and a descent. Plain Lean. -/
namespace Go.Proofs.YtbjfhnbgiajnjaaDoor
/-- A node. -/
structure Nd where
  kind : Int
  key : List UInt8
  text : List UInt8
  whole : Bool
  int : Int
  kids : Int
instance : Inhabited Nd := ⟨⟨0, [], [], false, 0, 0⟩⟩
def isC (n : Nd) : Bool := n.kind == 6 || n.kind == 7
/-- A list or an object of which values are still to come: how many; the names so far. -/
structure Lvl where
  left : Int
  nm : Option (List (List UInt8))
section
variable (pl : Nd → Bool) (ut : List UInt8 → Bool)
def badF (n : Nd) (nm : Option (List (List UInt8))) : Bool := !pl n || (nm.isNone && !n.key.isEmpty) || (nm.getD []).contains n.key || !ut n.key
def addF (n : Nd) (nm : Option (List (List UInt8))) : Option (List (List UInt8)) := nm.map (· ++ [n.key])
def stepF (n : Nd) : List Lvl → Option (List Lvl)
  | [] => none
  | ⟨l, nm⟩ :: r => if badF pl ut n nm = true then none
    else if isC n = true then (if 32 < r.length + 1 then none else some (⟨n.kids, if n.kind = 7 then some [] else none⟩ :: ⟨l - 1, addF n nm⟩ :: r))
    else some (⟨l - 1, addF n nm⟩ :: r)
def popF : List Lvl → List Lvl
  | [] => []
  | x :: r => if x.left = 0 then popF r else x :: r
def shF : List Nd → List Lvl → Bool
  | [], st => st.isEmpty
  | n :: r, st => match stepF pl ut n st with
    | none => false
    | some st' => shF r (popF st')
/-- So many values one behind the other. -/
def takeK (t1 : List Nd → Option (List Nd)) (obj : Bool) : Nat → List (List UInt8) → List Nd → Option (List Nd)
  | 0, _, l => some l
  | k + 1, names, l => match l with
    | [] => none
    | n :: _ => match t1 l with
      | none => none
      | some r => if (obj && names.contains n.key) = true then none else takeK t1 obj k (names ++ [n.key]) r
def okF (n : Nd) (obj : Bool) (d : Nat) : Bool := pl n && ut n.key && (obj || n.key.isEmpty) && !(isC n && d == 0)
/-- The value ahead; d: how many lists and objects may still be opened. -/
def take1 : Nat → Bool → List Nd → Option (List Nd)
  | 0, obj, l => match l with
    | [] => none
    | n :: r => if okF pl ut n obj 0 = true then takeK (fun _ => none) (n.kind == 7) n.kids.toNat [] r else none
  | d + 1, obj, l => match l with
    | [] => none
    | n :: r => if okF pl ut n obj (d + 1) = true then takeK (take1 d (n.kind == 7)) (n.kind == 7) n.kids.toNat [] r else none
/-- What may stand in a node's list. -/
def inF (d : Nat) (n : Nd) : List Nd → Option (List Nd) := match d with
  | 0 => fun _ => none
  | d + 1 => take1 pl ut d (n.kind == 7)
theorem take1_cons (d : Nat) (obj : Bool) (n : Nd) (r : List Nd) : take1 pl ut d obj (n :: r) = if okF pl ut n obj d = true then takeK (inF pl ut d n) (n.kind == 7) n.kids.toNat [] r else none := by
  cases d <;> rfl
theorem take1_nil (d : Nat) (obj : Bool) : take1 pl ut d obj [] = none := by cases d <;> rfl
def contF : List Lvl → List Nd → Bool
  | [], l => l.isEmpty
  | ⟨k, nm⟩ :: st, l => match takeK (take1 pl ut (32 - st.length) nm.isSome) nm.isSome k.toNat (nm.getD []) l with
    | none => false
    | some r => contF st r
variable {pl ut}
theorem contF_pop : ∀ (st : List Lvl) (l : List Nd), contF pl ut (popF st) l = contF pl ut st l
  | [], _ => rfl
  | ⟨k, nm⟩ :: st, l => by
    unfold popF
    split
    · rename_i h
      have h : k = 0 := h
      subst h
      rw [contF_pop st l]
      simp only [contF, Int.toNat_zero, takeK]
    · rfl
theorem popF_len : ∀ st : List Lvl, (popF st).length ≤ st.length
  | [] => Nat.le_refl _
  | x :: r => by
    unfold popF
    split
    · have := popF_len r; simp; omega
    · exact Nat.le_refl _
theorem popF_mem : ∀ {st : List Lvl} {x : Lvl}, x ∈ popF st → x ∈ st
  | [], _, h => h
  | y :: r, x, h => by
    unfold popF at h
    split at h
    · exact List.mem_cons_of_mem _ (popF_mem h)
    · exact h
theorem popF_top : ∀ {st : List Lvl} {x : Lvl} {r : List Lvl}, popF st = x :: r → x.left ≠ 0
  | [], x, r, h => by cases h
  | y :: q, x, r, h => by
    unfold popF at h
    split at h
    · exact popF_top h
    · rename_i hy
      obtain ⟨rfl, _⟩ := List.cons.inj h
      exact hy
/-- What a stack of levels takes is what a descent takes. -/
theorem shF_contF (hp : ∀ n, pl n = true → 0 ≤ n.kids ∧ (isC n = false → n.kids = 0)) : ∀ (l : List Nd) (st : List Lvl), (∀ x ∈ st, 0 ≤ x.left) → (∀ x r, st = x :: r → x.left ≠ 0) → st.length ≤ 33 → shF pl ut l st = contF pl ut st l
  | [], [], _, _, _ => rfl
  | [], ⟨k, nm⟩ :: st, h0, h1, _ => by
    have h2 := h1 _ _ rfl
    have h3 := h0 ⟨k, nm⟩ (List.mem_cons_self ..)
    simp only at h2 h3
    obtain ⟨q, hq⟩ : ∃ q, k.toNat = q + 1 := ⟨k.toNat - 1, by omega⟩
    simp only [shF, contF, hq, takeK, List.isEmpty_cons]
  | n :: r, [], _, _, _ => rfl
  | n :: r, ⟨k, nm⟩ :: st, h0, h1, h4 => by
    have h2 := h1 _ _ rfl
    have h3 := h0 ⟨k, nm⟩ (List.mem_cons_self ..)
    simp only at h2 h3
    obtain ⟨q, hq⟩ : ∃ q, k.toNat = q + 1 := ⟨k.toNat - 1, by omega⟩
    have hq2 : (k - 1).toNat = q := by omega
    simp only [List.length_cons] at h4
    have hst : st.length ≤ 32 := by omega
    have hb1 : badF pl ut n nm = true → contF pl ut (⟨k, nm⟩ :: st) (n :: r) = false := fun hb => by
      simp only [contF, hq, takeK, take1_cons]
      by_cases ho : okF pl ut n nm.isSome (32 - st.length) = true
      · rw [if_pos ho]
        cases hr : takeK (inF pl ut (32 - st.length) n) (n.kind == 7) n.kids.toNat [] r with
        | none => rfl
        | some r' =>
          simp only
          have : (nm.isSome && (nm.getD []).contains n.key) = true := by
            simp only [okF, Bool.and_eq_true] at ho
            obtain ⟨⟨⟨o1, o2⟩, o3⟩, _⟩ := ho
            simp only [badF, o1, o2, Bool.not_true, Bool.false_or, Bool.or_false] at hb
            cases nm with
            | none => simp at o3 hb; exact absurd o3 hb
            | some ns => simpa using hb
          rw [if_pos this]
      · rw [if_neg ho]
    have hb0 : badF pl ut n nm = false → pl n = true ∧ ut n.key = true ∧ (nm.isSome || n.key.isEmpty) = true ∧ (nm.isSome && (nm.getD []).contains n.key) = false := fun hb => by
      simp only [badF, Bool.or_eq_false_iff, Bool.not_eq_false'] at hb
      obtain ⟨⟨⟨b1, b2⟩, b3⟩, b4⟩ := hb
      refine ⟨b1, b4, ?_, by rw [b3]; simp⟩
      cases nm with
      | none => simpa using b2
      | some ns => rfl
    have names : ∀ l, takeK (take1 pl ut (32 - st.length) nm.isSome) nm.isSome q (nm.getD [] ++ [n.key]) l = takeK (take1 pl ut (32 - st.length) (addF n nm).isSome) (addF n nm).isSome q ((addF n nm).getD []) l := fun l => by
      cases nm with
      | some ns => rfl
      | none =>
        show takeK _ false q _ l = takeK _ false q _ l
        have key : ∀ (t : List Nd → Option (List Nd)) (q : Nat) (a b : List (List UInt8)) (l : List Nd), takeK t false q a l = takeK t false q b l := fun t q => by
          induction q with
          | zero => intro a b l; rfl
          | succ q ih =>
            intro a b l
            cases l with
            | nil => rfl
            | cons m r =>
              simp only [takeK, Bool.false_and]
              cases t (m :: r) with
              | none => rfl
              | some r' => simp only [Bool.false_eq_true, if_false]; exact ih _ _ _
        exact key _ _ _ _ _
    simp only [shF, stepF]
    by_cases hb : badF pl ut n nm = true
    · rw [if_pos hb, hb1 hb]
    · rw [if_neg hb]
      obtain ⟨p1, p2, p3, p4⟩ := hb0 (by simpa using hb)
      obtain ⟨k1, k2⟩ := hp n p1
      by_cases hc : isC n = true
      · rw [if_pos hc]
        by_cases hd : 32 < st.length + 1
        · rw [if_pos hd]
          have : okF pl ut n nm.isSome (32 - st.length) = false := by
            have : 32 - st.length = 0 := by omega
            simp [okF, hc, this]
          simp only [contF, hq, takeK, take1_cons, this]
          simp
        · rw [if_neg hd]
          simp only
          rw [shF_contF hp r _ (fun x hx => ?_) (fun x q hx => popF_top hx) (by have := popF_len (⟨n.kids, if n.kind = 7 then some [] else none⟩ :: ⟨k - 1, addF n nm⟩ :: st); simp only [List.length_cons] at this; omega), contF_pop]
          · have ho : okF pl ut n nm.isSome (32 - st.length) = true := by
              have : ((32 - st.length) == 0) = false := by simp; omega
              simp [okF, p1, p2, p3, this]
            obtain ⟨d, hd2⟩ : ∃ d, 32 - st.length = d + 1 := ⟨31 - st.length, by omega⟩
            have hi : inF pl ut (32 - st.length) n = take1 pl ut (32 - (st.length + 1)) (n.kind == 7) := by
              rw [hd2, show 32 - (st.length + 1) = d from by omega]; rfl
            have h7 : (if n.kind = 7 then some ([] : List (List UInt8)) else none).isSome = (n.kind == 7) := by split <;> simp [*]
            have h8 : (if n.kind = 7 then some ([] : List (List UInt8)) else none).getD [] = [] := by split <;> rfl
            simp only [contF, hq, hq2, takeK, take1_cons, ho, if_true, List.length_cons, h7, h8, hi]
            cases takeK (take1 pl ut (32 - (st.length + 1)) (n.kind == 7)) (n.kind == 7) n.kids.toNat [] r with
            | none => rfl
            | some r' => simp only [p4, Bool.false_eq_true, if_false]; rw [names]
          · have := popF_mem hx
            simp only [List.mem_cons] at this
            rcases this with rfl | rfl | h
            · exact k1
            · show 0 ≤ k - 1; omega
            · exact h0 x (List.mem_cons_of_mem _ h)
      · rw [if_neg hc]
        simp only
        have hc : isC n = false := by simpa using hc
        rw [shF_contF hp r _ (fun x hx => ?_) (fun x q hx => popF_top hx) (by have := popF_len (⟨k - 1, addF n nm⟩ :: st); simp only [List.length_cons] at this; omega), contF_pop]
        · have ho : okF pl ut n nm.isSome (32 - st.length) = true := by simp [okF, p1, p2, p3, hc]
          simp only [contF, hq, hq2, takeK, take1_cons, ho, if_true, k2 hc, Int.toNat_zero, p4, Bool.false_eq_true, if_false]
          rw [names]
        · have := popF_mem hx
          simp only [List.mem_cons] at this
          rcases this with rfl | h
          · show 0 ≤ k - 1; omega
          · exact h0 x (List.mem_cons_of_mem _ h)
/-- A well shaped value. -/
def wellF (l : List Nd) : Bool := match take1 pl ut 32 false l with
  | some [] => true
  | _ => false
theorem shF_well (hp : ∀ n, pl n = true → 0 ≤ n.kids ∧ (isC n = false → n.kids = 0)) (l : List Nd) : shF pl ut l [⟨1, none⟩] = wellF (pl := pl) (ut := ut) l := by
  rw [shF_contF hp l _ (by simp) (by simp) (by simp)]
  simp only [contF, wellF, List.length_nil, Nat.sub_zero, Option.isSome_none, Int.toNat_one, takeK]
  cases l with
  | nil => rw [take1_nil]
  | cons n r =>
    simp only
    cases take1 pl ut 32 false (n :: r) with
    | none => rfl
    | some r' =>
      simp only [Bool.false_and, Bool.false_eq_true, if_false]
      cases r' <;> rfl
/-- How many nodes a counter of what is still to come goes on over. -/
def behP : List Nd → Int → Nat
  | [], _ => 0
  | n :: r, left => if 0 < left then behP r (left + (n.kids - 1)) + 1 else 0
theorem behP_0 (l : List Nd) : behP l 0 = 0 := by cases l <;> simp [behP]
/-- t1 goes on as the counter does. -/
def Goes (t1 : List Nd → Option (List Nd)) : Prop := ∀ l r, t1 l = some r → r.length < l.length ∧ l.drop (l.length - r.length) = r ∧ ∀ M : Int, 0 ≤ M → behP l (M + 1) = l.length - r.length + behP r M
theorem takeK_goes {t1 : List Nd → Option (List Nd)} (ht : Goes t1) {obj : Bool} : ∀ {k : Nat} {names : List (List UInt8)} {l r : List Nd}, takeK t1 obj k names l = some r → r.length ≤ l.length ∧ l.drop (l.length - r.length) = r ∧ ∀ M : Int, 0 ≤ M → behP l (M + k) = l.length - r.length + behP r M
  | 0, _, l, r, h => by
    obtain rfl := Option.some.inj h
    exact ⟨Nat.le_refl _, by simp, fun M hM => by simp⟩
  | k + 1, names, l, r, h => by
    cases l with
    | nil => cases h
    | cons n q =>
      simp only [takeK] at h
      cases hr : t1 (n :: q) with
      | none => rw [hr] at h; cases h
      | some r1 =>
        rw [hr] at h
        simp only at h
        split at h
        · cases h
        · obtain ⟨a1, a2, a3⟩ := ht _ _ hr
          obtain ⟨b1, b2, b3⟩ := takeK_goes ht h
          refine ⟨by omega, ?_, fun M hM => ?_⟩
          · have e : (n :: q).drop ((n :: q).length - r.length) = ((n :: q).drop ((n :: q).length - r1.length)).drop (r1.length - r.length) := by
              rw [List.drop_drop]; congr 1; omega
            rw [e, a2, b2]
          · have := a3 (M + k) (by omega)
            rw [show M + ((k + 1 : Nat) : Int) = M + k + 1 from by omega, this, b3 M hM]
            omega
theorem take1_goes (hp : ∀ n, pl n = true → 0 ≤ n.kids ∧ (isC n = false → n.kids = 0)) : ∀ (d : Nat) (obj : Bool), Goes (take1 pl ut d obj) := by
  have key : ∀ (d : Nat) (obj : Bool), (∀ n, Goes (inF pl ut d n)) → Goes (take1 pl ut d obj) := fun d obj hin l r h => by
    cases l with
    | nil => rw [take1_nil] at h; cases h
    | cons n q =>
      rw [take1_cons] at h
      split at h
      · rename_i ho
        obtain ⟨b1, b2, b3⟩ := takeK_goes (hin n) h
        simp only [okF, Bool.and_eq_true] at ho
        have hk := (hp n ho.1.1.1).1
        refine ⟨by simp; omega, ?_, fun M hM => ?_⟩
        · rw [List.length_cons, show q.length + 1 - r.length = q.length - r.length + 1 from by omega, List.drop_succ_cons, b2]
        · simp only [behP]
          rw [if_pos (by omega), show M + 1 + (n.kids - 1) = M + n.kids.toNat from by omega, b3 M hM]
          simp only [List.length_cons]
          omega
      · cases h
  intro d
  induction d with
  | zero => exact fun obj => key 0 obj fun n l r h => by cases h
  | succ d ih => exact fun obj => key (d + 1) obj fun n => ih _
/-- The member of a name among so many values: what begins with it. -/
def memF (t1 : List Nd → Option (List Nd)) (key : List UInt8) : Nat → List Nd → Option (List Nd)
  | 0, _ => none
  | k + 1, l => match l with
    | [] => none
    | n :: _ => if n.key = key then some l else match t1 l with
      | none => none
      | some r => memF t1 key k r
theorem memF_some {t1 : List Nd → Option (List Nd)} {key : List UInt8} {obj : Bool} : ∀ {k : Nat} {names : List (List UInt8)} {l r m : List Nd}, takeK t1 obj k names l = some r → memF t1 key k l = some m → (∃ r', t1 m = some r') ∧ ∃ n q, m = n :: q ∧ n.key = key
  | 0, _, _, _, _, _, h => by cases h
  | k + 1, names, l, r, m, h, hm => by
    cases l with
    | nil => cases h
    | cons n q =>
      simp only [takeK] at h
      simp only [memF] at hm
      cases hr : t1 (n :: q) with
      | none => rw [hr] at h; cases h
      | some r1 =>
        rw [hr] at h hm
        split at hm
        · rename_i hk
          obtain rfl := Option.some.inj hm
          exact ⟨⟨r1, hr⟩, n, q, rfl, hk⟩
        · simp only at h hm
          split at h
          · cases h
          · exact memF_some h hm
end
end Go.Proofs.YtbjfhnbgiajnjaaDoor
