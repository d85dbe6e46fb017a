/- The document's way of shaping and printing is the program's: plain Lean. -/
import Derived.Test.YtelaolingpbnfaaDLaw
namespace Go.Proofs.Ytelaolingpbnfaa
set_option linter.unusedSimpArgs false
def behR (n : Nat) : List Tlv → Nat → Nat → Option Nat
  | _, 0, a => some a
  | [], _ + 1, _ => none
  | t :: r, m + 1, a => if t.kids < 0 ∨ (n : Int) < t.kids then none else behR n r (m + t.kids.toNat) (a + 1)
/-- The place behind the element at a place. -/
def behF (ts : List Tlv) (a : Nat) : Option Nat := behR ts.length (ts.drop a) 1 a
theorem behR_zero (n : Nat) (r : List Tlv) (a : Nat) : behR n r 0 a = some a := by cases r <;> rfl
theorem behR_le (n : Nat) : ∀ (r : List Tlv) (m a b : Nat), behR n r m a = some b → a ≤ b ∧ b ≤ a + r.length
  | r, 0, a, b, h => by
    rw [behR_zero] at h
    obtain rfl : a = b := by simpa using h
    omega
  | [], m + 1, a, b, h => by simp [behR] at h
  | t :: r, m + 1, a, b, h => by
    rw [behR] at h
    split at h
    · cases h
    · have := behR_le n r _ _ _ h
      simp only [List.length_cons]; omega
theorem behR_add (n : Nat) : ∀ (r : List Tlv) (m k a : Nat), behR n r (m + k) a = (behR n r m a).bind fun b => behR n (r.drop (b - a)) k b
  | r, 0, k, a => by simp [behR_zero]
  | [], m + 1, k, a => by
    rw [show m + 1 + k = (m + k) + 1 from by omega]; simp [behR]
  | t :: r, m + 1, k, a => by
    rw [show m + 1 + k = (m + k) + 1 from by omega, behR, behR]
    split
    · rfl
    · rw [show m + k + t.kids.toNat = (m + t.kids.toNat) + k from by omega, behR_add n r]
      cases h : behR n r (m + t.kids.toNat) (a + 1) with
      | none => rfl
      | some b =>
        have := behR_le n r _ _ _ h
        simp only [Option.bind_some]
        rw [show b - a = (b - (a + 1)) + 1 from by omega, List.drop_succ_cons]
theorem behK (ts : List Tlv) : ∀ (n a : Nat), stK (behF ts) n a = behR ts.length (ts.drop a) n a
  | 0, a => by rw [stK, behR_zero]
  | n + 1, a => by
    rw [stK, show n + 1 = 1 + n from by omega, behR_add]
    show (match behF ts a with | some b => stK (behF ts) n b | none => none) = (behF ts a).bind _
    cases h : behF ts a with
    | none => rfl
    | some b =>
      have := behR_le _ _ _ _ _ h
      simp only [Option.bind_some]
      rw [behK ts n b, List.drop_drop, show a + (b - a) = b from by omega]
theorem getD_at {ts : List Tlv} {a : Nat} (h : a < ts.length) : ts.getD a default = ts[a] := by
  rw [List.getD_eq_getElem?_getD, List.getElem?_eq_getElem h]; rfl
theorem behR_step {ts : List Tlv} {a m : Nat} (h : a < ts.length) : behR ts.length (ts.drop a) (m + 1) a = if (ts.getD a default).kids < 0 ∨ (ts.length : Int) < (ts.getD a default).kids then none else behR ts.length (ts.drop (a + 1)) (m + (ts.getD a default).kids.toNat) (a + 1) := by
  rw [List.drop_eq_getElem_cons h, behR, getD_at h]
theorem behF_eq {ts : List Tlv} {a : Nat} (h : a < ts.length) : behF ts a = if (ts.getD a default).kids < 0 ∨ (ts.length : Int) < (ts.getD a default).kids then none else stK (behF ts) (kidT ts a) (a + 1) := by
  show behR ts.length (ts.drop a) (0 + 1) a = _
  rw [behR_step h, Nat.zero_add, behK]; rfl
theorem behF_none {ts : List Tlv} {a : Nat} (h : ts.length ≤ a) : behF ts a = none := by
  rw [behF, List.drop_eq_nil_of_le h]; rfl
theorem behF_lt {ts : List Tlv} {a b : Nat} (h : behF ts a = some b) : a < b ∧ b ≤ ts.length := by
  rcases Nat.lt_or_ge a ts.length with hl | hl
  · have h' := h
    rw [behF_eq hl] at h
    split at h
    · cases h
    · rw [behK] at h
      have := behR_le _ _ _ _ _ h
      simp only [List.length_drop] at this
      omega
  · rw [behF_none hl] at h; cases h
theorem stK_ge {f : Nat → Option Nat} (hf : ∀ a b, f a = some b → a < b) : ∀ n a b, stK f n a = some b → a + n ≤ b
  | 0, a, b, h => by
    obtain rfl : a = b := by simpa [stK] using h
    omega
  | n + 1, a, b, h => by
    rw [stK] at h
    split at h
    · rename_i c hc
      have := hf a c hc
      have := stK_ge hf n c b h
      omega
    · cases h
theorem stK_mono {f g : Nat → Option Nat} (h : ∀ a b, f a = some b → g a = some b) : ∀ n a b, stK f n a = some b → stK g n a = some b
  | 0, _, _, h0 => h0
  | n + 1, a, b, h0 => by
    rw [stK] at h0
    split at h0
    · rename_i c hc
      rw [stK, h a c hc]; exact stK_mono h n c b h0
    · cases h0
def aloneF (t : Tlv) : Bool := tagF t.tag && (if innerF t.tag then t.data.length == 0 else t.kids == 0 && rightF t.tag t.data)
def deepK (rec : Nat → Bool) (nx : Nat → Nat) : Nat → Nat → Bool
  | 0, _ => true
  | n + 1, k => rec k && deepK rec nx n (nx k)
/-- Does no constructed one in the element at a place stand too deep? d: how much deeper it may go. -/
def deepF (ts : List Tlv) : Nat → Nat → Bool
  | 0, a => !innerF (tagT ts a)
  | d + 1, a => deepK (deepF ts d) (nxG (behF ts)) (kidT ts a) (a + 1)
theorem stF_beh {ts : List Tlv} : ∀ (d : Nat) {a b : Nat}, stF ts d a = some b → behF ts a = some b ∧ deepF ts d a = true := by
  intro d
  induction d with
  | zero =>
    intro a b h
    obtain ⟨h1, h2, h3⟩ := stB_cases h
    rcases h3 with ⟨h3, h4, h5, rfl⟩ | ⟨_, _, _, r, hr, _⟩
    · refine ⟨?_, by rw [deepF, h3]; rfl⟩
      rw [behF_eq h1, if_neg (by rw [h4]; omega), kidT, h4]; rfl
    · cases hr
  | succ d ih =>
    intro a b h
    obtain ⟨h1, h2, h3⟩ := stB_cases h
    rcases h3 with ⟨h3, h4, h5, rfl⟩ | ⟨h3, h4, h5, r, hr, hk⟩
    · refine ⟨?_, ?_⟩
      · rw [behF_eq h1, if_neg (by rw [h4]; omega), kidT, h4]; rfl
      · rw [deepF, kidT, h4]; rfl
    · simp only [Option.some.injEq] at hr
      subst hr
      have hge := stK_ge (fun a b h => (stF_ok d h).1) _ _ _ hk
      have hb := stF_ok (d + 1) h
      refine ⟨?_, ?_⟩
      · rw [behF_eq h1, if_neg (by unfold kidT at hge; omega)]
        exact stK_mono (fun a b h => (ih h).1) _ _ _ hk
      · rw [deepF]
        clear hge h h4 h5
        generalize kidT ts a = n at hk
        generalize a + 1 = k at hk
        induction n generalizing k with
        | zero => rfl
        | succ n ihn =>
          rw [stK] at hk
          split at hk
          · rename_i c hc
            obtain ⟨e1, e2⟩ := ih hc
            rw [deepK, e2, Bool.true_and, show nxG (behF ts) k = c from by simp [nxG, e1]]
            exact ihn _ hk
          · cases hk
theorem beh_stF {ts : List Tlv} (hal : ∀ x, x < ts.length → aloneF (ts.getD x default) = true) : ∀ (d : Nat) {a b : Nat}, behF ts a = some b → deepF ts d a = true → stF ts d a = some b := by
  have key : ∀ {rec : Option (Nat → Option Nat)} {a b : Nat}, behF ts a = some b → innerF (tagT ts a) = false → stB ts rec a = some b := by
    intro rec a b h hi
    have hl : a < ts.length := by have := behF_lt h; omega
    have h1 := hal a hl
    unfold tagT at hi
    unfold aloneF at h1
    rw [hi] at h1
    simp only [Bool.false_eq_true, if_false, Bool.and_eq_true, beq_iff_eq] at h1
    rw [behF_eq hl, kidT, h1.2.1, if_neg (by omega)] at h
    obtain rfl : a + 1 = b := by simpa [stK] using h
    exact stB_prim hl h1.1 hi h1.2.1 h1.2.2
  intro d
  induction d with
  | zero =>
    intro a b h hd
    rw [deepF] at hd
    exact key h (by simpa using hd)
  | succ d ih =>
    intro a b h hd
    cases hi : innerF (tagT ts a) with
    | false => exact key h hi
    | true =>
      have hl : a < ts.length := by have := behF_lt h; omega
      have h1 := hal a hl
      have hi' := hi
      unfold tagT at hi'
      unfold aloneF at h1
      rw [hi'] at h1
      simp only [if_true, Bool.and_eq_true, beq_iff_eq] at h1
      rw [behF_eq hl] at h
      split at h
      · cases h
      · rename_i hk
        show stB ts (some (stF ts d)) a = some b
        rw [stB_inner hl h1.1 hi (by omega) (List.eq_nil_of_length_eq_zero h1.2)]
        rw [deepF] at hd
        clear hk hi hi' h1 hl
        generalize kidT ts a = n at h hd
        generalize a + 1 = k at h hd
        induction n generalizing k with
        | zero => exact h
        | succ n ihn =>
          rw [stK] at h
          rw [deepK, Bool.and_eq_true] at hd
          split at h
          · rename_i c hc
            rw [stK, ih hc hd.1]
            rw [show nxG (behF ts) k = c from by simp [nxG, hc]] at hd
            exact ihn _ h hd.2
          · cases h
/-- The document's Shaped. -/
def rshapedF (ts : List Tlv) : Bool := decide (0 < ts.length) && (behF ts 0 == some ts.length) && (ts.all aloneF && deepF ts 32 0)
theorem alone_of_stF {ts : List Tlv} {e x y : Nat} (h : stF ts e x = some y) : aloneF (ts.getD x default) = true := by
  have key : ∀ rec, stB ts rec x = some y → aloneF (ts.getD x default) = true := fun rec h => by
    obtain ⟨h1, h2, h3⟩ := stB_cases h
    unfold tagT datT at *
    unfold aloneF
    rcases h3 with ⟨h3, h4, h5, rfl⟩ | ⟨h3, h4, h5, _⟩
    · rw [h2, h3, h4, h5]; rfl
    · rw [h2, h3, h5]; rfl
  cases e with
  | zero => exact key _ h
  | succ e => exact key _ h
theorem all_at (ts : List Tlv) (p : Tlv → Bool) : ts.all p = true ↔ ∀ x, x < ts.length → p (ts.getD x default) = true := by
  rw [List.all_eq_true]
  constructor
  · intro h x hx
    rw [getD_at hx]; exact h _ (List.getElem_mem hx)
  · intro h t ht
    obtain ⟨x, hx, rfl⟩ := List.getElem_of_mem ht
    have := h x hx
    rwa [getD_at hx] at this
theorem rshaped_eq (ts : List Tlv) : rshapedF ts = shapedF ts := by
  rw [Bool.eq_iff_iff]
  constructor
  · intro h
    unfold rshapedF at h
    simp only [Bool.and_eq_true, decide_eq_true_eq, beq_iff_eq] at h
    obtain ⟨⟨h1, h2⟩, h3, h4⟩ := h
    unfold shapedF
    rw [beh_stF ((all_at ts aloneF).1 h3) 32 h2 h4]
    simpa using h1
  · intro h
    obtain ⟨h1, h2, h3⟩ := shapedF_shp h
    obtain ⟨h4, h5⟩ := stF_beh 32 h1
    unfold rshapedF
    rw [h4, h5, (all_at ts aloneF).2 fun x hx => by obtain ⟨e, y, _, h⟩ := h3 x hx; exact alone_of_stF h]
    simpa using h2
/-! Printing. -/
def headB (t : Int) (n : Nat) : List UInt8 :=
  if n < 128 then [u8 t, u8 n] else if n < 256 then [u8 t, u8 129, u8 n] else if n < 65536 then [u8 t, u8 130, u8 ((n / 256 : Nat) : Int), u8 ((n % 256 : Nat) : Int)]
  else [u8 t, u8 131, u8 ((n / 65536 : Nat) : Int), u8 ((n / 256 % 256 : Nat) : Int), u8 ((n % 256 : Nat) : Int)]
theorem headB_eq (t : Int) (n : Nat) (h : n < 16777216) : headB t n = u8 t :: lenF n := by
  unfold headB lenF
  split
  · rfl
  · rename_i h1
    have e0 : beF 0 = [] := by rw [beF, if_pos rfl]
    split
    · rename_i h2
      rw [beF, if_neg (by omega), show n / 256 = 0 from by omega, e0, Nat.mod_eq_of_lt h2]; rfl
    · rename_i h2
      split
      · rename_i h3
        rw [beF, if_neg (by omega), beF, if_neg (by omega), show n / 256 / 256 = 0 from by omega, e0, Nat.mod_eq_of_lt (show n / 256 < 256 by omega)]; rfl
      · rename_i h3
        rw [beF, if_neg (by omega), beF, if_neg (by omega), beF, if_neg (by omega), show n / 256 / 256 / 256 = 0 from by omega, e0, Nat.mod_eq_of_lt (show n / 256 / 256 < 256 by omega), show n / 65536 = n / 256 / 256 from by omega]; rfl
def cutB (l : List UInt8) : List UInt8 := if 65536 < l.length then l.take 65537 else l
def fin (t : Int) (l : List UInt8) : List UInt8 := headB t (cutB l).length ++ cutB l
def catK (rec : Nat → List UInt8) (nx : Nat → Nat) : Nat → Nat → List UInt8 → List UInt8
  | 0, _, acc => acc
  | n + 1, k, acc => if acc.length ≤ 65536 then catK rec nx n (nx k) (acc ++ rec k) else acc
/-- The document's bytes of the element at a place. -/
def bytesF (ts : List Tlv) : Nat → Nat → List UInt8
  | 0, a => fin (tagT ts a) (datT ts a)
  | d + 1, a => fin (tagT ts a) (if innerF (tagT ts a) then catK (bytesF ts d) (nxG (behF ts)) (kidT ts a) (a + 1) [] else datT ts a)
theorem cutB_len (l : List UInt8) : (cutB l).length ≤ 65537 ∧ (l.length ≤ 65536 → cutB l = l) ∧ (65536 < l.length → (cutB l).length = 65537) := by
  unfold cutB
  split
  · rename_i h
    refine ⟨by simp; omega, fun h2 => by omega, fun _ => by simp; omega⟩
  · exact ⟨by omega, fun _ => rfl, fun h => by omega⟩
theorem headB_len (t : Int) (n : Nat) : (headB t n).length ≤ 5 := by
  unfold headB; repeat (split; · simp)
  simp
theorem fin_len (t : Int) (l : List UInt8) : (fin t l).length ≤ 65542 := by
  have h1 := headB_len t (cutB l).length
  have h2 := (cutB_len l).1
  unfold fin
  simp only [List.length_append]; omega
theorem bytesF_len (ts : List Tlv) (d a : Nat) : (bytesF ts d a).length ≤ 65542 := by
  cases d <;> exact fin_len _ _
theorem fin_at (t : Int) (l : List UInt8) : (l.length ≤ 65536 → fin t l = u8 t :: (lenF l.length ++ l)) ∧ (65536 < l.length → 65536 < (fin t l).length) := by
  obtain ⟨h1, h2, h3⟩ := cutB_len l
  refine ⟨fun h => ?_, fun h => ?_⟩
  · unfold fin
    rw [h2 h, headB_eq _ _ (by omega)]; rfl
  · unfold fin
    simp only [List.length_append, h3 h]; omega
theorem bytesF_spec {ts : List Tlv} (hs : Shp ts) : ∀ (d : Nat), d ≤ 32 → ∀ {a b : Nat}, stF ts d a = some b →
    (szI ts a ≤ 65536 → bytesF ts d a = fl ts (inI ts) a (b - a)) ∧ (65536 < szI ts a → 65536 < (bytesF ts d a).length) := by
  have key : ∀ {a : Nat} {l : List UInt8} {d b : Nat}, d ≤ 32 → stF ts d a = some b → (inI ts a ≤ 65536 → datT ts a ++ fl ts (inI ts) (a + 1) (b - (a + 1)) = l ∧ l.length = inI ts a) → (65536 < inI ts a → 65536 < l.length) →
      (szI ts a ≤ 65536 → fin (tagT ts a) l = fl ts (inI ts) a (b - a)) ∧ (65536 < szI ts a → 65536 < (fin (tagT ts a) l).length) := by
    intro a l d b hd h h1 h2
    obtain ⟨f1, f2⟩ := fin_at (tagT ts a) l
    have hb := stF_ok d h
    rcases Nat.lt_or_ge 65536 (inI ts a) with hl | hl
    · have : inI ts a < szI ts a := by unfold szI szOf; omega
      exact ⟨fun h => by omega, fun _ => f2 (h2 hl)⟩
    · obtain ⟨e1, e2⟩ := h1 hl
      have e3 := f1 (by omega)
      refine ⟨fun _ => ?_, fun h => ?_⟩
      · rw [e3, show b - a = (b - (a + 1)) + 1 from by omega, fl, piece, e2, ← e1]
        simp [List.append_assoc]
      · rw [e3, e2]
        simp only [List.length_cons, List.length_append, e2]
        unfold szI szOf at h; omega
  intro d
  induction d with
  | zero =>
    intro hd a b h
    obtain ⟨h1, h2, h3⟩ := stB_cases h
    rcases h3 with ⟨h3, h4, h5, rfl⟩ | ⟨_, _, _, r, hr, _⟩
    · obtain ⟨_, _, _, q⟩ := hs.step h1
      rw [kidT, h4] at q
      simp only [kdN, Int.toNat_zero, Nat.add_zero] at q
      rw [bytesF]
      refine key hd h (fun _ => ?_) (fun h => by omega)
      rw [Nat.sub_self, fl, List.append_nil]
      exact ⟨rfl, q.symm⟩
    · cases hr
  | succ d ih =>
    intro hd a b h
    obtain ⟨h1, h2, h3⟩ := stB_cases h
    obtain ⟨_, _, _, q⟩ := hs.step h1
    rcases h3 with ⟨h3, h4, h5, rfl⟩ | ⟨h3, h4, h5, r, hr, hk⟩
    · rw [kidT, h4] at q
      simp only [kdN, Int.toNat_zero, Nat.add_zero] at q
      rw [bytesF, h3]
      refine key hd h (fun _ => ?_) (fun h => by simp only [Bool.false_eq_true, if_false]; omega)
      rw [Nat.sub_self, fl, List.append_nil]
      exact ⟨rfl, q.symm⟩
    · simp only [Option.some.injEq] at hr
      subst hr
      rw [bytesF, h3, if_pos rfl]
      rw [h5, List.length_nil, Nat.zero_add] at q
      have cat : ∀ n k b acc, stK (stF ts d) n k = some b → k ≤ b ∧ (fl ts (inI ts) k (b - k)).length = kdN (nxI ts) (szI ts) n k ∧
          (acc.length + kdN (nxI ts) (szI ts) n k ≤ 65536 → catK (bytesF ts d) (nxG (behF ts)) n k acc = acc ++ fl ts (inI ts) k (b - k)) ∧
          (65536 < acc.length + kdN (nxI ts) (szI ts) n k → 65536 < (catK (bytesF ts d) (nxG (behF ts)) n k acc).length) := by
        intro n
        induction n with
        | zero =>
          intro k b acc h0
          obtain rfl : k = b := by simpa [stK] using h0
          refine ⟨Nat.le_refl _, ?_, fun _ => ?_, fun h => ?_⟩
          · rw [Nat.sub_self, fl, kdN]; rfl
          · rw [Nat.sub_self, fl, catK, List.append_nil]
          · rw [kdN] at h; rw [catK]; omega
        | succ n ihn =>
          intro k b acc h0
          rw [stK] at h0
          split at h0
          · rename_i c hc
            obtain ⟨g1, g2⟩ := ih (by omega) hc
            have hc1 := stF_ok d hc
            obtain ⟨m1, _⟩ := stF_mono (show d ≤ 32 by omega) hc
            have hn : nxI ts k = c := by simp [nxI, nxG, m1]
            have hn2 : nxG (behF ts) k = c := by simp [nxG, (stF_beh d hc).1]
            have hlen := Shp.len hs ts.length k (by omega) (by omega)
            rw [hn] at hlen
            obtain ⟨q1, q2, _, _⟩ := ihn c b (acc ++ bytesF ts d k) h0
            have hkd : kdN (nxI ts) (szI ts) (n + 1) k = szI ts k + kdN (nxI ts) (szI ts) n c := by rw [kdN, hn]
            have hsp : fl ts (inI ts) k (b - k) = fl ts (inI ts) k (c - k) ++ fl ts (inI ts) c (b - c) := fl_split ts (inI ts) (Nat.le_of_lt hc1.1) q1
            refine ⟨by omega, ?_, fun hle => ?_, fun hgt => ?_⟩
            · rw [hsp, List.length_append, hlen, q2, hkd]
            · rw [hkd] at hle
              have e := g1 (by omega)
              rw [catK, if_pos (by omega), hn2, (ihn c b (acc ++ bytesF ts d k) h0).2.2.1 (by rw [List.length_append, e, hlen]; omega), e, hsp, List.append_assoc]
            · rw [hkd] at hgt
              rw [catK]
              split
              · rw [hn2]
                refine (ihn c b (acc ++ bytesF ts d k) h0).2.2.2 ?_
                rw [List.length_append]
                rcases Nat.lt_or_ge 65536 (szI ts k) with hl | hl
                · have := g2 hl; omega
                · rw [g1 hl, hlen]; omega
              · omega
          · cases h0
      obtain ⟨c1, c2, c3, c4⟩ := cat _ _ _ [] hk
      rw [List.length_nil, Nat.zero_add, ← q] at c3 c4
      rw [← q] at c2
      refine key hd h (fun hl => ?_) c4
      rw [c3 hl, h5]
      exact ⟨rfl, c2⟩
/-- The document's Print. -/
def rprintF (ts : List Tlv) : List UInt8 × Int := if rshapedF ts = false then ([], 80) else if 65536 < (bytesF ts 32 0).length then ([], 10) else (bytesF ts 32 0, 0)
theorem rprint_eq (ts : List Tlv) : rprintF ts = printF ts := by
  unfold rprintF printF
  rw [rshaped_eq]
  split
  · rfl
  · rename_i h
    have h : shapedF ts = true := by simpa using h
    obtain ⟨h1, h2, h3⟩ := shapedF_shp h
    obtain ⟨g1, g2⟩ := bytesF_spec h3 32 (Nat.le_refl _) h1
    rw [Nat.sub_zero] at g1
    have hn : nxI ts 0 = ts.length := by simp [nxI, nxG, h1]
    have hl0 := Shp.len h3 ts.length 0 (by omega) h2
    rw [hn, Nat.sub_zero] at hl0
    have hbig : bigF ts = true ↔ 65536 < szI ts 0 := by
      rw [bigF_iff]
      constructor
      · rintro ⟨x, hx, hb⟩
        obtain ⟨_, e1, e2⟩ := h3.at hx
        have e3 := Shp.len h3 ts.length x (by omega) hx
        have e4 := fl_split ts (inI ts) (Nat.zero_le x) (show x ≤ ts.length by omega)
        have e5 := fl_split ts (inI ts) (Nat.le_of_lt e1) e2
        rw [e5] at e4
        have e6 := congrArg List.length e4
        simp only [List.length_append, Nat.sub_zero] at e6
        omega
      · intro h; exact ⟨0, h2, h⟩
    rcases Nat.lt_or_ge 65536 (szI ts 0) with hl | hl
    · rw [if_pos (g2 hl), if_pos (hbig.2 hl)]
    · rw [if_neg (show ¬ bigF ts = true from fun e => by have := hbig.1 e; omega), g1 hl, if_neg (by rw [hl0]; omega)]
end Go.Proofs.Ytelaolingpbnfaa
