/- One's own memory: stores. -/
import Derived.Test.YtbjfhnbgiajnjaaDoorWact
import Derived.Deep.Upon
namespace Go.Proofs.YtbjfhnbgiajnjaaDoor
open Go.RowKit
def setMany {α : Type} (l : List α) (o : Nat) : List α → List α
  | [] => l
  | x :: r => setMany (l.set o x) (o + 1) r
theorem setMany_length {α : Type} : ∀ (xs l : List α) (o : Nat), (setMany l o xs).length = l.length
  | [], _, _ => rfl
  | x :: r, l, o => by rw [setMany, setMany_length r]; simp
theorem setMany_get {α : Type} : ∀ (xs l : List α) (o k : Nat), o + xs.length ≤ l.length → (setMany l o xs)[k]? = if o ≤ k ∧ k < o + xs.length then xs[k - o]? else l[k]?
  | [], l, o, k, _ => by simp [setMany]; omega
  | x :: r, l, o, k, h => by
    simp only [List.length_cons] at h ⊢
    rw [setMany, setMany_get r _ _ _ (by simp; omega)]
    by_cases h1 : k = o
    · subst h1
      rw [if_neg (by omega), if_pos (by omega), Nat.sub_self, List.getElem?_cons_zero, List.getElem?_set_self (by omega)]
    · by_cases h2 : o + 1 ≤ k ∧ k < o + 1 + r.length
      · rw [if_pos h2, if_pos (by omega), show k - o = (k - (o + 1)) + 1 from by omega, List.getElem?_cons_succ]
      · rw [if_neg h2, if_neg (by omega), List.getElem?_set_ne (by omega)]
theorem setMany_take {α : Type} (xs l : List α) (o n : Nat) (h : o + xs.length ≤ n) (hn : n ≤ l.length) : (setMany l o xs).take n = setMany (l.take n) o xs := by
  apply List.ext_getElem?
  intro k
  rw [List.getElem?_take, setMany_get _ _ _ _ (by omega), setMany_get _ _ _ _ (by simp; omega), List.getElem?_take]
  by_cases h1 : k < n
  · rw [if_pos h1, if_pos h1]
  · rw [if_neg h1, if_neg h1, if_neg (by omega)]
theorem getD_set_eq {α : Type} (l : List α) (i : Nat) (x d : α) (h : i < l.length) : (l.set i x).getD i d = x := by
  simp [List.getD_eq_getElem?_getD, h]
theorem getD_set_ne {α : Type} (l : List α) (i k : Nat) (x d : α) (h : k ≠ i) : (l.set i x).getD k d = l.getD k d := by
  simp [List.getD_eq_getElem?_getD, Ne.symm h]

section
variable {P : Program} {x : Fx} {F : Cx} {w w' : World} {a : Act} {s : S}
theorem Ev.setCells (b : Nat) : ∀ (vs : List Value) (o : Nat) (w : World), Ev (fun i => i = b) w (w.setCells b o vs)
  | [], _, w => Ev.refl _ w
  | v :: r, o, w => (show Ev (fun i => i = b) w (w.setCell ⟨b, o, none⟩ v) from ⟨rfl, rfl, rfl, by simp [World.setCell], fun i _ hn => Below.heap_setCell w ⟨b, o, none⟩ v i hn⟩).trans (Ev.setCells b r (o + 1) _)
theorem setCells_size (b : Nat) : ∀ (vs : List Value) (o : Nat) (w : World), (w.setCells b o vs).heap.size = w.heap.size
  | [], _, w => rfl
  | v :: r, o, w => by rw [World.setCells, setCells_size b r]; simp [World.setCell]
theorem heap_setCell_at {w : World} {b j : Nat} {y : Value} {cs : Array Value} {ty : TypeId} (h : w.heap[b]? = some (.cells cs ty (0, 0))) : (w.setCell ⟨b, j, none⟩ y).heap[b]? = some (.cells (cs.setIfInBounds j y) ty (0, 0)) := by
  simp [World.setCell, Array.getElem?_modify, h]
theorem heap_setCells_at {b : Nat} {ty : TypeId} : ∀ (vs : List Value) (o : Nat) (w : World) (cs : Array Value), w.heap[b]? = some (.cells cs ty (0, 0)) → ∃ cs', (w.setCells b o vs).heap[b]? = some (.cells cs' ty (0, 0)) ∧ cs'.toList = setMany cs.toList o vs
  | [], _, w, cs, h => ⟨cs, h, rfl⟩
  | v :: r, o, w, cs, h => by
    obtain ⟨cs', h1, h2⟩ := heap_setCells_at r (o + 1) (w.setCell ⟨b, o, none⟩ v) (cs.setIfInBounds o v) (heap_setCell_at h)
    exact ⟨cs', h1, by rw [h2, Array.toList_setIfInBounds]; rfl⟩
theorem frozen_no {w : World} {b j : Nat} {cs : Array Value} {ty : TypeId} (h : w.heap[b]? = some (.cells cs ty (0, 0))) : w.frozen? ⟨b, j, none⟩ = false := by
  simp [World.frozen?, h]
theorem run_storeAt {t ty : TypeId} {g o : Nat} {cs : Array Value} {y : Value} (hheap : w.heap[g]? = some (.cells cs ty (0, 0))) (hsz : P.cellsOf t = y.cells.size) (hpos : 0 < y.cells.size) (ho : o + y.cells.size ≤ cs.size) (h1 : ∀ v ∈ y.cells.toList, v.oneCell' = true) :
    (Instr.storeAt t (.pointer (some ⟨g, o, none⟩)) y).run P w = .ok () (w.setCells g o y.cells.toList) := by
  have hst := run_storeCells_cells (P := P) g o y.cells.toList 0 w (fun j hj => by
    rw [cell0 hheap]; simp at hj; simp; omega) (fun j hj => frozen_no hheap) h1
  have hs := run_sizeOf' (P := P) hsz hpos w
  simp [Instr.storeAt, Instr.sureAddr, storeVar, hs, hst]

/-- One piece of one's own memory is written to. -/
theorem Sat.upd {k : Nm} {g : Nat} {ob : Ob} {h' : List (Nat × Ob)} (hs : Sat x s F a w) (hk : Hget s.h k = some ob) (hg : F.blk k ob = some g) (hw : Ev (fun b => b = g) w w')
    (hm : ∀ m o', Hget h' m = some o' → (m = k ∧ F.blk m o' = some g ∧ ObOk w' F m o') ∨ (m ≠ k ∧ ∃ o, Hget s.h m = some o ∧ F.blk m o' = F.blk m o ∧ ∀ W, ObOk W F m o → ObOk W F m o')) :
    Sat x { s with h := h' } F a w' := by
  have hF := blk_F hs hk hg
  have hout : Out F w w' := ⟨hw.size, fun b hb hn => hw.block b hb fun e => hn (by rw [e]; exact hF)⟩
  refine ⟨⟨hw.os.trans hs.ev.os, hw.tape.trans hs.ev.tape, hw.output.trans hs.ev.output, Nat.le_trans hs.ev.size hw.size, fun b hb hX => ?_⟩, fun t v ht => ⟨(hs.env t v ht).1, (hs.env t v ht).2.out hout⟩, hs.df, hs.sz, hs.fold, fun b hb => Nat.lt_of_lt_of_le (hs.flt b hb) hw.size, hs.nx, fun m o hk' => ?_, fun m o g' hk' hg' => ?_, fun m o g' hk' hg' => ?_, fun k1 k2 o1 o2 g' h1 h2 e1 e2 => ?_, hs.wsl, hs.le, x.J.out hs.inv hout.size hout.block fun b hb => .inl hb⟩
  · refine (hw.block b (Nat.lt_of_lt_of_le hb hs.ev.size) fun e => ?_).trans (hs.ev.block b hb hX)
    subst e
    rcases hs.own2 k ob b hk hg with h | h
    · omega
    · exact hX h
  · rcases hm m o hk' with ⟨_, _, h⟩ | ⟨hne, o0, h0, hb0, ht⟩
    · exact h
    · exact ht _ ((hs.own m o0 h0).keep hout (Cx.Le.refl w F) (fun b hb => hb) fun g' hg' => hw.block g' (blk_lt hs h0 hg') fun e => hne (hs.sep m k o0 ob g h0 hk (by rw [← e]; exact hg') hg))
  · rcases hm m o hk' with ⟨rfl, h, _⟩ | ⟨hne, o0, h0, hb0, ht⟩
    · rw [h] at hg'
      obtain rfl : g = g' := by simpa using hg'
      exact hs.own2 m ob g hk hg
    · exact hs.own2 m o0 g' h0 (hb0 ▸ hg')
  · rcases hm m o hk' with ⟨rfl, h, _⟩ | ⟨hne, o0, h0, hb0, ht⟩
    · rw [h] at hg'
      obtain rfl : g = g' := by simpa using hg'
      exact hs.own3 m ob g hk hg
    · exact hs.own3 m o0 g' h0 (hb0 ▸ hg')
  · rcases hm k1 o1 h1 with ⟨rfl, h, _⟩ | ⟨hne, o0, h0, hb0, ht⟩
    · rw [h] at e1
      obtain rfl : g = g' := by simpa using e1
      rcases hm k2 o2 h2 with ⟨rfl, h', _⟩ | ⟨hne', o0', h0', hb0', ht'⟩
      · rfl
      · exact hs.sep _ k2 ob o0' g hk h0' hg (hb0' ▸ e2)
    · rcases hm k2 o2 h2 with ⟨rfl, h', _⟩ | ⟨hne', o0', h0', hb0', ht'⟩
      · rw [h'] at e2
        obtain rfl : g = g' := by simpa using e2
        exact hs.sep k1 _ o0 ob g h0 hk (hb0 ▸ e1) hg
      · exact hs.sep k1 k2 o0 o0' g' h0 h0' (hb0 ▸ e1) (hb0' ▸ e2)

/-! ## A store -/
def V.cellsL : V → List V
  | .st l => l
  | v => [v]
theorem cellsL_spec {v : V} (h : v.sto = true) : v.cellsL.length = v.csize ∧ ∀ j, j < v.csize → v.cellsL.getD j .any = v.cell j := by
  cases v with
  | st l => exact ⟨rfl, fun j _ => rfl⟩
  | _ =>
    refine ⟨rfl, fun j hj => ?_⟩
    simp only [V.csize, V.parts] at hj
    obtain rfl : j = 0 := by omega
    rfl
/-- Cells of a variable set anew. -/
def V.setB (b : V) (j : Nat) (v : V) : Option V :=
  match b with
  | .st cs => if j + v.csize ≤ cs.length then some (.st (setMany cs j v.cellsL)) else none
  | _ => if b.sto = true ∧ j = 0 ∧ v.csize = 1 then (match v with
    | .st [x] => if x.one = true then some x else none
    | v => some v) else none
theorem setB_ok {b b' v : V} {j : Nat} (h : b.setB j v = some b') (hv : v.sto = true) : j + v.csize ≤ b.csize ∧ b'.csize = b.csize ∧ ∀ i, i < b.csize → b'.cell i = if j ≤ i ∧ i < j + v.csize then v.cell (i - j) else b.cell i := by
  obtain ⟨e1, e2⟩ := cellsL_spec hv
  unfold V.setB at h
  split at h
  · rename_i cs
    split at h
    · rename_i hle
      obtain rfl : V.st (setMany cs j v.cellsL) = b' := by simpa using h
      have hlen := setMany_length v.cellsL cs j
      refine ⟨hle, hlen, fun i hi => ?_⟩
      show (setMany cs j v.cellsL).getD i .any = if _ then _ else cs.getD i .any
      rw [List.getD_eq_getElem?_getD, setMany_get _ _ _ _ (by rw [e1]; exact hle), e1]
      by_cases hc : j ≤ i ∧ i < j + v.csize
      · rw [if_pos hc, if_pos hc, ← List.getD_eq_getElem?_getD, e2 _ (by omega)]
      · rw [if_neg hc, if_neg hc, List.getD_eq_getElem?_getD]
    · cases h
  · rename_i hne
    split at h
    · rename_i hc
      obtain ⟨hb, rfl, hvc⟩ := hc
      have hbc : b.csize = 1 := by
        cases b with
        | st l => exact (hne l rfl).elim
        | _ => rfl
      have hb'c : b'.csize = 1 ∧ b'.cell 0 = v.cell 0 := by
        split at h
        · rename_i y
          split at h
          · rename_i hy
            obtain rfl : y = b' := by simpa using h
            exact one_csize hy
          · cases h
        · rename_i v' hn
          obtain rfl : _ = b' := by simpa using h
          exact ⟨hvc, rfl⟩
      refine ⟨by omega, by omega, fun i hi => ?_⟩
      obtain rfl : i = 0 := by omega
      rw [if_pos (by omega), hb'c.2]
    · cases h
/-- Cells of an element of a slice set anew. -/
def V.setE (sv : V) (i j : Nat) (v : V) : Option (List Prop × V) :=
  match sv with
  | .by l => match v with
    | .val (.int .u8 n) => if j = 0 then some ([0 ≤ n, n < 256], .by (l.set i (u8 n))) else none
    | _ => none
  | .sq sz d l => match (l.getD i d).setB j v with
    | some b => if (l.getD i d).csize = sz then some ([], .sq sz d (l.set i b)) else none
    | none => none
  | _ => none
theorem setE_ok {sv sv' v : V} {i j sz n : Nat} {c : Nat → V} {l : List Prop} (h : sv.setE i j v = some (l, sv')) (hl : AllP l) (he : sv.elems = some (sz, n, c)) (hi : i < n) (hv : v.sto = true) :
    ∃ c', sv'.elems = some (sz, n, c') ∧ j + v.csize ≤ sz ∧ (∀ m, m < sz → (c' i).cell m = if j ≤ m ∧ m < j + v.csize then v.cell (m - j) else (c i).cell m) ∧ ∀ k, k ≠ i → c' k = c k := by
  unfold V.setE at h
  split at h
  · rename_i l0
    split at h
    · rename_i n0
      split at h
      · rename_i hj
        subst hj
        obtain ⟨rfl, rfl⟩ := some_pair h
        have h0 : (0 : Int) ≤ n0 := hl _ (by simp)
        have h1 : n0 < 256 := hl _ (by simp)
        simp only [V.elems, Option.some.injEq, Prod.mk.injEq] at he
        obtain ⟨rfl, rfl, rfl⟩ := he
        refine ⟨fun m => .val (.int .u8 (byteAt (l0.set i (u8 n0)) m)), by simp only [V.elems, List.length_set], by simp [V.csize, V.parts], fun m hm => ?_, fun k hk => ?_⟩
        · obtain rfl : m = 0 := by omega
          rw [if_pos ⟨Nat.le_refl _, by simp [V.csize, V.parts]⟩]
          show V.val (.int .u8 (byteAt _ _)) = .val (.int .u8 n0)
          rw [byteAt, getD_set_eq l0 i _ 0 hi, u8_toNat n0 h0 h1]
        · show V.val (.int .u8 (byteAt _ _)) = V.val (.int .u8 (byteAt _ _))
          rw [byteAt, byteAt, getD_set_ne l0 i k _ 0 hk]
      · cases h
    · cases h
  · rename_i sz0 d l0
    split at h
    · rename_i b hb
      split at h
      · rename_i hsz
        obtain ⟨rfl, rfl⟩ := some_pair h
        simp only [V.elems] at he
        split at he
        · cases he
        · rename_i hz
          obtain ⟨rfl, rfl, rfl⟩ : sz0 = sz ∧ l0.length = n ∧ _ = c := by simpa using he
          obtain ⟨q1, q2, q3⟩ := setB_ok hb hv
          rw [hsz] at q1 q2 q3
          refine ⟨fun k => (l0.set i b).getD k d, by simp only [V.elems, if_neg hz, List.length_set], q1, fun m hm => ?_, fun k hk => ?_⟩
          · show ((l0.set i b).getD i d).cell m = _
            rw [getD_set_eq l0 i b d hi]; exact q3 m hm
          · exact getD_set_ne l0 i k b d hk
      · cases h
    · cases h
  · cases h
/-- A slice of one's own in a cell, set anew. -/
def V.setO (sv : V) (i j : Nat) (v : V) : Option V :=
  match sv with
  | .sq sz d l => match l.getD i d with
    | .st cs => if j < cs.length ∧ cs.length = sz then some (.sq sz d (l.set i (.st (cs.set j v)))) else none
    | _ => if sz = 1 ∧ j = 0 then some (.sq sz d (l.set i v)) else none
  | _ => none
theorem setO_ok {sv sv' s' : V} {i j sz n : Nat} {c : Nat → V} {ty : TypeId} {q : Option Nat} (h : sv.setO i j (.own ty s' q) = some sv') (he : sv.elems = some (sz, n, c)) (hi : i < n) :
    ∃ c', sv'.elems = some (sz, n, c') ∧ j < sz ∧ (c' i).cell j = .own ty s' q ∧ ∀ k m, (k ≠ i ∨ m ≠ j) → m < sz → (c' k).cell m = (c k).cell m := by
  unfold V.setO at h
  split at h
  · rename_i sz0 d l0
    simp only [V.elems] at he
    split at he
    · cases he
    · rename_i hz
      obtain ⟨rfl, rfl, rfl⟩ : sz0 = sz ∧ l0.length = n ∧ _ = c := by simpa using he
      split at h
      · rename_i cs hcs
        split at h
        · rename_i hc
          obtain rfl : _ = sv' := by simpa using h
          refine ⟨fun k => (l0.set i (.st (cs.set j (.own ty s' q)))).getD k d, by simp only [V.elems, if_neg hz, List.length_set], by omega, ?_, fun k m hkm hm => ?_⟩
          · show ((l0.set i _).getD i d).cell j = _
            rw [getD_set_eq l0 i _ d hi]
            simp [V.cell, List.getD_eq_getElem?_getD, hc.1]
          · show ((l0.set i _).getD k d).cell m = (l0.getD k d).cell m
            by_cases hk : k = i
            · subst hk
              have hm' : m ≠ j := by rcases hkm with h | h; exact absurd rfl h; exact h
              rw [getD_set_eq l0 k _ d hi, hcs]
              simp [V.cell, List.getD_eq_getElem?_getD, Ne.symm hm']
            · rw [getD_set_ne l0 i k _ d hk]
        · cases h
      · rename_i hne
        split at h
        · rename_i hc
          obtain ⟨rfl, rfl⟩ := hc
          obtain rfl : _ = sv' := by simpa using h
          refine ⟨fun k => (l0.set i (.own ty s' q)).getD k d, by simp [V.elems, List.length_set], by omega, ?_, fun k m hkm hm => ?_⟩
          · show ((l0.set i _).getD i d).cell 0 = _
            rw [getD_set_eq l0 i _ d hi]
            rfl
          · have hk : k ≠ i := by rcases hkm with h | h; exact h; omega
            show ((l0.set i _).getD k d).cell m = (l0.getD k d).cell m
            rw [getD_set_ne l0 i k _ d hk]
        · cases h
  · cases h
end
end Go.Proofs.YtbjfhnbgiajnjaaDoor
