/- Memory handed over in which a nil slice stands for an empty one. Numbers as lists of words of 32 bits, the lowest first. Plain Lean. Words as slices; small walks of the program's numbers. How many bits a number has; its bits. Plain Lean. Contracts of library functions, laid at this program: numbers as texts, texts joined. -/
import Derived.Test.YtmpklnhmempmgaaGreatDoorQ15
import Derived.Lib.BitFns
import Derived.Shelf.Small.Bits
import Derived.Test.YtmpklnhmempmgaaGreatDoorProg
namespace Go.Proofs.YtmpklnhmempmgaaGreatDoor
open Go.RowKit
theorem FnH.adopt {P : Program} {J : Inv} {f : FuncId} {args : List V} {pre pre' post : List (Nat × Ob)} {nx nx' nx2 : Nat} {res : V} (ad : List Ad) (h : FnH P J f args pre' nx' res post nx2) (ha : AdSub ad ⟨enOf 0 args, pre, nx⟩ ⟨enOf 0 args, pre', nx'⟩) : FnH P J f args pre nx res post nx2 := by
  refine ⟨h.1, fun w F vs hM hlen hvs => ?_⟩
  have hs0 : Sat ⟨J, w, fun b => F.F b ∧ ¬ Blk F pre b, vs.length, Blk F pre, F⟩ ⟨enOf 0 args, pre, nx⟩ F { tmps := vs.toArray, defers := [] } w := by
    refine ⟨Ev.refl _ w, fun t v ht => ?_, rfl, by simp, fun b hb => hb.1, hM.flt, hM.nx, hM.own, fun k ob g hk hg => .inr ⟨k, ob, hk, hg⟩, fun k ob g hk hg hF => hF.2 ⟨k, ob, hk, hg⟩, hM.sep, hM.wsl, Cx.Le.refl w _, hM.inv⟩
    obtain ⟨_, h1⟩ := enOf_get args 0 t v ht
    simp only [Nat.sub_zero] at h1
    have hlt : t < args.length := (List.getElem?_eq_some_iff.1 h1).1
    have hlt' : t < vs.length := by omega
    refine ⟨by simp; omega, ?_⟩
    have hg : vs[t]? = some vs[t] := List.getElem?_eq_getElem hlt'
    have := hvs t v _ h1 hg
    simpa [Array.getD_eq_getD_getElem?, hlt'] using this
  obtain ⟨G, hG⟩ := hs0.adsub ha
  have hB : ∀ g, Blk G pre' g → Blk F pre g ∨ w.heap.size ≤ g := fun g ⟨k, ob, h1, h2⟩ => (hG.own2 k ob g h1 h2).symm
  have hB2 : ∀ b, F.F b → ¬ Blk F pre b → ¬ Blk G pre' b := fun b h1 h2 ⟨k, ob, h3, h4⟩ => hG.own3 k ob b h3 h4 ⟨h1, h2⟩
  refine (h.2 w G vs ⟨hG.flt, hG.nx, hG.own, hG.sep, hG.wsl, hG.inv⟩ hlen fun i v y h1 h2 => ?_).mono fun e w' ⟨v, G1, he, hev, hle, hkeep, hmem, hown, hrep⟩ => ?_
  · have hlt : i < vs.length := (List.getElem?_eq_some_iff.1 h2).1
    have h3 : (enOf 0 args).get i = some v := by
      have key : ∀ (l : List V) (k j : Nat), (enOf k l).get (k + j) = l[j]? := by
        intro l
        induction l with
        | nil => intro k j; simp [enOf, En.get]
        | cons u r ih =>
          intro k j
          cases j with
          | zero => simp [enOf, En.get]
          | succ j =>
            simp only [enOf, En.get]
            rw [if_neg (by omega), show k + (j + 1) = k + 1 + j from by omega, ih]; simp
      have := key args 0 i
      simp only [Nat.zero_add] at this
      rw [this, h1]
    have := (hG.env i v h3).2
    have e : vs[i]? = some vs[i] := List.getElem?_eq_getElem hlt
    rw [e] at h2
    obtain rfl : vs[i] = y := by simpa using h2
    simpa [Array.getD_eq_getD_getElem?, hlt] using this
  · refine ⟨v, G1, he, ⟨hev.os, hev.tape, hev.output, hev.size, fun b hb hn => hev.block b hb fun hx => (hB b hx).elim hn fun h => by omega⟩, hG.le.trans hle (Nat.le_refl _), fun b h1 h2 => hkeep b (hG.fold b ⟨h1, h2⟩) (hB2 b h1 h2), hmem, fun k ob g h1 h2 => ?_, hrep⟩
    rcases hown k ob g h1 h2 with h | h
    · exact hB g h
    · exact .inr h
/-- A function that is handed nothing over, with a result that only reads. -/
theorem Fn.of_plain {P : Program} {J : Inv} {f : FuncId} {args : List V} {nx : Nat} {res : V} {post : List (Nat × Ob)} (h : FnH P J f args [] 0 res post nx) (hc : res.cl = true) : Fn P J f false args res := by
  refine ⟨h.1, fun w F vs hI hF hlen hvs => ?_⟩
  have hm : Mem J [] 0 (.bare F) w := ⟨hF, fun _ _ => ⟨rfl, rfl⟩, fun m o hm => by cases m <;> simp [Hget, Hroot, Hchild] at hm, fun m m' o o' g hm => by cases m <;> simp [Hget, Hroot, Hchild] at hm, fun k y hk => by simp [Cx.bare] at hk, hI⟩
  refine (h.2 w (.bare F) vs hm hlen hvs).mono fun e w' ⟨v, G, he, hev, hle, hkeep, hmem, hown, hrep⟩ => ?_
  have hnB : ∀ b, ¬ Blk (Cx.bare F) [] b := fun b ⟨m, ob, hm, _⟩ => by cases m <;> simp [Hget, Hroot, Hchild] at hm
  refine ⟨v, he, ⟨hev.os, hev.tape, hev.output, hev.size, fun b hb => hev.block b hb (hnB b)⟩, (hrep.bare hc).of_bare fun b hb => .inl ?_⟩
  rcases hb with hb | ⟨hb, _⟩
  · exact hkeep b hb (hnB b)
  · cases hb
def vl : List Nat → Nat
  | [] => 0
  | x :: r => x + 4294967296 * vl r
def W32 (l : List Nat) : Prop := ∀ x ∈ l, x < 4294967296
/-- A number's words, no nought on top. -/
def dg (n : Nat) : List Nat := if h : n = 0 then [] else n % 4294967296 :: dg (n / 4294967296)
termination_by n
decreasing_by omega
/-- Without noughts on top. -/
def trim : List Nat → List Nat
  | [] => []
  | x :: r => if x = 0 ∧ trim r = [] then [] else x :: trim r
theorem W32.tail {x : Nat} {r : List Nat} (h : W32 (x :: r)) : W32 r := fun y hy => h y (List.mem_cons_of_mem _ hy)
theorem W32.head {x : Nat} {r : List Nat} (h : W32 (x :: r)) : x < 4294967296 := h x (List.mem_cons_self ..)
theorem W32.nil : W32 [] := fun _ h => by cases h
theorem W32.app {a b : List Nat} (ha : W32 a) (hb : W32 b) : W32 (a ++ b) := fun x hx => (List.mem_append.1 hx).elim (ha x) (hb x)
theorem W32.one {x : Nat} (h : x < 4294967296) : W32 [x] := fun y hy => by obtain rfl := List.mem_singleton.1 hy; exact h
theorem W32.take {a : List Nat} (h : W32 a) (k : Nat) : W32 (a.take k) := fun x hx => h x (List.mem_of_mem_take hx)
theorem W32.drop {a : List Nat} (h : W32 a) (k : Nat) : W32 (a.drop k) := fun x hx => h x (List.mem_of_mem_drop hx)
theorem W32.zeros (k : Nat) : W32 (List.replicate k 0) := fun x hx => by rw [List.eq_of_mem_replicate hx]; omega
theorem W32.get {a : List Nat} (h : W32 a) (i : Nat) : a.getD i 0 < 4294967296 := by
  rw [List.getD_eq_getElem?_getD]
  cases hg : a[i]? with
  | none => decide
  | some x => exact h x (List.mem_of_getElem? hg)
theorem W32.set {a : List Nat} (h : W32 a) {i x : Nat} (hx : x < 4294967296) : W32 (a.set i x) := fun y hy => by
  rcases List.mem_or_eq_of_mem_set hy with h1 | h1
  · exact h y h1
  · rw [h1]; exact hx
theorem vl_app : ∀ (a b : List Nat), vl (a ++ b) = vl a + 4294967296 ^ a.length * vl b
  | [], b => by simp [vl]
  | x :: r, b => by
    rw [List.cons_append, vl, vl, vl_app r b, List.length_cons, Nat.pow_succ]
    grind
theorem vl_one (x : Nat) : vl [x] = x := by simp [vl]
theorem vl_snoc (a : List Nat) (x : Nat) : vl (a ++ [x]) = vl a + 4294967296 ^ a.length * x := by rw [vl_app, vl_one]
theorem vl_zeros : ∀ k, vl (List.replicate k 0) = 0
  | 0 => rfl
  | k + 1 => by rw [List.replicate_succ, vl, vl_zeros k]
theorem vl_take_succ (l : List Nat) (i : Nat) : vl (l.take (i + 1)) = vl (l.take i) + 4294967296 ^ i * l.getD i 0 := by
  rcases Nat.lt_or_ge i l.length with h | h
  · rw [List.take_succ_eq_append_getElem h, vl_snoc, List.length_take, Nat.min_eq_left (by omega), List.getD_eq_getElem?_getD, List.getElem?_eq_getElem h, Option.getD_some]
  · rw [List.take_of_length_le (by omega), List.take_of_length_le (by omega), List.getD_eq_getElem?_getD, List.getElem?_eq_none h, Option.getD_none, Nat.mul_zero, Nat.add_zero]
theorem vl_lt : ∀ {l : List Nat}, W32 l → vl l < 4294967296 ^ l.length
  | [], _ => by simp [vl]
  | x :: r, h => by
    have h1 := vl_lt h.tail
    have h2 := h.head
    rw [vl, List.length_cons, Nat.pow_succ]
    omega
theorem vl_dg (n : Nat) : vl (dg n) = n := by
  induction n using Nat.strongRecOn with
  | _ n ih =>
    rw [dg]
    split
    · rename_i h; rw [h]; rfl
    · rename_i h
      rw [vl, ih _ (by omega)]
      omega
theorem dg_zero : dg 0 = [] := by rw [dg]; simp
theorem W32_dg (n : Nat) : W32 (dg n) := by
  induction n using Nat.strongRecOn with
  | _ n ih =>
    rw [dg]
    split
    · exact W32.nil
    · rename_i h
      intro x hx
      rcases List.mem_cons.1 hx with rfl | hx
      · omega
      · exact ih _ (by omega) x hx
theorem dg_eq_nil {n : Nat} : dg n = [] ↔ n = 0 := by
  constructor
  · intro h
    have := vl_dg n
    rw [h] at this
    exact this.symm
  · rintro rfl; exact dg_zero
theorem trim_dg : ∀ {l : List Nat}, W32 l → trim l = dg (vl l)
  | [], _ => by rw [vl, dg_zero]; rfl
  | x :: r, h => by
    have h1 := trim_dg h.tail
    have h2 := h.head
    unfold trim
    rw [h1, vl]
    split
    · rename_i hc
      have := dg_eq_nil.1 hc.2
      rw [hc.1, this, dg_zero]
    · rename_i hc
      have hn : ¬ (x + 4294967296 * vl r = 0) := fun h0 => hc ⟨by omega, dg_eq_nil.2 (by omega)⟩
      rw [dg.eq_def (x + 4294967296 * vl r), dif_neg hn]
      congr 1
      · omega
      · congr 1; omega
theorem vl_trim {l : List Nat} (h : W32 l) : vl (trim l) = vl l := by rw [trim_dg h, vl_dg]
theorem trim_app_zero : ∀ (l : List Nat), trim (l ++ [0]) = trim l
  | [] => by simp [trim]
  | x :: r => by rw [List.cons_append]; simp only [trim, trim_app_zero r]
theorem trim_last : ∀ {l : List Nat} {x : Nat}, x ≠ 0 → trim (l ++ [x]) = l ++ [x]
  | [], x, h => by simp [trim, h]
  | y :: r, x, h => by
    rw [List.cons_append]
    simp only [trim, trim_last (l := r) h]
    rw [if_neg (fun hc => by have := hc.2; simp at this)]
/-- What is cut off from the top: k words are left. -/
theorem trim_take {l : List Nat} {k : Nat} (hk : k < l.length) (h0 : l.getD k 0 = 0) : trim (l.take (k + 1)) = trim (l.take k) := by
  rw [List.take_succ_eq_append_getElem hk]
  rw [List.getD_eq_getElem?_getD, List.getElem?_eq_getElem hk, Option.getD_some] at h0
  rw [h0, trim_app_zero]
theorem trim_take_last {l : List Nat} {k : Nat} (hk : k < l.length) (h0 : l.getD k 0 ≠ 0) : trim (l.take (k + 1)) = l.take (k + 1) := by
  rw [List.take_succ_eq_append_getElem hk]
  rw [List.getD_eq_getElem?_getD, List.getElem?_eq_getElem hk, Option.getD_some] at h0
  exact trim_last h0
theorem dg_len {n k : Nat} (h : n < 4294967296 ^ k) : (dg n).length ≤ k := by
  induction k generalizing n with
  | zero =>
    have : n = 0 := by simpa using h
    rw [this, dg_zero]; simp
  | succ k ih =>
    rw [dg]
    split
    · simp
    · rw [List.length_cons]
      have := ih (n := n / 4294967296) (by rw [Nat.pow_succ] at h; exact Nat.div_lt_of_lt_mul (by rw [Nat.mul_comm]; exact h))
      omega
theorem trim_len : ∀ l : List Nat, (trim l).length ≤ l.length
  | [] => Nat.le_refl _
  | x :: r => by
    have := trim_len r
    unfold trim
    split <;> simp <;> omega
theorem trim_idem (l : List Nat) : trim (trim l) = trim l := by
  induction l with
  | nil => rfl
  | cons x r ih =>
    by_cases h : x = 0 ∧ trim r = []
    · simp only [trim, if_pos h]
    · simp only [trim, if_neg h, ih]
theorem W32_trim {l : List Nat} (h : W32 l) : W32 (trim l) := by rw [trim_dg h]; exact W32_dg _
/-- The words of a proper number: as many as it needs. -/
theorem dg_lo {n : Nat} (h : n ≠ 0) : 4294967296 ^ ((dg n).length - 1) ≤ n := by
  induction n using Nat.strongRecOn with
  | _ n ih =>
    rw [dg.eq_def n, dif_neg h, List.length_cons]
    by_cases h0 : n / 4294967296 = 0
    · rw [h0, dg_zero]; simp; omega
    · have h1 := ih (n / 4294967296) (by omega) h0
      have h2 : (dg (n / 4294967296)).length ≠ 0 := fun hl => h0 (dg_eq_nil.1 (List.length_eq_zero_iff.1 hl))
      obtain ⟨m, hm⟩ : ∃ m, (dg (n / 4294967296)).length = m + 1 := ⟨_, (Nat.succ_pred h2).symm⟩
      rw [hm] at h1 ⊢
      simp only [Nat.add_sub_cancel] at h1 ⊢
      rw [Nat.pow_succ]
      have := Nat.mul_le_of_le_div _ _ _ h1
      omega
theorem dg_hi (n : Nat) : n < 4294967296 ^ (dg n).length := by
  have := vl_lt (W32_dg n)
  rwa [vl_dg] at this
/-- A sum with a carry, one word on. -/
theorem carry_step (P s : Nat) : P * (s % 4294967296) + P * 4294967296 * (s / 4294967296) = P * s := by
  have h := Nat.mod_add_div s 4294967296
  rw [Nat.mul_assoc, ← Nat.mul_add, h]
theorem pow_pos' (k : Nat) : 0 < 4294967296 ^ k := Nat.pow_pos (by omega)
theorem getD_take {l : List Nat} {n i : Nat} (h : i < n) : (l.take n).getD i 0 = l.getD i 0 := by
  simp [List.getD_eq_getElem?_getD, h]
theorem getD_lt {l : List Nat} {i : Nat} (h : i < l.length) : l.getD i 0 = l[i] := by
  rw [List.getD_eq_getElem?_getD, List.getElem?_eq_getElem h, Option.getD_some]
theorem getD_ge {l : List Nat} {i : Nat} (h : l.length ≤ i) : l.getD i 0 = 0 := by
  rw [List.getD_eq_getElem?_getD, List.getElem?_eq_none h, Option.getD_none]
theorem set_zeros (o : List Nat) (k x : Nat) : (o ++ List.replicate (k + 1) 0).set o.length x = o ++ [x] ++ List.replicate k 0 := by
  rw [List.set_append_right _ _ (Nat.le_refl _), Nat.sub_self, List.replicate_succ, List.set_cons_zero, List.append_assoc]
  rfl
set_option linter.unusedSimpArgs false
set_option maxRecDepth 100000
/-- The conditions of a list, one behind the other. -/
def conjL : List Prop → Prop
  | [] => True
  | a :: r => a ∧ conjL r
theorem AllP.un : ∀ {l : List Prop}, AllP l → conjL l
  | [], _ => trivial
  | _ :: _, h => ⟨h _ (List.mem_cons_self ..), AllP.un fun p hp => h p (List.mem_cons_of_mem _ hp)⟩
theorem Br_t (A B : Prop) : Br true A B = A := propext ⟨fun h => h.1 rfl, fun h => ⟨fun _ => h, fun h => by cases h⟩⟩
theorem Br_f (A B : Prop) : Br false A B = B := propext ⟨fun h => h.2 rfl, fun h => ⟨fun h => by (cases h), fun _ => h⟩⟩
/-- Words as numbers with signs. -/
def zs (l : List Nat) : List Int := l.map fun (n : Nat) => (n : Int)
def wds (l : List Nat) : List V := nums .u32 (zs l)
/-- A number cut to 32 bits. -/
def w32 (z : Int) : Nat := (z % 4294967296).toNat
theorem w32_nat (n : Nat) : w32 n = n % 4294967296 := by unfold w32; omega
theorem w32_lt (z : Int) : w32 z < 4294967296 := by unfold w32; omega
theorem wr_w32 (z : Int) : wr .u32 z = (w32 z : Int) := by rw [wr_eq]; show z % 4294967296 = _; unfold w32; omega
theorem bt_w32 (o : BinOp) (a b : Int) (h : o = .and ∨ o = .or ∨ o = .xor) : bt o .u32 a b = (w32 (bt o .u32 a b) : Int) := by
  have e : bt o .u32 a b = w32 (bits o .u32 a b) ∨ True := .inr trivial
  have : ∀ z : Int, IntKind.u32.wrap z = (w32 (IntKind.u32.wrap z) : Int) := fun z => by show z % 4294967296 = _; unfold w32; show _ = (((z % 4294967296) % 4294967296).toNat : Int); omega
  rw [bt_eq]
  rcases h with rfl | rfl | rfl <;> exact this _
/-- A number's words, as a slice. -/
def wV (l : List Nat) : V := .sq 1 (.val (.int .u32 0)) (wds l)
section
variable (l m : List Nat) (i k n : Nat)
theorem wds_len : (wds l).length = l.length := by simp [wds, nums, zs]
theorem wds_get : (wds l).getD i (.val (.int .u32 0)) = .val (.int .u32 ((l.getD i 0 : Nat) : Int)) := by
  simp only [wds, nums, zs, List.getD_eq_getElem?_getD, List.getElem?_map]; cases l[i]? <;> rfl
theorem wds_app : wds l ++ [.val (.int .u32 (n : Int))] = wds (l ++ [n]) := by simp [wds, nums, zs]
theorem wds_apps : wds l ++ wds m = wds (l ++ m) := by simp [wds, nums, zs]
theorem wds_set : (wds l).set i (.val (.int .u32 (n : Int))) = wds (l.set i n) := by simp [wds, nums, zs, List.map_set]
theorem wds_rep : List.replicate i (V.val (.int .u32 0)) = wds (List.replicate i 0) := by simp [wds, nums, zs]
theorem wds_setw (z : Int) : (wds l).set i (.val (.int .u32 (wr .u32 z))) = wds (l.set i (w32 z)) := by rw [wr_w32, wds_set]
theorem wds_appw (z : Int) : wds l ++ [.val (.int .u32 (wr .u32 z))] = wds (l ++ [w32 z]) := by rw [wr_w32, wds_app]
theorem wds_setb (a b : Int) : (wds l).set i (.val (.int .u32 (bt .or .u32 a b))) = wds (l.set i (w32 (bt .or .u32 a b))) := by rw [bt_w32 _ _ _ (.inr (.inl rfl)), wds_set]; rw [← bt_w32 _ _ _ (.inr (.inl rfl))]
theorem wds_many (a : Nat) (m : List Nat) (l : List Nat) : setMany (wds l) a (wds m) = wds (setMany l a m) := by
  induction m generalizing l a with
  | nil => rfl
  | cons x r ih =>
    show setMany ((wds l).set a (.val (.int .u32 (x : Int)))) (a + 1) (wds r) = wds (setMany (l.set a x) (a + 1) r)
    rw [wds_set, ih]
theorem wds_nrep : nums .u32 (List.replicate i 0) = wds (List.replicate i 0) := by simp [wds, nums, zs]
theorem wds_take : (wds l).take i = wds (l.take i) := by simp [wds, nums, zs, List.map_take]
theorem wds_drop : (wds l).drop i = wds (l.drop i) := by simp [wds, nums, zs, List.map_drop]
theorem wds_er : (wds l).map er2 = wds l := by simp [wds, nums, er2, er1]
theorem wds_cl : clL (wds l) = true := by simp [clL_all, wds, nums, V.cl]
theorem wds_sc : scL (wds l) = true := by simp [scL_all, wds, nums, V.sc]
theorem wds_ct : (wds l).all ct2 = true := by simp [wds, nums, ct2, ct1, V.cl]
theorem wds_no : (wds l).all V.noOwn = true := by simp [wds, nums, V.noOwn, V.isOwn]
theorem wds_nil : wds [] = [] := rfl
theorem wV_cl : (wV l).cl = true := wds_cl l
end
theorem spB : type_of% (And.intro (And.intro (And.intro (And.intro @wds_len @wds_get) (And.intro @wds_app @wds_apps)) (And.intro (And.intro @wds_appw @wds_set) (And.intro @wds_setw (And.intro @wds_setb @wds_rep)))) (And.intro (And.intro (And.intro @wds_nrep @wds_many) (And.intro @wds_take @wds_drop)) (And.intro (And.intro @wds_er @wds_cl) (And.intro @wds_sc (And.intro @wds_ct @wds_no))))) := (And.intro (And.intro (And.intro (And.intro @wds_len @wds_get) (And.intro @wds_app @wds_apps)) (And.intro (And.intro @wds_appw @wds_set) (And.intro @wds_setw (And.intro @wds_setb @wds_rep)))) (And.intro (And.intro (And.intro @wds_nrep @wds_many) (And.intro @wds_take @wds_drop)) (And.intro (And.intro @wds_er @wds_cl) (And.intro @wds_sc (And.intro @wds_ct @wds_no)))))
def unW1 : V → Nat
  | .val (.int _ n) => n.toNat
  | _ => 0
def unW (L : List V) : List Nat := L.map unW1
theorem unW_wds (l : List Nat) : unW (wds l) = l := by
  unfold unW wds nums zs
  rw [List.map_map, List.map_map]
  exact List.map_id'' (fun n => rfl) l
theorem jsome_tri {α β γ : Type} {a d : α} {b e : β} {c f : γ} (h : some (a, b, c) = some (d, e, f)) : a = d ∧ b = e ∧ c = f := by simpa using h
def sdf (t : TypeId) : V := if t = 69 then .val (.int .u32 0) else if t = 3 then .val (.int .i64 0) else if t = 39 then .sq 1 (.val (.int .u32 0)) [] else if t = 24 then .by [] else .any
def S0f : FuncId → List V → Option (List Prop × Bool × V) := fun _ _ => none
def S0 (J : Inv) : Sig := ⟨J, sdf, S0f, noH, 0⟩
theorem S0_ok (J : Inv) : SigOk Tryz.prog (S0 J) := .plain fun _ _ _ _ _ h => by simp [S0f] at h
theorem setMany_full {l m : List Nat} (h : l.length = m.length) : setMany l 0 m = m := by
  apply List.ext_getElem?
  intro k
  rw [setMany_get _ _ _ _ (by omega)]
  split
  · rfl
  · rw [List.getElem?_eq_none (by omega), List.getElem?_eq_none (by omega)]
theorem cpN_full {L m : Nat} (h : L = m) : cpN none L m = m := by subst h; exact Nat.min_self _
/-! ## Bounded sums -/
theorem wr64 {n : Int} (h0 : 0 ≤ n) (h1 : n ≤ 18446744073709551615) : wr .u64 n = n := by
  rw [wr_eq]
  show n.emod _ = n
  exact Int.emod_eq_of_lt h0 (by show n < 18446744073709551616; omega)
theorem wr32 {n : Int} : wr .u32 n = n % 4294967296 := by rw [wr_eq]; rfl
theorem wr64n {n : Nat} (h : n < 18446744073709551616) : wr .u64 (n : Int) = n := wr64 (by omega) (by omega)
theorem wr32n {n : Nat} (h : n < 4294967296) : wr .u32 (n : Int) = n := by rw [wr32]; omega
theorem wr32m (n : Nat) : wr .u32 (n : Int) = (n % 4294967296 : Nat) := by rw [wr32]; omega
/-! ## proper, value -/
theorem proper_fn (J : Inv) (l : List Nat) (hl : l.length ≤ 1073741824) : Fn Tryz.prog J 53 false [wV l] (wV (trim l)) := by
  refine fn_intro Tryz.func53 rfl (by kernel_rfl) (Nat.le_of_ble_eq_true (by kernel_rfl)) (by kernel_rfl) (by kernel_rfl) (wV_cl _) (S0_ok J) ?_
  unfold Tryz.f53
  simp only [bnC, Kseq_app, Nat.reduceMul, Nat.reduceLeDiff, Nat.reduceEqDiff, Nat.reduceLT, Nat.reduceAdd, Nat.reduceSub, ↓reduceIte, implies_true, reduceCtorEq, ne_eq, ↓shr_eq, IntKind.bits, Int.reduceToNat, Int.reducePow, dite_eq_ite, Value.oneCell', Nat.reduceBEq, Nat.reduceDiv, bnS, bnN, bnT, spB, S0, S0f, sdf, wV]
  refine LoopC.intro (α := Nat) (fun k => k ≤ l.length ∧ trim (l.take k) = trim l) (fun k => ⟨[(0, wV (l.take k))], [], 0⟩) (fun k => k) l.length ⟨Nat.le_refl _, by rw [List.take_length]⟩ ?_ ?_
  · simp only [bnC, Kseq_app, Nat.reduceMul, Nat.reduceLeDiff, Nat.reduceEqDiff, Nat.reduceLT, Nat.reduceAdd, Nat.reduceSub, ↓reduceIte, implies_true, reduceCtorEq, ne_eq, ↓shr_eq, IntKind.bits, Int.reduceToNat, Int.reducePow, dite_eq_ite, Value.oneCell', Nat.reduceBEq, Nat.reduceDiv, bnS, bnN, bnT, spB, wV]
    rw [List.take_length]
  · rintro k ⟨h1, h2⟩
    have hlen : (l.take k).length = k := by rw [List.length_take]; omega
    simp only [bnC, Kseq_app, Nat.reduceMul, Nat.reduceLeDiff, Nat.reduceEqDiff, Nat.reduceLT, Nat.reduceAdd, Nat.reduceSub, ↓reduceIte, implies_true, reduceCtorEq, ne_eq, ↓shr_eq, IntKind.bits, Int.reduceToNat, Int.reducePow, dite_eq_ite, Value.oneCell', Nat.reduceBEq, Nat.reduceDiv, bnS, bnN, bnT, spB, S0, S0f, sdf, wV, hlen]
    have e : ((k : Int) - 1).toNat = k - 1 := by omega
    rw [e]
    refine ⟨fun _ => by constructor <;> omega, fun _ => by omega, fun _ => by omega, fun hb => ?_, fun hb => ?_⟩
    · simp only [Bool.and_eq_true, decide_eq_true_eq, beq_iff_eq] at hb
      obtain ⟨k, rfl⟩ : ∃ j, k = j + 1 := ⟨k - 1, by omega⟩
      have h3 : l.getD k 0 = 0 := by
        have := hb.2
        rw [Nat.add_sub_cancel, getD_take (by omega)] at this
        omega
      refine ⟨by constructor <;> omega, by omega, by omega, Again.intro k ⟨by omega, by rw [← h2, trim_take (by omega) h3]⟩ (by omega) ?_⟩
      simp only [bnC, Kseq_app, Nat.reduceMul, Nat.reduceLeDiff, Nat.reduceEqDiff, Nat.reduceLT, Nat.reduceAdd, Nat.reduceSub, ↓reduceIte, implies_true, reduceCtorEq, ne_eq, ↓shr_eq, IntKind.bits, Int.reduceToNat, Int.reducePow, dite_eq_ite, Value.oneCell', Nat.reduceBEq, Nat.reduceDiv, bnS, bnN, bnT, spB, wV]
      rw [List.take_take]
      congr 2
      omega
    · refine ⟨by omega, by omega, by omega, ?_⟩
      rw [List.take_take, Nat.min_self]
      congr 1
      rw [← h2]
      cases k with
      | zero => rfl
      | succ k =>
        rw [trim_take_last (by omega)]
        intro h0
        rw [Nat.add_sub_cancel, getD_take (by omega), h0] at hb
        simp at hb
def SG1f : FuncId → List V → Option (List Prop × Bool × V) := fun f args =>
  if f = 53 then match args with
    | [.sq 1 da La] => some ([da = .val (.int .u32 0), La = wds (unW La), (unW La).length ≤ 1073741824], false, wV (trim (unW La)))
    | _ => none
  else none
def SG1 (J : Inv) : Sig := ⟨J, sdf, SG1f, noH, 0⟩
theorem SG1_ok (J : Inv) : SigOk Tryz.prog (SG1 J) := by
  refine .plain fun f args l fr r h hl => ?_
  change SG1f f args = some (l, fr, r) at h
  unfold SG1f at h
  split at h
  · rename_i hf; subst hf
    split at h
    · rename_i da La
      obtain ⟨rfl, rfl, rfl⟩ := jsome_tri h
      obtain ⟨qda, qla, c0, -⟩ := hl.un
      subst qda
      have hp := proper_fn J (unW La) c0
      unfold wV at hp
      rw [← qla] at hp
      exact hp
    · exact absurd h (by simp)
  · exact absurd h (by simp)
theorem value_fn (J : Inv) (l : List Nat) (hl : l.length ≤ 1073741824) : Fn Tryz.prog J 51 false [wV l] (wV (trim l)) := by
  refine fn_intro Tryz.func51 rfl (by kernel_rfl) (Nat.le_of_ble_eq_true (by kernel_rfl)) (by kernel_rfl) (by kernel_rfl) (wV_cl _) (SG1_ok J) ?_
  unfold Tryz.f51
  simp only [bnC, Kseq_app, Nat.reduceMul, Nat.reduceLeDiff, Nat.reduceEqDiff, Nat.reduceLT, Nat.reduceAdd, Nat.reduceSub, ↓reduceIte, implies_true, reduceCtorEq, ne_eq, ↓shr_eq, IntKind.bits, Int.reduceToNat, Int.reducePow, dite_eq_ite, Value.oneCell', Nat.reduceBEq, Nat.reduceDiv, bnS, bnN, bnT, spB, SG1, SG1f, sdf, wV, unW_wds]
  exact hl
def bl (n : Nat) : Nat := if h : n = 0 then 0 else bl (n / 2) + 1
termination_by n
decreasing_by omega
theorem bl_zero : bl 0 = 0 := by rw [bl]; simp
theorem bl_pos {n : Nat} (h : n ≠ 0) : bl n = bl (n / 2) + 1 := by rw [bl.eq_def n, dif_neg h]
theorem bl_eq_zero {n : Nat} : bl n = 0 ↔ n = 0 := by
  constructor
  · intro h
    by_cases h0 : n = 0
    · exact h0
    · rw [bl_pos h0] at h; omega
  · rintro rfl; exact bl_zero
theorem bl_lt (n : Nat) : n < 2 ^ bl n := by
  induction n using Nat.strongRecOn with
  | _ n ih =>
    by_cases h : n = 0
    · rw [h, bl_zero]; decide
    · rw [bl_pos h, Nat.pow_succ]
      have := ih (n / 2) (by omega)
      omega
theorem bl_le {n : Nat} (h : n ≠ 0) : 2 ^ (bl n - 1) ≤ n := by
  induction n using Nat.strongRecOn with
  | _ n ih =>
    rw [bl_pos h, Nat.add_sub_cancel]
    by_cases h0 : n / 2 = 0
    · rw [h0, bl_zero]; omega
    · have h1 := ih (n / 2) (by omega) h0
      obtain ⟨m, hm⟩ : ∃ m, bl (n / 2) = m + 1 := ⟨bl (n / 2) - 1, by have := mt bl_eq_zero.1 h0; omega⟩
      rw [hm] at h1 ⊢
      rw [Nat.add_sub_cancel] at h1
      rw [Nat.pow_succ]; omega
theorem pow2_lt {a b : Nat} (h : 2 ^ a < 2 ^ b) : a < b := (Nat.pow_lt_pow_iff_right (by omega)).1 h
theorem bl_is {n k : Nat} (h1 : 2 ^ k ≤ n) (h2 : n < 2 ^ (k + 1)) : bl n = k + 1 := by
  have hp : 0 < 2 ^ k := Nat.pow_pos (by omega)
  have h0 : n ≠ 0 := by omega
  have h3 := bl_lt n
  have h4 := bl_le h0
  have h5 : k < bl n := pow2_lt (by omega)
  have h6 : bl n - 1 < k + 1 := pow2_lt (by omega)
  omega
theorem bl_le_iff {n k : Nat} : bl n ≤ k ↔ n < 2 ^ k := by
  constructor
  · intro h
    exact Nat.lt_of_lt_of_le (bl_lt n) (Nat.pow_le_pow_right (by omega) h)
  · intro h
    by_cases h0 : n = 0
    · rw [h0, bl_zero]; omega
    · have h1 := bl_le h0
      have h2 : bl n - 1 < k := pow2_lt (by omega)
      omega
theorem bitLen_aux : ∀ (f x : Nat), x < 2 ^ f → Lib.bitLenAux f x = bl x
  | 0, x, h => by
    have : x = 0 := by simpa using h
    rw [this, bl_zero]; rfl
  | f + 1, x, h => by
    rw [Lib.bitLenAux]
    split
    · rename_i h0; rw [h0, bl_zero]
    · rename_i h0
      rw [bitLen_aux f (x / 2) (by rw [Nat.pow_succ] at h; omega), bl_pos h0, Nat.add_comm]
theorem bitLen_bl {x : Nat} (h : x < 4294967296) : Lib.bitLen x = bl x := bitLen_aux 64 x (Nat.lt_trans h (by decide))
theorem B_pow (k : Nat) : 4294967296 ^ k = 2 ^ (32 * k) := by rw [Nat.pow_mul]
/-- The bits of a proper number by its top word. -/
theorem bl_top {l : List Nat} {x : Nat} (hl : W32 l) (hx : x ≠ 0) : bl (vl (l ++ [x])) = 32 * l.length + bl x := by
  have h1 := vl_lt hl
  have h2 := bl_lt x
  have h3 := bl_le hx
  obtain ⟨m, hm⟩ : ∃ m, bl x = m + 1 := ⟨bl x - 1, by have := mt bl_eq_zero.1 hx; omega⟩
  rw [hm] at h2 h3 ⊢
  rw [Nat.add_sub_cancel] at h3
  rw [vl_snoc, ← Nat.add_assoc]
  refine bl_is ?_ ?_
  · rw [Nat.pow_add, ← B_pow]
    have := Nat.mul_le_mul_left (4294967296 ^ l.length) h3
    omega
  · rw [Nat.add_assoc, Nat.pow_add, ← B_pow]
    have h4 : 4294967296 ^ l.length * (x + 1) ≤ 4294967296 ^ l.length * 2 ^ (m + 1) := Nat.mul_le_mul_left _ h2
    rw [Nat.mul_add, Nat.mul_one] at h4
    omega
/-- A bit of a number. -/
def tb (n i : Nat) : Bool := n / 2 ^ i % 2 == 1
theorem vl_split (l : List Nat) (j : Nat) : vl l = vl (l.take j) + 4294967296 ^ j * vl (l.drop j) := by
  rcases Nat.lt_or_ge j l.length with h | h
  · conv => lhs; rw [← List.take_append_drop j l]
    rw [vl_app, List.length_take, Nat.min_eq_left (by omega)]
  · rw [List.take_of_length_le h, List.drop_eq_nil_of_le h, vl, Nat.mul_zero, Nat.add_zero]
theorem vl_div {l : List Nat} (hl : W32 l) (j : Nat) : vl l / 4294967296 ^ j = vl (l.drop j) := by
  rw [vl_split l j, Nat.add_comm, Nat.mul_add_div (pow_pos' j)]
  have h1 := vl_lt (hl.take j)
  have h2 : 4294967296 ^ (l.take j).length ≤ 4294967296 ^ j := Nat.pow_le_pow_right (by omega) (by rw [List.length_take]; omega)
  rw [Nat.div_eq_of_lt (by omega), Nat.add_zero]
theorem tb_word {l : List Nat} (hl : W32 l) (i : Nat) : tb (vl l) i = (l.getD (i / 32) 0 / 2 ^ (i % 32) % 2 == 1) := by
  unfold tb
  have e : 2 ^ i = 4294967296 ^ (i / 32) * 2 ^ (i % 32) := by rw [B_pow, ← Nat.pow_add]; congr 1; omega
  rw [e, ← Nat.div_div_eq_div_mul, vl_div hl]
  rcases Nat.lt_or_ge (i / 32) l.length with h | h
  · rw [List.drop_eq_getElem_cons h, vl, getD_lt h]
    obtain ⟨r, hr⟩ : ∃ r, i % 32 + (r + 1) = 32 := ⟨31 - i % 32, by omega⟩
    have e2 : (4294967296 : Nat) = 2 ^ (i % 32) * (2 * 2 ^ r) := by
      rw [show (2 : Nat) * 2 ^ r = 2 ^ (r + 1) from by rw [Nat.pow_succ, Nat.mul_comm], ← Nat.pow_add, hr]
    have e3 : l[i / 32] + 4294967296 * vl (l.drop (i / 32 + 1)) = l[i / 32] + 2 ^ (i % 32) * (2 * (2 ^ r * vl (l.drop (i / 32 + 1)))) := by
      rw [show 4294967296 * vl (l.drop (i / 32 + 1)) = 2 ^ (i % 32) * (2 * 2 ^ r) * vl (l.drop (i / 32 + 1)) from by rw [← e2]]
      grind
    rw [e3, Nat.add_mul_div_left _ _ (Nat.pow_pos (by omega)), Nat.add_mul_mod_self_left]
  · rw [List.drop_eq_nil_of_le h, vl, getD_ge h]
theorem tb_ge {l : List Nat} (hl : W32 l) {i : Nat} (h : l.length ≤ i / 32) : tb (vl l) i = false := by
  rw [tb_word hl, getD_ge h]; simp
theorem bits_and32 {a b : Nat} (ha : a < 4294967296) (hb : b < 4294967296) : bits .and .u32 (a : Int) (b : Int) = ((a &&& b : Nat) : Int) := by
  have hx : a &&& b < 2 ^ 32 := Nat.and_lt_two_pow _ (by omega)
  have h1 : (BitVec.ofInt 32 (a : Int)).toNat = a := by rw [BitVec.ofInt_natCast, BitVec.toNat_ofNat]; exact Nat.mod_eq_of_lt (by omega)
  have h2 : (BitVec.ofInt 32 (b : Int)).toNat = b := by rw [BitVec.ofInt_natCast, BitVec.toNat_ofNat]; exact Nat.mod_eq_of_lt (by omega)
  show IntKind.u32.wrap ((BitVec.ofInt 32 (a : Int) &&& BitVec.ofInt 32 (b : Int)).toNat : Int) = _
  rw [BitVec.toNat_and, h1, h2, show ∀ n : Int, IntKind.u32.wrap n = n % 4294967296 from fun n => rfl]
  omega
theorem bits_or32 {a b : Nat} (ha : a < 4294967296) (hb : b < 4294967296) : bits .or .u32 (a : Int) (b : Int) = ((a ||| b : Nat) : Int) := by
  have hx : a ||| b < 2 ^ 32 := Nat.or_lt_two_pow (by omega) (by omega)
  have h1 : (BitVec.ofInt 32 (a : Int)).toNat = a := by rw [BitVec.ofInt_natCast, BitVec.toNat_ofNat]; exact Nat.mod_eq_of_lt (by omega)
  have h2 : (BitVec.ofInt 32 (b : Int)).toNat = b := by rw [BitVec.ofInt_natCast, BitVec.toNat_ofNat]; exact Nat.mod_eq_of_lt (by omega)
  show IntKind.u32.wrap ((BitVec.ofInt 32 (a : Int) ||| BitVec.ofInt 32 (b : Int)).toNat : Int) = _
  rw [BitVec.toNat_or, h1, h2, show ∀ n : Int, IntKind.u32.wrap n = n % 4294967296 from fun n => rfl]
  omega
theorem bits_or64 {a b : Nat} (ha : a < 18446744073709551616) (hb : b < 18446744073709551616) : bits .or .u64 (a : Int) (b : Int) = ((a ||| b : Nat) : Int) := by
  have hx : a ||| b < 2 ^ 64 := Nat.or_lt_two_pow (by omega) (by omega)
  have h1 : (BitVec.ofInt 64 (a : Int)).toNat = a := by rw [BitVec.ofInt_natCast, BitVec.toNat_ofNat]; exact Nat.mod_eq_of_lt (by omega)
  have h2 : (BitVec.ofInt 64 (b : Int)).toNat = b := by rw [BitVec.ofInt_natCast, BitVec.toNat_ofNat]; exact Nat.mod_eq_of_lt (by omega)
  show IntKind.u64.wrap ((BitVec.ofInt 64 (a : Int) ||| BitVec.ofInt 64 (b : Int)).toNat : Int) = _
  rw [BitVec.toNat_or, h1, h2, show ∀ n : Int, IntKind.u64.wrap n = n % 18446744073709551616 from fun n => rfl]
  omega
/-- The lowest bit of a word, shifted. -/
theorem and1 {a : Nat} (ha : a < 4294967296) : bits .and .u32 (a : Int) 1 = ((a % 2 : Nat) : Int) := by
  rw [show (1 : Int) = ((1 : Nat) : Int) from rfl, bits_and32 ha (by omega), Nat.and_one_is_mod]
/-- Two numbers without a bit in common. -/
theorem or_add {a b k : Nat} (h : a < 2 ^ k) : a ||| 2 ^ k * b = a + 2 ^ k * b := by
  rw [Nat.or_comm, ← Nat.two_pow_add_eq_or_of_lt h, Nat.add_comm]
theorem bits_xor32 {a b : Nat} (ha : a < 4294967296) (hb : b < 4294967296) : bits .xor .u32 (a : Int) (b : Int) = ((a ^^^ b : Nat) : Int) := by
  have hx : a ^^^ b < 2 ^ 32 := Nat.xor_lt_two_pow (by omega) (by omega)
  have h1 : (BitVec.ofInt 32 (a : Int)).toNat = a := by rw [BitVec.ofInt_natCast, BitVec.toNat_ofNat]; exact Nat.mod_eq_of_lt (by omega)
  have h2 : (BitVec.ofInt 32 (b : Int)).toNat = b := by rw [BitVec.ofInt_natCast, BitVec.toNat_ofNat]; exact Nat.mod_eq_of_lt (by omega)
  show IntKind.u32.wrap ((BitVec.ofInt 32 (a : Int) ^^^ BitVec.ofInt 32 (b : Int)).toNat : Int) = _
  rw [BitVec.toNat_xor, h1, h2, show ∀ n : Int, IntKind.u32.wrap n = n % 4294967296 from fun n => rfl]
  omega
theorem high_bit {z : Nat} (h : z < 4294967296) : z.testBit 31 = decide (2147483648 ≤ z) := by
  rw [Nat.testBit_eq_decide_div_mod_eq]
  exact decide_eq_decide.2 (by omega)
/-- What a difference of words borrows, by their highest bits. -/
theorem borrow_bit {x y b : Nat} (hx : x < 4294967296) (hy : y < 4294967296) (hb : b ≤ 1) :
    (((4294967295 ^^^ x) &&& y) ||| ((4294967295 ^^^ (x ^^^ y)) &&& ((x + 8589934592 - y - b) % 4294967296))) / 2147483648 = if x < y + b then 1 else 0 := by
  have hd : (x + 8589934592 - y - b) % 4294967296 < 4294967296 := Nat.mod_lt _ (by omega)
  generalize hD : (x + 8589934592 - y - b) % 4294967296 = D at *
  have hz : (((4294967295 ^^^ x) &&& y) ||| ((4294967295 ^^^ (x ^^^ y)) &&& D)) < 2 ^ 32 := Nat.or_lt_two_pow (Nat.and_lt_two_pow _ (by omega)) (Nat.and_lt_two_pow _ (by omega))
  have ht := high_bit (z := ((4294967295 ^^^ x) &&& y) ||| ((4294967295 ^^^ (x ^^^ y)) &&& D)) (by omega)
  rw [Nat.testBit_or, Nat.testBit_and, Nat.testBit_and, Nat.testBit_xor, Nat.testBit_xor, Nat.testBit_xor, high_bit hx, high_bit hy, high_bit hd, show Nat.testBit 4294967295 31 = true by decide] at ht
  generalize ((4294967295 ^^^ x) &&& y) ||| ((4294967295 ^^^ (x ^^^ y)) &&& D) = z at *
  by_cases h1 : 2147483648 ≤ x <;> by_cases h2 : 2147483648 ≤ y <;> by_cases h3 : 2147483648 ≤ D <;> simp [h1, h2, h3] at ht <;> split <;> omega
end Go.Proofs.YtmpklnhmempmgaaGreatDoor
namespace Go.Proofs
open Go.Shelf
def Tryz.lays128_ren : Go.Shelf.Ren := ⟨fun | 128 => 52 | n => n, fun | 51 => 69 | 3 => 3 | 4 => 4 | 46 => 67 | 5 => 5 | 9 => 9 | n => n, fun | n => n⟩
theorem Tryz.lays128 : Go.Proofs.Lays.n128 Tryz.prog Tryz.lays128_ren := {
  mixed := by kernel_rfl
  f128 := Tryz.func52.trans (congrArg some (by kernel_rfl))
  t3 := Tryz.underlying3
  a3 := Tryz.isAgg3
  z3 := Tryz.sizeOf3
  v3 := Tryz.zeroValue3
  t4 := Tryz.underlying4
  a4 := Tryz.isAgg4
  z4 := Tryz.sizeOf4
  v4 := Tryz.zeroValue4
  t5 := Tryz.underlying5
  a5 := Tryz.isAgg5
  z5 := Tryz.sizeOf5
  v5 := Tryz.zeroValue5
  t9 := Tryz.underlying9
  a9 := Tryz.isAgg9
  z9 := Tryz.sizeOf9
  v9 := Tryz.zeroValue9
  t46 := Tryz.underlying67
  a46 := Tryz.isAgg67
  z46 := Tryz.sizeOf67
  v46 := Tryz.zeroValue67
  t51 := Tryz.underlying69
  a51 := Tryz.isAgg69
  z51 := Tryz.sizeOf69
  v51 := Tryz.zeroValue69 }
/-- bits.Len32: "Len32 returns the minimum number of bits required to represent x; the result is 0 for x == 0.": IT RETURNS 'Lib.bitLen x'; the world is as it was. ('h0', 'h1': x is a uint32.) (LAID: no walk: one application.) -/
theorem Tryz.bits_Len32 (x : Int) (w : World) (h0 : 0 ≤ x) (h1 : x ≤ 4294967295) :
    Calls Tryz.prog 52 #[.int .u32 x] w fun e w' => e = .returned (.int .i64 (Lib.bitLen x.toNat)) ∧ w' = w := Any.bits_Len32 Tryz.lays128 x w h0 h1
def Tryz.lays133_ren : Go.Shelf.Ren := ⟨fun | 133 => 146 | 128 => 52 | n => n, fun | 51 => 69 | 3 => 3 | 4 => 4 | 46 => 67 | 5 => 5 | 9 => 9 | n => n, fun | n => n⟩
theorem Tryz.lays133 : Go.Proofs.Lays.n133 Tryz.prog Tryz.lays133_ren := {
  mixed := by kernel_rfl
  f128 := Tryz.func52.trans (congrArg some (by kernel_rfl))
  f133 := Tryz.func146.trans (congrArg some (by kernel_rfl))
  t3 := Tryz.underlying3
  a3 := Tryz.isAgg3
  z3 := Tryz.sizeOf3
  v3 := Tryz.zeroValue3
  t4 := Tryz.underlying4
  a4 := Tryz.isAgg4
  z4 := Tryz.sizeOf4
  v4 := Tryz.zeroValue4
  t5 := Tryz.underlying5
  a5 := Tryz.isAgg5
  z5 := Tryz.sizeOf5
  v5 := Tryz.zeroValue5
  t9 := Tryz.underlying9
  a9 := Tryz.isAgg9
  z9 := Tryz.sizeOf9
  v9 := Tryz.zeroValue9
  t46 := Tryz.underlying67
  a46 := Tryz.isAgg67
  z46 := Tryz.sizeOf67
  v46 := Tryz.zeroValue67
  t51 := Tryz.underlying69
  a51 := Tryz.isAgg69
  z51 := Tryz.sizeOf69
  v51 := Tryz.zeroValue69 }
/-- bits.LeadingZeros32: "LeadingZeros32 returns the number of leading zero bits in x; the result is 32 for x == 0.": IT RETURNS '32 - Lib.bitLen x'; the world is as it was. ITS CALLEE bits.Len32 IS MET BY ITS OWN CONTRACT OFF THE SHELF (lay that first): entered in place it sends the kernel out of memory. (LAID: no walk: one application.) -/
theorem Tryz.bits_LeadingZeros32 (x : Int) (w : World) (h0 : 0 ≤ x) (h1 : x ≤ 4294967295) :
    Calls Tryz.prog 146 #[.int .u32 x] w fun e w' => e = .returned (.int .i64 (32 - (Lib.bitLen x.toNat : Int))) ∧ w' = w := Any.bits_LeadingZeros32 Tryz.lays133 x w h0 h1
end Go.Proofs
