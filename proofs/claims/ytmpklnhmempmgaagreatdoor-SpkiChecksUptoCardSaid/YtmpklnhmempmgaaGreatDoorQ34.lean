/- Public keys (spki): is it a right key?. The law on keys: are they the same bytes; a copy with marks behind it; are the marks still there. -/
import Derived.Test.YtmpklnhmempmgaaGreatDoorQ33
namespace Go.Proofs.YtmpklnhmempmgaaGreatDoor
open Go.RowKit
set_option linter.unusedSimpArgs false
set_option maxRecDepth 100000
def lnB (l : List (List UInt8)) : Nat := (l.map List.length).sum
theorem lnB_snoc (l : List (List UInt8)) (b : List UInt8) : lnB (l ++ [b]) = lnB l + b.length := by simp [lnB]
theorem lnB_take (l : List (List UInt8)) (i : Nat) : lnB (l.take i) ≤ lnB l := by
  have h := congrArg lnB (List.take_append_drop i l)
  unfold lnB at h ⊢
  rw [List.map_append, List.sum_append] at h
  omega
def byOf : V → List UInt8
  | .by l => l
  | _ => []
def unB (l : List (List UInt8)) : Bool := decide (lnB l = 0)
theorem getD_by (l : List (List UInt8)) (i : Nat) : (l.map V.by).getD i (.by []) = .by (l.getD i []) := by
  rw [List.getD_eq_getElem?_getD, List.getD_eq_getElem?_getD, List.getElem?_map]
  cases l[i]? <;> rfl
theorem unused_fn (J : Inv) (l : List (List UInt8)) (hl : lnB l ≤ 4611686018427387904) (hn : l.length ≤ 4611686018427387904) : Fn Tryz.prog J 15 false [.sq 1 (.by []) (l.map V.by)] (.bb (unB l)) := by
  refine fn_intro Tryz.func15 rfl (by kernel_rfl) (Nat.le_of_ble_eq_true (by kernel_rfl)) (by kernel_rfl) (by kernel_rfl) rfl (SDx_ok J) ?_
  unfold Tryz.f15
  simp only [↓Br_t, ↓Br_f, ↓Brg_t, ↓Brg_f, bnC, Kseq_app, Nat.reduceMul, Nat.reduceLeDiff, Nat.reduceEqDiff, Nat.reduceLT, Nat.reduceAdd, Nat.reduceSub, ↓reduceIte, implies_true, reduceCtorEq, ne_eq, ↓shr_eq, IntKind.bits, Int.reduceToNat, Int.reducePow, dite_eq_ite, Value.oneCell', Nat.reduceBEq, Nat.reduceDiv, bnS, bnN, bnT, spB, vl_dg, W32_dg, unW_wds, wV, sdf, wds_nil, SDx, SDxf, SDff, SDgh, List.length_map]
  refine LoopC.intro (α := Nat) (fun i => i ≤ l.length) (fun i => ⟨[(0, .sq 1 (.by []) (l.map V.by)), (2, .bb false), (3, .i (lnB (l.take i))), (6, .sq 1 (.by []) (l.map V.by)), (7, .i l.length), (8, .i i)], [], 0⟩) (fun i => l.length - i) 0 (Nat.zero_le _) ?_ ?_
  · simp only [↓Br_t, ↓Br_f, ↓Brg_t, ↓Brg_f, bnC, Kseq_app, Nat.reduceMul, Nat.reduceLeDiff, Nat.reduceEqDiff, Nat.reduceLT, Nat.reduceAdd, Nat.reduceSub, ↓reduceIte, implies_true, reduceCtorEq, ne_eq, ↓shr_eq, IntKind.bits, Int.reduceToNat, Int.reducePow, dite_eq_ite, Value.oneCell', Nat.reduceBEq, Nat.reduceDiv, bnS, bnN, bnT, spB, vl_dg, W32_dg, unW_wds, wV, sdf, wds_nil, List.length_map, List.take_zero, show lnB [] = 0 from rfl]
    exact ⟨rfl, rfl⟩
  · intro i hi
    simp only [↓Br_t, ↓Br_f, ↓Brg_t, ↓Brg_f, bnC, Kseq_app, Nat.reduceMul, Nat.reduceLeDiff, Nat.reduceEqDiff, Nat.reduceLT, Nat.reduceAdd, Nat.reduceSub, ↓reduceIte, implies_true, reduceCtorEq, ne_eq, ↓shr_eq, IntKind.bits, Int.reduceToNat, Int.reducePow, dite_eq_ite, Value.oneCell', Nat.reduceBEq, Nat.reduceDiv, bnS, bnN, bnT, spB, vl_dg, W32_dg, unW_wds, wV, sdf, wds_nil, SDx, SDxf, SDff, SDgh, List.length_map, getD_by]
    have h5 := lnB_take l i
    refine ⟨fun h => ?_, fun h => ?_⟩
    · rw [decide_eq_true_eq] at h
      have h : i < l.length := by omega
      have e2 : l.take (i + 1) = l.take i ++ [l.getD i []] := by rw [List.take_succ_eq_append_getElem h, List.getD_eq_getElem?_getD, List.getElem?_eq_getElem h]; rfl
      have h6 := lnB_take l (i + 1)
      rw [e2, lnB_snoc] at h6
      refine ⟨by omega, by omega, by constructor <;> omega, by constructor <;> omega, Again.intro (i + 1) h (by omega) ?_⟩
      simp only [↓Br_t, ↓Br_f, ↓Brg_t, ↓Brg_f, bnC, Kseq_app, Nat.reduceMul, Nat.reduceLeDiff, Nat.reduceEqDiff, Nat.reduceLT, Nat.reduceAdd, Nat.reduceSub, ↓reduceIte, implies_true, reduceCtorEq, ne_eq, ↓shr_eq, IntKind.bits, Int.reduceToNat, Int.reducePow, dite_eq_ite, Value.oneCell', Nat.reduceBEq, Nat.reduceDiv, bnS, bnN, bnT, spB, vl_dg, W32_dg, unW_wds, wV, sdf, wds_nil, e2, lnB_snoc]
      exact ⟨by omega, by omega⟩
    · have h : i = l.length := by rw [decide_eq_false_iff_not] at h; omega
      rw [h, List.take_length]
      unfold unB
      rw [Bool.eq_iff_iff, beq_iff_eq, decide_eq_true_eq]
      omega
def keyV (kty crv : Int) (s n e x y : List UInt8) : V := .st [.val (.int .i64 kty), .val (.int .i64 crv), .by s, .by n, .by e, .by x, .by y]
/-- A right key. -/
def goodK (kty crv : Int) (s n e x y : List UInt8) : Bool :=
  if kty = 1 then decide (crv = 0) && (decide (32 ≤ s.length) && (decide (s.length ≤ 4096) && unB [n, e, x, y]))
  else if kty = 2 then decide (crv = 0) && (unB [s, x, y] && decide (rsC n e = 0))
  else if kty = 3 then crvOk crv x y && unB [s, n, e]
  else if kty = 4 then decide (crv = 3) && (unB [s, n, e, y] && edOk x)
  else false
def SPaf : FuncId → List V → Option (List Prop × Bool × V) := fun f args =>
  if f = 15 then match args with
    | [.sq 1 dx Lx] => some ([dx = .by [], Lx = (Lx.map byOf).map V.by, lnB (Lx.map byOf) ≤ 4611686018427387904, (Lx.map byOf).length ≤ 4611686018427387904], false, .bb (unB (Lx.map byOf)))
    | _ => none
  else if f = 16 then match args with
    | [.by n, .by e] => some ([n.length ≤ 67108864, e.length ≤ 67108864], false, .i (rsC n e))
    | _ => none
  else if f = 17 then match args with
    | [.val (.int .i64 c), .by x, .by y'] => some ([], false, .tu [crvPt (crvOk c x y') x y', .i (crvCo (crvOk c x y'))])
    | _ => none
  else if f = 18 then match args with
    | [.by b] => some ([], false, .tu [edPt b, .i (edCo b)])
    | _ => none
  else none
def SPa (J : Inv) : Sig := ⟨J, sdf, SPaf, noH, 0⟩
theorem SPa_ok (J : Inv) (hJ : EdT J) : SigOk Tryz.prog (SPa J) := by
  refine .plain fun f args l fr r h hl => ?_
  change SPaf f args = some (l, fr, r) at h
  unfold SPaf at h
  split at h
  · rename_i hf; subst hf
    split at h
    · rename_i dx Lx
      obtain ⟨rfl, rfl, rfl⟩ := jsome_tri h
      obtain ⟨qdx, qlx, c0, c1, -⟩ := hl.un
      subst qdx
      have hp := unused_fn J (Lx.map byOf) c0 c1
      rw [← qlx] at hp
      exact hp
    · exact absurd h (by simp)
  · split at h
    · rename_i hf; subst hf
      split at h
      · rename_i n e
        obtain ⟨rfl, rfl, rfl⟩ := jsome_tri h
        obtain ⟨c0, c1, -⟩ := hl.un
        have hp := key_fn J n e c0 c1
        exact hp
      · exact absurd h (by simp)
    · split at h
      · rename_i hf; subst hf
        split at h
        · rename_i c x y'
          obtain ⟨rfl, rfl, rfl⟩ := jsome_tri h
          have hp := cdecode_fn J c x y'
          exact hp
        · exact absurd h (by simp)
      · split at h
        · rename_i hf; subst hf
          split at h
          · rename_i b
            obtain ⟨rfl, rfl, rfl⟩ := jsome_tri h
            have hp := decode_fn J hJ b
            exact hp
          · exact absurd h (by simp)
        · exact absurd h (by simp)
theorem k_eq : ((1 : Int) == 1) = true ∧ ((2 : Int) == 1) = false ∧ ((2 : Int) == 2) = true ∧ ((3 : Int) == 1) = false ∧ ((3 : Int) == 2) = false ∧ ((3 : Int) == 3) = true ∧ ((4 : Int) == 1) = false ∧ ((4 : Int) == 2) = false ∧ ((4 : Int) == 3) = false ∧ ((4 : Int) == 4) = true ∧ ((0 : Int) == 0) = true ∧ ((93 : Int) == 0) = false := ⟨rfl, rfl, rfl, rfl, rfl, rfl, rfl, rfl, rfl, rfl, rfl, rfl⟩
theorem good1_fn (J : Inv) (hJ : EdT J) (crv : Int) (s n e x y : List UInt8) (hs : s.length ≤ 16777216) (hn : n.length ≤ 16777216) (he : e.length ≤ 16777216) (hx : x.length ≤ 16777216) (hy : y.length ≤ 16777216) : Fn Tryz.prog J 11 false [keyV 1 crv s n e x y] (.bb (decide (crv = 0) && (decide (32 ≤ s.length) && (decide (s.length ≤ 4096) && unB [n, e, x, y])))) := by
  have l3 : ∀ a b c : List UInt8, a.length ≤ 16777216 → b.length ≤ 16777216 → c.length ≤ 16777216 → lnB [a, b, c] ≤ 4611686018427387904 := fun a b c h1 h2 h3 => by simp only [lnB, List.map_cons, List.map_nil, List.sum_cons, List.sum_nil]; omega
  have l4 : ∀ a b c d : List UInt8, a.length ≤ 16777216 → b.length ≤ 16777216 → c.length ≤ 16777216 → d.length ≤ 16777216 → lnB [a, b, c, d] ≤ 4611686018427387904 := fun a b c d h1 h2 h3 h4 => by simp only [lnB, List.map_cons, List.map_nil, List.sum_cons, List.sum_nil]; omega
  refine fn_intro Tryz.func11 rfl (by kernel_rfl) (Nat.le_of_ble_eq_true (by kernel_rfl)) (by kernel_rfl) (by kernel_rfl) rfl (SPa_ok J hJ) ?_
  unfold Tryz.f11
  simp only [↓Br_t, ↓Br_f, ↓Brg_t, ↓Brg_f, bnC, Kseq_app, Nat.reduceMul, Nat.reduceLeDiff, Nat.reduceEqDiff, Nat.reduceLT, Nat.reduceAdd, Nat.reduceSub, ↓reduceIte, implies_true, reduceCtorEq, ne_eq, ↓shr_eq, IntKind.bits, Int.reduceToNat, Int.reducePow, dite_eq_ite, Value.oneCell', Nat.reduceBEq, Nat.reduceDiv, bnS, bnN, bnT, spB, vl_dg, W32_dg, unW_wds, wV, sdf, wds_nil, SPa, SPaf, keyV, List.map_cons, List.map_nil, byOf, k_eq]
  have hl := l4 n e x y hn he hx hy
  rw [← Bool.beq_eq_decide_eq, show decide (32 ≤ (s.length : Int)) = decide (32 ≤ s.length) from decide_eq_decide.2 (by omega), show decide ((s.length : Int) ≤ 4096) = decide (s.length ≤ 4096) from decide_eq_decide.2 (by omega)]
  generalize (crv == 0) = a
  generalize decide (32 ≤ s.length) = b
  generalize decide (s.length ≤ 4096) = c
  generalize unB [n, e, x, y] = u
  cases a <;> cases b <;> cases c <;> cases u <;> simp [Brg, hl]
theorem good2_fn (J : Inv) (hJ : EdT J) (crv : Int) (s n e x y : List UInt8) (hs : s.length ≤ 16777216) (hn : n.length ≤ 16777216) (he : e.length ≤ 16777216) (hx : x.length ≤ 16777216) (hy : y.length ≤ 16777216) : Fn Tryz.prog J 11 false [keyV 2 crv s n e x y] (.bb (decide (crv = 0) && (unB [s, x, y] && decide (rsC n e = 0)))) := by
  have l3 : ∀ a b c : List UInt8, a.length ≤ 16777216 → b.length ≤ 16777216 → c.length ≤ 16777216 → lnB [a, b, c] ≤ 4611686018427387904 := fun a b c h1 h2 h3 => by simp only [lnB, List.map_cons, List.map_nil, List.sum_cons, List.sum_nil]; omega
  have l4 : ∀ a b c d : List UInt8, a.length ≤ 16777216 → b.length ≤ 16777216 → c.length ≤ 16777216 → d.length ≤ 16777216 → lnB [a, b, c, d] ≤ 4611686018427387904 := fun a b c d h1 h2 h3 h4 => by simp only [lnB, List.map_cons, List.map_nil, List.sum_cons, List.sum_nil]; omega
  refine fn_intro Tryz.func11 rfl (by kernel_rfl) (Nat.le_of_ble_eq_true (by kernel_rfl)) (by kernel_rfl) (by kernel_rfl) rfl (SPa_ok J hJ) ?_
  unfold Tryz.f11
  simp only [↓Br_t, ↓Br_f, ↓Brg_t, ↓Brg_f, bnC, Kseq_app, Nat.reduceMul, Nat.reduceLeDiff, Nat.reduceEqDiff, Nat.reduceLT, Nat.reduceAdd, Nat.reduceSub, ↓reduceIte, implies_true, reduceCtorEq, ne_eq, ↓shr_eq, IntKind.bits, Int.reduceToNat, Int.reducePow, dite_eq_ite, Value.oneCell', Nat.reduceBEq, Nat.reduceDiv, bnS, bnN, bnT, spB, vl_dg, W32_dg, unW_wds, wV, sdf, wds_nil, SPa, SPaf, keyV, List.map_cons, List.map_nil, byOf, k_eq]
  have hl := l3 s x y hs hx hy
  have h1 : n.length ≤ 67108864 := by omega
  have h2 : e.length ≤ 67108864 := by omega
  rw [← Bool.beq_eq_decide_eq, ← Bool.beq_eq_decide_eq]
  generalize (crv == 0) = a
  generalize (rsC n e == 0) = b
  generalize unB [s, x, y] = u
  cases a <;> cases b <;> cases u <;> simp [Brg, hl, h1, h2]
theorem good3t_fn (J : Inv) (hJ : EdT J) (crv : Int) (s n e x y : List UInt8) (hs : s.length ≤ 16777216) (hn : n.length ≤ 16777216) (he : e.length ≤ 16777216) (_hx : x.length ≤ 16777216) (_hy : y.length ≤ 16777216) (ho : crvOk crv x y = true) : Fn Tryz.prog J 11 false [keyV 3 crv s n e x y] (.bb (unB [s, n, e])) := by
  have l3 : ∀ a b c : List UInt8, a.length ≤ 16777216 → b.length ≤ 16777216 → c.length ≤ 16777216 → lnB [a, b, c] ≤ 4611686018427387904 := fun a b c h1 h2 h3 => by simp only [lnB, List.map_cons, List.map_nil, List.sum_cons, List.sum_nil]; omega
  have l4 : ∀ a b c d : List UInt8, a.length ≤ 16777216 → b.length ≤ 16777216 → c.length ≤ 16777216 → d.length ≤ 16777216 → lnB [a, b, c, d] ≤ 4611686018427387904 := fun a b c d h1 h2 h3 h4 => by simp only [lnB, List.map_cons, List.map_nil, List.sum_cons, List.sum_nil]; omega
  refine fn_intro Tryz.func11 rfl (by kernel_rfl) (Nat.le_of_ble_eq_true (by kernel_rfl)) (by kernel_rfl) (by kernel_rfl) rfl (SPa_ok J hJ) ?_
  unfold Tryz.f11
  simp only [↓Br_t, ↓Br_f, ↓Brg_t, ↓Brg_f, bnC, Kseq_app, Nat.reduceMul, Nat.reduceLeDiff, Nat.reduceEqDiff, Nat.reduceLT, Nat.reduceAdd, Nat.reduceSub, ↓reduceIte, implies_true, reduceCtorEq, ne_eq, ↓shr_eq, IntKind.bits, Int.reduceToNat, Int.reducePow, dite_eq_ite, Value.oneCell', Nat.reduceBEq, Nat.reduceDiv, bnS, bnN, bnT, spB, vl_dg, W32_dg, unW_wds, wV, sdf, wds_nil, SPa, SPaf, keyV, List.map_cons, List.map_nil, byOf, k_eq, ho, crvPt, crvCo]
  exact fun _ => l3 s n e hs hn he
theorem good3f_fn (J : Inv) (hJ : EdT J) (crv : Int) (s n e x y : List UInt8) (_hs : s.length ≤ 16777216) (_hn : n.length ≤ 16777216) (_he : e.length ≤ 16777216) (_hx : x.length ≤ 16777216) (_hy : y.length ≤ 16777216) (ho : crvOk crv x y = false) : Fn Tryz.prog J 11 false [keyV 3 crv s n e x y] (.bb false) := by
  have l3 : ∀ a b c : List UInt8, a.length ≤ 16777216 → b.length ≤ 16777216 → c.length ≤ 16777216 → lnB [a, b, c] ≤ 4611686018427387904 := fun a b c h1 h2 h3 => by simp only [lnB, List.map_cons, List.map_nil, List.sum_cons, List.sum_nil]; omega
  have l4 : ∀ a b c d : List UInt8, a.length ≤ 16777216 → b.length ≤ 16777216 → c.length ≤ 16777216 → d.length ≤ 16777216 → lnB [a, b, c, d] ≤ 4611686018427387904 := fun a b c d h1 h2 h3 h4 => by simp only [lnB, List.map_cons, List.map_nil, List.sum_cons, List.sum_nil]; omega
  refine fn_intro Tryz.func11 rfl (by kernel_rfl) (Nat.le_of_ble_eq_true (by kernel_rfl)) (by kernel_rfl) (by kernel_rfl) rfl (SPa_ok J hJ) ?_
  unfold Tryz.f11
  simp only [↓Br_t, ↓Br_f, ↓Brg_t, ↓Brg_f, bnC, Kseq_app, Nat.reduceMul, Nat.reduceLeDiff, Nat.reduceEqDiff, Nat.reduceLT, Nat.reduceAdd, Nat.reduceSub, ↓reduceIte, implies_true, reduceCtorEq, ne_eq, ↓shr_eq, IntKind.bits, Int.reduceToNat, Int.reducePow, dite_eq_ite, Value.oneCell', Nat.reduceBEq, Nat.reduceDiv, bnS, bnN, bnT, spB, vl_dg, W32_dg, unW_wds, wV, sdf, wds_nil, SPa, SPaf, keyV, List.map_cons, List.map_nil, byOf, k_eq, ho, crvPt, crvCo]
  exact fun h => h.elim
theorem good4t_fn (J : Inv) (hJ : EdT J) (crv : Int) (s n e x y : List UInt8) (hs : s.length ≤ 16777216) (hn : n.length ≤ 16777216) (he : e.length ≤ 16777216) (_hx : x.length ≤ 16777216) (hy : y.length ≤ 16777216) (ho : edOk x = true) : Fn Tryz.prog J 11 false [keyV 4 crv s n e x y] (.bb (decide (crv = 3) && unB [s, n, e, y])) := by
  have l3 : ∀ a b c : List UInt8, a.length ≤ 16777216 → b.length ≤ 16777216 → c.length ≤ 16777216 → lnB [a, b, c] ≤ 4611686018427387904 := fun a b c h1 h2 h3 => by simp only [lnB, List.map_cons, List.map_nil, List.sum_cons, List.sum_nil]; omega
  have l4 : ∀ a b c d : List UInt8, a.length ≤ 16777216 → b.length ≤ 16777216 → c.length ≤ 16777216 → d.length ≤ 16777216 → lnB [a, b, c, d] ≤ 4611686018427387904 := fun a b c d h1 h2 h3 h4 => by simp only [lnB, List.map_cons, List.map_nil, List.sum_cons, List.sum_nil]; omega
  refine fn_intro Tryz.func11 rfl (by kernel_rfl) (Nat.le_of_ble_eq_true (by kernel_rfl)) (by kernel_rfl) (by kernel_rfl) rfl (SPa_ok J hJ) ?_
  unfold Tryz.f11
  simp only [↓Br_t, ↓Br_f, ↓Brg_t, ↓Brg_f, bnC, Kseq_app, Nat.reduceMul, Nat.reduceLeDiff, Nat.reduceEqDiff, Nat.reduceLT, Nat.reduceAdd, Nat.reduceSub, ↓reduceIte, implies_true, reduceCtorEq, ne_eq, ↓shr_eq, IntKind.bits, Int.reduceToNat, Int.reducePow, dite_eq_ite, Value.oneCell', Nat.reduceBEq, Nat.reduceDiv, bnS, bnN, bnT, spB, vl_dg, W32_dg, unW_wds, wV, sdf, wds_nil, SPa, SPaf, keyV, List.map_cons, List.map_nil, byOf, k_eq, ho, edPt, edCo]
  have hl := l4 s n e y hs hn he hy
  rw [← Bool.beq_eq_decide_eq]
  generalize (crv == 3) = a
  generalize unB [s, n, e, y] = u
  cases a <;> cases u <;> simp [Brg, Br, hl]
theorem good4f_fn (J : Inv) (hJ : EdT J) (crv : Int) (s n e x y : List UInt8) (hs : s.length ≤ 16777216) (hn : n.length ≤ 16777216) (he : e.length ≤ 16777216) (_hx : x.length ≤ 16777216) (hy : y.length ≤ 16777216) (ho : edOk x = false) : Fn Tryz.prog J 11 false [keyV 4 crv s n e x y] (.bb false) := by
  have l3 : ∀ a b c : List UInt8, a.length ≤ 16777216 → b.length ≤ 16777216 → c.length ≤ 16777216 → lnB [a, b, c] ≤ 4611686018427387904 := fun a b c h1 h2 h3 => by simp only [lnB, List.map_cons, List.map_nil, List.sum_cons, List.sum_nil]; omega
  have l4 : ∀ a b c d : List UInt8, a.length ≤ 16777216 → b.length ≤ 16777216 → c.length ≤ 16777216 → d.length ≤ 16777216 → lnB [a, b, c, d] ≤ 4611686018427387904 := fun a b c d h1 h2 h3 h4 => by simp only [lnB, List.map_cons, List.map_nil, List.sum_cons, List.sum_nil]; omega
  refine fn_intro Tryz.func11 rfl (by kernel_rfl) (Nat.le_of_ble_eq_true (by kernel_rfl)) (by kernel_rfl) (by kernel_rfl) rfl (SPa_ok J hJ) ?_
  unfold Tryz.f11
  simp only [↓Br_t, ↓Br_f, ↓Brg_t, ↓Brg_f, bnC, Kseq_app, Nat.reduceMul, Nat.reduceLeDiff, Nat.reduceEqDiff, Nat.reduceLT, Nat.reduceAdd, Nat.reduceSub, ↓reduceIte, implies_true, reduceCtorEq, ne_eq, ↓shr_eq, IntKind.bits, Int.reduceToNat, Int.reducePow, dite_eq_ite, Value.oneCell', Nat.reduceBEq, Nat.reduceDiv, bnS, bnN, bnT, spB, vl_dg, W32_dg, unW_wds, wV, sdf, wds_nil, SPa, SPaf, keyV, List.map_cons, List.map_nil, byOf, k_eq, ho, edPt, edCo]
  have hl := l4 s n e y hs hn he hy
  generalize (crv == 3) = a
  generalize unB [s, n, e, y] = u
  cases a <;> cases u <;> simp [Brg, Br, hl]
theorem good0_fn (J : Inv) (hJ : EdT J) (kty crv : Int) (s n e x y : List UInt8) (h1 : kty ≠ 1) (h2 : kty ≠ 2) (h3 : kty ≠ 3) (h4 : kty ≠ 4) : Fn Tryz.prog J 11 false [keyV kty crv s n e x y] (.bb false) := by
  have e1 : (kty == 1) = false := by rw [beq_eq_false_iff_ne]; exact h1
  have e2 : (kty == 2) = false := by rw [beq_eq_false_iff_ne]; exact h2
  have e3 : (kty == 3) = false := by rw [beq_eq_false_iff_ne]; exact h3
  have e4 : (kty == 4) = false := by rw [beq_eq_false_iff_ne]; exact h4
  refine fn_intro Tryz.func11 rfl (by kernel_rfl) (Nat.le_of_ble_eq_true (by kernel_rfl)) (by kernel_rfl) (by kernel_rfl) rfl (SPa_ok J hJ) ?_
  unfold Tryz.f11
  simp only [↓Br_t, ↓Br_f, ↓Brg_t, ↓Brg_f, bnC, Kseq_app, Nat.reduceMul, Nat.reduceLeDiff, Nat.reduceEqDiff, Nat.reduceLT, Nat.reduceAdd, Nat.reduceSub, ↓reduceIte, implies_true, reduceCtorEq, ne_eq, ↓shr_eq, IntKind.bits, Int.reduceToNat, Int.reducePow, dite_eq_ite, Value.oneCell', Nat.reduceBEq, Nat.reduceDiv, bnS, bnN, bnT, spB, vl_dg, W32_dg, unW_wds, wV, sdf, wds_nil, SPa, SPaf, keyV, List.map_cons, List.map_nil, byOf, e1, e2, e3, e4]
theorem good_fn (J : Inv) (hJ : EdT J) (kty crv : Int) (s n e x y : List UInt8) (hs : s.length ≤ 16777216) (hn : n.length ≤ 16777216) (he : e.length ≤ 16777216) (hx : x.length ≤ 16777216) (hy : y.length ≤ 16777216) : Fn Tryz.prog J 11 false [keyV kty crv s n e x y] (.bb (goodK kty crv s n e x y)) := by
  unfold goodK
  by_cases h1 : kty = 1
  · rw [if_pos h1]; subst h1; exact good1_fn J hJ crv s n e x y hs hn he hx hy
  rw [if_neg h1]
  by_cases h2 : kty = 2
  · rw [if_pos h2]; subst h2; exact good2_fn J hJ crv s n e x y hs hn he hx hy
  rw [if_neg h2]
  by_cases h3 : kty = 3
  · rw [if_pos h3]; subst h3
    cases ho : crvOk crv x y
    · rw [Bool.false_and]; exact good3f_fn J hJ crv s n e x y hs hn he hx hy ho
    · rw [Bool.true_and]; exact good3t_fn J hJ crv s n e x y hs hn he hx hy ho
  rw [if_neg h3]
  by_cases h4 : kty = 4
  · rw [if_pos h4]; subst h4
    cases ho : edOk x
    · rw [Bool.and_false, Bool.and_false]; exact good4f_fn J hJ crv s n e x y hs hn he hx hy ho
    · rw [Bool.and_true]; exact good4t_fn J hJ crv s n e x y hs hn he hx hy ho
  rw [if_neg h4]
  exact good0_fn J hJ kty crv s n e x y h1 h2 h3 h4
def SPg (J : Inv) : Sig := ⟨J, sdf, fun f args => if f = 11 then match args with
  | [.st [.val (.int .i64 kty), .val (.int .i64 crv), .by s, .by n, .by e, .by x, .by y]] => some ([s.length ≤ 16777216, n.length ≤ 16777216, e.length ≤ 16777216, x.length ≤ 16777216, y.length ≤ 16777216], false, .bb (goodK kty crv s n e x y))
  | _ => none
  else none, noH, 0⟩
theorem SPg_ok (J : Inv) (hJ : EdT J) : SigOk Tryz.prog (SPg J) := by
  refine .plain fun f args l fr r h hl => ?_
  split at h
  · rename_i hf; subst hf
    split at h
    · rename_i kty crv s n e x y
      obtain ⟨rfl, rfl, rfl⟩ := jsome_tri h
      exact good_fn J hJ kty crv s n e x y (hl _ (by simp)) (hl _ (by simp)) (hl _ (by simp)) (hl _ (by simp)) (hl _ (by simp))
    · exact absurd h (by simp)
  · exact absurd h (by simp)
def chkC (b : Bool) : Int := if b = true then 0 else 90
theorem check_fn (J : Inv) (hJ : EdT J) (kty crv : Int) (s n e x y : List UInt8) (hs : s.length ≤ 16777216) (hn : n.length ≤ 16777216) (he : e.length ≤ 16777216) (hx : x.length ≤ 16777216) (hy : y.length ≤ 16777216) : Fn Tryz.prog J 5 false [keyV kty crv s n e x y] (.i (chkC (goodK kty crv s n e x y))) := by
  refine fn_intro Tryz.func5 rfl (by kernel_rfl) (Nat.le_of_ble_eq_true (by kernel_rfl)) (by kernel_rfl) (by kernel_rfl) rfl (SPg_ok J hJ) ?_
  unfold Tryz.f5
  simp only [↓Br_t, ↓Br_f, ↓Brg_t, ↓Brg_f, bnC, Kseq_app, Nat.reduceMul, Nat.reduceLeDiff, Nat.reduceEqDiff, Nat.reduceLT, Nat.reduceAdd, Nat.reduceSub, ↓reduceIte, implies_true, reduceCtorEq, ne_eq, ↓shr_eq, IntKind.bits, Int.reduceToNat, Int.reducePow, dite_eq_ite, Value.oneCell', Nat.reduceBEq, Nat.reduceDiv, bnS, bnN, bnT, spB, vl_dg, W32_dg, unW_wds, wV, sdf, wds_nil, SPg, keyV]
  exact ⟨hs, hn, he, hx, hy, fun h => (if_pos h).symm, fun h => (if_neg (by rw [h]; simp)).symm⟩
def mk (n : Nat) : List UInt8 := (List.range n).map fun (i : Nat) => u8 ((150 + (i : Int)) % 256)
theorem mk_length (n : Nat) : (mk n).length = n := by simp [mk]
theorem mk_succ (n : Nat) : mk n ++ [u8 ((150 + (n : Int)) % 256)] = mk (n + 1) := by simp [mk, List.range_succ]
theorem mk_zero : mk 0 = [] := rfl
theorem take_snoc (l : List UInt8) {i : Nat} (h : i < l.length) : l.take i ++ [u8 (byteAt l i)] = l.take (i + 1) := by
  rw [List.take_succ_eq_append_getElem h]
  congr 2
  unfold u8 byteAt
  rw [List.getD_eq_getElem?_getD, List.getElem?_eq_getElem h]
  simp
theorem marked_own (J : Inv) (l : List UInt8) (nx : Nat) (hl : l.length ≤ 140737488351232) : FnH Tryz.prog J 10 [.by l] [] nx (.vw (.r nx) 1 0 l.length) [(nx, .row 5 (.by (l ++ mk 70)))] (nx + 1) := by
  refine fnH_intro Tryz.func10 rfl (by kernel_rfl) (Nat.le_of_ble_eq_true (by kernel_rfl)) (by kernel_rfl) (by kernel_rfl) (.plain fun _ _ _ _ _ h => by simp [S0f] at h : SigOk Tryz.prog ⟨J, sdf, S0f, noH, nx⟩) rfl ?_
  unfold Tryz.f10
  simp only [↓Br_t, ↓Br_f, ↓Brg_t, ↓Brg_f, bnC, Kseq_app, Nat.reduceMul, Nat.reduceLeDiff, Nat.reduceEqDiff, Nat.reduceLT, Nat.reduceAdd, Nat.reduceSub, ↓reduceIte, implies_true, reduceCtorEq, ne_eq, ↓shr_eq, IntKind.bits, Int.reduceToNat, Int.reducePow, dite_eq_ite, Value.oneCell', Nat.reduceBEq, Nat.reduceDiv, bnS, bnN, bnT, spB, vl_dg, W32_dg, unW_wds, wV, sdf, wds_nil, S0f]
  refine LoopC.introA (α := Nat × Nat) (fun y => y.1 ≤ l.length ∧ nx ≤ y.2)
    (fun y => ⟨[(3, .ro (.r y.2)), (4, .i y.1), (0, .by l)], [(y.2, .row 5 (.by (l.take y.1)))], y.2 + 1⟩)
    (fun y => l.length - y.1) (0, nx) [.sl 3 5 (.by [])] ⟨Nat.zero_le _, Nat.le_refl _⟩ ?_ ?_
  · simp only [↓Br_t, ↓Br_f, ↓Brg_t, ↓Brg_f, bnC, Kseq_app, Nat.reduceMul, Nat.reduceLeDiff, Nat.reduceEqDiff, Nat.reduceLT, Nat.reduceAdd, Nat.reduceSub, ↓reduceIte, implies_true, reduceCtorEq, ne_eq, ↓shr_eq, IntKind.bits, Int.reduceToNat, Int.reducePow, dite_eq_ite, Value.oneCell', Nat.reduceBEq, Nat.reduceDiv, bnS, bnN, bnT, spB, vl_dg, W32_dg, unW_wds, wV, sdf, wds_nil, List.take_zero]
    exact ⟨rfl, Nat.le_refl _⟩
  · rintro ⟨i, k⟩ ⟨q1, q2⟩
    simp only at q1 q2
    simp only [↓Br_t, ↓Br_f, ↓Brg_t, ↓Brg_f, bnC, Kseq_app, Nat.reduceMul, Nat.reduceLeDiff, Nat.reduceEqDiff, Nat.reduceLT, Nat.reduceAdd, Nat.reduceSub, ↓reduceIte, implies_true, reduceCtorEq, ne_eq, ↓shr_eq, IntKind.bits, Int.reduceToNat, Int.reducePow, dite_eq_ite, Value.oneCell', Nat.reduceBEq, Nat.reduceDiv, bnS, bnN, bnT, spB, vl_dg, W32_dg, unW_wds, wV, sdf, wds_nil, S0f]
    refine ⟨fun hi => ?_, fun hi => ?_⟩
    · simp only [decide_eq_true_eq] at hi
      have hi : i < l.length := by omega
      have h0 := byteAt_lo l i
      have h1 := byteAt_hi l i
      rw [take_snoc l hi]
      refine ⟨by omega, by omega, by omega, by omega, by simp only [List.length_take]; omega, by constructor <;> omega, Again.intro (i + 1, k + 2) ⟨by simp only; omega, by simp only; omega⟩ (by simp only; omega) ?_⟩
      simp only [↓Br_t, ↓Br_f, ↓Brg_t, ↓Brg_f, bnC, Kseq_app, Nat.reduceMul, Nat.reduceLeDiff, Nat.reduceEqDiff, Nat.reduceLT, Nat.reduceAdd, Nat.reduceSub, ↓reduceIte, implies_true, reduceCtorEq, ne_eq, ↓shr_eq, IntKind.bits, Int.reduceToNat, Int.reducePow, dite_eq_ite, Value.oneCell', Nat.reduceBEq, Nat.reduceDiv, bnS, bnN, bnT, spB, vl_dg, W32_dg, unW_wds, wV, sdf, wds_nil]
      simp
    · simp only [decide_eq_false_iff_not] at hi
      obtain rfl : i = l.length := by omega
      rw [List.take_length]
      refine LoopC.intro (α := Nat × Nat) (fun y => y.1 ≤ 70 ∧ nx ≤ y.2)
        (fun y => ⟨[(3, .ro (.r y.2)), (5, .i y.1), (0, .by l)], [(y.2, .row 5 (.by (l ++ mk y.1)))], y.2 + 1⟩)
        (fun y => 70 - y.1) (0, k) ⟨Nat.zero_le _, q2⟩ ?_ ?_
      · simp only [↓Br_t, ↓Br_f, ↓Brg_t, ↓Brg_f, bnC, Kseq_app, Nat.reduceMul, Nat.reduceLeDiff, Nat.reduceEqDiff, Nat.reduceLT, Nat.reduceAdd, Nat.reduceSub, ↓reduceIte, implies_true, reduceCtorEq, ne_eq, ↓shr_eq, IntKind.bits, Int.reduceToNat, Int.reducePow, dite_eq_ite, Value.oneCell', Nat.reduceBEq, Nat.reduceDiv, bnS, bnN, bnT, spB, vl_dg, W32_dg, unW_wds, wV, sdf, wds_nil, mk_zero, List.append_nil]
        exact ⟨rfl, Nat.le_refl _⟩
      · clear q1 q2 hi
        rintro ⟨i, k⟩ ⟨q1, q2⟩
        simp only at q1 q2
        simp only [↓Br_t, ↓Br_f, ↓Brg_t, ↓Brg_f, bnC, Kseq_app, Nat.reduceMul, Nat.reduceLeDiff, Nat.reduceEqDiff, Nat.reduceLT, Nat.reduceAdd, Nat.reduceSub, ↓reduceIte, implies_true, reduceCtorEq, ne_eq, ↓shr_eq, IntKind.bits, Int.reduceToNat, Int.reducePow, dite_eq_ite, Value.oneCell', Nat.reduceBEq, Nat.reduceDiv, bnS, bnN, bnT, spB, vl_dg, W32_dg, unW_wds, wV, sdf, wds_nil, S0f]
        refine ⟨fun hi => ?_, fun hi => ?_⟩
        · simp only [decide_eq_true_eq] at hi
          have hi : i < 70 := by omega
          rw [List.append_assoc, mk_succ]
          refine ⟨by constructor <;> omega, by omega, by omega, by simp only [List.length_append, mk_length]; omega, by constructor <;> omega, Again.intro (i + 1, k + 2) ⟨by simp only; omega, by simp only; omega⟩ (by simp only; omega) ?_⟩
          simp only [↓Br_t, ↓Br_f, ↓Brg_t, ↓Brg_f, bnC, Kseq_app, Nat.reduceMul, Nat.reduceLeDiff, Nat.reduceEqDiff, Nat.reduceLT, Nat.reduceAdd, Nat.reduceSub, ↓reduceIte, implies_true, reduceCtorEq, ne_eq, ↓shr_eq, IntKind.bits, Int.reduceToNat, Int.reducePow, dite_eq_ite, Value.oneCell', Nat.reduceBEq, Nat.reduceDiv, bnS, bnN, bnT, spB, vl_dg, W32_dg, unW_wds, wV, sdf, wds_nil]
          simp
        · simp only [decide_eq_false_iff_not] at hi
          obtain rfl : i = 70 := by omega
          refine ⟨by omega, by simp only [List.length_append]; omega, ?_⟩
          have n1 : ¬ nx < nx := Nat.lt_irrefl _
          refine RenC.intro [(nx, k)] ⟨[(2, .vw (.r nx) 1 0 l.length)], [(nx, .row 5 (.by (l ++ mk 70)))], nx + 1⟩ ?_ ?_
          · simp only [↓Br_t, ↓Br_f, ↓Brg_t, ↓Brg_f, bnC, Kseq_app, Nat.reduceMul, Nat.reduceLeDiff, Nat.reduceEqDiff, Nat.reduceLT, Nat.reduceAdd, Nat.reduceSub, ↓reduceIte, implies_true, reduceCtorEq, ne_eq, ↓shr_eq, IntKind.bits, Int.reduceToNat, Int.reducePow, dite_eq_ite, Value.oneCell', Nat.reduceBEq, Nat.reduceDiv, bnS, bnN, bnT, spB, vl_dg, W32_dg, unW_wds, wV, sdf, wds_nil, n1]
            simp
            omega
          · simp only [↓Br_t, ↓Br_f, ↓Brg_t, ↓Brg_f, bnC, Kseq_app, Nat.reduceMul, Nat.reduceLeDiff, Nat.reduceEqDiff, Nat.reduceLT, Nat.reduceAdd, Nat.reduceSub, ↓reduceIte, implies_true, reduceCtorEq, ne_eq, ↓shr_eq, IntKind.bits, Int.reduceToNat, Int.reducePow, dite_eq_ite, Value.oneCell', Nat.reduceBEq, Nat.reduceDiv, bnS, bnN, bnT, spB, vl_dg, W32_dg, unW_wds, wV, sdf, wds_nil]
            exact Nat.le_refl _
theorem byteAt_extL {a b : List UInt8} (hl : a.length = b.length) (h : ∀ k, k < a.length → byteAt a k = byteAt b k) : a = b := by
  apply List.ext_getElem hl
  intro i h1 h2
  have := h i h1
  unfold byteAt at this
  rw [List.getD_eq_getElem?_getD, List.getD_eq_getElem?_getD, List.getElem?_eq_getElem h1, List.getElem?_eq_getElem h2] at this
  simp only [Option.getD_some] at this
  exact UInt8.toNat_inj.1 (by omega)
theorem sameBytes_fn (J : Inv) (a b : List UInt8) (ha : a.length ≤ 140737488355328) : Fn Tryz.prog J 22 false [.by a, .by b] (.bb (a == b)) := by
  refine fn_intro Tryz.func22 rfl (by kernel_rfl) (Nat.le_of_ble_eq_true (by kernel_rfl)) (by kernel_rfl) (by kernel_rfl) rfl (S0_ok J) ?_
  unfold Tryz.f22
  simp only [↓Br_t, ↓Br_f, ↓Brg_t, ↓Brg_f, bnC, Kseq_app, Nat.reduceMul, Nat.reduceLeDiff, Nat.reduceEqDiff, Nat.reduceLT, Nat.reduceAdd, Nat.reduceSub, ↓reduceIte, implies_true, reduceCtorEq, ne_eq, ↓shr_eq, IntKind.bits, Int.reduceToNat, Int.reducePow, dite_eq_ite, Value.oneCell', Nat.reduceBEq, Nat.reduceDiv, bnS, bnN, bnT, spB, vl_dg, W32_dg, unW_wds, wV, sdf, wds_nil, S0, S0f]
  refine ⟨fun h => ?_, fun h => ?_⟩
  · have h : ¬ a = b := fun e => by subst e; simp at h
    rw [beq_eq_false_iff_ne.2 h]
  · have hl : a.length = b.length := by simp at h; omega
    refine LoopC.intro (α := Nat) (fun i => i ≤ a.length ∧ ∀ k, k < i → byteAt a k = byteAt b k) (fun i => ⟨[(0, .by a), (1, .by b), (5, .i i)], [], 0⟩) (fun i => a.length - i) 0 ⟨Nat.zero_le _, fun k hk => by omega⟩ ?_ ?_
    · simp only [↓Br_t, ↓Br_f, ↓Brg_t, ↓Brg_f, bnC, Kseq_app, Nat.reduceMul, Nat.reduceLeDiff, Nat.reduceEqDiff, Nat.reduceLT, Nat.reduceAdd, Nat.reduceSub, ↓reduceIte, implies_true, reduceCtorEq, ne_eq, ↓shr_eq, IntKind.bits, Int.reduceToNat, Int.reducePow, dite_eq_ite, Value.oneCell', Nat.reduceBEq, Nat.reduceDiv, bnS, bnN, bnT, spB, vl_dg, W32_dg, unW_wds, wV, sdf, wds_nil]
      rfl
    · rintro i ⟨h1, h2⟩
      simp only [↓Br_t, ↓Br_f, ↓Brg_t, ↓Brg_f, bnC, Kseq_app, Nat.reduceMul, Nat.reduceLeDiff, Nat.reduceEqDiff, Nat.reduceLT, Nat.reduceAdd, Nat.reduceSub, ↓reduceIte, implies_true, reduceCtorEq, ne_eq, ↓shr_eq, IntKind.bits, Int.reduceToNat, Int.reducePow, dite_eq_ite, Value.oneCell', Nat.reduceBEq, Nat.reduceDiv, bnS, bnN, bnT, spB, vl_dg, W32_dg, unW_wds, wV, sdf, wds_nil, S0, S0f]
      refine ⟨fun hi => ?_, fun hi => ?_⟩
      · simp only [decide_eq_true_eq] at hi
        refine ⟨by omega, by omega, by omega, by omega, fun hb => ?_, fun hb => ?_⟩
        · have hne : ¬ a = b := fun e => by subst e; simp at hb
          rw [beq_eq_false_iff_ne.2 hne]
        · have hb : byteAt a i = byteAt b i := by simpa using hb
          refine ⟨by constructor <;> omega, Again.intro (i + 1) ⟨by omega, fun k hk => ?_⟩ (by omega) ?_⟩
          · rcases Nat.lt_or_ge k i with hl | hl
            · exact h2 k hl
            · obtain rfl : k = i := by omega
              exact hb
          · simp only [↓Br_t, ↓Br_f, ↓Brg_t, ↓Brg_f, bnC, Kseq_app, Nat.reduceMul, Nat.reduceLeDiff, Nat.reduceEqDiff, Nat.reduceLT, Nat.reduceAdd, Nat.reduceSub, ↓reduceIte, implies_true, reduceCtorEq, ne_eq, ↓shr_eq, IntKind.bits, Int.reduceToNat, Int.reducePow, dite_eq_ite, Value.oneCell', Nat.reduceBEq, Nat.reduceDiv, bnS, bnN, bnT, spB, vl_dg, W32_dg, unW_wds, wV, sdf, wds_nil]
            simp
      · simp only [decide_eq_false_iff_not] at hi
        obtain rfl : a = b := byteAt_extL hl fun k hk => h2 k (by omega)
        simp
def GWf : FuncId → List V → Option (List Prop × Bool × V) := fun f args =>
  if f = 22 then match args with
    | [.by a, .by b] => some ([a.length ≤ 140737488355328], false, .bb (a == b))
    | _ => none
  else none
def GW (J : Inv) (nx : Nat) : Sig := ⟨J, sdf, GWf, noH, nx⟩
theorem GW_ok (J : Inv) (nx : Nat) : SigOk Tryz.prog (GW J nx) := by
  refine .plain fun f args l fr r h hl => ?_
  change GWf f args = some (l, fr, r) at h
  unfold GWf at h
  split at h
  · rename_i hf; subst hf
    split at h
    · obtain ⟨rfl, rfl, rfl⟩ := jsome_tri h; exact sameBytes_fn J _ _ (hl _ (by simp))
    · exact absurd h (by simp)
  · exact absurd h (by simp)
theorem byteAt_mk (m : List UInt8) {i : Nat} (hi : i < 70) : byteAt (m ++ mk 70) (m.length + i) = (150 + i) % 256 := by
  unfold byteAt mk
  rw [List.getD_eq_getElem?_getD, List.getElem?_append_right (by omega)]
  simp only [Nat.add_sub_cancel_left, List.getElem?_map]
  rw [List.getElem?_eq_getElem (by simp; exact hi)]
  simp only [List.getElem_range, Option.map_some, Option.getD_some]
  exact u8_toNat _ (by omega) (by omega)
theorem whole_own (J : Inv) (m l : List UInt8) (k nx : Nat) (hm : m.length = l.length) (hl : l.length ≤ 140737488351232) : FnH Tryz.prog J 14 [.vw (.r k) 1 0 l.length, .by l] [(k, .row 5 (.by (m ++ mk 70)))] nx (.bb (m == l)) [(k, .row 5 (.by (m ++ mk 70)))] nx := by
  refine fnH_intro Tryz.func14 rfl (by kernel_rfl) (Nat.le_of_ble_eq_true (by kernel_rfl)) (by kernel_rfl) (by kernel_rfl) (GW_ok J nx) rfl ?_
  unfold Tryz.f14
  simp only [↓Br_t, ↓Br_f, ↓Brg_t, ↓Brg_f, bnC, Kseq_app, Nat.reduceMul, Nat.reduceLeDiff, Nat.reduceEqDiff, Nat.reduceLT, Nat.reduceAdd, Nat.reduceSub, ↓reduceIte, implies_true, reduceCtorEq, ne_eq, ↓shr_eq, IntKind.bits, Int.reduceToNat, Int.reducePow, dite_eq_ite, Value.oneCell', Nat.reduceBEq, Nat.reduceDiv, bnS, bnN, bnT, spB, vl_dg, W32_dg, unW_wds, wV, sdf, wds_nil, GW, GWf]
  have eT : ((l.length : Int) + 70).toNat = l.length + 70 := by omega
  simp only [eT]
  refine ⟨by constructor <;> omega, by simp only [List.length_append, mk_length]; omega, by omega, by simp only [List.length_append, mk_length]; omega, ?_⟩
  refine LoopC.intro (α := Nat) (fun i => i ≤ 70)
    (fun i => ⟨[(6, .i i), (5, .vw (.r k) 1 0 (l.length + 70)), (0, .vw (.r k) 1 0 l.length), (1, .by l)], [(k, .row 5 (.by (m ++ mk 70)))], nx⟩)
    (fun i => 70 - i) 0 (Nat.zero_le _) ?_ ?_
  · simp only [↓Br_t, ↓Br_f, ↓Brg_t, ↓Brg_f, bnC, Kseq_app, Nat.reduceMul, Nat.reduceLeDiff, Nat.reduceEqDiff, Nat.reduceLT, Nat.reduceAdd, Nat.reduceSub, ↓reduceIte, implies_true, reduceCtorEq, ne_eq, ↓shr_eq, IntKind.bits, Int.reduceToNat, Int.reducePow, dite_eq_ite, Value.oneCell', Nat.reduceBEq, Nat.reduceDiv, bnS, bnN, bnT, spB, vl_dg, W32_dg, unW_wds, wV, sdf, wds_nil]
    exact ⟨rfl, Nat.le_refl _⟩
  · intro i q
    simp only [↓Br_t, ↓Br_f, ↓Brg_t, ↓Brg_f, bnC, Kseq_app, Nat.reduceMul, Nat.reduceLeDiff, Nat.reduceEqDiff, Nat.reduceLT, Nat.reduceAdd, Nat.reduceSub, ↓reduceIte, implies_true, reduceCtorEq, ne_eq, ↓shr_eq, IntKind.bits, Int.reduceToNat, Int.reducePow, dite_eq_ite, Value.oneCell', Nat.reduceBEq, Nat.reduceDiv, bnS, bnN, bnT, spB, vl_dg, W32_dg, unW_wds, wV, sdf, wds_nil, GW, GWf]
    refine ⟨fun hi => ?_, fun hi => ?_⟩
    · simp only [decide_eq_true_eq] at hi
      have hi : i < 70 := by omega
      have e1 : ((l.length : Int) + i).toNat = l.length + i := by omega
      have e2 : byteAt (m ++ mk 70) (l.length + i) = (150 + i) % 256 := by rw [← hm]; exact byteAt_mk m hi
      have e3 : m.length + 70 = (m ++ mk 70).length := by simp [mk_length]
      simp only [e1, e2]
      refine ⟨by constructor <;> omega, by omega, by omega, by omega, by constructor <;> omega, fun h => by simp at h, fun _ => ⟨by constructor <;> omega, Again.intro (i + 1) (by omega) (by omega) ?_⟩⟩
      simp only [↓Br_t, ↓Br_f, ↓Brg_t, ↓Brg_f, bnC, Kseq_app, Nat.reduceMul, Nat.reduceLeDiff, Nat.reduceEqDiff, Nat.reduceLT, Nat.reduceAdd, Nat.reduceSub, ↓reduceIte, implies_true, reduceCtorEq, ne_eq, ↓shr_eq, IntKind.bits, Int.reduceToNat, Int.reducePow, dite_eq_ite, Value.oneCell', Nat.reduceBEq, Nat.reduceDiv, bnS, bnN, bnT, spB, vl_dg, W32_dg, unW_wds, wV, sdf, wds_nil]
      simp
    · have e : List.take l.length (m ++ mk 70) = m := by rw [← hm]; simp
      rw [e]
      refine ⟨by omega, RenC.skip ?_⟩
      simp only [↓Br_t, ↓Br_f, ↓Brg_t, ↓Brg_f, bnC, Kseq_app, Nat.reduceMul, Nat.reduceLeDiff, Nat.reduceEqDiff, Nat.reduceLT, Nat.reduceAdd, Nat.reduceSub, ↓reduceIte, implies_true, reduceCtorEq, ne_eq, ↓shr_eq, IntKind.bits, Int.reduceToNat, Int.reducePow, dite_eq_ite, Value.oneCell', Nat.reduceBEq, Nat.reduceDiv, bnS, bnN, bnT, spB, vl_dg, W32_dg, unW_wds, wV, sdf, wds_nil]
      exact Nat.le_refl _
end Go.Proofs.YtmpklnhmempmgaaGreatDoor
