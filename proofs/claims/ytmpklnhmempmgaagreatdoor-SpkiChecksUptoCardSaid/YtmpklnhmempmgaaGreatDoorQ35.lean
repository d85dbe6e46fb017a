/- The law on keys: the same key; a key in new memory, with marks; is it still what it was; written over. The law on keys: a lent key is what it was; it is written over. -/
import Derived.Test.YtmpklnhmempmgaaGreatDoorQ34
namespace Go.Proofs.YtmpklnhmempmgaaGreatDoor
open Go.RowKit
set_option linter.unusedSimpArgs false
set_option maxRecDepth 100000
def LSaf : FuncId → List V → Option (List Prop × Bool × V) := fun f args =>
  if f = 22 then match args with
    | [.by a, .by b] => some ([a.length ≤ 140737488355328], false, .bb (a == b))
    | _ => none
  else none
def LSa (J : Inv) : Sig := ⟨J, sdf, LSaf, noH, 0⟩
theorem LSa_ok (J : Inv) : SigOk Tryz.prog (LSa J) := by
  refine .plain fun f args l fr r h hl => ?_
  change LSaf f args = some (l, fr, r) at h
  unfold LSaf at h
  split at h
  · rename_i hf; subst hf
    split at h
    · rename_i a b
      obtain ⟨rfl, rfl, rfl⟩ := jsome_tri h
      obtain ⟨c0, -⟩ := hl.un
      have hp := sameBytes_fn J a b c0
      exact hp
    · exact absurd h (by simp)
  · exact absurd h (by simp)
/-- A key's parts. -/
structure KP where
  s : List UInt8
  n : List UInt8
  e : List UInt8
  x : List UInt8
  y : List UInt8
def KP.V (k : KP) (kty crv : Int) : V := keyV kty crv k.s k.n k.e k.x k.y
/-- Parts that are not too long. -/
structure KP.Ok (k : KP) : Prop where
  s : k.s.length ≤ 16777216
  n : k.n.length ≤ 16777216
  e : k.e.length ≤ 16777216
  x : k.x.length ≤ 16777216
  y : k.y.length ≤ 16777216
theorem same_self_fn (J : Inv) (kty crv : Int) (s n e x y : List UInt8) (hs : s.length ≤ 16777216) (hn : n.length ≤ 16777216) (he : e.length ≤ 16777216) (hx : x.length ≤ 16777216) (hy : y.length ≤ 16777216) : Fn Tryz.prog J 13 false [keyV kty crv s n e x y, keyV kty crv s n e x y] (.bb true) := by
  refine fn_intro Tryz.func13 rfl (by kernel_rfl) (Nat.le_of_ble_eq_true (by kernel_rfl)) (by kernel_rfl) (by kernel_rfl) rfl (LSa_ok J) ?_
  unfold Tryz.f13
  simp only [↓Br_t, ↓Br_f, ↓Brg_t, ↓Brg_f, bnC, Kseq_app, Nat.reduceMul, Nat.reduceLeDiff, Nat.reduceEqDiff, Nat.reduceLT, Nat.reduceAdd, Nat.reduceSub, ↓reduceIte, implies_true, reduceCtorEq, ne_eq, ↓shr_eq, IntKind.bits, Int.reduceToNat, Int.reducePow, dite_eq_ite, Value.oneCell', Nat.reduceBEq, Nat.reduceDiv, bnS, bnN, bnT, spB, vl_dg, W32_dg, unW_wds, wV, sdf, wds_nil, LSa, LSaf, keyV]
  refine ⟨by omega, by omega, by omega, by omega, by omega⟩
def LSch : FuncId → List V → List (Nat × Ob) → Nat → Option CallH := fun f args h nx =>
  if f = 10 then match args with
    | [v] => match (fz h v).1 with
      | .by l => some ⟨[l.length ≤ 140737488351232], [true], [], .vw (.r nx) 1 0 l.length, [(nx, .row 5 (.by (l ++ mk 70)))], nx + 1⟩
      | _ => none
    | _ => none
  else none
def LSc (J : Inv) (nx : Nat) : Sig := ⟨J, sdf, S0f, LSch, nx⟩
theorem LSc_ok (J : Inv) (nx : Nat) : SigOk Tryz.prog (LSc J nx) := by
  constructor
  · intro f args l fr r h hl
    exact absurd h (by simp [LSc, S0f])
  · intro f args h nx' c hc hl
    change LSch f args h nx' = some c at hc
    unfold LSch at hc
    split at hc
    · rename_i hf; subst hf
      split at hc
      · rename_i v
        split at hc
        · rename_i l hv
          obtain rfl := Option.some.inj hc
          show FnH _ _ _ [(fz h v).1] _ _ _ _ _
          rw [hv]
          exact marked_own J l nx' (hl _ (by simp))
        · exact absurd hc (by simp)
      · exact absurd hc (by simp)
    · exact absurd hc (by simp)
/-- A key whose parts are one's own, with marks. -/
def lenV (kty crv : Int) (k s n e x y : Nat) : V := .st [.val (.int .i64 kty), .val (.int .i64 crv), .vw (.r k) 1 0 s, .vw (.r (k + 1)) 1 0 n, .vw (.r (k + 2)) 1 0 e, .vw (.r (k + 3)) 1 0 x, .vw (.r (k + 4)) 1 0 y]
def lenH (k : Nat) (s n e x y : List UInt8) : List (Nat × Ob) := [(k, .row 5 (.by (s ++ mk 70))), (k + 1, .row 5 (.by (n ++ mk 70))), (k + 2, .row 5 (.by (e ++ mk 70))), (k + 3, .row 5 (.by (x ++ mk 70))), (k + 4, .row 5 (.by (y ++ mk 70)))]
theorem lent_own (J : Inv) (nx : Nat) (kty crv : Int) (s n e x y : List UInt8) (hs : s.length ≤ 16777216) (hn : n.length ≤ 16777216) (he : e.length ≤ 16777216) (hx : x.length ≤ 16777216) (hy : y.length ≤ 16777216) : FnH Tryz.prog J 4 [keyV kty crv s n e x y] [] nx (lenV kty crv nx s.length n.length e.length x.length y.length) (lenH nx s n e x y) (nx + 6) := by
  refine fnH_introC Tryz.func4 rfl (by kernel_rfl) (Nat.le_of_ble_eq_true (by kernel_rfl)) (by kernel_rfl) (by kernel_rfl) (LSc_ok J nx) rfl ?_
  unfold Tryz.f4
  simp only [↓Br_t, ↓Br_f, ↓Brg_t, ↓Brg_f, bnC, Kseq_app, Nat.reduceMul, Nat.reduceLeDiff, Nat.reduceEqDiff, Nat.reduceLT, Nat.reduceAdd, Nat.reduceSub, ↓reduceIte, implies_true, reduceCtorEq, ne_eq, ↓shr_eq, IntKind.bits, Int.reduceToNat, Int.reducePow, dite_eq_ite, Value.oneCell', Nat.reduceBEq, Nat.reduceDiv, bnS, bnN, bnT, spB, vl_dg, W32_dg, unW_wds, wV, sdf, wds_nil, LSc, S0f, LSch, keyV, lenV, lenH]
  refine DrawC.sch [(0, some []), (1, some []), (2, some []), (3, some []), (4, some []), (5, some []), (7, some []), (8, some []), (10, some []), (11, some []), (13, some []), (14, some []), (16, some []), (17, some []), (6, none), (9, none), (12, none), (15, none), (18, none), (19, none), (20, none)] [(20, [0, 1, 2, 3, 4, 5, 6])] (by kernel_rfl) ?_
  simp only [↓Br_t, ↓Br_f, ↓Brg_t, ↓Brg_f, bnC, Kseq_app, Nat.reduceMul, Nat.reduceLeDiff, Nat.reduceEqDiff, Nat.reduceLT, Nat.reduceAdd, Nat.reduceSub, ↓reduceIte, implies_true, reduceCtorEq, ne_eq, ↓shr_eq, IntKind.bits, Int.reduceToNat, Int.reducePow, dite_eq_ite, Value.oneCell', Nat.reduceBEq, Nat.reduceDiv, bnS, bnN, bnT, spB, vl_dg, W32_dg, unW_wds, wV, sdf, wds_nil, LSc, S0f, LSch]
  refine ⟨by omega, Nat.le_refl _, by omega, Nat.le_refl _, by omega, Nat.le_refl _, by omega, Nat.le_refl _, by omega, Nat.le_refl _, RenC.intro [(nx, nx + 2), (nx + 1, nx + 3), (nx + 2, nx + 4), (nx + 3, nx + 5), (nx + 4, nx + 6), (nx + 5, nx + 1)] ⟨[(2, .op (nx + 5) 0)], (nx + 5, .box 26 (lenV kty crv nx s.length n.length e.length x.length y.length)) :: lenH nx s n e x y, nx + 6⟩ ?_ ?_⟩
  · have n1 : ∀ j, (nx + j < nx) = False := fun j => by simp
    have n0 : (nx < nx) = False := by simp
    simp only [↓Br_t, ↓Br_f, ↓Brg_t, ↓Brg_f, bnC, Kseq_app, Nat.reduceMul, Nat.reduceLeDiff, Nat.reduceEqDiff, Nat.reduceLT, Nat.reduceAdd, Nat.reduceSub, ↓reduceIte, implies_true, reduceCtorEq, ne_eq, ↓shr_eq, IntKind.bits, Int.reduceToNat, Int.reducePow, dite_eq_ite, Value.oneCell', Nat.reduceBEq, Nat.reduceDiv, bnS, bnN, bnT, spB, vl_dg, W32_dg, unW_wds, wV, sdf, wds_nil, lenV, lenH, n0, n1]
    simp
  · simp only [↓Br_t, ↓Br_f, ↓Brg_t, ↓Brg_f, bnC, Kseq_app, Nat.reduceMul, Nat.reduceLeDiff, Nat.reduceEqDiff, Nat.reduceLT, Nat.reduceAdd, Nat.reduceSub, ↓reduceIte, implies_true, reduceCtorEq, ne_eq, ↓shr_eq, IntKind.bits, Int.reduceToNat, Int.reducePow, dite_eq_ite, Value.oneCell', Nat.reduceBEq, Nat.reduceDiv, bnS, bnN, bnT, spB, vl_dg, W32_dg, unW_wds, wV, sdf, wds_nil, lenV, lenH]
    exact Nat.le_refl _
def LSdf : FuncId → List V → Option (List Prop × Bool × V) := fun f args =>
  if f = 13 then match args with
    | [.st [.val (.int .i64 kty), .val (.int .i64 crv), .by s, .by n, .by e, .by x, .by y], .st [.val (.int .i64 kty'), .val (.int .i64 crv'), .by s', .by n', .by e', .by x', .by y']] => some ([kty = kty', crv = crv', s = s', n = n', e = e', x = x', y = y', s.length ≤ 16777216, n.length ≤ 16777216, e.length ≤ 16777216, x.length ≤ 16777216, y.length ≤ 16777216], false, .bb true)
    | _ => none
  else none
def LSdh : FuncId → List V → List (Nat × Ob) → Nat → Option CallH := fun f args h nx =>
  if f = 14 then match args with
    | [.vw (.r k) 1 0 n, .by l] => match Hroot h k with
      | some (.row t (.by m)) => some ⟨[t = 5, m = l ++ mk 70, n = l.length, l.length ≤ 140737488351232], [], [(k, .row 5 (.by m))], .bb true, [(k, .row 5 (.by m))], nx⟩
      | _ => none
    | _ => none
  else none
def LSd (J : Inv) (nx : Nat) : Sig := ⟨J, sdf, LSdf, LSdh, nx⟩
theorem LSd_ok (J : Inv) (nx : Nat) : SigOk Tryz.prog (LSd J nx) := by
  constructor
  · intro f args l fr r h hl
    change LSdf f args = some (l, fr, r) at h
    unfold LSdf at h
    split at h
    · rename_i hf; subst hf
      split at h
      · obtain ⟨rfl, rfl, rfl⟩ := jsome_tri h
        rename_i kty crv s n e x y kty' crv' s' n' e' x' y'
        have q1 : kty = kty' := hl _ (by simp)
        have q2 : crv = crv' := hl _ (by simp)
        have q3 : s = s' := hl _ (by simp)
        have q4 : n = n' := hl _ (by simp)
        have q5 : e = e' := hl _ (by simp)
        have q6 : x = x' := hl _ (by simp)
        have q7 : y = y' := hl _ (by simp)
        subst q1 q2 q3 q4 q5 q6 q7
        exact same_self_fn J kty crv s n e x y (hl _ (by simp)) (hl _ (by simp)) (hl _ (by simp)) (hl _ (by simp)) (hl _ (by simp))
      · exact absurd h (by simp)
    · exact absurd h (by simp)
  · intro f args h nx c hc hl
    change LSdh f args h nx = some c at hc
    unfold LSdh at hc
    split at hc
    · rename_i hf; subst hf
      split at hc
      · rename_i k n l
        split at hc
        · rename_i t m hm
          obtain rfl := Option.some.inj hc
          have h1 : m = l ++ mk 70 := hl _ (by simp)
          have h2 : n = l.length := hl _ (by simp)
          have h4 : l.length ≤ 140737488351232 := hl _ (by simp)
          subst h2 h1
          have := whole_own J l l k nx rfl h4
          rw [beq_self_eq_true] at this
          exact this
        · exact absurd hc (by simp)
      · exact absurd hc (by simp)
    · exact absurd hc (by simp)
theorem still_own (J : Inv) (k nx : Nat) (hk : k + 4 < nx) (kty crv : Int) (s n e x y : List UInt8) (hs : s.length ≤ 16777216) (hn : n.length ≤ 16777216) (he : e.length ≤ 16777216) (hx : x.length ≤ 16777216) (hy : y.length ≤ 16777216) : FnH Tryz.prog J 7 [lenV kty crv k s.length n.length e.length x.length y.length, keyV kty crv s n e x y] (lenH k s n e x y) nx (.bb true) (lenH k s n e x y) nx := by
  refine fnH_intro Tryz.func7 rfl (by kernel_rfl) (Nat.le_of_ble_eq_true (by kernel_rfl)) (by kernel_rfl) (by kernel_rfl) (LSd_ok J nx) rfl ?_
  unfold Tryz.f7
  have eT : ∀ l : List UInt8, List.take l.length (l ++ mk 70) = l := fun l => by simp
  have f00 : (nx = k) = False := eq_false (by omega)
  have g00 : (k = nx) = False := eq_false (by omega)
  have f01 : (nx = k + 1) = False := eq_false (by omega)
  have g01 : (k + 1 = nx) = False := eq_false (by omega)
  have f02 : (nx = k + 2) = False := eq_false (by omega)
  have g02 : (k + 2 = nx) = False := eq_false (by omega)
  have f03 : (nx = k + 3) = False := eq_false (by omega)
  have g03 : (k + 3 = nx) = False := eq_false (by omega)
  have f04 : (nx = k + 4) = False := eq_false (by omega)
  have g04 : (k + 4 = nx) = False := eq_false (by omega)
  have f10 : (nx + 1 = k) = False := eq_false (by omega)
  have g10 : (k = nx + 1) = False := eq_false (by omega)
  have f11 : (nx + 1 = k + 1) = False := eq_false (by omega)
  have g11 : (k + 1 = nx + 1) = False := eq_false (by omega)
  have f12 : (nx + 1 = k + 2) = False := eq_false (by omega)
  have g12 : (k + 2 = nx + 1) = False := eq_false (by omega)
  have f13 : (nx + 1 = k + 3) = False := eq_false (by omega)
  have g13 : (k + 3 = nx + 1) = False := eq_false (by omega)
  have f14 : (nx + 1 = k + 4) = False := eq_false (by omega)
  have g14 : (k + 4 = nx + 1) = False := eq_false (by omega)
  have h0 : k < nx := by omega
  have h1 : k + 1 < nx := by omega
  have h2 : k + 2 < nx := by omega
  have h3 : k + 3 < nx := by omega
  simp only [↓Br_t, ↓Br_f, ↓Brg_t, ↓Brg_f, bnC, Kseq_app, Nat.reduceMul, Nat.reduceLeDiff, Nat.reduceEqDiff, Nat.reduceLT, Nat.reduceAdd, Nat.reduceSub, ↓reduceIte, implies_true, reduceCtorEq, ne_eq, ↓shr_eq, IntKind.bits, Int.reduceToNat, Int.reducePow, dite_eq_ite, Value.oneCell', Nat.reduceBEq, Nat.reduceDiv, bnS, bnN, bnT, spB, vl_dg, W32_dg, unW_wds, wV, sdf, wds_nil, LSd, LSdf, LSdh, keyV, lenV, lenH, eT, h0, h1, h2, h3, hk, f00, g00, f01, g01, f02, g02, f03, g03, f04, g04, f10, g10, f11, g11, f12, g12, f13, g13, f14, g14]
  refine ⟨hs, hn, he, hx, hy, fun _ => by omega, fun _ => by omega, fun _ => by omega, fun _ => by omega, fun _ => by omega, RenC.intro [] ⟨[(4, .bb true)], lenH k s n e x y, nx⟩ ?_ ?_⟩
  · simp only [↓Br_t, ↓Br_f, ↓Brg_t, ↓Brg_f, bnC, Kseq_app, Nat.reduceMul, Nat.reduceLeDiff, Nat.reduceEqDiff, Nat.reduceLT, Nat.reduceAdd, Nat.reduceSub, ↓reduceIte, implies_true, reduceCtorEq, ne_eq, ↓shr_eq, IntKind.bits, Int.reduceToNat, Int.reducePow, dite_eq_ite, Value.oneCell', Nat.reduceBEq, Nat.reduceDiv, bnS, bnN, bnT, spB, vl_dg, W32_dg, unW_wds, wV, sdf, wds_nil, lenH, h0, h1, h2, h3, hk, f00, g00, f01, g01, f02, g02, f03, g03, f04, g04, f10, g10, f11, g11, f12, g12, f13, g13, f14, g14]
    exact Nat.le_refl _
  · simp only [↓Br_t, ↓Br_f, ↓Brg_t, ↓Brg_f, bnC, Kseq_app, Nat.reduceMul, Nat.reduceLeDiff, Nat.reduceEqDiff, Nat.reduceLT, Nat.reduceAdd, Nat.reduceSub, ↓reduceIte, implies_true, reduceCtorEq, ne_eq, ↓shr_eq, IntKind.bits, Int.reduceToNat, Int.reducePow, dite_eq_ite, Value.oneCell', Nat.reduceBEq, Nat.reduceDiv, bnS, bnN, bnT, spB, vl_dg, W32_dg, unW_wds, wV, sdf, wds_nil, lenH, h0, h1, h2, h3, hk, f00, g00, f01, g01, f02, g02, f03, g03, f04, g04, f10, g10, f11, g11, f12, g12, f13, g13, f14, g14]
    exact Nat.le_refl _
/-- A list of bytes whose middle one is another one. -/
def ovB (l : List UInt8) : List UInt8 := if 0 < l.length then l.set (l.length / 2) (u8 (bt .xor .u8 (byteAt l (l.length / 2)) 2)) else l
theorem ovB_len (l : List UInt8) : (ovB l).length = l.length := by unfold ovB; split <;> simp
/-- The list number i, when those below j have been written over. -/
def ovI (j i : Nat) (l : List UInt8) : List UInt8 := if i < j then ovB l else l
def ovH (k j : Nat) (s n e x y : List UInt8) : List (Nat × Ob) := [(k, .row 5 (.by (ovI j 0 s ++ mk 70))), (k + 1, .row 5 (.by (ovI j 1 n ++ mk 70))), (k + 2, .row 5 (.by (ovI j 2 e ++ mk 70))), (k + 3, .row 5 (.by (ovI j 3 x ++ mk 70))), (k + 4, .row 5 (.by (ovI j 4 y ++ mk 70)))]
theorem ov_set {l : List UInt8} (h : 0 < l.length) : (l ++ mk 70).set (l.length / 2) (u8 (bt .xor .u8 (byteAt (l ++ mk 70) (l.length / 2)) 2)) = ovB l ++ mk 70 := by
  have hb : byteAt (l ++ mk 70) (l.length / 2) = byteAt l (l.length / 2) := by
    unfold byteAt
    rw [List.getD_eq_getElem?_getD, List.getD_eq_getElem?_getD, List.getElem?_append_left (by omega)]
  unfold ovB
  rw [hb, if_pos h, List.set_append_left _ _ (by omega)]
theorem ovB_nil {l : List UInt8} (h : ¬ 0 < l.length) : ovB l = l := if_neg h
theorem xor8 (l : List UInt8) (i : Nat) : 0 ≤ bt .xor .u8 (byteAt l i) 2 ∧ bt .xor .u8 (byteAt l i) 2 < 256 := by
  rw [bt_eq]
  show 0 ≤ IntKind.u8.wrap _ ∧ IntKind.u8.wrap _ < 256
  rw [show ∀ n : Int, IntKind.u8.wrap n = n % 256 from fun n => rfl]
  omega
def S0n (J : Inv) (nx : Nat) : Sig := ⟨J, sdf, S0f, noH, nx⟩
theorem S0n_ok (J : Inv) (nx : Nat) : SigOk Tryz.prog (S0n J nx) := .plain fun _ _ _ _ _ h => by simp [S0n, S0f] at h
theorem over_own (J : Inv) (k nx : Nat) (hk : k + 4 < nx) (kty crv : Int) (s n e x y : List UInt8) (hs : s.length ≤ 16777216) (hn : n.length ≤ 16777216) (he : e.length ≤ 16777216) (hx : x.length ≤ 16777216) (hy : y.length ≤ 16777216) : FnH Tryz.prog J 8 [lenV kty crv k s.length n.length e.length x.length y.length] (lenH k s n e x y) nx (.tu []) (lenH k (ovB s) (ovB n) (ovB e) (ovB x) (ovB y)) nx := by
  refine fnH_intro Tryz.func8 rfl (by kernel_rfl) (Nat.le_of_ble_eq_true (by kernel_rfl)) (by kernel_rfl) (by kernel_rfl) (S0n_ok J nx) rfl ?_
  unfold Tryz.f8
  have eT : ∀ l : List UInt8, List.take l.length (l ++ mk 70) = l := fun l => by simp
  have f00 : (nx = k) = False := eq_false (by omega)
  have g00 : (k = nx) = False := eq_false (by omega)
  have f01 : (nx = k + 1) = False := eq_false (by omega)
  have g01 : (k + 1 = nx) = False := eq_false (by omega)
  have f02 : (nx = k + 2) = False := eq_false (by omega)
  have g02 : (k + 2 = nx) = False := eq_false (by omega)
  have f03 : (nx = k + 3) = False := eq_false (by omega)
  have g03 : (k + 3 = nx) = False := eq_false (by omega)
  have f04 : (nx = k + 4) = False := eq_false (by omega)
  have g04 : (k + 4 = nx) = False := eq_false (by omega)
  have f10 : (nx + 1 = k) = False := eq_false (by omega)
  have g10 : (k = nx + 1) = False := eq_false (by omega)
  have f11 : (nx + 1 = k + 1) = False := eq_false (by omega)
  have g11 : (k + 1 = nx + 1) = False := eq_false (by omega)
  have f12 : (nx + 1 = k + 2) = False := eq_false (by omega)
  have g12 : (k + 2 = nx + 1) = False := eq_false (by omega)
  have f13 : (nx + 1 = k + 3) = False := eq_false (by omega)
  have g13 : (k + 3 = nx + 1) = False := eq_false (by omega)
  have f14 : (nx + 1 = k + 4) = False := eq_false (by omega)
  have g14 : (k + 4 = nx + 1) = False := eq_false (by omega)
  have h0 : k < nx := by omega
  have h1 : k + 1 < nx := by omega
  have h2 : k + 2 < nx := by omega
  have h3 : k + 3 < nx := by omega
  have eH : ∀ l : List UInt8, ((l.length : Int) / 2).toNat = l.length / 2 := fun l => by omega
  simp only [↓Br_t, ↓Br_f, ↓Brg_t, ↓Brg_f, bnC, Kseq_app, Nat.reduceMul, Nat.reduceLeDiff, Nat.reduceEqDiff, Nat.reduceLT, Nat.reduceAdd, Nat.reduceSub, ↓reduceIte, implies_true, reduceCtorEq, ne_eq, ↓shr_eq, IntKind.bits, Int.reduceToNat, Int.reducePow, dite_eq_ite, Value.oneCell', Nat.reduceBEq, Nat.reduceDiv, bnS, bnN, bnT, spB, vl_dg, W32_dg, unW_wds, wV, sdf, wds_nil, S0n, S0f, keyV, lenV, lenH, eT, h0, h1, h2, h3, hk, f00, g00, f01, g01, f02, g02, f03, g03, f04, g04, f10, g10, f11, g11, f12, g12, f13, g13, f14, g14]
  refine LoopC.intro (α := Nat) (fun i => i ≤ 5) (fun i => ⟨[(2, .op (nx + 1) 0), (3, .i i)], (nx + 1, .box 35 (.st [.vw (.r k) 1 0 s.length, .vw (.r (k + 1)) 1 0 n.length, .vw (.r (k + 2)) 1 0 e.length, .vw (.r (k + 3)) 1 0 x.length, .vw (.r (k + 4)) 1 0 y.length])) :: ovH k i s n e x y, nx + 2⟩) (fun i => 5 - i) 0 (Nat.zero_le _) ?_ ?_
  · simp only [↓Br_t, ↓Br_f, ↓Brg_t, ↓Brg_f, bnC, Kseq_app, Nat.reduceMul, Nat.reduceLeDiff, Nat.reduceEqDiff, Nat.reduceLT, Nat.reduceAdd, Nat.reduceSub, ↓reduceIte, implies_true, reduceCtorEq, ne_eq, ↓shr_eq, IntKind.bits, Int.reduceToNat, Int.reducePow, dite_eq_ite, Value.oneCell', Nat.reduceBEq, Nat.reduceDiv, bnS, bnN, bnT, spB, vl_dg, W32_dg, unW_wds, wV, sdf, wds_nil, ovH, ovI, Nat.not_lt_zero, if_false, h0, h1, h2, h3, hk, f00, g00, f01, g01, f02, g02, f03, g03, f04, g04, f10, g10, f11, g11, f12, g12, f13, g13, f14, g14]
    exact ⟨rfl, Nat.le_refl _⟩
  · intro i hi
    have hi : i = 0 ∨ i = 1 ∨ i = 2 ∨ i = 3 ∨ i = 4 ∨ i = 5 := by omega
    have q0 : ((0 : Nat) : Int) = 0 := rfl
    have q1 : ((1 : Nat) : Int) = 1 := rfl
    have q2 : ((2 : Nat) : Int) = 2 := rfl
    have q3 : ((3 : Nat) : Int) = 3 := rfl
    have q4 : ((4 : Nat) : Int) = 4 := rfl
    have q5 : ((5 : Nat) : Int) = 5 := rfl
    rcases hi with rfl | rfl | rfl | rfl | rfl | rfl
    · simp only [↓Br_t, ↓Br_f, ↓Brg_t, ↓Brg_f, bnC, Kseq_app, Nat.reduceMul, Nat.reduceLeDiff, Nat.reduceEqDiff, Nat.reduceLT, Nat.reduceAdd, Nat.reduceSub, ↓reduceIte, implies_true, reduceCtorEq, ne_eq, ↓shr_eq, IntKind.bits, Int.reduceToNat, Int.reducePow, dite_eq_ite, Value.oneCell', Nat.reduceBEq, Nat.reduceDiv, bnS, bnN, bnT, spB, vl_dg, W32_dg, unW_wds, wV, sdf, wds_nil, S0n, S0f, ovH, ovI, Nat.reduceLT, if_true, if_false, q0, q1, q2, q3, q4, q5, eH, h0, h1, h2, h3, hk, f00, g00, f01, g01, f02, g02, f03, g03, f04, g04, f10, g10, f11, g11, f12, g12, f13, g13, f14, g14]
      refine ⟨fun _ => ⟨by omega, by omega, fun h => ?_, fun h => ?_⟩, fun h => absurd h (by simp)⟩
      · have hp : 0 < s.length := by have h := of_decide_eq_true h; omega
        refine DrawC.rows [(0, some (true, [])), (1, some (true, [])), (2, some (true, [])), (3, some (true, [])), (4, some (true, [])), (5, some (true, [])), (6, some (true, [])), (7, some (true, [])), (8, some (true, [])), (9, some (true, [])), (10, some (true, [])), (11, some (true, [])), (12, some (true, [])), (13, some (true, [])), (14, some (true, [])), (15, some (true, [])), (16, some (true, [])), (17, some (true, [])), (18, some (true, [])), (19, some (true, [])), (20, none)] [] [20] (by kernel_rfl) ?_
        simp only [↓Br_t, ↓Br_f, ↓Brg_t, ↓Brg_f, bnC, Kseq_app, Nat.reduceMul, Nat.reduceLeDiff, Nat.reduceEqDiff, Nat.reduceLT, Nat.reduceAdd, Nat.reduceSub, ↓reduceIte, implies_true, reduceCtorEq, ne_eq, ↓shr_eq, IntKind.bits, Int.reduceToNat, Int.reducePow, dite_eq_ite, Value.oneCell', Nat.reduceBEq, Nat.reduceDiv, bnS, bnN, bnT, spB, vl_dg, W32_dg, unW_wds, wV, sdf, wds_nil, S0n, S0f, ovH, ovI, Nat.reduceLT, if_true, if_false, q0, q1, q2, q3, q4, q5, eH, ov_set hp, h0, h1, h2, h3, hk, f00, g00, f01, g01, f02, g02, f03, g03, f04, g04, f10, g10, f11, g11, f12, g12, f13, g13, f14, g14]
        have hx8 := xor8 (s ++ mk 70) (s.length / 2)
        have hl8 : s.length / 2 < (s ++ mk 70).length := by rw [List.length_append]; omega
        repeat (with_reducible refine And.intro ?_ ?_; · first | omega | (constructor <;> omega))
        refine Again.intro 1 (by omega) (by omega) ?_
        simp only [↓Br_t, ↓Br_f, ↓Brg_t, ↓Brg_f, bnC, Kseq_app, Nat.reduceMul, Nat.reduceLeDiff, Nat.reduceEqDiff, Nat.reduceLT, Nat.reduceAdd, Nat.reduceSub, ↓reduceIte, implies_true, reduceCtorEq, ne_eq, ↓shr_eq, IntKind.bits, Int.reduceToNat, Int.reducePow, dite_eq_ite, Value.oneCell', Nat.reduceBEq, Nat.reduceDiv, bnS, bnN, bnT, spB, vl_dg, W32_dg, unW_wds, wV, sdf, wds_nil, S0n, S0f, ovH, ovI, Nat.reduceLT, if_true, if_false, q0, q1, q2, q3, q4, q5, eH, ov_set hp, h0, h1, h2, h3, hk, f00, g00, f01, g01, f02, g02, f03, g03, f04, g04, f10, g10, f11, g11, f12, g12, f13, g13, f14, g14]
        exact ⟨rfl, Nat.le_refl _⟩
      · have hp : ¬ 0 < s.length := by have h := of_decide_eq_false h; omega
        refine ⟨by constructor <;> omega, Again.intro 1 (by omega) (by omega) ?_⟩
        simp only [↓Br_t, ↓Br_f, ↓Brg_t, ↓Brg_f, bnC, Kseq_app, Nat.reduceMul, Nat.reduceLeDiff, Nat.reduceEqDiff, Nat.reduceLT, Nat.reduceAdd, Nat.reduceSub, ↓reduceIte, implies_true, reduceCtorEq, ne_eq, ↓shr_eq, IntKind.bits, Int.reduceToNat, Int.reducePow, dite_eq_ite, Value.oneCell', Nat.reduceBEq, Nat.reduceDiv, bnS, bnN, bnT, spB, vl_dg, W32_dg, unW_wds, wV, sdf, wds_nil, S0n, S0f, ovH, ovI, Nat.reduceLT, if_true, if_false, q0, q1, q2, q3, q4, q5, eH, ovB_nil hp, h0, h1, h2, h3, hk, f00, g00, f01, g01, f02, g02, f03, g03, f04, g04, f10, g10, f11, g11, f12, g12, f13, g13, f14, g14]
        exact ⟨rfl, Nat.le_refl _⟩
    · simp only [↓Br_t, ↓Br_f, ↓Brg_t, ↓Brg_f, bnC, Kseq_app, Nat.reduceMul, Nat.reduceLeDiff, Nat.reduceEqDiff, Nat.reduceLT, Nat.reduceAdd, Nat.reduceSub, ↓reduceIte, implies_true, reduceCtorEq, ne_eq, ↓shr_eq, IntKind.bits, Int.reduceToNat, Int.reducePow, dite_eq_ite, Value.oneCell', Nat.reduceBEq, Nat.reduceDiv, bnS, bnN, bnT, spB, vl_dg, W32_dg, unW_wds, wV, sdf, wds_nil, S0n, S0f, ovH, ovI, Nat.reduceLT, if_true, if_false, q0, q1, q2, q3, q4, q5, eH, h0, h1, h2, h3, hk, f00, g00, f01, g01, f02, g02, f03, g03, f04, g04, f10, g10, f11, g11, f12, g12, f13, g13, f14, g14]
      refine ⟨fun _ => ⟨by omega, by omega, fun h => ?_, fun h => ?_⟩, fun h => absurd h (by simp)⟩
      · have hp : 0 < n.length := by have h := of_decide_eq_true h; omega
        refine DrawC.rows [(0, some (true, [])), (1, some (true, [])), (2, some (true, [])), (3, some (true, [])), (4, some (true, [])), (5, some (true, [])), (6, some (true, [])), (7, some (true, [])), (8, some (true, [])), (9, some (true, [])), (10, some (true, [])), (11, some (true, [])), (12, some (true, [])), (13, some (true, [])), (14, some (true, [])), (15, some (true, [])), (16, some (true, [])), (17, some (true, [])), (18, some (true, [])), (19, some (true, [])), (20, none)] [] [20] (by kernel_rfl) ?_
        simp only [↓Br_t, ↓Br_f, ↓Brg_t, ↓Brg_f, bnC, Kseq_app, Nat.reduceMul, Nat.reduceLeDiff, Nat.reduceEqDiff, Nat.reduceLT, Nat.reduceAdd, Nat.reduceSub, ↓reduceIte, implies_true, reduceCtorEq, ne_eq, ↓shr_eq, IntKind.bits, Int.reduceToNat, Int.reducePow, dite_eq_ite, Value.oneCell', Nat.reduceBEq, Nat.reduceDiv, bnS, bnN, bnT, spB, vl_dg, W32_dg, unW_wds, wV, sdf, wds_nil, S0n, S0f, ovH, ovI, Nat.reduceLT, if_true, if_false, q0, q1, q2, q3, q4, q5, eH, ov_set hp, h0, h1, h2, h3, hk, f00, g00, f01, g01, f02, g02, f03, g03, f04, g04, f10, g10, f11, g11, f12, g12, f13, g13, f14, g14]
        have hx8 := xor8 (n ++ mk 70) (n.length / 2)
        have hl8 : n.length / 2 < (n ++ mk 70).length := by rw [List.length_append]; omega
        repeat (with_reducible refine And.intro ?_ ?_; · first | omega | (constructor <;> omega))
        refine Again.intro 2 (by omega) (by omega) ?_
        simp only [↓Br_t, ↓Br_f, ↓Brg_t, ↓Brg_f, bnC, Kseq_app, Nat.reduceMul, Nat.reduceLeDiff, Nat.reduceEqDiff, Nat.reduceLT, Nat.reduceAdd, Nat.reduceSub, ↓reduceIte, implies_true, reduceCtorEq, ne_eq, ↓shr_eq, IntKind.bits, Int.reduceToNat, Int.reducePow, dite_eq_ite, Value.oneCell', Nat.reduceBEq, Nat.reduceDiv, bnS, bnN, bnT, spB, vl_dg, W32_dg, unW_wds, wV, sdf, wds_nil, S0n, S0f, ovH, ovI, Nat.reduceLT, if_true, if_false, q0, q1, q2, q3, q4, q5, eH, ov_set hp, h0, h1, h2, h3, hk, f00, g00, f01, g01, f02, g02, f03, g03, f04, g04, f10, g10, f11, g11, f12, g12, f13, g13, f14, g14]
        exact ⟨rfl, Nat.le_refl _⟩
      · have hp : ¬ 0 < n.length := by have h := of_decide_eq_false h; omega
        refine ⟨by constructor <;> omega, Again.intro 2 (by omega) (by omega) ?_⟩
        simp only [↓Br_t, ↓Br_f, ↓Brg_t, ↓Brg_f, bnC, Kseq_app, Nat.reduceMul, Nat.reduceLeDiff, Nat.reduceEqDiff, Nat.reduceLT, Nat.reduceAdd, Nat.reduceSub, ↓reduceIte, implies_true, reduceCtorEq, ne_eq, ↓shr_eq, IntKind.bits, Int.reduceToNat, Int.reducePow, dite_eq_ite, Value.oneCell', Nat.reduceBEq, Nat.reduceDiv, bnS, bnN, bnT, spB, vl_dg, W32_dg, unW_wds, wV, sdf, wds_nil, S0n, S0f, ovH, ovI, Nat.reduceLT, if_true, if_false, q0, q1, q2, q3, q4, q5, eH, ovB_nil hp, h0, h1, h2, h3, hk, f00, g00, f01, g01, f02, g02, f03, g03, f04, g04, f10, g10, f11, g11, f12, g12, f13, g13, f14, g14]
        exact ⟨rfl, Nat.le_refl _⟩
    · simp only [↓Br_t, ↓Br_f, ↓Brg_t, ↓Brg_f, bnC, Kseq_app, Nat.reduceMul, Nat.reduceLeDiff, Nat.reduceEqDiff, Nat.reduceLT, Nat.reduceAdd, Nat.reduceSub, ↓reduceIte, implies_true, reduceCtorEq, ne_eq, ↓shr_eq, IntKind.bits, Int.reduceToNat, Int.reducePow, dite_eq_ite, Value.oneCell', Nat.reduceBEq, Nat.reduceDiv, bnS, bnN, bnT, spB, vl_dg, W32_dg, unW_wds, wV, sdf, wds_nil, S0n, S0f, ovH, ovI, Nat.reduceLT, if_true, if_false, q0, q1, q2, q3, q4, q5, eH, h0, h1, h2, h3, hk, f00, g00, f01, g01, f02, g02, f03, g03, f04, g04, f10, g10, f11, g11, f12, g12, f13, g13, f14, g14]
      refine ⟨fun _ => ⟨by omega, by omega, fun h => ?_, fun h => ?_⟩, fun h => absurd h (by simp)⟩
      · have hp : 0 < e.length := by have h := of_decide_eq_true h; omega
        refine DrawC.rows [(0, some (true, [])), (1, some (true, [])), (2, some (true, [])), (3, some (true, [])), (4, some (true, [])), (5, some (true, [])), (6, some (true, [])), (7, some (true, [])), (8, some (true, [])), (9, some (true, [])), (10, some (true, [])), (11, some (true, [])), (12, some (true, [])), (13, some (true, [])), (14, some (true, [])), (15, some (true, [])), (16, some (true, [])), (17, some (true, [])), (18, some (true, [])), (19, some (true, [])), (20, none)] [] [20] (by kernel_rfl) ?_
        simp only [↓Br_t, ↓Br_f, ↓Brg_t, ↓Brg_f, bnC, Kseq_app, Nat.reduceMul, Nat.reduceLeDiff, Nat.reduceEqDiff, Nat.reduceLT, Nat.reduceAdd, Nat.reduceSub, ↓reduceIte, implies_true, reduceCtorEq, ne_eq, ↓shr_eq, IntKind.bits, Int.reduceToNat, Int.reducePow, dite_eq_ite, Value.oneCell', Nat.reduceBEq, Nat.reduceDiv, bnS, bnN, bnT, spB, vl_dg, W32_dg, unW_wds, wV, sdf, wds_nil, S0n, S0f, ovH, ovI, Nat.reduceLT, if_true, if_false, q0, q1, q2, q3, q4, q5, eH, ov_set hp, h0, h1, h2, h3, hk, f00, g00, f01, g01, f02, g02, f03, g03, f04, g04, f10, g10, f11, g11, f12, g12, f13, g13, f14, g14]
        have hx8 := xor8 (e ++ mk 70) (e.length / 2)
        have hl8 : e.length / 2 < (e ++ mk 70).length := by rw [List.length_append]; omega
        repeat (with_reducible refine And.intro ?_ ?_; · first | omega | (constructor <;> omega))
        refine Again.intro 3 (by omega) (by omega) ?_
        simp only [↓Br_t, ↓Br_f, ↓Brg_t, ↓Brg_f, bnC, Kseq_app, Nat.reduceMul, Nat.reduceLeDiff, Nat.reduceEqDiff, Nat.reduceLT, Nat.reduceAdd, Nat.reduceSub, ↓reduceIte, implies_true, reduceCtorEq, ne_eq, ↓shr_eq, IntKind.bits, Int.reduceToNat, Int.reducePow, dite_eq_ite, Value.oneCell', Nat.reduceBEq, Nat.reduceDiv, bnS, bnN, bnT, spB, vl_dg, W32_dg, unW_wds, wV, sdf, wds_nil, S0n, S0f, ovH, ovI, Nat.reduceLT, if_true, if_false, q0, q1, q2, q3, q4, q5, eH, ov_set hp, h0, h1, h2, h3, hk, f00, g00, f01, g01, f02, g02, f03, g03, f04, g04, f10, g10, f11, g11, f12, g12, f13, g13, f14, g14]
        exact ⟨rfl, Nat.le_refl _⟩
      · have hp : ¬ 0 < e.length := by have h := of_decide_eq_false h; omega
        refine ⟨by constructor <;> omega, Again.intro 3 (by omega) (by omega) ?_⟩
        simp only [↓Br_t, ↓Br_f, ↓Brg_t, ↓Brg_f, bnC, Kseq_app, Nat.reduceMul, Nat.reduceLeDiff, Nat.reduceEqDiff, Nat.reduceLT, Nat.reduceAdd, Nat.reduceSub, ↓reduceIte, implies_true, reduceCtorEq, ne_eq, ↓shr_eq, IntKind.bits, Int.reduceToNat, Int.reducePow, dite_eq_ite, Value.oneCell', Nat.reduceBEq, Nat.reduceDiv, bnS, bnN, bnT, spB, vl_dg, W32_dg, unW_wds, wV, sdf, wds_nil, S0n, S0f, ovH, ovI, Nat.reduceLT, if_true, if_false, q0, q1, q2, q3, q4, q5, eH, ovB_nil hp, h0, h1, h2, h3, hk, f00, g00, f01, g01, f02, g02, f03, g03, f04, g04, f10, g10, f11, g11, f12, g12, f13, g13, f14, g14]
        exact ⟨rfl, Nat.le_refl _⟩
    · simp only [↓Br_t, ↓Br_f, ↓Brg_t, ↓Brg_f, bnC, Kseq_app, Nat.reduceMul, Nat.reduceLeDiff, Nat.reduceEqDiff, Nat.reduceLT, Nat.reduceAdd, Nat.reduceSub, ↓reduceIte, implies_true, reduceCtorEq, ne_eq, ↓shr_eq, IntKind.bits, Int.reduceToNat, Int.reducePow, dite_eq_ite, Value.oneCell', Nat.reduceBEq, Nat.reduceDiv, bnS, bnN, bnT, spB, vl_dg, W32_dg, unW_wds, wV, sdf, wds_nil, S0n, S0f, ovH, ovI, Nat.reduceLT, if_true, if_false, q0, q1, q2, q3, q4, q5, eH, h0, h1, h2, h3, hk, f00, g00, f01, g01, f02, g02, f03, g03, f04, g04, f10, g10, f11, g11, f12, g12, f13, g13, f14, g14]
      refine ⟨fun _ => ⟨by omega, by omega, fun h => ?_, fun h => ?_⟩, fun h => absurd h (by simp)⟩
      · have hp : 0 < x.length := by have h := of_decide_eq_true h; omega
        refine DrawC.rows [(0, some (true, [])), (1, some (true, [])), (2, some (true, [])), (3, some (true, [])), (4, some (true, [])), (5, some (true, [])), (6, some (true, [])), (7, some (true, [])), (8, some (true, [])), (9, some (true, [])), (10, some (true, [])), (11, some (true, [])), (12, some (true, [])), (13, some (true, [])), (14, some (true, [])), (15, some (true, [])), (16, some (true, [])), (17, some (true, [])), (18, some (true, [])), (19, some (true, [])), (20, none)] [] [20] (by kernel_rfl) ?_
        simp only [↓Br_t, ↓Br_f, ↓Brg_t, ↓Brg_f, bnC, Kseq_app, Nat.reduceMul, Nat.reduceLeDiff, Nat.reduceEqDiff, Nat.reduceLT, Nat.reduceAdd, Nat.reduceSub, ↓reduceIte, implies_true, reduceCtorEq, ne_eq, ↓shr_eq, IntKind.bits, Int.reduceToNat, Int.reducePow, dite_eq_ite, Value.oneCell', Nat.reduceBEq, Nat.reduceDiv, bnS, bnN, bnT, spB, vl_dg, W32_dg, unW_wds, wV, sdf, wds_nil, S0n, S0f, ovH, ovI, Nat.reduceLT, if_true, if_false, q0, q1, q2, q3, q4, q5, eH, ov_set hp, h0, h1, h2, h3, hk, f00, g00, f01, g01, f02, g02, f03, g03, f04, g04, f10, g10, f11, g11, f12, g12, f13, g13, f14, g14]
        have hx8 := xor8 (x ++ mk 70) (x.length / 2)
        have hl8 : x.length / 2 < (x ++ mk 70).length := by rw [List.length_append]; omega
        repeat (with_reducible refine And.intro ?_ ?_; · first | omega | (constructor <;> omega))
        refine Again.intro 4 (by omega) (by omega) ?_
        simp only [↓Br_t, ↓Br_f, ↓Brg_t, ↓Brg_f, bnC, Kseq_app, Nat.reduceMul, Nat.reduceLeDiff, Nat.reduceEqDiff, Nat.reduceLT, Nat.reduceAdd, Nat.reduceSub, ↓reduceIte, implies_true, reduceCtorEq, ne_eq, ↓shr_eq, IntKind.bits, Int.reduceToNat, Int.reducePow, dite_eq_ite, Value.oneCell', Nat.reduceBEq, Nat.reduceDiv, bnS, bnN, bnT, spB, vl_dg, W32_dg, unW_wds, wV, sdf, wds_nil, S0n, S0f, ovH, ovI, Nat.reduceLT, if_true, if_false, q0, q1, q2, q3, q4, q5, eH, ov_set hp, h0, h1, h2, h3, hk, f00, g00, f01, g01, f02, g02, f03, g03, f04, g04, f10, g10, f11, g11, f12, g12, f13, g13, f14, g14]
        exact ⟨rfl, Nat.le_refl _⟩
      · have hp : ¬ 0 < x.length := by have h := of_decide_eq_false h; omega
        refine ⟨by constructor <;> omega, Again.intro 4 (by omega) (by omega) ?_⟩
        simp only [↓Br_t, ↓Br_f, ↓Brg_t, ↓Brg_f, bnC, Kseq_app, Nat.reduceMul, Nat.reduceLeDiff, Nat.reduceEqDiff, Nat.reduceLT, Nat.reduceAdd, Nat.reduceSub, ↓reduceIte, implies_true, reduceCtorEq, ne_eq, ↓shr_eq, IntKind.bits, Int.reduceToNat, Int.reducePow, dite_eq_ite, Value.oneCell', Nat.reduceBEq, Nat.reduceDiv, bnS, bnN, bnT, spB, vl_dg, W32_dg, unW_wds, wV, sdf, wds_nil, S0n, S0f, ovH, ovI, Nat.reduceLT, if_true, if_false, q0, q1, q2, q3, q4, q5, eH, ovB_nil hp, h0, h1, h2, h3, hk, f00, g00, f01, g01, f02, g02, f03, g03, f04, g04, f10, g10, f11, g11, f12, g12, f13, g13, f14, g14]
        exact ⟨rfl, Nat.le_refl _⟩
    · simp only [↓Br_t, ↓Br_f, ↓Brg_t, ↓Brg_f, bnC, Kseq_app, Nat.reduceMul, Nat.reduceLeDiff, Nat.reduceEqDiff, Nat.reduceLT, Nat.reduceAdd, Nat.reduceSub, ↓reduceIte, implies_true, reduceCtorEq, ne_eq, ↓shr_eq, IntKind.bits, Int.reduceToNat, Int.reducePow, dite_eq_ite, Value.oneCell', Nat.reduceBEq, Nat.reduceDiv, bnS, bnN, bnT, spB, vl_dg, W32_dg, unW_wds, wV, sdf, wds_nil, S0n, S0f, ovH, ovI, Nat.reduceLT, if_true, if_false, q0, q1, q2, q3, q4, q5, eH, h0, h1, h2, h3, hk, f00, g00, f01, g01, f02, g02, f03, g03, f04, g04, f10, g10, f11, g11, f12, g12, f13, g13, f14, g14]
      refine ⟨fun _ => ⟨by omega, by omega, fun h => ?_, fun h => ?_⟩, fun h => absurd h (by simp)⟩
      · have hp : 0 < y.length := by have h := of_decide_eq_true h; omega
        refine DrawC.rows [(0, some (true, [])), (1, some (true, [])), (2, some (true, [])), (3, some (true, [])), (4, some (true, [])), (5, some (true, [])), (6, some (true, [])), (7, some (true, [])), (8, some (true, [])), (9, some (true, [])), (10, some (true, [])), (11, some (true, [])), (12, some (true, [])), (13, some (true, [])), (14, some (true, [])), (15, some (true, [])), (16, some (true, [])), (17, some (true, [])), (18, some (true, [])), (19, some (true, [])), (20, none)] [] [20] (by kernel_rfl) ?_
        simp only [↓Br_t, ↓Br_f, ↓Brg_t, ↓Brg_f, bnC, Kseq_app, Nat.reduceMul, Nat.reduceLeDiff, Nat.reduceEqDiff, Nat.reduceLT, Nat.reduceAdd, Nat.reduceSub, ↓reduceIte, implies_true, reduceCtorEq, ne_eq, ↓shr_eq, IntKind.bits, Int.reduceToNat, Int.reducePow, dite_eq_ite, Value.oneCell', Nat.reduceBEq, Nat.reduceDiv, bnS, bnN, bnT, spB, vl_dg, W32_dg, unW_wds, wV, sdf, wds_nil, S0n, S0f, ovH, ovI, Nat.reduceLT, if_true, if_false, q0, q1, q2, q3, q4, q5, eH, ov_set hp, h0, h1, h2, h3, hk, f00, g00, f01, g01, f02, g02, f03, g03, f04, g04, f10, g10, f11, g11, f12, g12, f13, g13, f14, g14]
        have hx8 := xor8 (y ++ mk 70) (y.length / 2)
        have hl8 : y.length / 2 < (y ++ mk 70).length := by rw [List.length_append]; omega
        repeat (with_reducible refine And.intro ?_ ?_; · first | omega | (constructor <;> omega))
        refine Again.intro 5 (by omega) (by omega) ?_
        simp only [↓Br_t, ↓Br_f, ↓Brg_t, ↓Brg_f, bnC, Kseq_app, Nat.reduceMul, Nat.reduceLeDiff, Nat.reduceEqDiff, Nat.reduceLT, Nat.reduceAdd, Nat.reduceSub, ↓reduceIte, implies_true, reduceCtorEq, ne_eq, ↓shr_eq, IntKind.bits, Int.reduceToNat, Int.reducePow, dite_eq_ite, Value.oneCell', Nat.reduceBEq, Nat.reduceDiv, bnS, bnN, bnT, spB, vl_dg, W32_dg, unW_wds, wV, sdf, wds_nil, S0n, S0f, ovH, ovI, Nat.reduceLT, if_true, if_false, q0, q1, q2, q3, q4, q5, eH, ov_set hp, h0, h1, h2, h3, hk, f00, g00, f01, g01, f02, g02, f03, g03, f04, g04, f10, g10, f11, g11, f12, g12, f13, g13, f14, g14]
        exact ⟨rfl, Nat.le_refl _⟩
      · have hp : ¬ 0 < y.length := by have h := of_decide_eq_false h; omega
        refine ⟨by constructor <;> omega, Again.intro 5 (by omega) (by omega) ?_⟩
        simp only [↓Br_t, ↓Br_f, ↓Brg_t, ↓Brg_f, bnC, Kseq_app, Nat.reduceMul, Nat.reduceLeDiff, Nat.reduceEqDiff, Nat.reduceLT, Nat.reduceAdd, Nat.reduceSub, ↓reduceIte, implies_true, reduceCtorEq, ne_eq, ↓shr_eq, IntKind.bits, Int.reduceToNat, Int.reducePow, dite_eq_ite, Value.oneCell', Nat.reduceBEq, Nat.reduceDiv, bnS, bnN, bnT, spB, vl_dg, W32_dg, unW_wds, wV, sdf, wds_nil, S0n, S0f, ovH, ovI, Nat.reduceLT, if_true, if_false, q0, q1, q2, q3, q4, q5, eH, ovB_nil hp, h0, h1, h2, h3, hk, f00, g00, f01, g01, f02, g02, f03, g03, f04, g04, f10, g10, f11, g11, f12, g12, f13, g13, f14, g14]
        exact ⟨rfl, Nat.le_refl _⟩
    · simp only [↓Br_t, ↓Br_f, ↓Brg_t, ↓Brg_f, bnC, Kseq_app, Nat.reduceMul, Nat.reduceLeDiff, Nat.reduceEqDiff, Nat.reduceLT, Nat.reduceAdd, Nat.reduceSub, ↓reduceIte, implies_true, reduceCtorEq, ne_eq, ↓shr_eq, IntKind.bits, Int.reduceToNat, Int.reducePow, dite_eq_ite, Value.oneCell', Nat.reduceBEq, Nat.reduceDiv, bnS, bnN, bnT, spB, vl_dg, W32_dg, unW_wds, wV, sdf, wds_nil, S0n, S0f, ovH, ovI, Nat.reduceLT, if_true, if_false, q0, q1, q2, q3, q4, q5, eH, h0, h1, h2, h3, hk, f00, g00, f01, g01, f02, g02, f03, g03, f04, g04, f10, g10, f11, g11, f12, g12, f13, g13, f14, g14]
      refine ⟨fun h => absurd h (by simp), fun _ => ?_⟩
      refine RenC.intro [] ⟨[], lenH k (ovB s) (ovB n) (ovB e) (ovB x) (ovB y), nx⟩ ?_ ?_
      · simp only [↓Br_t, ↓Br_f, ↓Brg_t, ↓Brg_f, bnC, Kseq_app, Nat.reduceMul, Nat.reduceLeDiff, Nat.reduceEqDiff, Nat.reduceLT, Nat.reduceAdd, Nat.reduceSub, ↓reduceIte, implies_true, reduceCtorEq, ne_eq, ↓shr_eq, IntKind.bits, Int.reduceToNat, Int.reducePow, dite_eq_ite, Value.oneCell', Nat.reduceBEq, Nat.reduceDiv, bnS, bnN, bnT, spB, vl_dg, W32_dg, unW_wds, wV, sdf, wds_nil, lenH, h0, h1, h2, h3, hk, f00, g00, f01, g01, f02, g02, f03, g03, f04, g04, f10, g10, f11, g11, f12, g12, f13, g13, f14, g14]
        exact Nat.le_refl _
      · simp only [↓Br_t, ↓Br_f, ↓Brg_t, ↓Brg_f, bnC, Kseq_app, Nat.reduceMul, Nat.reduceLeDiff, Nat.reduceEqDiff, Nat.reduceLT, Nat.reduceAdd, Nat.reduceSub, ↓reduceIte, implies_true, reduceCtorEq, ne_eq, ↓shr_eq, IntKind.bits, Int.reduceToNat, Int.reducePow, dite_eq_ite, Value.oneCell', Nat.reduceBEq, Nat.reduceDiv, bnS, bnN, bnT, spB, vl_dg, W32_dg, unW_wds, wV, sdf, wds_nil, lenH, h0, h1, h2, h3, hk, f00, g00, f01, g01, f02, g02, f03, g03, f04, g04, f10, g10, f11, g11, f12, g12, f13, g13, f14, g14]
        exact Nat.le_refl _
end Go.Proofs.YtmpklnhmempmgaaGreatDoor
