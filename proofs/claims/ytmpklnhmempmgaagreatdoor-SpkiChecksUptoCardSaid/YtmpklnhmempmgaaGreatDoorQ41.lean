/- The reference's Ed25519: the point of 32 bytes. -/
import Derived.Test.YtmpklnhmempmgaaGreatDoorQ40
namespace Go.Proofs.YtmpklnhmempmgaaGreatDoor
open Go.RowKit
set_option linter.unusedSimpArgs false
set_option maxRecDepth 100000
def REgaf : FuncId → List V → Option (List Prop × Bool × V) := fun f args =>
  if f = 39 then match args with
    | [] => some ([], false, wV (dg p25519))
    | _ => none
  else if f = 44 then match args with
    | [] => some ([], false, wV (dg curveN))
    | _ => none
  else if f = 48 then match args with
    | [] => some ([], false, wV (dg rootN))
    | _ => none
  else if f = 40 then match args with
    | [.sq 1 dx Lx, .sq 1 dy Ly] => some ([dx = .val (.int .u32 0), Lx = wds (unW Lx), dy = .val (.int .u32 0), Ly = wds (unW Ly), S7 (unW Lx), S7 (unW Ly)], false, wV (dg (mulP (vl (unW Lx)) (vl (unW Ly)))))
    | _ => none
  else if f = 43 then match args with
    | [.sq 1 dx Lx, .sq 1 dy Ly] => some ([dx = .val (.int .u32 0), Lx = wds (unW Lx), dy = .val (.int .u32 0), Ly = wds (unW Ly), S7 (unW Lx), S7 (unW Ly)], false, wV (dg (addP (vl (unW Lx)) (vl (unW Ly)))))
    | _ => none
  else if f = 41 then match args with
    | [.sq 1 dx Lx, .sq 1 dy Ly] => some ([dx = .val (.int .u32 0), Lx = wds (unW Lx), dy = .val (.int .u32 0), Ly = wds (unW Ly), S7 (unW Lx), S7 (unW Ly), vl (unW Lx) < p25519, vl (unW Ly) < p25519, (unW Ly) = dg (vl (unW Ly))], false, wV (dg (subP (vl (unW Lx)) (vl (unW Ly)))))
    | _ => none
  else if f = 47 then match args with
    | [.sq 1 da La, .sq 1 de Le] => some ([da = .val (.int .u32 0), La = wds (unW La), de = .val (.int .u32 0), Le = wds (unW Le), (unW La) = dg (vl (unW La)), vl (unW La) < p25519, (unW Le) = dg (vl (unW Le)), (unW Le).length ≤ 1000], false, wV (dg (powP (vl (unW La)) (vl (unW Le)))))
    | _ => none
  else if f = 42 then match args with
    | [.sq 1 da La] => some ([da = .val (.int .u32 0), La = wds (unW La), (unW La) = dg (vl (unW La)), vl (unW La) < p25519], false, wV (dg (invP (vl (unW La)))))
    | _ => none
  else none
def REga (J : Inv) : Sig := ⟨J, sdf, REgaf, noH, 0⟩
theorem REga_ok (J : Inv) : SigOk Tryz.prog (REga J) := by
  refine .plain fun f args l fr r h hl => ?_
  change REgaf f args = some (l, fr, r) at h
  unfold REgaf at h
  split at h
  · rename_i hf; subst hf
    split at h
    · obtain ⟨rfl, rfl, rfl⟩ := jsome_tri h
      have hp := P13_fn J
      exact hp
    · exact absurd h (by simp)
  · split at h
    · rename_i hf; subst hf
      split at h
      · obtain ⟨rfl, rfl, rfl⟩ := jsome_tri h
        have hp := curve13_fn J
        exact hp
      · exact absurd h (by simp)
    · split at h
      · rename_i hf; subst hf
        split at h
        · obtain ⟨rfl, rfl, rfl⟩ := jsome_tri h
          have hp := root13_fn J
          exact hp
        · exact absurd h (by simp)
      · split at h
        · rename_i hf; subst hf
          split at h
          · rename_i dx Lx dy Ly
            obtain ⟨rfl, rfl, rfl⟩ := jsome_tri h
            obtain ⟨qdx, qlx, qdy, qly, c0, c1, -⟩ := hl.un
            subst qdx qdy
            have hp := mul13_fn J (unW Lx) (unW Ly) c0 c1
            unfold wV at hp
            rw [← qlx, ← qly] at hp
            exact hp
          · exact absurd h (by simp)
        · split at h
          · rename_i hf; subst hf
            split at h
            · rename_i dx Lx dy Ly
              obtain ⟨rfl, rfl, rfl⟩ := jsome_tri h
              obtain ⟨qdx, qlx, qdy, qly, c0, c1, -⟩ := hl.un
              subst qdx qdy
              have hp := add13_fn J (unW Lx) (unW Ly) c0 c1
              unfold wV at hp
              rw [← qlx, ← qly] at hp
              exact hp
            · exact absurd h (by simp)
          · split at h
            · rename_i hf; subst hf
              split at h
              · rename_i dx Lx dy Ly
                obtain ⟨rfl, rfl, rfl⟩ := jsome_tri h
                obtain ⟨qdx, qlx, qdy, qly, c0, c1, c2, c3, c4, -⟩ := hl.un
                subst qdx qdy
                have hp := sub13_fn J (unW Lx) (unW Ly) c0 c1 c2 c3 c4
                unfold wV at hp
                rw [← qlx, ← qly] at hp
                exact hp
              · exact absurd h (by simp)
            · split at h
              · rename_i hf; subst hf
                split at h
                · rename_i da La de Le
                  obtain ⟨rfl, rfl, rfl⟩ := jsome_tri h
                  obtain ⟨qda, qla, qde, qle, c0, c1, c2, c3, -⟩ := hl.un
                  subst qda qde
                  have hp := (by have h := power13_fn J (vl (unW La)) (vl (unW Le)) c1 (by rw [← c2]; exact c3); rwa [← c0, ← c2] at h)
                  unfold wV at hp
                  rw [← qla, ← qle] at hp
                  exact hp
                · exact absurd h (by simp)
              · split at h
                · rename_i hf; subst hf
                  split at h
                  · rename_i da La
                    obtain ⟨rfl, rfl, rfl⟩ := jsome_tri h
                    obtain ⟨qda, qla, c0, c1, -⟩ := hl.un
                    subst qda
                    have hp := (by have h := inverse13_fn J (vl (unW La)) c1; rwa [← c0] at h)
                    unfold wV at hp
                    rw [← qla] at hp
                    exact hp
                  · exact absurd h (by simp)
                · exact absurd h (by simp)
def REgbf : FuncId → List V → Option (List Prop × Bool × V) := fun f args =>
  if f = 37 then match args with
    | [.by b] => some ([b.length ≤ 1048576], false, wV (dg (leN b)))
    | _ => none
  else if f = 46 then match args with
    | [.sq 1 da La, .sq 1 db Lb] => some ([da = .val (.int .u32 0), La = wds (unW La), db = .val (.int .u32 0), Lb = wds (unW Lb), (unW La).length ≤ 1048576, (unW Lb).length ≤ 1048576, W32 (unW La), W32 (unW Lb)], false, wV (dg (vl (unW La) + vl (unW Lb))))
    | _ => none
  else if f = 50 then match args with
    | [.sq 1 da La, .sq 1 db Lb] => some ([da = .val (.int .u32 0), La = wds (unW La), db = .val (.int .u32 0), Lb = wds (unW Lb), (unW La).length ≤ 1048576, (unW Lb).length ≤ (unW La).length, W32 (unW La), W32 (unW Lb), vl (unW Lb) ≤ vl (unW La)], false, wV (dg (vl (unW La) - vl (unW Lb))))
    | _ => none
  else if f = 38 then match args with
    | [.sq 1 da La, .sq 1 db Lb] => some ([da = .val (.int .u32 0), La = wds (unW La), db = .val (.int .u32 0), Lb = wds (unW Lb), (unW La).length ≤ 67108864, (unW Lb).length ≤ 67108864, W32 (unW La), W32 (unW Lb)], false, .i (cmp3 (vl (unW La)) (vl (unW Lb))))
    | _ => none
  else if f = 49 then match args with
    | [.sq 1 dl Ll, .val (.int .i64 n)] => some ([dl = .val (.int .u32 0), Ll = wds (unW Ll), 0 ≤ n, n < 4294967296, W32 (unW Ll)], false, .bb (tb (vl (unW Ll)) n.toNat))
    | _ => none
  else if f = 45 then match args with
    | [.sq 1 da La, .sq 1 dd Ld] => some ([da = .val (.int .u32 0), La = wds (unW La), dd = .val (.int .u32 0), Ld = wds (unW Ld), (unW La).length ≤ 1048576, (unW Ld).length ≤ 1048576, W32 (unW La), W32 (unW Ld), vl (unW Ld) ≠ 0], false, .tu [wV (dg (vl (unW La) / vl (unW Ld))), wV (dg (vl (unW La) % vl (unW Ld)))])
    | _ => none
  else REgaf f args
def REgb (J : Inv) : Sig := ⟨J, sdf, REgbf, noH, 0⟩
theorem REgb_ok (J : Inv) : SigOk Tryz.prog (REgb J) := by
  refine .plain fun f args l fr r h hl => ?_
  change REgbf f args = some (l, fr, r) at h
  unfold REgbf at h
  split at h
  · rename_i hf; subst hf
    split at h
    · rename_i b
      obtain ⟨rfl, rfl, rfl⟩ := jsome_tri h
      obtain ⟨c0, -⟩ := hl.un
      have hp := little_fn J b c0
      exact hp
    · exact absurd h (by simp)
  · split at h
    · rename_i hf; subst hf
      split at h
      · rename_i da La db Lb
        obtain ⟨rfl, rfl, rfl⟩ := jsome_tri h
        obtain ⟨qda, qla, qdb, qlb, c0, c1, c2, c3, -⟩ := hl.un
        subst qda qdb
        have hp := plus7_fn J (unW La) (unW Lb) c0 c1 c2 c3
        unfold wV at hp
        rw [← qla, ← qlb] at hp
        exact hp
      · exact absurd h (by simp)
    · split at h
      · rename_i hf; subst hf
        split at h
        · rename_i da La db Lb
          obtain ⟨rfl, rfl, rfl⟩ := jsome_tri h
          obtain ⟨qda, qla, qdb, qlb, c0, c1, c2, c3, c4, -⟩ := hl.un
          subst qda qdb
          have hp := minus7_fn J (unW La) (unW Lb) c0 c1 c2 c3 c4
          unfold wV at hp
          rw [← qla, ← qlb] at hp
          exact hp
        · exact absurd h (by simp)
      · split at h
        · rename_i hf; subst hf
          split at h
          · rename_i da La db Lb
            obtain ⟨rfl, rfl, rfl⟩ := jsome_tri h
            obtain ⟨qda, qla, qdb, qlb, c0, c1, c2, c3, -⟩ := hl.un
            subst qda qdb
            have hp := cmp7_fn J (unW La) (unW Lb) c0 c1 c2 c3
            unfold wV at hp
            rw [← qla, ← qlb] at hp
            exact hp
          · exact absurd h (by simp)
        · split at h
          · rename_i hf; subst hf
            split at h
            · rename_i dl Ll n
              obtain ⟨rfl, rfl, rfl⟩ := jsome_tri h
              obtain ⟨qdl, qll, c0, c1, c2, -⟩ := hl.un
              subst qdl
              have hp := (by have h := bit7_fn J (unW Ll) n.toNat (by omega) c2; rwa [show V.i (n.toNat : Int) = .val (.int .i64 n) by unfold V.i; rw [Int.toNat_of_nonneg c0]] at h)
              unfold wV at hp
              rw [← qll] at hp
              exact hp
            · exact absurd h (by simp)
          · split at h
            · rename_i hf; subst hf
              split at h
              · rename_i da La dd Ld
                obtain ⟨rfl, rfl, rfl⟩ := jsome_tri h
                obtain ⟨qda, qla, qdd, qld, c0, c1, c2, c3, c4, -⟩ := hl.un
                subst qda qdd
                have hp := divide7_fn J (unW La) (unW Ld) c0 c1 c2 c3 c4
                unfold wV at hp
                rw [← qla, ← qld] at hp
                exact hp
              · exact absurd h (by simp)
            · exact (REga_ok J ).1 f args l fr r h hl
def edX3 (y : Nat) (odd : Bool) : Nat := if (edX1 y % 2 == 1) = odd then edX1 y else p25519 - edX1 y
def edPt13 (b : List UInt8) : V := if edOk b = true then .st [wV (dg (edX3 (edYb b) (edOdd b))), wV (dg (edYb b)), .bb false] else .st [.val (.slice none 0 0), .val (.slice none 0 0), .bb false]
theorem edPt13_cl (b : List UInt8) : (edPt13 b).cl = true := by unfold edPt13; split <;> simp [V.cl, clL, wV, wds_cl]
theorem odd_eq (b : List UInt8) : (byteAt b 31 / 128 == 1) = edOdd b := by
  unfold edOdd
  have e : byteAt b 31 = (((b.getD 31 0).toNat : Nat) : Int) := rfl
  have hlt := (b.getD 31 0).toNat_lt
  rw [e, show (128 : Int) = ((128 : Nat) : Int) from rfl, and_u8 (by omega) (by omega)]
  generalize (b.getD 31 0).toNat = n at *
  have h : ∀ n, n < 256 → ((n / 128 == 1) = !(n &&& 128 == 0)) := by decide
  have h := h n hlt
  rw [Bool.eq_iff_iff] at h ⊢
  simp only [beq_iff_eq, Bool.not_eq_true', beq_eq_false_iff_ne] at h ⊢
  omega
theorem decode13_fn (J : Inv) (b : List UInt8) : Fn Tryz.prog J 21 false [.by b] (.tu [edPt13 b, .i (edCo b)]) := by
  refine Fn.of_plain (nx := 20) (post := []) ?_ (by have := edPt13_cl b; simp [V.cl, clL, V.i, this])
  refine fnH_introC Tryz.func21 rfl (by kernel_rfl) (Nat.le_of_ble_eq_true (by kernel_rfl)) (by kernel_rfl) (by kernel_rfl) (REgb_ok J) rfl ?_
  unfold Tryz.f21
  have u1 : unW [V.val (.int .u32 1)] = [1] := rfl
  have u3 : unW [V.val (.int .u32 3)] = [3] := rfl
  have u8' : unW [V.val (.int .u32 8)] = [8] := rfl
  have v1 : vl [1] = 1 := vl_one 1
  have v3 : vl [3] = 3 := vl_one 3
  have v8 : vl [8] = 8 := vl_one 8
  have hY : leN (b.set 31 (u8 (bt .and .u8 (byteAt b 31) 127))) = edYb b := rfl
  simp only [↓Br_t, ↓Br_f, ↓Brg_t, ↓Brg_f, bnC, Kseq_app, Nat.reduceMul, Nat.reduceLeDiff, Nat.reduceEqDiff, Nat.reduceLT, Nat.reduceAdd, Nat.reduceSub, ↓reduceIte, implies_true, reduceCtorEq, ne_eq, ↓shr_eq, IntKind.bits, Int.reduceToNat, Int.reducePow, dite_eq_ite, Value.oneCell', Nat.reduceBEq, Nat.reduceDiv, bnS, bnN, bnT, spB, vl_dg, W32_dg, unW_wds, wV, sdf, wds_nil, REgb, REgbf, REgaf, List.length_set, cmp3_ge, cmp3_zero, u1, u3, u8', v1, v3, v8, hY, odd_eq, tb_zero]
  have hbad : edOk b = false → edPt13 b = .st [.val (.slice none 0 0), .val (.slice none 0 0), .bb false] ∧ edCo b = 93 := fun h2 => by
    unfold edPt13 edCo
    rw [h2]
    exact ⟨rfl, rfl⟩
  refine ⟨fun h => ?_, fun h => ?_⟩
  · have h1 : b.length ≠ 32 := by
      rw [Bool.not_eq_true', beq_eq_false_iff_ne] at h; omega
    obtain ⟨e1, e2⟩ := hbad (by unfold edOk; rw [decide_eq_false h1]; rfl)
    rw [e1, e2]
    refine .inl ?_
    simp only [↓Br_t, ↓Br_f, ↓Brg_t, ↓Brg_f, bnC, Kseq_app, Nat.reduceMul, Nat.reduceLeDiff, Nat.reduceEqDiff, Nat.reduceLT, Nat.reduceAdd, Nat.reduceSub, ↓reduceIte, implies_true, reduceCtorEq, ne_eq, ↓shr_eq, IntKind.bits, Int.reduceToNat, Int.reducePow, dite_eq_ite, Value.oneCell', Nat.reduceBEq, Nat.reduceDiv, bnS, bnN, bnT, spB, vl_dg, W32_dg, unW_wds, wV, sdf, wds_nil]
  · have h1 : b.length = 32 := by
      rw [Bool.not_eq_false', beq_iff_eq] at h; omega
    have hk := and127 b 31
    have hlt : (dg (edYb b)).length ≤ 8 := by
      have h2 := leN_lt (b.set 31 (u8 (bt .and .u8 (byteAt b 31) 127)))
      rw [hY, List.length_set, h1, show (256 : Nat) ^ 32 = 4294967296 ^ 8 by decide] at h2
      exact dg_len h2
    have hpl := p_len
    obtain ⟨hk1, hk2⟩ := hk
    repeat (with_reducible refine And.intro ?_ ?_; · first | omega | assumption)
    refine ⟨fun h2 => ?_, fun h2 => ?_⟩
    · rw [decide_eq_true_eq] at h2
      obtain ⟨e1, e2⟩ := hbad (by unfold edOk; rw [decide_eq_false (show ¬ edYb b < p25519 by omega)]; simp)
      rw [e1, e2]
      refine .inl ?_
      simp only [↓Br_t, ↓Br_f, ↓Brg_t, ↓Brg_f, bnC, Kseq_app, Nat.reduceMul, Nat.reduceLeDiff, Nat.reduceEqDiff, Nat.reduceLT, Nat.reduceAdd, Nat.reduceSub, ↓reduceIte, implies_true, reduceCtorEq, ne_eq, ↓shr_eq, IntKind.bits, Int.reduceToNat, Int.reducePow, dite_eq_ite, Value.oneCell', Nat.reduceBEq, Nat.reduceDiv, bnS, bnN, bnT, spB, vl_dg, W32_dg, unW_wds, wV, sdf, wds_nil]
    · have hy : edYb b < p25519 := by rw [decide_eq_false_iff_not] at h2; omega
      have sY : S7 (dg (edYb b)) := .dg (by omega)
      have t1 : [V.val (.int .u32 1)] = wds [1] := rfl
      have t3 : [V.val (.int .u32 3)] = wds [3] := rfl
      have t8 : [V.val (.int .u32 8)] = wds [8] := rfl
      have s1 : S7 [1] := S7.one 1 (by omega)
      have w3 : W32 [3] := W32.one (by omega)
      have w8 : W32 [8] := W32.one (by omega)
      have hpb := p_big
      have p1 : 1 < p25519 := by omega
      have d1 : [1] = dg 1 := dg_one.symm
      have sC : S7 (dg curveN) := .p curve_lt
      have sm : ∀ a b, S7 (dg (mulP a b)) := fun a b => .p (mulP_lt a b)
      have sa : ∀ a b, S7 (dg (addP a b)) := fun a b => .p (addP_lt a b)
      have ss : ∀ a b, S7 (dg (subP a b)) := fun a b => .p (subP_lt a b)
      have si : ∀ a, S7 (dg (invP a)) := fun a => .p (invP_lt a)
      have l3 := dg_sum_len (x := p25519) (y := 3) (k := 8) hpl (by rw [dg, dif_neg (by omega), show 3 / 4294967296 = 0 from rfl, dg_zero]; simp)
      have l4 := dg_mono (Nat.div_le_self (p25519 + 3) 8)
      have hxx : mulP (subP (mulP (edYb b) (edYb b)) 1) (invP (addP (mulP curveN (mulP (edYb b) (edYb b))) 1)) = edXX (edYb b) := rfl
      have hx0 : powP (edXX (edYb b)) ((p25519 + 3) / 8) = edX0 (edYb b) := by unfold edX0; rw [show 2 ^ 3 = 8 from rfl]
      have hxxl : edXX (edYb b) < p25519 := mulP_lt _ _
      have hx0l : edX0 (edYb b) < p25519 := powP_lt _ _
      have sx0 : S7 (dg (edX0 (edYb b))) := .p hx0l
      have lxx := dgp hxxl
      have lm : ∀ a b, (dg (mulP a b)).length ≤ 67108864 := fun a b => by have := dgp (mulP_lt a b); omega
      simp only [hxx, hx0]
      repeat (with_reducible refine And.intro ?_ ?_; · first | omega | assumption | exact sm _ _ | exact sa _ _ | exact ss _ _ | exact si _ | exact mulP_lt _ _ | exact addP_lt _ _ | (simp only [List.length_singleton]; omega) | exact lm _ _)
      refine ⟨fun h3 => ?_, fun h3 => ?_⟩
      case' refine_1 =>
        have h4 : ¬ mulP (edX0 (edYb b)) (edX0 (edYb b)) = edXX (edYb b) := by rw [Bool.not_eq_true', decide_eq_false_iff_not] at h3; exact h3
        have hx1 : edX1 (edYb b) = mulP (edX0 (edYb b)) rootN := if_neg h4
        rw [← hx1]
        refine ⟨sx0, .p root_lt, ?_⟩
      case' refine_2 =>
        have h4 : mulP (edX0 (edYb b)) (edX0 (edYb b)) = edXX (edYb b) := by rw [Bool.not_eq_false', decide_eq_true_eq] at h3; exact h3
        have hx1 : edX1 (edYb b) = edX0 (edYb b) := if_pos h4
        rw [← hx1]
      all_goals
        have hxl : edX1 (edYb b) < p25519 := by unfold edX1; split <;> first | exact powP_lt _ _ | exact mulP_lt _ _
        clear hx1
        have hb0 : (((dg (edX1 (edYb b))).length : Int) == 0) = decide (edX1 (edYb b) = 0) := by
          rw [Bool.eq_iff_iff, beq_iff_eq, decide_eq_true_eq, ← dg_eq_nil, ← List.length_eq_zero_iff]
          omega
        have hbd : (!decide (mulP (edX1 (edYb b)) (edX1 (edYb b)) = edXX (edYb b)) || (decide (edX1 (edYb b) = 0) && edOdd b)) = edBad (edYb b) (edOdd b) := rfl
        have sx1 : S7 (dg (edX1 (edYb b))) := .p hxl
        have l1 := dgp hxl
        rw [hb0, hbd]
        refine ⟨sx1, sx1, lm _ _, by omega, fun h5 h6 => by rw [h5, h6]; rfl, fun h5 => ?_, fun h5 => ⟨by omega, by omega, fun h6 => ⟨by omega, dg_mono (Nat.le_of_lt hxl), Nat.le_of_lt hxl, ?_⟩, fun h6 => ?_⟩⟩
        · obtain ⟨e1, e2⟩ := hbad (by unfold edOk; rw [h5]; simp)
          rw [e1, e2]
          refine .inl ?_
          simp only [↓Br_t, ↓Br_f, ↓Brg_t, ↓Brg_f, bnC, Kseq_app, Nat.reduceMul, Nat.reduceLeDiff, Nat.reduceEqDiff, Nat.reduceLT, Nat.reduceAdd, Nat.reduceSub, ↓reduceIte, implies_true, reduceCtorEq, ne_eq, ↓shr_eq, IntKind.bits, Int.reduceToNat, Int.reducePow, dite_eq_ite, Value.oneCell', Nat.reduceBEq, Nat.reduceDiv, bnS, bnN, bnT, spB, vl_dg, W32_dg, unW_wds, wV, sdf, wds_nil]
        · have hok : edOk b = true := by unfold edOk; rw [h5, decide_eq_true h1, decide_eq_true hy]; rfl
          have e1 : edPt13 b = .st [wV (dg (edX3 (edYb b) (edOdd b))), wV (dg (edYb b)), .bb false] := by unfold edPt13; rw [hok]; rfl
          have e2 : edCo b = 0 := by unfold edCo; rw [hok]; rfl
          have e3 : edX3 (edYb b) (edOdd b) = p25519 - edX1 (edYb b) := if_neg (by simpa using h6)
          rw [e1, e2, e3]
          refine .inl ?_
          simp only [↓Br_t, ↓Br_f, ↓Brg_t, ↓Brg_f, bnC, Kseq_app, Nat.reduceMul, Nat.reduceLeDiff, Nat.reduceEqDiff, Nat.reduceLT, Nat.reduceAdd, Nat.reduceSub, ↓reduceIte, implies_true, reduceCtorEq, ne_eq, ↓shr_eq, IntKind.bits, Int.reduceToNat, Int.reducePow, dite_eq_ite, Value.oneCell', Nat.reduceBEq, Nat.reduceDiv, bnS, bnN, bnT, spB, vl_dg, W32_dg, unW_wds, wV, sdf, wds_nil]
        · have hok : edOk b = true := by unfold edOk; rw [h5, decide_eq_true h1, decide_eq_true hy]; rfl
          have e1 : edPt13 b = .st [wV (dg (edX3 (edYb b) (edOdd b))), wV (dg (edYb b)), .bb false] := by unfold edPt13; rw [hok]; rfl
          have e2 : edCo b = 0 := by unfold edCo; rw [hok]; rfl
          have e3 : edX3 (edYb b) (edOdd b) = edX1 (edYb b) := if_pos (by simpa using h6)
          rw [e1, e2, e3]
          refine .inl ?_
          simp only [↓Br_t, ↓Br_f, ↓Brg_t, ↓Brg_f, bnC, Kseq_app, Nat.reduceMul, Nat.reduceLeDiff, Nat.reduceEqDiff, Nat.reduceLT, Nat.reduceAdd, Nat.reduceSub, ↓reduceIte, implies_true, reduceCtorEq, ne_eq, ↓shr_eq, IntKind.bits, Int.reduceToNat, Int.reducePow, dite_eq_ite, Value.oneCell', Nat.reduceBEq, Nat.reduceDiv, bnS, bnN, bnT, spB, vl_dg, W32_dg, unW_wds, wV, sdf, wds_nil]
end Go.Proofs.YtmpklnhmempmgaaGreatDoor
