/- The reference's Ed25519: numbers modulo p. The reference's Ed25519: sums, products, powers; the number of bytes. -/
import Derived.Test.YtmpklnhmempmgaaGreatDoorQ39
namespace Go.Proofs.YtmpklnhmempmgaaGreatDoor
open Go.RowKit
set_option linter.unusedSimpArgs false
set_option maxRecDepth 100000
theorem P13_fn (J : Inv) : Fn Tryz.prog J 39 false [] (wV (dg p25519)) := by
  rw [← prime_dg]
  refine fn_intro Tryz.func39 rfl (by kernel_rfl) (Nat.le_of_ble_eq_true (by kernel_rfl)) (by kernel_rfl) (by kernel_rfl) (wV_cl _) (RCb_ok J) ?_
  unfold Tryz.f39
  simp only [bnC, Kseq_app, Nat.reduceMul, Nat.reduceLeDiff, Nat.reduceEqDiff, Nat.reduceLT, Nat.reduceAdd, Nat.reduceSub, ↓reduceIte, implies_true, reduceCtorEq, ne_eq, ↓shr_eq, IntKind.bits, Int.reduceToNat, Int.reducePow, dite_eq_ite, Value.oneCell', Nat.reduceBEq, Nat.reduceDiv, bnS, bnN, bnT, spB, vl_dg, W32_dg, unW_wds, wV, sdf, wds_nil, RCb, RCbf, RCaf, RCwf, wds, List.map_cons, List.map_nil]
  rfl
theorem curve13_fn (J : Inv) : Fn Tryz.prog J 44 false [] (wV (dg curveN)) := by
  rw [← curve_dg]
  refine fn_intro Tryz.func44 rfl (by kernel_rfl) (Nat.le_of_ble_eq_true (by kernel_rfl)) (by kernel_rfl) (by kernel_rfl) (wV_cl _) (RCb_ok J) ?_
  unfold Tryz.f44
  simp only [bnC, Kseq_app, Nat.reduceMul, Nat.reduceLeDiff, Nat.reduceEqDiff, Nat.reduceLT, Nat.reduceAdd, Nat.reduceSub, ↓reduceIte, implies_true, reduceCtorEq, ne_eq, ↓shr_eq, IntKind.bits, Int.reduceToNat, Int.reducePow, dite_eq_ite, Value.oneCell', Nat.reduceBEq, Nat.reduceDiv, bnS, bnN, bnT, spB, vl_dg, W32_dg, unW_wds, wV, sdf, wds_nil, RCb, RCbf, RCaf, RCwf, wds, List.map_cons, List.map_nil]
  rfl
theorem root13_fn (J : Inv) : Fn Tryz.prog J 48 false [] (wV (dg rootN)) := by
  rw [← root_dg]
  refine fn_intro Tryz.func48 rfl (by kernel_rfl) (Nat.le_of_ble_eq_true (by kernel_rfl)) (by kernel_rfl) (by kernel_rfl) (wV_cl _) (RCb_ok J) ?_
  unfold Tryz.f48
  simp only [bnC, Kseq_app, Nat.reduceMul, Nat.reduceLeDiff, Nat.reduceEqDiff, Nat.reduceLT, Nat.reduceAdd, Nat.reduceSub, ↓reduceIte, implies_true, reduceCtorEq, ne_eq, ↓shr_eq, IntKind.bits, Int.reduceToNat, Int.reducePow, dite_eq_ite, Value.oneCell', Nat.reduceBEq, Nat.reduceDiv, bnS, bnN, bnT, spB, vl_dg, W32_dg, unW_wds, wV, sdf, wds_nil, RCb, RCbf, RCaf, RCwf, wds, List.map_cons, List.map_nil]
  rfl
def REbf : FuncId → List V → Option (List Prop × Bool × V) := fun f args =>
  if f = 39 then match args with
    | [] => some ([], false, wV (dg p25519))
    | _ => none
  else if f = 46 then match args with
    | [.sq 1 da La, .sq 1 db Lb] => some ([da = .val (.int .u32 0), La = wds (unW La), db = .val (.int .u32 0), Lb = wds (unW Lb), (unW La).length ≤ 1048576, (unW Lb).length ≤ 1048576, W32 (unW La), W32 (unW Lb)], false, wV (dg (vl (unW La) + vl (unW Lb))))
    | _ => none
  else if f = 89 then match args with
    | [.sq 1 da La, .sq 1 db Lb] => some ([da = .val (.int .u32 0), La = wds (unW La), db = .val (.int .u32 0), Lb = wds (unW Lb), (unW La).length ≤ 1048576, (unW Lb).length ≤ 1048576, W32 (unW La), W32 (unW Lb)], false, wV (dg (vl (unW La) * vl (unW Lb))))
    | _ => none
  else if f = 50 then match args with
    | [.sq 1 da La, .sq 1 db Lb] => some ([da = .val (.int .u32 0), La = wds (unW La), db = .val (.int .u32 0), Lb = wds (unW Lb), (unW La).length ≤ 1048576, (unW Lb).length ≤ (unW La).length, W32 (unW La), W32 (unW Lb), vl (unW Lb) ≤ vl (unW La)], false, wV (dg (vl (unW La) - vl (unW Lb))))
    | _ => none
  else if f = 38 then match args with
    | [.sq 1 da La, .sq 1 db Lb] => some ([da = .val (.int .u32 0), La = wds (unW La), db = .val (.int .u32 0), Lb = wds (unW Lb), (unW La).length ≤ 67108864, (unW Lb).length ≤ 67108864, W32 (unW La), W32 (unW Lb)], false, .i (cmp3 (vl (unW La)) (vl (unW Lb))))
    | _ => none
  else if f = 86 then match args with
    | [.sq 1 dl Ll] => some ([dl = .val (.int .u32 0), Ll = wds (unW Ll), (unW Ll).length ≤ 67108864, W32 (unW Ll)], false, wV (dg (vl (unW Ll))))
    | _ => none
  else if f = 49 then match args with
    | [.sq 1 dl Ll, .val (.int .i64 n)] => some ([dl = .val (.int .u32 0), Ll = wds (unW Ll), 0 ≤ n, n < 4294967296, W32 (unW Ll)], false, .bb (tb (vl (unW Ll)) n.toNat))
    | _ => none
  else none
def REb (J : Inv) : Sig := ⟨J, sdf, REbf, noH, 0⟩
theorem REb_ok (J : Inv) : SigOk Tryz.prog (REb J) := by
  refine .plain fun f args l fr r h hl => ?_
  change REbf f args = some (l, fr, r) at h
  unfold REbf at h
  split at h
  · rename_i hf; subst hf
    split at h
    · obtain ⟨rfl, rfl, rfl⟩ := jsome_tri h
      have hp := P13_fn J
      exact hp
    · exact absurd h (by simp)
  · split at h
    · rename_i hf; subst hf
      split at h
      · rename_i da La db Lb
        obtain ⟨rfl, rfl, rfl⟩ := jsome_tri h
        obtain ⟨qda, qla, qdb, qlb, c0, c1, c2, c3, -⟩ := hl.un
        subst qda qdb
        have hp := plus7_fn J (unW La) (unW Lb) c0 c1 c2 c3
        unfold wV at hp
        rw [← qla, ← qlb] at hp
        exact hp
      · exact absurd h (by simp)
    · split at h
      · rename_i hf; subst hf
        split at h
        · rename_i da La db Lb
          obtain ⟨rfl, rfl, rfl⟩ := jsome_tri h
          obtain ⟨qda, qla, qdb, qlb, c0, c1, c2, c3, -⟩ := hl.un
          subst qda qdb
          have hp := times7_fn J (unW La) (unW Lb) c0 c1 c2 c3
          unfold wV at hp
          rw [← qla, ← qlb] at hp
          exact hp
        · exact absurd h (by simp)
      · split at h
        · rename_i hf; subst hf
          split at h
          · rename_i da La db Lb
            obtain ⟨rfl, rfl, rfl⟩ := jsome_tri h
            obtain ⟨qda, qla, qdb, qlb, c0, c1, c2, c3, c4, -⟩ := hl.un
            subst qda qdb
            have hp := minus7_fn J (unW La) (unW Lb) c0 c1 c2 c3 c4
            unfold wV at hp
            rw [← qla, ← qlb] at hp
            exact hp
          · exact absurd h (by simp)
        · split at h
          · rename_i hf; subst hf
            split at h
            · rename_i da La db Lb
              obtain ⟨rfl, rfl, rfl⟩ := jsome_tri h
              obtain ⟨qda, qla, qdb, qlb, c0, c1, c2, c3, -⟩ := hl.un
              subst qda qdb
              have hp := cmp7_fn J (unW La) (unW Lb) c0 c1 c2 c3
              unfold wV at hp
              rw [← qla, ← qlb] at hp
              exact hp
            · exact absurd h (by simp)
          · split at h
            · rename_i hf; subst hf
              split at h
              · rename_i dl Ll
                obtain ⟨rfl, rfl, rfl⟩ := jsome_tri h
                obtain ⟨qdl, qll, c0, c1, -⟩ := hl.un
                subst qdl
                have hp := trim7_fn J (unW Ll) c0 c1
                unfold wV at hp
                rw [← qll] at hp
                exact hp
              · exact absurd h (by simp)
            · split at h
              · rename_i hf; subst hf
                split at h
                · rename_i dl Ll n
                  obtain ⟨rfl, rfl, rfl⟩ := jsome_tri h
                  obtain ⟨qdl, qll, c0, c1, c2, -⟩ := hl.un
                  subst qdl
                  have hp := (by have h := bit7_fn J (unW Ll) n.toNat (by omega) c2; rwa [show V.i (n.toNat : Int) = .val (.int .i64 n) by unfold V.i; rw [Int.toNat_of_nonneg c0]] at h)
                  unfold wV at hp
                  rw [← qll] at hp
                  exact hp
                · exact absurd h (by simp)
              · exact absurd h (by simp)
theorem vl_38 : vl [38] = 38 := vl_one 38
theorem low13_fn (J : Inv) (v : Nat) (hv : (dg v).length ≤ 1000) : Fn Tryz.prog J 88 false [wV (dg v)] (wV (dg (v % p25519))) := by
  refine fn_intro Tryz.func88 rfl (by kernel_rfl) (Nat.le_of_ble_eq_true (by kernel_rfl)) (by kernel_rfl) (by kernel_rfl) (wV_cl _) (REb_ok J) ?_
  unfold Tryz.f88
  simp only [bnC, Kseq_app, Nat.reduceMul, Nat.reduceLeDiff, Nat.reduceEqDiff, Nat.reduceLT, Nat.reduceAdd, Nat.reduceSub, ↓reduceIte, implies_true, reduceCtorEq, ne_eq, ↓shr_eq, IntKind.bits, Int.reduceToNat, Int.reducePow, dite_eq_ite, Value.oneCell', Nat.reduceBEq, Nat.reduceDiv, bnS, bnN, bnT, spB, vl_dg, W32_dg, unW_wds, wV, sdf, wds_nil, REb, REbf]
  refine LoopC.intro (α := Nat × Nat) (fun y => y.1 % p25519 = v % p25519 ∧ (dg y.1).length ≤ 1000) (fun y => ⟨[(0, wV (dg y.1))], [], y.2⟩) (fun y => y.1) (v, 0) ⟨rfl, hv⟩ ?_ ?_
  · simp only [bnC, Kseq_app, Nat.reduceMul, Nat.reduceLeDiff, Nat.reduceEqDiff, Nat.reduceLT, Nat.reduceAdd, Nat.reduceSub, ↓reduceIte, implies_true, reduceCtorEq, ne_eq, ↓shr_eq, IntKind.bits, Int.reduceToNat, Int.reducePow, dite_eq_ite, Value.oneCell', Nat.reduceBEq, Nat.reduceDiv, bnS, bnN, bnT, spB, vl_dg, W32_dg, unW_wds, wV, sdf, wds_nil]
    skip
  · rintro ⟨u, nn⟩ ⟨h1, h2⟩
    simp only at h1 h2
    simp only [bnC, Kseq_app, Nat.reduceMul, Nat.reduceLeDiff, Nat.reduceEqDiff, Nat.reduceLT, Nat.reduceAdd, Nat.reduceSub, ↓reduceIte, implies_true, reduceCtorEq, ne_eq, ↓shr_eq, IntKind.bits, Int.reduceToNat, Int.reducePow, dite_eq_ite, Value.oneCell', Nat.reduceBEq, Nat.reduceDiv, bnS, bnN, bnT, spB, vl_dg, W32_dg, unW_wds, wV, sdf, wds_nil, REb, REbf]
    have l2 := p_len
    refine ⟨fun h => ?_, fun h => ?_⟩
    · have h : 8 < (dg u).length := by have h := of_decide_eq_true h; omega
      have h3 := fold_lt (dg_long h)
      have h4 := fold_eq u
      have h8 : ((dg u).drop 8).take ((dg u).length - 8) = (dg u).drop 8 := List.take_of_length_le (by rw [List.length_drop]; omega)
      have hl : (dg (u % 4294967296 ^ 8 + u / 4294967296 ^ 8 * 38)).length ≤ 1000 := Nat.le_trans (dg_mono (Nat.le_of_lt h3)) h2
      refine DrawC.sch [(0, some []), (1, some []), (2, some []), (3, some []), (4, none), (5, none), (6, none), (7, some [])] [] (by kernel_rfl) ?_
      simp only [bnC, Kseq_app, Nat.reduceMul, Nat.reduceLeDiff, Nat.reduceEqDiff, Nat.reduceLT, Nat.reduceAdd, Nat.reduceSub, ↓reduceIte, implies_true, reduceCtorEq, ne_eq, ↓shr_eq, IntKind.bits, Int.reduceToNat, Int.reducePow, dite_eq_ite, Value.oneCell', Nat.reduceBEq, Nat.reduceDiv, bnS, bnN, bnT, spB, vl_dg, W32_dg, unW_wds, wV, sdf, wds_nil, REb, REbf, show unW [V.val (.int .u32 38)] = [38] from rfl, vl_38, dg_lo_take, dg_hi_drop, h8]
      have t38 : W32 [38] := W32.one (by omega)
      have t39 : [V.val (.int .u32 38)] = wds [38] := rfl
      have w1 := (W32_dg u).take 8
      have w2 := (W32_dg u).drop 8
      have q1 : ((dg u).drop 8).length ≤ 1000 := by rw [List.length_drop]; omega
      have q2 : ((dg u).take 8).length ≤ 1000 := by rw [List.length_take]; omega
      have q3 : (dg (u / 4294967296 ^ 8 * 38)).length ≤ 1000 := Nat.le_trans (dg_mono (Nat.le_of_lt (Nat.lt_of_le_of_lt (Nat.le_add_left _ _) h3))) h2
      repeat (with_reducible refine And.intro ?_ ?_; · first | omega | assumption | rfl)
      refine Again.intro (u % 4294967296 ^ 8 + u / 4294967296 ^ 8 * 38, nn + 1) ⟨h4.trans h1, hl⟩ h3 ?_
      simp only [bnC, Kseq_app, Nat.reduceMul, Nat.reduceLeDiff, Nat.reduceEqDiff, Nat.reduceLT, Nat.reduceAdd, Nat.reduceSub, ↓reduceIte, implies_true, reduceCtorEq, ne_eq, ↓shr_eq, IntKind.bits, Int.reduceToNat, Int.reducePow, dite_eq_ite, Value.oneCell', Nat.reduceBEq, Nat.reduceDiv, bnS, bnN, bnT, spB, vl_dg, W32_dg, unW_wds, wV, sdf, wds_nil]
      exact Nat.le_refl _
    · have h : (dg u).length ≤ 8 := by have h := of_decide_eq_false h; omega
      have hu : u < 4294967296 ^ 8 := Nat.lt_of_lt_of_le (dg_hi u) (Nat.pow_le_pow_right (by omega) h)
      refine LoopC.intro (α := Nat) (fun z => z % p25519 = v % p25519 ∧ (dg z).length ≤ 8) (fun z => ⟨[(0, wV (dg z))], [], nn⟩) (fun z => z) u ⟨h1, h⟩ ?_ ?_
      · simp only [bnC, Kseq_app, Nat.reduceMul, Nat.reduceLeDiff, Nat.reduceEqDiff, Nat.reduceLT, Nat.reduceAdd, Nat.reduceSub, ↓reduceIte, implies_true, reduceCtorEq, ne_eq, ↓shr_eq, IntKind.bits, Int.reduceToNat, Int.reducePow, dite_eq_ite, Value.oneCell', Nat.reduceBEq, Nat.reduceDiv, bnS, bnN, bnT, spB, vl_dg, W32_dg, unW_wds, wV, sdf, wds_nil]
        exact Nat.le_refl _
      · rintro z ⟨h3, h4⟩
        simp only [bnC, Kseq_app, Nat.reduceMul, Nat.reduceLeDiff, Nat.reduceEqDiff, Nat.reduceLT, Nat.reduceAdd, Nat.reduceSub, ↓reduceIte, implies_true, reduceCtorEq, ne_eq, ↓shr_eq, IntKind.bits, Int.reduceToNat, Int.reducePow, dite_eq_ite, Value.oneCell', Nat.reduceBEq, Nat.reduceDiv, bnS, bnN, bnT, spB, vl_dg, W32_dg, unW_wds, wV, sdf, wds_nil, REb, REbf, cmp3_ge]
        refine ⟨by omega, by omega, fun h5 => ?_, fun h5 => ⟨by omega, ?_⟩⟩
        · have h5 := of_decide_eq_true h5
          have hp := p_pos
          refine ⟨by omega, dg_mono h5, h5, Again.intro (z - p25519) ⟨?_, Nat.le_trans (dg_mono (Nat.sub_le _ _)) h4⟩ (by omega) ?_⟩
          · rw [← h3, Nat.mod_eq_sub_mod h5]
          · simp only [bnC, Kseq_app, Nat.reduceMul, Nat.reduceLeDiff, Nat.reduceEqDiff, Nat.reduceLT, Nat.reduceAdd, Nat.reduceSub, ↓reduceIte, implies_true, reduceCtorEq, ne_eq, ↓shr_eq, IntKind.bits, Int.reduceToNat, Int.reducePow, dite_eq_ite, Value.oneCell', Nat.reduceBEq, Nat.reduceDiv, bnS, bnN, bnT, spB, vl_dg, W32_dg, unW_wds, wV, sdf, wds_nil]
            exact Nat.le_refl _
        · have h5 := of_decide_eq_false h5
          rw [← h3, Nat.mod_eq_of_lt (by omega)]
def REdf : FuncId → List V → Option (List Prop × Bool × V) := fun f args =>
  if f = 88 then match args with
    | [.sq 1 dx Lx] => some ([dx = .val (.int .u32 0), Lx = wds (unW Lx), (unW Lx) = dg (vl (unW Lx)), (unW Lx).length ≤ 1000], false, wV (dg (vl (unW Lx) % p25519)))
    | _ => none
  else REbf f args
def REd (J : Inv) : Sig := ⟨J, sdf, REdf, noH, 0⟩
theorem REd_ok (J : Inv) : SigOk Tryz.prog (REd J) := by
  refine .plain fun f args l fr r h hl => ?_
  change REdf f args = some (l, fr, r) at h
  unfold REdf at h
  split at h
  · rename_i hf; subst hf
    split at h
    · rename_i dx Lx
      obtain ⟨rfl, rfl, rfl⟩ := jsome_tri h
      obtain ⟨qdx, qlx, c0, c1, -⟩ := hl.un
      subst qdx
      have hp := (by have h := low13_fn J (vl (unW Lx)) (by rw [← c0]; exact c1); rwa [← c0] at h)
      unfold wV at hp
      rw [← qlx] at hp
      exact hp
    · exact absurd h (by simp)
  · exact (REb_ok J ).1 f args l fr r h hl
theorem S7.p {n : Nat} (h : n < p25519) : S7 (Go.Proofs.YtmpklnhmempmgaaGreatDoor.dg n) := .lt h (by have := p_len; omega)
section
variable (J : Inv) (x y : List Nat) (hx : S7 x) (hy : S7 y)
include hx hy
theorem mul13_fn : Fn Tryz.prog J 40 false [wV x, wV y] (wV (dg (mulP (vl x) (vl y)))) := by
  refine fn_intro Tryz.func40 rfl (by kernel_rfl) (Nat.le_of_ble_eq_true (by kernel_rfl)) (by kernel_rfl) (by kernel_rfl) (wV_cl _) (REd_ok J) ?_
  unfold Tryz.f40
  simp only [bnC, Kseq_app, Nat.reduceMul, Nat.reduceLeDiff, Nat.reduceEqDiff, Nat.reduceLT, Nat.reduceAdd, Nat.reduceSub, ↓reduceIte, implies_true, reduceCtorEq, ne_eq, ↓shr_eq, IntKind.bits, Int.reduceToNat, Int.reducePow, dite_eq_ite, Value.oneCell', Nat.reduceBEq, Nat.reduceDiv, bnS, bnN, bnT, spB, vl_dg, W32_dg, unW_wds, wV, sdf, wds_nil, REd, REdf, REbf, mulP_eq, vl_dg]
  have := hx.l
  have := hy.l
  have := dg_prod_len hx.n hy.n
  have := hx.w
  have := hy.w
  repeat (with_reducible refine And.intro ?_ ?_; · first | omega | assumption | rfl)
  omega
theorem add13_fn : Fn Tryz.prog J 43 false [wV x, wV y] (wV (dg (addP (vl x) (vl y)))) := by
  refine fn_intro Tryz.func43 rfl (by kernel_rfl) (Nat.le_of_ble_eq_true (by kernel_rfl)) (by kernel_rfl) (by kernel_rfl) (wV_cl _) (REd_ok J) ?_
  unfold Tryz.f43
  simp only [bnC, Kseq_app, Nat.reduceMul, Nat.reduceLeDiff, Nat.reduceEqDiff, Nat.reduceLT, Nat.reduceAdd, Nat.reduceSub, ↓reduceIte, implies_true, reduceCtorEq, ne_eq, ↓shr_eq, IntKind.bits, Int.reduceToNat, Int.reducePow, dite_eq_ite, Value.oneCell', Nat.reduceBEq, Nat.reduceDiv, bnS, bnN, bnT, spB, vl_dg, W32_dg, unW_wds, wV, sdf, wds_nil, REd, REdf, REbf, addP_eq, vl_dg]
  have := hx.l
  have := hy.l
  have := dg_sum_len hx.n hy.n
  have := hx.w
  have := hy.w
  repeat (with_reducible refine And.intro ?_ ?_; · first | omega | assumption | rfl)
  omega
theorem sub13_fn (h1 : vl x < p25519) (h2 : vl y < p25519) (h3 : y = dg (vl y)) : Fn Tryz.prog J 41 false [wV x, wV y] (wV (dg (subP (vl x) (vl y)))) := by
  refine fn_intro Tryz.func41 rfl (by kernel_rfl) (Nat.le_of_ble_eq_true (by kernel_rfl)) (by kernel_rfl) (by kernel_rfl) (wV_cl _) (REd_ok J) ?_
  unfold Tryz.f41
  simp only [bnC, Kseq_app, Nat.reduceMul, Nat.reduceLeDiff, Nat.reduceEqDiff, Nat.reduceLT, Nat.reduceAdd, Nat.reduceSub, ↓reduceIte, implies_true, reduceCtorEq, ne_eq, ↓shr_eq, IntKind.bits, Int.reduceToNat, Int.reducePow, dite_eq_ite, Value.oneCell', Nat.reduceBEq, Nat.reduceDiv, bnS, bnN, bnT, spB, vl_dg, W32_dg, unW_wds, wV, sdf, wds_nil, REd, REdf, REbf, subP_eq, vl_dg]
  have := hx.l
  have := hy.l
  have hpl := p_len
  have l1 := dg_sum_len (x := vl x) (y := p25519) (k := 128) hx.n (by omega)
  have l2 := dg_mono (show vl y ≤ vl x + p25519 by omega)
  rw [← h3] at l2
  have l3 := dg_mono (show vl x + p25519 - vl y ≤ vl x + p25519 by omega)
  unfold subM
  rw [Nat.mod_eq_of_lt h1, Nat.mod_eq_of_lt h2]
  have := hx.w
  have := hy.w
  repeat (with_reducible refine And.intro ?_ ?_; · first | omega | assumption | rfl)
  rfl
end
def REef : FuncId → List V → Option (List Prop × Bool × V) := fun f args =>
  if f = 40 then match args with
    | [.sq 1 dx Lx, .sq 1 dy Ly] => some ([dx = .val (.int .u32 0), Lx = wds (unW Lx), dy = .val (.int .u32 0), Ly = wds (unW Ly), S7 (unW Lx), S7 (unW Ly)], false, wV (dg (mulP (vl (unW Lx)) (vl (unW Ly)))))
    | _ => none
  else if f = 43 then match args with
    | [.sq 1 dx Lx, .sq 1 dy Ly] => some ([dx = .val (.int .u32 0), Lx = wds (unW Lx), dy = .val (.int .u32 0), Ly = wds (unW Ly), S7 (unW Lx), S7 (unW Ly)], false, wV (dg (addP (vl (unW Lx)) (vl (unW Ly)))))
    | _ => none
  else if f = 41 then match args with
    | [.sq 1 dx Lx, .sq 1 dy Ly] => some ([dx = .val (.int .u32 0), Lx = wds (unW Lx), dy = .val (.int .u32 0), Ly = wds (unW Ly), S7 (unW Lx), S7 (unW Ly), vl (unW Lx) < p25519, vl (unW Ly) < p25519, (unW Ly) = dg (vl (unW Ly))], false, wV (dg (subP (vl (unW Lx)) (vl (unW Ly)))))
    | _ => none
  else REdf f args
def REe (J : Inv) : Sig := ⟨J, sdf, REef, noH, 0⟩
theorem REe_ok (J : Inv) : SigOk Tryz.prog (REe J) := by
  refine .plain fun f args l fr r h hl => ?_
  change REef f args = some (l, fr, r) at h
  unfold REef at h
  split at h
  · rename_i hf; subst hf
    split at h
    · rename_i dx Lx dy Ly
      obtain ⟨rfl, rfl, rfl⟩ := jsome_tri h
      obtain ⟨qdx, qlx, qdy, qly, c0, c1, -⟩ := hl.un
      subst qdx qdy
      have hp := mul13_fn J (unW Lx) (unW Ly) c0 c1
      unfold wV at hp
      rw [← qlx, ← qly] at hp
      exact hp
    · exact absurd h (by simp)
  · split at h
    · rename_i hf; subst hf
      split at h
      · rename_i dx Lx dy Ly
        obtain ⟨rfl, rfl, rfl⟩ := jsome_tri h
        obtain ⟨qdx, qlx, qdy, qly, c0, c1, -⟩ := hl.un
        subst qdx qdy
        have hp := add13_fn J (unW Lx) (unW Ly) c0 c1
        unfold wV at hp
        rw [← qlx, ← qly] at hp
        exact hp
      · exact absurd h (by simp)
    · split at h
      · rename_i hf; subst hf
        split at h
        · rename_i dx Lx dy Ly
          obtain ⟨rfl, rfl, rfl⟩ := jsome_tri h
          obtain ⟨qdx, qlx, qdy, qly, c0, c1, c2, c3, c4, -⟩ := hl.un
          subst qdx qdy
          have hp := sub13_fn J (unW Lx) (unW Ly) c0 c1 c2 c3 c4
          unfold wV at hp
          rw [← qlx, ← qly] at hp
          exact hp
        · exact absurd h (by simp)
      · exact (REd_ok J ).1 f args l fr r h hl
theorem powP_zero (a : Nat) : powP a 0 = 1 := by rw [powP_eq, Nat.pow_zero]; exact Nat.mod_eq_of_lt (by have := p_big; omega)
theorem powP_dbl (a e : Nat) : mulP (powP a e) (powP a e) = powP a (2 * e) := by
  rw [mulP_eq, powP_eq, powP_eq, ← Nat.mul_mod, ← Nat.pow_add, ← Nat.two_mul]
theorem powP_one (a e : Nat) : mulP (powP a e) a = powP a (e + 1) := by
  rw [mulP_eq, powP_eq, powP_eq, Nat.pow_succ, Nat.mod_mul_mod]
theorem power13_fn (J : Inv) (a e : Nat) (ha : a < p25519) (he : (dg e).length ≤ 1000) : Fn Tryz.prog J 47 false [wV (dg a), wV (dg e)] (wV (dg (powP a e))) := by
  refine fn_intro Tryz.func47 rfl (by kernel_rfl) (Nat.le_of_ble_eq_true (by kernel_rfl)) (by kernel_rfl) (by kernel_rfl) (wV_cl _) (REe_ok J) ?_
  unfold Tryz.f47
  have he2 := dg_hi e
  generalize hn : (dg e).length = n at *
  simp only [bnC, Kseq_app, Nat.reduceMul, Nat.reduceLeDiff, Nat.reduceEqDiff, Nat.reduceLT, Nat.reduceAdd, Nat.reduceSub, ↓reduceIte, implies_true, reduceCtorEq, ne_eq, ↓shr_eq, IntKind.bits, Int.reduceToNat, Int.reducePow, dite_eq_ite, Value.oneCell', Nat.reduceBEq, Nat.reduceDiv, bnS, bnN, bnT, spB, vl_dg, W32_dg, unW_wds, wV, sdf, wds_nil, REe, REef, REdf, REbf, hn]
  refine ⟨by constructor <;> omega, by constructor <;> omega, ?_⟩
  refine LoopC.introA (α := Nat) (fun k => k ≤ 32 * n) (fun k => ⟨[(0, wV (dg a)), (1, wV (dg e)), (5, wV (dg (powP a (e / 2 ^ k)))), (6, .i ((k : Int) - 1))], [], 1⟩) (fun k => k) (32 * n) [.fzs 0] (Nat.le_refl _) ?_ ?_
  · have h0 : e / 2 ^ (32 * n) = 0 := by rw [← B_pow]; exact Nat.div_eq_of_lt he2
    simp only [bnC, Kseq_app, Nat.reduceMul, Nat.reduceLeDiff, Nat.reduceEqDiff, Nat.reduceLT, Nat.reduceAdd, Nat.reduceSub, ↓reduceIte, implies_true, reduceCtorEq, ne_eq, ↓shr_eq, IntKind.bits, Int.reduceToNat, Int.reducePow, dite_eq_ite, Value.oneCell', Nat.reduceBEq, Nat.reduceDiv, bnS, bnN, bnT, spB, vl_dg, W32_dg, unW_wds, wV, sdf, wds_nil, h0, powP_zero, dg_one]
    exact ⟨rfl, by omega⟩
  · intro k hk
    cases k with
    | zero =>
      simp only [bnC, Kseq_app, Nat.reduceMul, Nat.reduceLeDiff, Nat.reduceEqDiff, Nat.reduceLT, Nat.reduceAdd, Nat.reduceSub, ↓reduceIte, implies_true, reduceCtorEq, ne_eq, ↓shr_eq, IntKind.bits, Int.reduceToNat, Int.reducePow, dite_eq_ite, Value.oneCell', Nat.reduceBEq, Nat.reduceDiv, bnS, bnN, bnT, spB, vl_dg, W32_dg, unW_wds, wV, sdf, wds_nil, REe, REef, REdf, REbf, hn]
      refine ⟨fun h => absurd h (by simp), fun _ => ?_⟩
      rw [Nat.pow_zero, Nat.div_one]
    | succ j =>
      have u1 : (((j + 1 : Nat) : Int) - 1) = (j : Int) := by omega
      have hb2 := bit_step e j
      rw [tb_nat] at hb2
      simp only [bnC, Kseq_app, Nat.reduceMul, Nat.reduceLeDiff, Nat.reduceEqDiff, Nat.reduceLT, Nat.reduceAdd, Nat.reduceSub, ↓reduceIte, implies_true, reduceCtorEq, ne_eq, ↓shr_eq, IntKind.bits, Int.reduceToNat, Int.reducePow, dite_eq_ite, Value.oneCell', Nat.reduceBEq, Nat.reduceDiv, bnS, bnN, bnT, spB, vl_dg, W32_dg, unW_wds, wV, sdf, wds_nil, REe, REef, REdf, REbf, hn, u1, powP_dbl, powP_one]
      refine ⟨fun _ => ⟨.p (powP_lt _ _), .p (powP_lt _ _), by omega, by omega, fun hb => ?_, fun hb => ?_⟩, fun h => absurd h (by simp)⟩
      · rw [hb, show (if true = true then 1 else 0) = 1 from rfl] at hb2
        refine ⟨.p (powP_lt _ _), .p ha, by constructor <;> omega, Again.intro j (by omega) (by omega) ?_⟩
        simp only [bnC, Kseq_app, Nat.reduceMul, Nat.reduceLeDiff, Nat.reduceEqDiff, Nat.reduceLT, Nat.reduceAdd, Nat.reduceSub, ↓reduceIte, implies_true, reduceCtorEq, ne_eq, ↓shr_eq, IntKind.bits, Int.reduceToNat, Int.reducePow, dite_eq_ite, Value.oneCell', Nat.reduceBEq, Nat.reduceDiv, bnS, bnN, bnT, spB, vl_dg, W32_dg, unW_wds, wV, sdf, wds_nil, hb2]
        skip
      · rw [hb, show (if false = true then 1 else 0) = 0 from rfl, Nat.add_zero] at hb2
        refine ⟨by constructor <;> omega, Again.intro j (by omega) (by omega) ?_⟩
        simp only [bnC, Kseq_app, Nat.reduceMul, Nat.reduceLeDiff, Nat.reduceEqDiff, Nat.reduceLT, Nat.reduceAdd, Nat.reduceSub, ↓reduceIte, implies_true, reduceCtorEq, ne_eq, ↓shr_eq, IntKind.bits, Int.reduceToNat, Int.reducePow, dite_eq_ite, Value.oneCell', Nat.reduceBEq, Nat.reduceDiv, bnS, bnN, bnT, spB, vl_dg, W32_dg, unW_wds, wV, sdf, wds_nil, hb2]
        skip
def REff : FuncId → List V → Option (List Prop × Bool × V) := fun f args =>
  if f = 47 then match args with
    | [.sq 1 da La, .sq 1 de Le] => some ([da = .val (.int .u32 0), La = wds (unW La), de = .val (.int .u32 0), Le = wds (unW Le), (unW La) = dg (vl (unW La)), vl (unW La) < p25519, (unW Le) = dg (vl (unW Le)), (unW Le).length ≤ 1000], false, wV (dg (powP (vl (unW La)) (vl (unW Le)))))
    | _ => none
  else REef f args
def REf (J : Inv) : Sig := ⟨J, sdf, REff, noH, 0⟩
theorem REf_ok (J : Inv) : SigOk Tryz.prog (REf J) := by
  refine .plain fun f args l fr r h hl => ?_
  change REff f args = some (l, fr, r) at h
  unfold REff at h
  split at h
  · rename_i hf; subst hf
    split at h
    · rename_i da La de Le
      obtain ⟨rfl, rfl, rfl⟩ := jsome_tri h
      obtain ⟨qda, qla, qde, qle, c0, c1, c2, c3, -⟩ := hl.un
      subst qda qde
      have hp := (by have h := power13_fn J (vl (unW La)) (vl (unW Le)) c1 (by rw [← c2]; exact c3); rwa [← c0, ← c2] at h)
      unfold wV at hp
      rw [← qla, ← qle] at hp
      exact hp
    · exact absurd h (by simp)
  · exact (REe_ok J ).1 f args l fr r h hl
theorem invP_pow (a : Nat) : invP a = powP a (p25519 - 2) := by rw [invP_eq, powP_eq]; rfl
theorem inverse13_fn (J : Inv) (a : Nat) (ha : a < p25519) : Fn Tryz.prog J 42 false [wV (dg a)] (wV (dg (invP a))) := by
  rw [invP_pow]
  refine fn_intro Tryz.func42 rfl (by kernel_rfl) (Nat.le_of_ble_eq_true (by kernel_rfl)) (by kernel_rfl) (by kernel_rfl) (wV_cl _) (REf_ok J) ?_
  unfold Tryz.f42
  simp only [bnC, Kseq_app, Nat.reduceMul, Nat.reduceLeDiff, Nat.reduceEqDiff, Nat.reduceLT, Nat.reduceAdd, Nat.reduceSub, ↓reduceIte, implies_true, reduceCtorEq, ne_eq, ↓shr_eq, IntKind.bits, Int.reduceToNat, Int.reducePow, dite_eq_ite, Value.oneCell', Nat.reduceBEq, Nat.reduceDiv, bnS, bnN, bnT, spB, vl_dg, W32_dg, unW_wds, wV, sdf, wds_nil, REf, REff, REef, REdf, REbf, show unW [V.val (.int .u32 2)] = [2] from rfl, show vl [2] = 2 from vl_one 2]
  have hpl := p_len
  have hpb := p_big
  have l1 := dg_mono (Nat.sub_le p25519 2)
  have t1 : [V.val (.int .u32 2)] = wds [2] := rfl
  have t2 : W32 [2] := W32.one (by omega)
  have t3 : 1 ≤ (dg p25519).length := by
    rcases Nat.eq_zero_or_pos (dg p25519).length with h | h
    · have := dg_eq_nil.1 (List.length_eq_zero_iff.1 h); omega
    · exact h
  repeat (with_reducible refine And.intro ?_ ?_; · first | omega | assumption | rfl)
  omega
theorem or_byte {m V i c : Nat} (hc : c < 256) (hV : V < 256 ^ i) (hi : i / 4 < m) : (fw m V).set (i / 4) (w32 (bt .or .u32 (((fw m V).getD (i / 4) 0 : Nat) : Int) (wr .u32 (wr .u32 (c : Int) * 2 ^ if 8 * (i % 4) ≤ 32 then 8 * (i % 4) else 32)))) = fw m (V + c * 256 ^ i) := by
  obtain ⟨h1, h2⟩ := byte_le hc hV hi
  have hp : 2 ^ (8 * (i % 4)) ≤ 2 ^ 24 := Nat.pow_le_pow_right (by omega) (by omega)
  have hlt : c * 2 ^ (8 * (i % 4)) < 4294967296 := Nat.mul_lt_mul_of_lt_of_le hc hp (by omega)
  have hcast : (c : Int) * 2 ^ (8 * (i % 4)) = ((c * 2 ^ (8 * (i % 4)) : Nat) : Int) := by push_cast; rfl
  rw [if_pos (by omega), wr32n (show c < 4294967296 by omega), hcast, wr32n hlt, bt_eq, bits_or32 (W32.get (fw_w _ _) _) hlt, w32_nat, Nat.mod_eq_of_lt h2]
  exact h1
theorem little_fn (J : Inv) (b : List UInt8) (hb : b.length ≤ 1048576) : Fn Tryz.prog J 37 false [.by b] (wV (dg (leN b))) := by
  refine fn_intro Tryz.func37 rfl (by kernel_rfl) (Nat.le_of_ble_eq_true (by kernel_rfl)) (by kernel_rfl) (by kernel_rfl) (wV_cl _) (REb_ok J) ?_
  unfold Tryz.f37
  have t1 : (((b.length : Int) + 3) / 4).toNat = (b.length + 3) / 4 := by omega
  have hlt := leN_lt b
  have hm : (256 : Nat) ^ b.length ≤ 4294967296 ^ ((b.length + 3) / 4) := by rw [B_256]; exact Nat.pow_le_pow_right (by omega) (by omega)
  have hm4 : b.length ≤ 4 * ((b.length + 3) / 4) ∧ 4 * ((b.length + 3) / 4) ≤ b.length + 3 := by omega
  generalize hmm : (b.length + 3) / 4 = m at *
  simp only [bnC, Kseq_app, Nat.reduceMul, Nat.reduceLeDiff, Nat.reduceEqDiff, Nat.reduceLT, Nat.reduceAdd, Nat.reduceSub, ↓reduceIte, implies_true, reduceCtorEq, ne_eq, ↓shr_eq, IntKind.bits, Int.reduceToNat, Int.reducePow, dite_eq_ite, Value.oneCell', Nat.reduceBEq, Nat.reduceDiv, bnS, bnN, bnT, spB, vl_dg, W32_dg, unW_wds, wV, sdf, wds_nil, REb, REbf, t1]
  repeat (with_reducible refine And.intro ?_ ?_; · first | omega | (constructor <;> omega))
  refine LoopC.intro (α := Nat) (fun i => i ≤ b.length) (fun i => ⟨[(0, .by b), (3, .ro (.r 0)), (4, .i i)], [(0, .row 69 (wV (fw m (leN (b.take i)))))], 1⟩) (fun i => b.length - i) 0 (Nat.zero_le _) ?_ ?_
  · simp only [bnC, Kseq_app, Nat.reduceMul, Nat.reduceLeDiff, Nat.reduceEqDiff, Nat.reduceLT, Nat.reduceAdd, Nat.reduceSub, ↓reduceIte, implies_true, reduceCtorEq, ne_eq, ↓shr_eq, IntKind.bits, Int.reduceToNat, Int.reducePow, dite_eq_ite, Value.oneCell', Nat.reduceBEq, Nat.reduceDiv, bnS, bnN, bnT, spB, vl_dg, W32_dg, unW_wds, wV, sdf, wds_nil, List.take_zero, show leN [] = 0 from rfl, fw_zero]
    rfl
  · intro i hi
    simp only [bnC, Kseq_app, Nat.reduceMul, Nat.reduceLeDiff, Nat.reduceEqDiff, Nat.reduceLT, Nat.reduceAdd, Nat.reduceSub, ↓reduceIte, implies_true, reduceCtorEq, ne_eq, ↓shr_eq, IntKind.bits, Int.reduceToNat, Int.reducePow, dite_eq_ite, Value.oneCell', Nat.reduceBEq, Nat.reduceDiv, bnS, bnN, bnT, spB, vl_dg, W32_dg, unW_wds, wV, sdf, wds_nil, REb, REbf, fw_len]
    refine ⟨fun h => ?_, fun h => ?_⟩
    · have h : i < b.length := by have h := of_decide_eq_true h; omega
      refine DrawC.rows [(0, some (true, [])), (1, some (true, [])), (2, some (true, [])), (3, some (true, [])), (4, some (true, [])), (5, some (true, [])), (6, some (true, [])), (7, some (true, [])), (8, some (true, [])), (9, some (true, [])), (10, some (true, [])), (11, some (true, [])), (12, some (true, [])), (13, some (true, [])), (14, some (true, [])), (15, some (true, [])), (16, some (true, [])), (17, some (true, [])), (18, some (true, [])), (19, some (true, [])), (20, none)] [] [20] (by kernel_rfl) ?_
      have e4 : ((i : Int) / 4).toNat = i / 4 := by omega
      have e8 : 8 * ((i : Int) % 4) = ((8 * (i % 4) : Nat) : Int) := by omega
      have e9 : wr .u64 ((8 * (i % 4) : Nat) : Int) = ((8 * (i % 4) : Nat) : Int) := wr64n (by omega)
      simp only [bnC, Kseq_app, Nat.reduceMul, Nat.reduceLeDiff, Nat.reduceEqDiff, Nat.reduceLT, Nat.reduceAdd, Nat.reduceSub, ↓reduceIte, implies_true, reduceCtorEq, ne_eq, ↓shr_eq, IntKind.bits, Int.reduceToNat, Int.reducePow, dite_eq_ite, Value.oneCell', Nat.reduceBEq, Nat.reduceDiv, bnS, bnN, bnT, spB, vl_dg, W32_dg, unW_wds, wV, sdf, wds_nil, REb, REbf, fw_len, e4, e8, e9]
      repeat (with_reducible refine And.intro ?_ ?_; · first | omega | (constructor <;> omega))
      refine Again.intro (i + 1) h (by omega) ?_
      simp only [bnC, Kseq_app, Nat.reduceMul, Nat.reduceLeDiff, Nat.reduceEqDiff, Nat.reduceLT, Nat.reduceAdd, Nat.reduceSub, ↓reduceIte, implies_true, reduceCtorEq, ne_eq, ↓shr_eq, IntKind.bits, Int.reduceToNat, Int.reducePow, dite_eq_ite, Value.oneCell', Nat.reduceBEq, Nat.reduceDiv, bnS, bnN, bnT, spB, vl_dg, W32_dg, unW_wds, wV, sdf, wds_nil, e4, e8, e9]
      have hV : leN (b.take i) < 256 ^ i := by
        have := leN_lt (b.take i)
        rwa [List.length_take, Nat.min_eq_left hi] at this
      have hbt : byteAt b i = (((b.getD i 0).toNat : Nat) : Int) := rfl
      rw [hbt, or_byte (b.getD i 0).toNat_lt hV (by omega), leN_succ h]
      exact ⟨by omega, rfl⟩
    · have h : i = b.length := by have h := of_decide_eq_false h; omega
      rw [h, List.take_length, fw_vl, Nat.mod_eq_of_lt (by omega)]
      exact ⟨by omega, fw_w _ _, rfl⟩
end Go.Proofs.YtmpklnhmempmgaaGreatDoor
