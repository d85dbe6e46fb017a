/- Where an element begins and ends. -/
import Derived.Test.YtmafmdnmoccohaaGreatDoorDHead
namespace Go.Proofs.YtmafmdnmoccohaaGreatDoor
open Go.RowKit
set_option linter.unusedSimpArgs false
set_option maxRecDepth 100000

theorem beV_lt (l : List UInt8) : ∀ k, beV l k < 256 ^ k
  | 0 => by simp [beV]
  | k + 1 => by
    have := beV_lt l k
    have := byteN_lt l k
    rw [beV, Nat.pow_succ]; omega
theorem beV_take (l : List UInt8) (n : Nat) : ∀ k, k ≤ n → beV (l.take n) k = beV l k
  | 0, _ => rfl
  | k + 1, h => by
    rw [beV, beV, beV_take l n k (by omega)]
    congr 1
    simp only [byteN, List.getD_eq_getElem?_getD, List.getElem?_take]
    rw [if_pos (by omega)]
theorem or_step (x c : Nat) (hx : x < 16777216) (hc : c < 256) : bt .or .i64 (wr .i64 ((x : Int) * 256)) (c : Int) = ((x * 256 + c : Nat) : Int) := by
  have e : wr .i64 ((x : Int) * 256) = ((x * 256 : Nat) : Int) := by rw [wr_eq, IntKind.wrap_i64]; omega
  rw [e, i64_or_nat _ _ (by omega) (by omega), nat_join 8 _ _ (by omega) (by omega)]
theorem head_fn (J : Inv) (l : List UInt8) (p q : Nat) (hq : q ≤ l.length) (hm : l.length ≤ 140737488355328) (hp : p ≤ 140737488355328) : Fn Tryz.prog J 41 false [.by l, .i p, .i q] (.tu [.i (headF l p q).1, .i (headF l p q).2.1, .bb (headF l p q).2.2]) := by
  have e1 : ((p : Int) + 1).toNat = p + 1 := by omega
  have e2 : ((p : Int) + 2).toNat = p + 2 := by omega
  refine fn_intro Tryz.func41 rfl (by kernel_rfl) (Nat.le_of_ble_eq_true (by kernel_rfl)) (by kernel_rfl) (by kernel_rfl) rfl (G1_ok J) ?_
  unfold Tryz.f41
  simp only [vmark, seqN, sameBox, boxJs, vquietR, vopsR, RetC, retW, cellR, undV, vgA, vbinN, vnn, isNilC, isIf, vconvH, vconvO, cvOk, frz1, frzE, jsOk, jsCo, rowsH, vgcH, vgH, vopsT, stepE, Kseq_app, vg_skip, vg_label, vg_seq, vg_region, vg_cond, vg_block, vg_exit, vg_ret, vg_loop, vcallF, vcallH, uls, HdelK, memN, noBox, ninL, keysH, jsAt, AdSub, adopt, noEl, isNil, effL, effO, vopsD, vquiet, vfstD, ldq, ldOk, vops, vfst, vone, vact, ug, addL, vbox, valloc, vstore, vbuild, arrF, vbuildSlice, vappend, vmake, zeroS, zeroE, vstrB, apC, nrm, nr1, nrL, keyL, neqs, diffs, V.app, V.len, vsrc, vdst, mkSl, mkBy, inOrd, placeAll, V.one, V.sto, V.csize, V.parts, V.cellsL, setMany, V.setB, V.setE, V.setO, V.noOwn, V.isOwn, vq, vcall, fzA, fz, fz1, fzL, fzN, rts, rt1, V.er, er1, er2, mixA, mixK, uargs, u1, R.add, vop, vbin, vint2, vstr2, vbool2, vnum, vun, vpick, vpick1, vbool, vconv, vnil, vfieldAddr, vindexAddr, vstEq, vindex, vload, vfield, aggD, vslice, bnd, uopt, vlen, vmin, vextract, Hpk, Hroot, refV, ownR, V.i, V.elems, V.cell, V.cut, V.exact, V.ex0, exL, V.cl, clL, V.sc, scL, scO, scH, V.ct, ct1, ct2, RetP, RetK, RetH, retL, retOne, Back, Veq, subH, obs, obsIf, En.get, En.put, En.ev, enOf, gcond, wantB, constV, exGet, subE, Sub, RV, RVL, NR, RO, subER, subHR, newLt, oldNe, oldOk, oldGe, notIn, ivN, lookN, SubR, Nm.root, Nat.reduceMul, Nat.reduceLeDiff, Nat.reduceEqDiff, Nat.reduceLT, Nat.reduceAdd, Nat.reduceSub, ↓reduceIte, implies_true, reduceCtorEq, ne_eq, ↓shr_eq, IntKind.bits, Int.reduceToNat, Int.reducePow, dite_eq_ite, Value.oneCell', Nat.reduceBEq, Nat.reduceDiv, bnS, bnN, bnT, G1, G1f]
  simp only [e1, e2, byteAt_N]
  refine ⟨by (constructor <;> omega), fun h => ?_, fun h => ?_⟩
  · simp only [decide_eq_true_eq] at h
    rw [headF, if_pos (by omega)]
    exact ⟨rfl, rfl, rfl⟩
  · simp only [decide_eq_false_iff_not] at h
    refine ⟨by (constructor <;> omega), by omega, by omega, by (constructor <;> omega), fun h1 => ?_, fun h1 => ?_⟩
    · simp only [decide_eq_true_eq] at h1
      have hb := byteN_lt l (p + 1)
      refine ⟨by (constructor <;> omega), ?_⟩
      by_cases hc : byteN l (p + 1) = 128 ∨ 132 < byteN l (p + 1) ∨ q < p + 2 + (byteN l (p + 1) - 128) ∨ byteN l (p + 2) = 0 ∨ (byteN l (p + 1) = 129 ∧ byteN l (p + 2) < 128)
      · refine ⟨?_, ?_, ?_, ?_, ?_, ?_, fun h2 => ?_, fun h2 => ?_⟩
        rotate_right 2
        · rw [headF, if_neg (by omega), if_neg (by omega), if_pos hc]
          exact ⟨rfl, rfl, rfl⟩
        · simp only [Bool.and_eq_true, Bool.or_eq_true, Bool.not_eq_true', Bool.and_eq_false_imp, Bool.or_eq_false_iff, Bool.not_eq_false', decide_eq_true_eq, decide_eq_false_iff_not, beq_iff_eq, beq_eq_false_iff_ne, ne_eq, and_true, I64_iff] at h2
          omega
        all_goals
          intros; simp only [Bool.and_eq_true, Bool.or_eq_true, Bool.not_eq_true', Bool.and_eq_false_imp, Bool.or_eq_false_iff, Bool.not_eq_false', decide_eq_true_eq, decide_eq_false_iff_not, beq_iff_eq, beq_eq_false_iff_ne, ne_eq, and_true, I64_iff] at *; omega
      · have e3 : ((p : Int) + 2 + (byteN l (p + 1) - 128)).toNat - (p + 2) = byteN l (p + 1) - 128 := by omega
        simp only [e3]
        refine ⟨?_, ?_, ?_, ?_, ?_, ?_, fun h2 => ?_, fun h2 => ⟨by (constructor <;> omega), by omega, by omega, by omega, ?_⟩⟩
        rotate_right 2
        · simp only [Bool.and_eq_true, Bool.or_eq_true, Bool.not_eq_true', Bool.and_eq_false_imp, Bool.or_eq_false_iff, Bool.not_eq_false', decide_eq_true_eq, decide_eq_false_iff_not, beq_iff_eq, beq_eq_false_iff_ne, ne_eq, and_true, I64_iff] at h2
          omega
        · generalize hK : byteN l (p + 1) - 128 = K
          generalize hcut : List.take K (List.drop (p + 2) l) = cut
          have hcl : cut.length = K := by rw [← hcut]; simp; omega
          have hhead : headF l p q = (p + 2 + K, p + 2 + K + beV cut K, decide (p + 2 + K + beV cut K ≤ q)) := by
            rw [headF, if_neg (by omega), if_neg (by omega), if_neg hc, hK, ← hcut, beV_take _ _ _ (Nat.le_refl _)]
          have hlt := beV_lt cut K
          have hK4 : 256 ^ K ≤ 256 ^ 4 := Nat.pow_le_pow_right (by omega) (by omega)
          refine LoopC.intro (fun k => k ≤ K) (fun k => ⟨[(68, .i k), (67, .i cut.length), (66, .by cut), (9, .i (beV cut k)), (10, .i ((p : Int) + 2)), (11, .i ((byteN l (p + 1) : Int) - 128)), (2, .i q)], [], 0⟩) (fun k => K - k) 0 (Nat.zero_le _) ?_ ?_
          · simp only [vmark, seqN, sameBox, boxJs, vquietR, vopsR, RetC, retW, cellR, undV, vgA, vbinN, vnn, isNilC, isIf, vconvH, vconvO, cvOk, frz1, frzE, jsOk, jsCo, rowsH, vgcH, vgH, vopsT, stepE, Kseq_app, vg_skip, vg_label, vg_seq, vg_region, vg_cond, vg_block, vg_exit, vg_ret, vg_loop, vcallF, vcallH, uls, HdelK, memN, noBox, ninL, keysH, jsAt, AdSub, adopt, noEl, isNil, effL, effO, vopsD, vquiet, vfstD, ldq, ldOk, vops, vfst, vone, vact, ug, addL, vbox, valloc, vstore, vbuild, arrF, vbuildSlice, vappend, vmake, zeroS, zeroE, vstrB, apC, nrm, nr1, nrL, keyL, neqs, diffs, V.app, V.len, vsrc, vdst, mkSl, mkBy, inOrd, placeAll, V.one, V.sto, V.csize, V.parts, V.cellsL, setMany, V.setB, V.setE, V.setO, V.noOwn, V.isOwn, vq, vcall, fzA, fz, fz1, fzL, fzN, rts, rt1, V.er, er1, er2, mixA, mixK, uargs, u1, R.add, vop, vbin, vint2, vstr2, vbool2, vnum, vun, vpick, vpick1, vbool, vconv, vnil, vfieldAddr, vindexAddr, vstEq, vindex, vload, vfield, aggD, vslice, bnd, uopt, vlen, vmin, vextract, Hpk, Hroot, refV, ownR, V.i, V.elems, V.cell, V.cut, V.exact, V.ex0, exL, V.cl, clL, V.sc, scL, scO, scH, V.ct, ct1, ct2, RetP, RetK, RetH, retL, retOne, Back, Veq, subH, obs, obsIf, En.get, En.put, En.ev, enOf, gcond, wantB, constV, exGet, subE, Sub, RV, RVL, NR, RO, subER, subHR, newLt, oldNe, oldOk, oldGe, notIn, ivN, lookN, SubR, Nm.root, Nat.reduceMul, Nat.reduceLeDiff, Nat.reduceEqDiff, Nat.reduceLT, Nat.reduceAdd, Nat.reduceSub, ↓reduceIte, implies_true, reduceCtorEq, ne_eq, ↓shr_eq, IntKind.bits, Int.reduceToNat, Int.reducePow, dite_eq_ite, Value.oneCell', Nat.reduceBEq, Nat.reduceDiv, bnS, bnN, bnT]
            simp [beV]
          · intro k hk
            simp only [vmark, seqN, sameBox, boxJs, vquietR, vopsR, RetC, retW, cellR, undV, vgA, vbinN, vnn, isNilC, isIf, vconvH, vconvO, cvOk, frz1, frzE, jsOk, jsCo, rowsH, vgcH, vgH, vopsT, stepE, Kseq_app, vg_skip, vg_label, vg_seq, vg_region, vg_cond, vg_block, vg_exit, vg_ret, vg_loop, vcallF, vcallH, uls, HdelK, memN, noBox, ninL, keysH, jsAt, AdSub, adopt, noEl, isNil, effL, effO, vopsD, vquiet, vfstD, ldq, ldOk, vops, vfst, vone, vact, ug, addL, vbox, valloc, vstore, vbuild, arrF, vbuildSlice, vappend, vmake, zeroS, zeroE, vstrB, apC, nrm, nr1, nrL, keyL, neqs, diffs, V.app, V.len, vsrc, vdst, mkSl, mkBy, inOrd, placeAll, V.one, V.sto, V.csize, V.parts, V.cellsL, setMany, V.setB, V.setE, V.setO, V.noOwn, V.isOwn, vq, vcall, fzA, fz, fz1, fzL, fzN, rts, rt1, V.er, er1, er2, mixA, mixK, uargs, u1, R.add, vop, vbin, vint2, vstr2, vbool2, vnum, vun, vpick, vpick1, vbool, vconv, vnil, vfieldAddr, vindexAddr, vstEq, vindex, vload, vfield, aggD, vslice, bnd, uopt, vlen, vmin, vextract, Hpk, Hroot, refV, ownR, V.i, V.elems, V.cell, V.cut, V.exact, V.ex0, exL, V.cl, clL, V.sc, scL, scO, scH, V.ct, ct1, ct2, RetP, RetK, RetH, retL, retOne, Back, Veq, subH, obs, obsIf, En.get, En.put, En.ev, enOf, gcond, wantB, constV, exGet, subE, Sub, RV, RVL, NR, RO, subER, subHR, newLt, oldNe, oldOk, oldGe, notIn, ivN, lookN, SubR, Nm.root, Nat.reduceMul, Nat.reduceLeDiff, Nat.reduceEqDiff, Nat.reduceLT, Nat.reduceAdd, Nat.reduceSub, ↓reduceIte, implies_true, reduceCtorEq, ne_eq, ↓shr_eq, IntKind.bits, Int.reduceToNat, Int.reducePow, dite_eq_ite, Value.oneCell', Nat.reduceBEq, Nat.reduceDiv, bnS, bnN, bnT]
            refine ⟨fun h3 => ?_, fun h3 => ?_⟩
            · simp only [decide_eq_true_eq] at h3
              have hlt2 := beV_lt cut k
              have hK3 : 256 ^ k ≤ 256 ^ 3 := Nat.pow_le_pow_right (by omega) (by omega)
              refine ⟨by omega, by omega, by omega, by (constructor <;> omega), Again.intro (k + 1) (by omega) (by omega) ?_⟩
              simp only [vmark, seqN, sameBox, boxJs, vquietR, vopsR, RetC, retW, cellR, undV, vgA, vbinN, vnn, isNilC, isIf, vconvH, vconvO, cvOk, frz1, frzE, jsOk, jsCo, rowsH, vgcH, vgH, vopsT, stepE, Kseq_app, vg_skip, vg_label, vg_seq, vg_region, vg_cond, vg_block, vg_exit, vg_ret, vg_loop, vcallF, vcallH, uls, HdelK, memN, noBox, ninL, keysH, jsAt, AdSub, adopt, noEl, isNil, effL, effO, vopsD, vquiet, vfstD, ldq, ldOk, vops, vfst, vone, vact, ug, addL, vbox, valloc, vstore, vbuild, arrF, vbuildSlice, vappend, vmake, zeroS, zeroE, vstrB, apC, nrm, nr1, nrL, keyL, neqs, diffs, V.app, V.len, vsrc, vdst, mkSl, mkBy, inOrd, placeAll, V.one, V.sto, V.csize, V.parts, V.cellsL, setMany, V.setB, V.setE, V.setO, V.noOwn, V.isOwn, vq, vcall, fzA, fz, fz1, fzL, fzN, rts, rt1, V.er, er1, er2, mixA, mixK, uargs, u1, R.add, vop, vbin, vint2, vstr2, vbool2, vnum, vun, vpick, vpick1, vbool, vconv, vnil, vfieldAddr, vindexAddr, vstEq, vindex, vload, vfield, aggD, vslice, bnd, uopt, vlen, vmin, vextract, Hpk, Hroot, refV, ownR, V.i, V.elems, V.cell, V.cut, V.exact, V.ex0, exL, V.cl, clL, V.sc, scL, scO, scH, V.ct, ct1, ct2, RetP, RetK, RetH, retL, retOne, Back, Veq, subH, obs, obsIf, En.get, En.put, En.ev, enOf, gcond, wantB, constV, exGet, subE, Sub, RV, RVL, NR, RO, subER, subHR, newLt, oldNe, oldOk, oldGe, notIn, ivN, lookN, SubR, Nm.root, Nat.reduceMul, Nat.reduceLeDiff, Nat.reduceEqDiff, Nat.reduceLT, Nat.reduceAdd, Nat.reduceSub, ↓reduceIte, implies_true, reduceCtorEq, ne_eq, ↓shr_eq, IntKind.bits, Int.reduceToNat, Int.reducePow, dite_eq_ite, Value.oneCell', Nat.reduceBEq, Nat.reduceDiv, bnS, bnN, bnT]
              simp only [byteAt_N]
              rw [or_step _ _ (by omega) (byteN_lt _ _)]
              simp [beV]
            · simp only [decide_eq_false_iff_not] at h3
              obtain rfl : k = K := by omega
              rw [hhead]
              refine ⟨by (constructor <;> omega), by (constructor <;> omega), by (constructor <;> omega), by simp only; omega, by simp only; omega, ?_⟩
              simp only [decide_eq_decide]; omega
        all_goals
          intros; simp only [Bool.and_eq_true, Bool.or_eq_true, Bool.not_eq_true', Bool.and_eq_false_imp, Bool.or_eq_false_iff, Bool.not_eq_false', decide_eq_true_eq, decide_eq_false_iff_not, beq_iff_eq, beq_eq_false_iff_ne, ne_eq, and_true, I64_iff] at *; omega
    · simp only [decide_eq_false_iff_not] at h1
      rw [headF, if_neg (by omega), if_pos (by omega)]
      have hb := byteN_lt l (p + 1)
      refine ⟨by (constructor <;> omega), by (constructor <;> omega), by simp only; omega, by simp only; omega, ?_⟩
      simp only [decide_eq_decide]; omega
end Go.Proofs.YtmafmdnmoccohaaGreatDoor
