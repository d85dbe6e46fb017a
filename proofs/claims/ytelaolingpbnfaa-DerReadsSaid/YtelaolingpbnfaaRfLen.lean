/- The reference's Length: the walk; it agrees with head. -/
import Derived.Test.YtelaolingpbnfaaDHd2
import Derived.Test.YtelaolingpbnfaaWad
namespace Go.Proofs.Ytelaolingpbnfaa
open Go.RowKit
set_option linter.unusedSimpArgs false
set_option maxRecDepth 100000
def lnF (l : List UInt8) (a q : Nat) : Nat × Nat :=
  if q ≤ a then (0, 0)
  else if byteN l a < 128 then (byteN l a, 1)
  else if byteN l a = 128 ∨ 132 < byteN l a ∨ q ≤ a + (byteN l a - 128) then (0, 0)
  else if byteN l (a + 1) = 0 ∨ beV (l.drop (a + 1)) (byteN l a - 128) < 128 then (0, 0)
  else (beV (l.drop (a + 1)) (byteN l a - 128), 1 + (byteN l a - 128))
theorem Length_fn (J : Inv) (l : List UInt8) (a q : Nat) (hq : q ≤ l.length) (hm : l.length ≤ 65536) (ha : a ≤ 65537) : Fn Try.prog J 34 false [.by l, .i a, .i q] (.tu [.i (lnF l a q).1, .i (lnF l a q).2]) := by
  refine fn_intro Try.func34 rfl (by kernel_rfl) (Nat.le_of_ble_eq_true (by kernel_rfl)) (by kernel_rfl) (by kernel_rfl) rfl (G0_ok J) ?_
  unfold Try.f34
  simp only [vquietR, vopsR, RetC, retW, cellR, undV, vgA, vbinN, vnn, isNilC, isIf, vconvH, vconvO, cvOk, frz1, frzE, jsOk, jsCo, vgcH, vgH, vopsT, stepE, Kseq_app, vg_skip, vg_label, vg_seq, vg_region, vg_cond, vg_block, vg_exit, vg_ret, vg_loop, vcallF, vcallH, uls, HdelK, memN, noBox, ninL, keysH, jsAt, AdSub, adopt, noEl, isNil, effL, effO, vopsD, vquiet, vfstD, ldq, ldOk, vops, vfst, vone, vact, ug, addL, vbox, valloc, vstore, vbuild, vbuildSlice, vappend, vmake, zeroS, zeroE, vstrB, apC, nrm, nr1, nrL, keyL, neqs, diffs, V.app, V.len, vsrc, vdst, mkSl, mkBy, inOrd, placeAll, V.one, V.sto, V.csize, V.parts, V.cellsL, setMany, V.setB, V.setE, V.setO, V.noOwn, V.isOwn, vq, vcall, fzA, fz, fz1, fzL, fzN, rts, rt1, V.er, er1, er2, mixA, mixK, uargs, u1, R.add, vop, vbin, vint2, vstr2, vbool2, vnum, vun, vpick, vpick1, vbool, vconv, vnil, vfieldAddr, vindexAddr, vindex, vload, vfield, aggD, vslice, bnd, uopt, vlen, vmin, vextract, Hpk, Hroot, refV, ownR, V.i, V.elems, V.cell, V.cut, V.exact, V.ex0, exL, V.cl, clL, V.sc, scL, scO, scH, V.ct, ct1, ct2, RetP, RetK, RetH, retL, retOne, Back, Veq, subH, obs, obsIf, En.get, En.put, En.ev, enOf, gcond, wantB, constV, exGet, subE, Sub, RV, RVL, NR, RO, subER, subHR, newLt, oldNe, oldOk, oldGe, notIn, ivN, lookN, SubR, Nm.root, nums_len, nums_get, nums_app, nums_apps, nums_set, nums_rep, nums_take, nums_drop, nums_er, nums_cl, nums_sc, nums_ct, strs_len, strs_get, strs_app, strs_apps, strs_set, strs_take, strs_drop, strs_er, strs_cl, strs_sc, strs_ct, Option.getD_some, Option.map_some, Option.map_none, Option.bind_some, Option.bind_none, Option.isSome_some, Option.isSome_none, Option.some.injEq, Option.isSome_map, List.getD_cons_zero, List.getD_cons_succ, List.getD_nil, List.length_cons, List.length_nil, List.set_cons_zero, List.set_cons_succ, List.getElem?_cons_succ, List.getElem?_cons_zero, List.getElem?_toArray, List.all_cons, List.all_nil, List.range_succ, List.range_zero, List.all_append, List.nil_append, List.cons_append, decide_eq_true_eq, decide_true, decide_false, Nat.reduceMul, Nat.reduceLeDiff, Nat.reduceEqDiff, Nat.reduceLT, Nat.reduceAdd, Nat.reduceSub, ↓reduceIte, Bool.false_eq_true, Bool.or_false, Bool.false_or, Bool.or_true, Bool.true_or, Bool.and_true, Bool.true_and, Bool.and_false, Bool.false_and, Bool.not_true, Bool.not_false, and_true, true_and, imp_self, implies_true, V.val.injEq, V.bb.injEq, V.str.injEq, V.by.injEq, V.st.injEq, V.sq.injEq, V.tu.injEq, V.ro.injEq, V.vw.injEq, V.op.injEq, V.own.injEq, Nm.r.injEq, Nm.c.injEq, List.cons.injEq, Ob.box.injEq, Ob.row.injEq, Prod.mk.injEq, Value.int.injEq, Value.bool.injEq, Value.string.injEq, reduceCtorEq, ne_eq, not_false_eq_true, not_true_eq_false, Bool.not_eq_true', wrap_byteAt, wrap_u8, ↓shr_eq, IntKind.bits, Int.reduceToNat, Int.reducePow, Nat.min_def, Nat.add_eq_left, Nat.left_eq_add, Nat.add_left_cancel_iff, Nat.add_assoc, Int.toNat_natCast, Bool.cond_true_left, Bool.cond_false_right, List.map_cons, List.map_nil, List.flatMap_cons, List.flatMap_nil, List.length_map, List.isEmpty_nil, List.isEmpty_cons, Option.toList_none, Option.toList_some, Bool.or_self, Bool.and_self, dite_eq_ite, List.drop_zero, List.drop_succ_cons, List.take_succ_cons, List.take_zero, List.drop_nil, List.take_nil, or_self, or_false, false_or, Value.oneCell', Option.all_none, Option.all_some, List.contains_cons, List.contains_nil, BEq.rfl, beq_self_eq_true, Nat.reduceBEq, Nat.reduceDiv, Nat.sub_zero, Nat.zero_add, Nat.add_zero, Try.underlying2, Try.underlying3, Try.underlying4, Try.underlying5, Try.underlying9, Try.underlying21, Try.underlying22, Try.underlying24, Try.underlying25, Try.underlying36, Try.underlying37, Try.underlying39, Try.underlying46, Try.underlying60, Try.co2, Try.co3, Try.co4, Try.co5, Try.co9, Try.co21, Try.co22, Try.co24, Try.co25, Try.co36, Try.co37, Try.co39, Try.co46, Try.co60, Try.ri3, Try.ri5, Try.ri22, Try.ri36, Try.ze2, Try.ze3, Try.ze4, Try.ze5, Try.ze9, Try.ze21, Try.ze22, Try.ze24, Try.ze25, Try.ze36, Try.ze37, Try.ze39, Try.ze46, Try.ze60, G0, G0f]
  have hb := byteN_lt l a
  have hB := byteAt_N l a
  refine ⟨fun h => ?_, fun h => ?_⟩
  · simp only [decide_eq_true_eq] at h
    rw [lnF, if_pos (by omega)]
    exact ⟨rfl, rfl⟩
  · simp only [decide_eq_false_iff_not] at h
    refine ⟨by omega, by omega, fun h1 => ?_, fun h1 => ?_⟩
    · simp only [decide_eq_true_eq] at h1
      rw [lnF, if_neg (by omega), if_pos (by omega)]
      exact ⟨by omega, by omega, hB, rfl⟩
    · simp only [decide_eq_false_iff_not] at h1
      refine ⟨by omega, by omega, by constructor <;> omega, fun _ => by constructor <;> omega, fun h2 => ?_, fun h2 => ?_⟩
      · simp only [Bool.or_eq_true, decide_eq_true_eq] at h2
        rw [lnF, if_neg (by omega), if_neg (by omega), if_pos (by omega)]
        exact ⟨rfl, rfl⟩
      · simp only [Bool.or_eq_false_iff, decide_eq_false_iff_not] at h2
        obtain ⟨K, hK⟩ : ∃ K, K = byteN l a - 128 := ⟨_, rfl⟩
        have hKK : byteAt l a - 128 = (K : Int) := by omega
        have hK4 : K ≤ 4 := by omega
        simp only [hKK] at h2 ⊢
        have hlt := fun k => beV_lt (l.drop (a + 1)) k
        refine LoopC.intro (α := Nat) (fun j => j ≤ K) (fun j => ⟨[(10, .i ((j : Int) + 1)), (9, .i (beV (l.drop (a + 1)) j)), (8, .i K), (0, .by l), (1, .i a), (2, .i q)], [], 0⟩) (fun j => K - j) 0 (Nat.zero_le _) ?_ ?_
        · simp only [vquietR, vopsR, RetC, retW, cellR, undV, vgA, vbinN, vnn, isNilC, isIf, vconvH, vconvO, cvOk, frz1, frzE, jsOk, jsCo, vgcH, vgH, vopsT, stepE, Kseq_app, vg_skip, vg_label, vg_seq, vg_region, vg_cond, vg_block, vg_exit, vg_ret, vg_loop, vcallF, vcallH, uls, HdelK, memN, noBox, ninL, keysH, jsAt, AdSub, adopt, noEl, isNil, effL, effO, vopsD, vquiet, vfstD, ldq, ldOk, vops, vfst, vone, vact, ug, addL, vbox, valloc, vstore, vbuild, vbuildSlice, vappend, vmake, zeroS, zeroE, vstrB, apC, nrm, nr1, nrL, keyL, neqs, diffs, V.app, V.len, vsrc, vdst, mkSl, mkBy, inOrd, placeAll, V.one, V.sto, V.csize, V.parts, V.cellsL, setMany, V.setB, V.setE, V.setO, V.noOwn, V.isOwn, vq, vcall, fzA, fz, fz1, fzL, fzN, rts, rt1, V.er, er1, er2, mixA, mixK, uargs, u1, R.add, vop, vbin, vint2, vstr2, vbool2, vnum, vun, vpick, vpick1, vbool, vconv, vnil, vfieldAddr, vindexAddr, vindex, vload, vfield, aggD, vslice, bnd, uopt, vlen, vmin, vextract, Hpk, Hroot, refV, ownR, V.i, V.elems, V.cell, V.cut, V.exact, V.ex0, exL, V.cl, clL, V.sc, scL, scO, scH, V.ct, ct1, ct2, RetP, RetK, RetH, retL, retOne, Back, Veq, subH, obs, obsIf, En.get, En.put, En.ev, enOf, gcond, wantB, constV, exGet, subE, Sub, RV, RVL, NR, RO, subER, subHR, newLt, oldNe, oldOk, oldGe, notIn, ivN, lookN, SubR, Nm.root, nums_len, nums_get, nums_app, nums_apps, nums_set, nums_rep, nums_take, nums_drop, nums_er, nums_cl, nums_sc, nums_ct, strs_len, strs_get, strs_app, strs_apps, strs_set, strs_take, strs_drop, strs_er, strs_cl, strs_sc, strs_ct, Option.getD_some, Option.map_some, Option.map_none, Option.bind_some, Option.bind_none, Option.isSome_some, Option.isSome_none, Option.some.injEq, Option.isSome_map, List.getD_cons_zero, List.getD_cons_succ, List.getD_nil, List.length_cons, List.length_nil, List.set_cons_zero, List.set_cons_succ, List.getElem?_cons_succ, List.getElem?_cons_zero, List.getElem?_toArray, List.all_cons, List.all_nil, List.range_succ, List.range_zero, List.all_append, List.nil_append, List.cons_append, decide_eq_true_eq, decide_true, decide_false, Nat.reduceMul, Nat.reduceLeDiff, Nat.reduceEqDiff, Nat.reduceLT, Nat.reduceAdd, Nat.reduceSub, ↓reduceIte, Bool.false_eq_true, Bool.or_false, Bool.false_or, Bool.or_true, Bool.true_or, Bool.and_true, Bool.true_and, Bool.and_false, Bool.false_and, Bool.not_true, Bool.not_false, and_true, true_and, imp_self, implies_true, V.val.injEq, V.bb.injEq, V.str.injEq, V.by.injEq, V.st.injEq, V.sq.injEq, V.tu.injEq, V.ro.injEq, V.vw.injEq, V.op.injEq, V.own.injEq, Nm.r.injEq, Nm.c.injEq, List.cons.injEq, Ob.box.injEq, Ob.row.injEq, Prod.mk.injEq, Value.int.injEq, Value.bool.injEq, Value.string.injEq, reduceCtorEq, ne_eq, not_false_eq_true, not_true_eq_false, Bool.not_eq_true', wrap_byteAt, wrap_u8, ↓shr_eq, IntKind.bits, Int.reduceToNat, Int.reducePow, Nat.min_def, Nat.add_eq_left, Nat.left_eq_add, Nat.add_left_cancel_iff, Nat.add_assoc, Int.toNat_natCast, Bool.cond_true_left, Bool.cond_false_right, List.map_cons, List.map_nil, List.flatMap_cons, List.flatMap_nil, List.length_map, List.isEmpty_nil, List.isEmpty_cons, Option.toList_none, Option.toList_some, Bool.or_self, Bool.and_self, dite_eq_ite, List.drop_zero, List.drop_succ_cons, List.take_succ_cons, List.take_zero, List.drop_nil, List.take_nil, or_self, or_false, false_or, Value.oneCell', Option.all_none, Option.all_some, List.contains_cons, List.contains_nil, BEq.rfl, beq_self_eq_true, Nat.reduceBEq, Nat.reduceDiv, Nat.sub_zero, Nat.zero_add, Nat.add_zero, Try.underlying2, Try.underlying3, Try.underlying4, Try.underlying5, Try.underlying9, Try.underlying21, Try.underlying22, Try.underlying24, Try.underlying25, Try.underlying36, Try.underlying37, Try.underlying39, Try.underlying46, Try.underlying60, Try.co2, Try.co3, Try.co4, Try.co5, Try.co9, Try.co21, Try.co22, Try.co24, Try.co25, Try.co36, Try.co37, Try.co39, Try.co46, Try.co60, Try.ri3, Try.ri5, Try.ri22, Try.ri36, Try.ze2, Try.ze3, Try.ze4, Try.ze5, Try.ze9, Try.ze21, Try.ze22, Try.ze24, Try.ze25, Try.ze36, Try.ze37, Try.ze39, Try.ze46, Try.ze60]
          simp [beV]
        · intro j hj
          have hlt2 := hlt j
          have hK3 : 256 ^ j ≤ 256 ^ 4 := Nat.pow_le_pow_right (by omega) (by omega)
          simp only [vquietR, vopsR, RetC, retW, cellR, undV, vgA, vbinN, vnn, isNilC, isIf, vconvH, vconvO, cvOk, frz1, frzE, jsOk, jsCo, vgcH, vgH, vopsT, stepE, Kseq_app, vg_skip, vg_label, vg_seq, vg_region, vg_cond, vg_block, vg_exit, vg_ret, vg_loop, vcallF, vcallH, uls, HdelK, memN, noBox, ninL, keysH, jsAt, AdSub, adopt, noEl, isNil, effL, effO, vopsD, vquiet, vfstD, ldq, ldOk, vops, vfst, vone, vact, ug, addL, vbox, valloc, vstore, vbuild, vbuildSlice, vappend, vmake, zeroS, zeroE, vstrB, apC, nrm, nr1, nrL, keyL, neqs, diffs, V.app, V.len, vsrc, vdst, mkSl, mkBy, inOrd, placeAll, V.one, V.sto, V.csize, V.parts, V.cellsL, setMany, V.setB, V.setE, V.setO, V.noOwn, V.isOwn, vq, vcall, fzA, fz, fz1, fzL, fzN, rts, rt1, V.er, er1, er2, mixA, mixK, uargs, u1, R.add, vop, vbin, vint2, vstr2, vbool2, vnum, vun, vpick, vpick1, vbool, vconv, vnil, vfieldAddr, vindexAddr, vindex, vload, vfield, aggD, vslice, bnd, uopt, vlen, vmin, vextract, Hpk, Hroot, refV, ownR, V.i, V.elems, V.cell, V.cut, V.exact, V.ex0, exL, V.cl, clL, V.sc, scL, scO, scH, V.ct, ct1, ct2, RetP, RetK, RetH, retL, retOne, Back, Veq, subH, obs, obsIf, En.get, En.put, En.ev, enOf, gcond, wantB, constV, exGet, subE, Sub, RV, RVL, NR, RO, subER, subHR, newLt, oldNe, oldOk, oldGe, notIn, ivN, lookN, SubR, Nm.root, nums_len, nums_get, nums_app, nums_apps, nums_set, nums_rep, nums_take, nums_drop, nums_er, nums_cl, nums_sc, nums_ct, strs_len, strs_get, strs_app, strs_apps, strs_set, strs_take, strs_drop, strs_er, strs_cl, strs_sc, strs_ct, Option.getD_some, Option.map_some, Option.map_none, Option.bind_some, Option.bind_none, Option.isSome_some, Option.isSome_none, Option.some.injEq, Option.isSome_map, List.getD_cons_zero, List.getD_cons_succ, List.getD_nil, List.length_cons, List.length_nil, List.set_cons_zero, List.set_cons_succ, List.getElem?_cons_succ, List.getElem?_cons_zero, List.getElem?_toArray, List.all_cons, List.all_nil, List.range_succ, List.range_zero, List.all_append, List.nil_append, List.cons_append, decide_eq_true_eq, decide_true, decide_false, Nat.reduceMul, Nat.reduceLeDiff, Nat.reduceEqDiff, Nat.reduceLT, Nat.reduceAdd, Nat.reduceSub, ↓reduceIte, Bool.false_eq_true, Bool.or_false, Bool.false_or, Bool.or_true, Bool.true_or, Bool.and_true, Bool.true_and, Bool.and_false, Bool.false_and, Bool.not_true, Bool.not_false, and_true, true_and, imp_self, implies_true, V.val.injEq, V.bb.injEq, V.str.injEq, V.by.injEq, V.st.injEq, V.sq.injEq, V.tu.injEq, V.ro.injEq, V.vw.injEq, V.op.injEq, V.own.injEq, Nm.r.injEq, Nm.c.injEq, List.cons.injEq, Ob.box.injEq, Ob.row.injEq, Prod.mk.injEq, Value.int.injEq, Value.bool.injEq, Value.string.injEq, reduceCtorEq, ne_eq, not_false_eq_true, not_true_eq_false, Bool.not_eq_true', wrap_byteAt, wrap_u8, ↓shr_eq, IntKind.bits, Int.reduceToNat, Int.reducePow, Nat.min_def, Nat.add_eq_left, Nat.left_eq_add, Nat.add_left_cancel_iff, Nat.add_assoc, Int.toNat_natCast, Bool.cond_true_left, Bool.cond_false_right, List.map_cons, List.map_nil, List.flatMap_cons, List.flatMap_nil, List.length_map, List.isEmpty_nil, List.isEmpty_cons, Option.toList_none, Option.toList_some, Bool.or_self, Bool.and_self, dite_eq_ite, List.drop_zero, List.drop_succ_cons, List.take_succ_cons, List.take_zero, List.drop_nil, List.take_nil, or_self, or_false, false_or, Value.oneCell', Option.all_none, Option.all_some, List.contains_cons, List.contains_nil, BEq.rfl, beq_self_eq_true, Nat.reduceBEq, Nat.reduceDiv, Nat.sub_zero, Nat.zero_add, Nat.add_zero, Try.underlying2, Try.underlying3, Try.underlying4, Try.underlying5, Try.underlying9, Try.underlying21, Try.underlying22, Try.underlying24, Try.underlying25, Try.underlying36, Try.underlying37, Try.underlying39, Try.underlying46, Try.underlying60, Try.co2, Try.co3, Try.co4, Try.co5, Try.co9, Try.co21, Try.co22, Try.co24, Try.co25, Try.co36, Try.co37, Try.co39, Try.co46, Try.co60, Try.ri3, Try.ri5, Try.ri22, Try.ri36, Try.ze2, Try.ze3, Try.ze4, Try.ze5, Try.ze9, Try.ze21, Try.ze22, Try.ze24, Try.ze25, Try.ze36, Try.ze37, Try.ze39, Try.ze46, Try.ze60, G0, G0f]
          refine ⟨fun h3 => ?_, fun h3 => ?_⟩
          · simp only [decide_eq_true_eq] at h3
            have e1 : ((a : Int) + ((j : Int) + 1)).toNat = a + 1 + j := by omega
            have e2 : byteN l (a + 1 + j) = byteN (l.drop (a + 1)) j := by unfold byteN; simp [List.getD_eq_getElem?_getD]
            have e3 := byteN_lt (l.drop (a + 1)) j
            have e4 := byteAt_N l (a + 1 + j)
            rw [e2] at e4
            simp only [e1, e4]
            have hK5 : 256 ^ j ≤ 256 ^ 3 := Nat.pow_le_pow_right (by omega) (by omega)
            refine ⟨by constructor <;> omega, by constructor <;> omega, by omega, by omega, by constructor <;> omega, by constructor <;> omega, Again.intro (j + 1) (by omega) (by omega) ?_⟩
            simp only [vquietR, vopsR, RetC, retW, cellR, undV, vgA, vbinN, vnn, isNilC, isIf, vconvH, vconvO, cvOk, frz1, frzE, jsOk, jsCo, vgcH, vgH, vopsT, stepE, Kseq_app, vg_skip, vg_label, vg_seq, vg_region, vg_cond, vg_block, vg_exit, vg_ret, vg_loop, vcallF, vcallH, uls, HdelK, memN, noBox, ninL, keysH, jsAt, AdSub, adopt, noEl, isNil, effL, effO, vopsD, vquiet, vfstD, ldq, ldOk, vops, vfst, vone, vact, ug, addL, vbox, valloc, vstore, vbuild, vbuildSlice, vappend, vmake, zeroS, zeroE, vstrB, apC, nrm, nr1, nrL, keyL, neqs, diffs, V.app, V.len, vsrc, vdst, mkSl, mkBy, inOrd, placeAll, V.one, V.sto, V.csize, V.parts, V.cellsL, setMany, V.setB, V.setE, V.setO, V.noOwn, V.isOwn, vq, vcall, fzA, fz, fz1, fzL, fzN, rts, rt1, V.er, er1, er2, mixA, mixK, uargs, u1, R.add, vop, vbin, vint2, vstr2, vbool2, vnum, vun, vpick, vpick1, vbool, vconv, vnil, vfieldAddr, vindexAddr, vindex, vload, vfield, aggD, vslice, bnd, uopt, vlen, vmin, vextract, Hpk, Hroot, refV, ownR, V.i, V.elems, V.cell, V.cut, V.exact, V.ex0, exL, V.cl, clL, V.sc, scL, scO, scH, V.ct, ct1, ct2, RetP, RetK, RetH, retL, retOne, Back, Veq, subH, obs, obsIf, En.get, En.put, En.ev, enOf, gcond, wantB, constV, exGet, subE, Sub, RV, RVL, NR, RO, subER, subHR, newLt, oldNe, oldOk, oldGe, notIn, ivN, lookN, SubR, Nm.root, nums_len, nums_get, nums_app, nums_apps, nums_set, nums_rep, nums_take, nums_drop, nums_er, nums_cl, nums_sc, nums_ct, strs_len, strs_get, strs_app, strs_apps, strs_set, strs_take, strs_drop, strs_er, strs_cl, strs_sc, strs_ct, Option.getD_some, Option.map_some, Option.map_none, Option.bind_some, Option.bind_none, Option.isSome_some, Option.isSome_none, Option.some.injEq, Option.isSome_map, List.getD_cons_zero, List.getD_cons_succ, List.getD_nil, List.length_cons, List.length_nil, List.set_cons_zero, List.set_cons_succ, List.getElem?_cons_succ, List.getElem?_cons_zero, List.getElem?_toArray, List.all_cons, List.all_nil, List.range_succ, List.range_zero, List.all_append, List.nil_append, List.cons_append, decide_eq_true_eq, decide_true, decide_false, Nat.reduceMul, Nat.reduceLeDiff, Nat.reduceEqDiff, Nat.reduceLT, Nat.reduceAdd, Nat.reduceSub, ↓reduceIte, Bool.false_eq_true, Bool.or_false, Bool.false_or, Bool.or_true, Bool.true_or, Bool.and_true, Bool.true_and, Bool.and_false, Bool.false_and, Bool.not_true, Bool.not_false, and_true, true_and, imp_self, implies_true, V.val.injEq, V.bb.injEq, V.str.injEq, V.by.injEq, V.st.injEq, V.sq.injEq, V.tu.injEq, V.ro.injEq, V.vw.injEq, V.op.injEq, V.own.injEq, Nm.r.injEq, Nm.c.injEq, List.cons.injEq, Ob.box.injEq, Ob.row.injEq, Prod.mk.injEq, Value.int.injEq, Value.bool.injEq, Value.string.injEq, reduceCtorEq, ne_eq, not_false_eq_true, not_true_eq_false, Bool.not_eq_true', wrap_byteAt, wrap_u8, ↓shr_eq, IntKind.bits, Int.reduceToNat, Int.reducePow, Nat.min_def, Nat.add_eq_left, Nat.left_eq_add, Nat.add_left_cancel_iff, Nat.add_assoc, Int.toNat_natCast, Bool.cond_true_left, Bool.cond_false_right, List.map_cons, List.map_nil, List.flatMap_cons, List.flatMap_nil, List.length_map, List.isEmpty_nil, List.isEmpty_cons, Option.toList_none, Option.toList_some, Bool.or_self, Bool.and_self, dite_eq_ite, List.drop_zero, List.drop_succ_cons, List.take_succ_cons, List.take_zero, List.drop_nil, List.take_nil, or_self, or_false, false_or, Value.oneCell', Option.all_none, Option.all_some, List.contains_cons, List.contains_nil, BEq.rfl, beq_self_eq_true, Nat.reduceBEq, Nat.reduceDiv, Nat.sub_zero, Nat.zero_add, Nat.add_zero, Try.underlying2, Try.underlying3, Try.underlying4, Try.underlying5, Try.underlying9, Try.underlying21, Try.underlying22, Try.underlying24, Try.underlying25, Try.underlying36, Try.underlying37, Try.underlying39, Try.underlying46, Try.underlying60, Try.co2, Try.co3, Try.co4, Try.co5, Try.co9, Try.co21, Try.co22, Try.co24, Try.co25, Try.co36, Try.co37, Try.co39, Try.co46, Try.co60, Try.ri3, Try.ri5, Try.ri22, Try.ri36, Try.ze2, Try.ze3, Try.ze4, Try.ze5, Try.ze9, Try.ze21, Try.ze22, Try.ze24, Try.ze25, Try.ze36, Try.ze37, Try.ze39, Try.ze46, Try.ze60]
            simp [beV]
            omega
          · simp only [decide_eq_false_iff_not] at h3
            obtain rfl : j = K := by omega
            have e1 : ((a : Int) + 1).toNat = a + 1 := by omega
            have e4 := byteAt_N l (a + 1)
            have hx : lnF l a q = if byteN l (a + 1) = 0 ∨ beV (l.drop (a + 1)) j < 128 then (0, 0) else (beV (l.drop (a + 1)) j, 1 + j) := by
              rw [lnF, if_neg (by omega), if_neg (by omega), if_neg (by omega), ← hK]
            rw [e1, e4, hx]
            refine ⟨by constructor <;> omega, by omega, by omega, fun h4 => ?_, fun h4 => ?_⟩
            · simp only [Bool.or_eq_true, beq_iff_eq, decide_eq_true_eq] at h4
              rw [if_pos (by omega)]
              exact ⟨rfl, rfl⟩
            · simp only [Bool.or_eq_false_iff, beq_eq_false_iff_ne, decide_eq_false_iff_not] at h4
              rw [if_neg (by omega)]
              exact ⟨by constructor <;> omega, rfl, by simp only; omega⟩
theorem beV_one (l : List UInt8) : beV l 1 = byteN l 0 := by simp [beV]
theorem beV_ge (l : List UInt8) (h : byteN l 0 ≠ 0) : ∀ k, 256 ≤ beV l (k + 2)
  | 0 => by simp only [beV]; omega
  | k + 1 => by
    have := beV_ge l h k
    rw [beV]
    omega
theorem headF_out (l : List UInt8) {p q : Nat} (h : q ≤ p) : (headF l p q).2.2 = false := by rw [headF, if_pos (by omega)]
theorem lnF_no {l : List UInt8} {p q : Nat} (hp : p < q) (h : (lnF l (p + 1) q).2 = 0) : (headF l p q).2.2 = false := by
  have hb := byteN_lt l (p + 1)
  have hd : byteN (l.drop (p + 2)) 0 = byteN l (p + 2) := by unfold byteN; simp [List.getD_eq_getElem?_getD]
  unfold lnF at h
  rw [show p + 1 + 1 = p + 2 from rfl] at h
  rw [headF]
  split at h
  · rw [if_pos (by omega)]
  · split at h
    · simp at h
    · split at h
      · by_cases h0 : q < p + 2
        · rw [if_pos h0]
        · rw [if_neg h0, if_neg (by omega), if_pos (by omega)]
      · split at h
        · rename_i h1 h2 h3 h4
          rw [if_neg (by omega), if_neg (by omega)]
          by_cases h5 : byteN l (p + 2) = 0
          · rw [if_pos (by omega)]
          · have h4 : beV (l.drop (p + 2)) (byteN l (p + 1) - 128) < 128 := by
              rcases h4 with h4 | h4
              · exact absurd h4 h5
              · exact h4
            obtain ⟨K, hK⟩ : ∃ K, K = byteN l (p + 1) - 128 := ⟨_, rfl⟩
            rw [← hK] at h4
            match K, hK with
            | 0, hK => omega
            | 1, hK =>
              rw [beV_one, hd] at h4
              rw [if_pos (by omega)]
            | K + 2, hK =>
              have := beV_ge (l.drop (p + 2)) (by rw [hd]; exact h5) K
              omega
        · simp at h
theorem lnF_yes {l : List UInt8} {p q : Nat} (h : (lnF l (p + 1) q).2 ≠ 0) :
    headF l p q = (p + 1 + (lnF l (p + 1) q).2, p + 1 + (lnF l (p + 1) q).2 + (lnF l (p + 1) q).1, decide (p + 1 + (lnF l (p + 1) q).2 + (lnF l (p + 1) q).1 ≤ q)) ∧ p + 1 + (lnF l (p + 1) q).2 ≤ q := by
  have hb := byteN_lt l (p + 1)
  have hd : byteN (l.drop (p + 2)) 0 = byteN l (p + 2) := by unfold byteN; simp [List.getD_eq_getElem?_getD]
  unfold lnF at h ⊢
  rw [show p + 1 + 1 = p + 2 from rfl] at h ⊢
  rw [headF]
  split at h
  · simp at h
  · rename_i h1
    split at h
    · rename_i h2
      simp only [if_neg h1, if_pos h2]
      rw [if_neg (by omega)]
      exact ⟨rfl, by omega⟩
    · rename_i h2
      split at h
      · simp at h
      · rename_i h3
        split at h
        · simp at h
        · rename_i h4
          simp only [if_neg h1, if_neg h2, if_neg h3, if_neg h4]
          have h5 : ¬ (byteN l (p + 1) = 129 ∧ byteN l (p + 2) < 128) := fun ⟨e1, e2⟩ => by
            have : byteN l (p + 1) - 128 = 1 := by omega
            rw [this, beV_one, hd] at h4
            omega
          rw [if_neg (by omega), if_neg (by omega)]
          have e : p + 1 + (1 + (byteN l (p + 1) - 128)) = p + 2 + (byteN l (p + 1) - 128) := by omega
          rw [e]
          exact ⟨rfl, by omega⟩
end Go.Proofs.Ytelaolingpbnfaa
