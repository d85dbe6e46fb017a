/- The marks that a list is written full of: the walk. -/
import Derived.Test.YtelaolingpbnfaaDHead
import Derived.Test.YtelaolingpbnfaaRSem
namespace Go.Proofs.Ytelaolingpbnfaa
open Go.RowKit
set_option linter.unusedSimpArgs false
set_option maxRecDepth 100000
def markI (i : Nat) (p : Int) : Int := if p = 0 then (i : Int) % 250 else if p = 1 then (i : Int) / 250 % 250 else 250
def moreI (i : Nat) (p : Int) : Int := if p < 2 then markI i p else 251
theorem markI_u8 (i : Nat) (p : Int) : 0 ≤ markI i p ∧ markI i p < 256 := by
  unfold markI
  split
  · omega
  · split <;> omega
theorem moreI_u8 (i : Nat) (p : Int) : 0 ≤ moreI i p ∧ moreI i p < 256 := by
  unfold moreI
  split
  · exact markI_u8 i p
  · omega
theorem mark_fn (J : Inv) (i : Nat) (p : Int) (hi : i ≤ 9223372036854775807) : Fn Try.prog J 38 false [.i i, .val (.int .i64 p)] (.val (.int .u8 (markI i p))) := by
  refine fn_intro Try.func38 rfl (by kernel_rfl) (Nat.le_of_ble_eq_true (by kernel_rfl)) (by kernel_rfl) (by kernel_rfl) rfl (G0_ok J) ?_
  unfold Try.f38
  simp only [vquietR, vopsR, RetC, retW, cellR, undV, vgA, vbinN, vnn, isNilC, isIf, vconvH, vconvO, cvOk, frz1, frzE, jsOk, jsCo, vgcH, vgH, vopsT, stepE, Kseq_app, vg_skip, vg_label, vg_seq, vg_region, vg_cond, vg_block, vg_exit, vg_ret, vg_loop, vcallF, vcallH, uls, HdelK, memN, noBox, ninL, keysH, jsAt, AdSub, adopt, noEl, isNil, effL, effO, vopsD, vquiet, vfstD, ldq, ldOk, vops, vfst, vone, vact, ug, addL, vbox, valloc, vstore, vbuild, vbuildSlice, vappend, vmake, zeroS, zeroE, vstrB, apC, nrm, nr1, nrL, keyL, neqs, diffs, V.app, V.len, vsrc, vdst, mkSl, mkBy, inOrd, placeAll, V.one, V.sto, V.csize, V.parts, V.cellsL, setMany, V.setB, V.setE, V.setO, V.noOwn, V.isOwn, vq, vcall, fzA, fz, fz1, fzL, fzN, rts, rt1, V.er, er1, er2, mixA, mixK, uargs, u1, R.add, vop, vbin, vint2, vstr2, vbool2, vnum, vun, vpick, vpick1, vbool, vconv, vnil, vfieldAddr, vindexAddr, vindex, vload, vfield, aggD, vslice, bnd, uopt, vlen, vmin, vextract, Hpk, Hroot, refV, ownR, V.i, V.elems, V.cell, V.cut, V.exact, V.ex0, exL, V.cl, clL, V.sc, scL, scO, scH, V.ct, ct1, ct2, RetP, RetK, RetH, retL, retOne, Back, Veq, subH, obs, obsIf, En.get, En.put, En.ev, enOf, gcond, wantB, constV, exGet, subE, Sub, RV, RVL, NR, RO, subER, subHR, newLt, oldNe, oldOk, oldGe, notIn, ivN, lookN, SubR, Nm.root, nums_len, nums_get, nums_app, nums_apps, nums_set, nums_rep, nums_take, nums_drop, nums_er, nums_cl, nums_sc, nums_ct, strs_len, strs_get, strs_app, strs_apps, strs_set, strs_take, strs_drop, strs_er, strs_cl, strs_sc, strs_ct, Option.getD_some, Option.map_some, Option.map_none, Option.bind_some, Option.bind_none, Option.isSome_some, Option.isSome_none, Option.some.injEq, Option.isSome_map, List.getD_cons_zero, List.getD_cons_succ, List.getD_nil, List.length_cons, List.length_nil, List.set_cons_zero, List.set_cons_succ, List.getElem?_cons_succ, List.getElem?_cons_zero, List.getElem?_toArray, List.all_cons, List.all_nil, List.range_succ, List.range_zero, List.all_append, List.nil_append, List.cons_append, decide_eq_true_eq, decide_true, decide_false, Nat.reduceMul, Nat.reduceLeDiff, Nat.reduceEqDiff, Nat.reduceLT, Nat.reduceAdd, Nat.reduceSub, ↓reduceIte, Bool.false_eq_true, Bool.or_false, Bool.false_or, Bool.or_true, Bool.true_or, Bool.and_true, Bool.true_and, Bool.and_false, Bool.false_and, Bool.not_true, Bool.not_false, and_true, true_and, imp_self, implies_true, V.val.injEq, V.bb.injEq, V.str.injEq, V.by.injEq, V.st.injEq, V.sq.injEq, V.tu.injEq, V.ro.injEq, V.vw.injEq, V.op.injEq, V.own.injEq, Nm.r.injEq, Nm.c.injEq, List.cons.injEq, Ob.box.injEq, Ob.row.injEq, Prod.mk.injEq, Value.int.injEq, Value.bool.injEq, Value.string.injEq, reduceCtorEq, ne_eq, not_false_eq_true, not_true_eq_false, Bool.not_eq_true', wrap_byteAt, wrap_u8, ↓shr_eq, IntKind.bits, Int.reduceToNat, Int.reducePow, Nat.min_def, Nat.add_eq_left, Nat.left_eq_add, Nat.add_left_cancel_iff, Nat.add_assoc, Int.toNat_natCast, Bool.cond_true_left, Bool.cond_false_right, List.map_cons, List.map_nil, List.flatMap_cons, List.flatMap_nil, List.length_map, List.isEmpty_nil, List.isEmpty_cons, Option.toList_none, Option.toList_some, Bool.or_self, Bool.and_self, dite_eq_ite, List.drop_zero, List.drop_succ_cons, List.take_succ_cons, List.take_zero, List.drop_nil, List.take_nil, or_self, or_false, false_or, Value.oneCell', Option.all_none, Option.all_some, List.contains_cons, List.contains_nil, BEq.rfl, beq_self_eq_true, Nat.reduceBEq, Nat.reduceDiv, Nat.sub_zero, Nat.zero_add, Nat.add_zero, Try.underlying2, Try.underlying3, Try.underlying4, Try.underlying5, Try.underlying9, Try.underlying21, Try.underlying22, Try.underlying24, Try.underlying25, Try.underlying36, Try.underlying37, Try.underlying39, Try.underlying46, Try.underlying60, Try.co2, Try.co3, Try.co4, Try.co5, Try.co9, Try.co21, Try.co22, Try.co24, Try.co25, Try.co36, Try.co37, Try.co39, Try.co46, Try.co60, Try.ri3, Try.ri5, Try.ri22, Try.ri36, Try.ze2, Try.ze3, Try.ze4, Try.ze5, Try.ze9, Try.ze21, Try.ze22, Try.ze24, Try.ze25, Try.ze36, Try.ze37, Try.ze39, Try.ze46, Try.ze60, G0, G0f]
  refine ⟨fun h => ⟨by omega, by omega, ?_⟩, fun h => ⟨fun h2 => ⟨by constructor <;> omega, by omega, by omega, by omega, by omega, ?_⟩, fun h2 => ?_⟩⟩
  · obtain rfl : p = 0 := by simpa using h
    simp only [markI, if_true]; omega
  · obtain rfl : p = 1 := by simpa using h2
    have : markI i 1 = (i : Int) / 250 % 250 := rfl
    rw [this]; omega
  · have h : p ≠ 0 := by simpa using h
    have h2 : p ≠ 1 := by simpa using h2
    simp only [markI, h, h2, if_false]
def GMf : FuncId → List V → Option (List Prop × Bool × V) := fun f args =>
  if f = 38 then match args with
    | [.val (.int .i64 i), .val (.int .i64 p)] => some ([0 ≤ i, i ≤ 9223372036854775807], false, .val (.int .u8 (markI i.toNat p)))
    | _ => none
  else none
def GM (J : Inv) : Sig := ⟨J, df, GMf, noH, 0⟩
theorem GM_ok (J : Inv) : SigOk Try.prog (GM J) := .plain fun f args l fr r h hl => by
  unfold GMf at h
  split at h
  · rename_i hf; subst hf
    split at h
    · rename_i i p
      obtain ⟨rfl, rfl, rfl⟩ := some_tri h
      have h0 : 0 ≤ i := hl _ (by simp)
      have h1 : i ≤ 9223372036854775807 := hl _ (by simp)
      obtain ⟨i, rfl⟩ := Int.eq_ofNat_of_zero_le h0
      exact mark_fn J i p (by omega)
    · exact absurd h (by simp)
  · exact absurd h (by simp)
theorem more_fn (J : Inv) (i : Nat) (p : Int) (hi : i ≤ 9223372036854775807) : Fn Try.prog J 39 false [.i i, .val (.int .i64 p)] (.val (.int .u8 (moreI i p))) := by
  refine fn_intro Try.func39 rfl (by kernel_rfl) (Nat.le_of_ble_eq_true (by kernel_rfl)) (by kernel_rfl) (by kernel_rfl) rfl (GM_ok J) ?_
  unfold Try.f39
  simp only [vquietR, vopsR, RetC, retW, cellR, undV, vgA, vbinN, vnn, isNilC, isIf, vconvH, vconvO, cvOk, frz1, frzE, jsOk, jsCo, vgcH, vgH, vopsT, stepE, Kseq_app, vg_skip, vg_label, vg_seq, vg_region, vg_cond, vg_block, vg_exit, vg_ret, vg_loop, vcallF, vcallH, uls, HdelK, memN, noBox, ninL, keysH, jsAt, AdSub, adopt, noEl, isNil, effL, effO, vopsD, vquiet, vfstD, ldq, ldOk, vops, vfst, vone, vact, ug, addL, vbox, valloc, vstore, vbuild, vbuildSlice, vappend, vmake, zeroS, zeroE, vstrB, apC, nrm, nr1, nrL, keyL, neqs, diffs, V.app, V.len, vsrc, vdst, mkSl, mkBy, inOrd, placeAll, V.one, V.sto, V.csize, V.parts, V.cellsL, setMany, V.setB, V.setE, V.setO, V.noOwn, V.isOwn, vq, vcall, fzA, fz, fz1, fzL, fzN, rts, rt1, V.er, er1, er2, mixA, mixK, uargs, u1, R.add, vop, vbin, vint2, vstr2, vbool2, vnum, vun, vpick, vpick1, vbool, vconv, vnil, vfieldAddr, vindexAddr, vindex, vload, vfield, aggD, vslice, bnd, uopt, vlen, vmin, vextract, Hpk, Hroot, refV, ownR, V.i, V.elems, V.cell, V.cut, V.exact, V.ex0, exL, V.cl, clL, V.sc, scL, scO, scH, V.ct, ct1, ct2, RetP, RetK, RetH, retL, retOne, Back, Veq, subH, obs, obsIf, En.get, En.put, En.ev, enOf, gcond, wantB, constV, exGet, subE, Sub, RV, RVL, NR, RO, subER, subHR, newLt, oldNe, oldOk, oldGe, notIn, ivN, lookN, SubR, Nm.root, nums_len, nums_get, nums_app, nums_apps, nums_set, nums_rep, nums_take, nums_drop, nums_er, nums_cl, nums_sc, nums_ct, strs_len, strs_get, strs_app, strs_apps, strs_set, strs_take, strs_drop, strs_er, strs_cl, strs_sc, strs_ct, Option.getD_some, Option.map_some, Option.map_none, Option.bind_some, Option.bind_none, Option.isSome_some, Option.isSome_none, Option.some.injEq, Option.isSome_map, List.getD_cons_zero, List.getD_cons_succ, List.getD_nil, List.length_cons, List.length_nil, List.set_cons_zero, List.set_cons_succ, List.getElem?_cons_succ, List.getElem?_cons_zero, List.getElem?_toArray, List.all_cons, List.all_nil, List.range_succ, List.range_zero, List.all_append, List.nil_append, List.cons_append, decide_eq_true_eq, decide_true, decide_false, Nat.reduceMul, Nat.reduceLeDiff, Nat.reduceEqDiff, Nat.reduceLT, Nat.reduceAdd, Nat.reduceSub, ↓reduceIte, Bool.false_eq_true, Bool.or_false, Bool.false_or, Bool.or_true, Bool.true_or, Bool.and_true, Bool.true_and, Bool.and_false, Bool.false_and, Bool.not_true, Bool.not_false, and_true, true_and, imp_self, implies_true, V.val.injEq, V.bb.injEq, V.str.injEq, V.by.injEq, V.st.injEq, V.sq.injEq, V.tu.injEq, V.ro.injEq, V.vw.injEq, V.op.injEq, V.own.injEq, Nm.r.injEq, Nm.c.injEq, List.cons.injEq, Ob.box.injEq, Ob.row.injEq, Prod.mk.injEq, Value.int.injEq, Value.bool.injEq, Value.string.injEq, reduceCtorEq, ne_eq, not_false_eq_true, not_true_eq_false, Bool.not_eq_true', wrap_byteAt, wrap_u8, ↓shr_eq, IntKind.bits, Int.reduceToNat, Int.reducePow, Nat.min_def, Nat.add_eq_left, Nat.left_eq_add, Nat.add_left_cancel_iff, Nat.add_assoc, Int.toNat_natCast, Bool.cond_true_left, Bool.cond_false_right, List.map_cons, List.map_nil, List.flatMap_cons, List.flatMap_nil, List.length_map, List.isEmpty_nil, List.isEmpty_cons, Option.toList_none, Option.toList_some, Bool.or_self, Bool.and_self, dite_eq_ite, List.drop_zero, List.drop_succ_cons, List.take_succ_cons, List.take_zero, List.drop_nil, List.take_nil, or_self, or_false, false_or, Value.oneCell', Option.all_none, Option.all_some, List.contains_cons, List.contains_nil, BEq.rfl, beq_self_eq_true, Nat.reduceBEq, Nat.reduceDiv, Nat.sub_zero, Nat.zero_add, Nat.add_zero, Try.underlying2, Try.underlying3, Try.underlying4, Try.underlying5, Try.underlying9, Try.underlying21, Try.underlying22, Try.underlying24, Try.underlying25, Try.underlying36, Try.underlying37, Try.underlying39, Try.underlying46, Try.underlying60, Try.co2, Try.co3, Try.co4, Try.co5, Try.co9, Try.co21, Try.co22, Try.co24, Try.co25, Try.co36, Try.co37, Try.co39, Try.co46, Try.co60, Try.ri3, Try.ri5, Try.ri22, Try.ri36, Try.ze2, Try.ze3, Try.ze4, Try.ze5, Try.ze9, Try.ze21, Try.ze22, Try.ze24, Try.ze25, Try.ze36, Try.ze37, Try.ze39, Try.ze46, Try.ze60, GM, GMf]
  refine ⟨fun h => ⟨by omega, by omega, ?_⟩, fun h => ?_⟩
  · have h : p < 2 := by simpa using h
    simp only [moreI, h, if_true, Int.toNat_natCast]
  · have h : ¬ p < 2 := by simpa using h
    simp only [moreI, h, if_false]
def GKf : FuncId → List V → Option (List Prop × Bool × V) := fun f args =>
  if f = 38 then match args with
    | [.val (.int .i64 i), .val (.int .i64 p)] => some ([0 ≤ i, i ≤ 9223372036854775807], false, .val (.int .u8 (markI i.toNat p)))
    | _ => none
  else if f = 39 then match args with
    | [.val (.int .i64 i), .val (.int .i64 p)] => some ([0 ≤ i, i ≤ 9223372036854775807], false, .val (.int .u8 (moreI i.toNat p)))
    | _ => none
  else none
def dfB (t : TypeId) : V := if t = 22 then .by [] else df t
def GK (J : Inv) (n : Nat) : Sig := ⟨J, dfB, GKf, noH, n⟩
theorem GK_ok (J : Inv) (n : Nat) : SigOk Try.prog (GK J n) := .plain fun f args l fr r h hl => by
  unfold GKf at h
  split at h
  · rename_i hf; subst hf
    split at h
    · rename_i i p
      obtain ⟨rfl, rfl, rfl⟩ := some_tri h
      have h0 : 0 ≤ i := hl _ (by simp)
      have h1 : i ≤ 9223372036854775807 := hl _ (by simp)
      obtain ⟨i, rfl⟩ := Int.eq_ofNat_of_zero_le h0
      exact mark_fn J i p (by omega)
    · exact absurd h (by simp)
  · split at h
    · rename_i hf; subst hf
      split at h
      · rename_i i p
        obtain ⟨rfl, rfl, rfl⟩ := some_tri h
        have h0 : 0 ≤ i := hl _ (by simp)
        have h1 : i ≤ 9223372036854775807 := hl _ (by simp)
        obtain ⟨i, rfl⟩ := Int.eq_ofNat_of_zero_le h0
        exact more_fn J i p (by omega)
      · exact absurd h (by simp)
    · exact absurd h (by simp)
end Go.Proofs.Ytelaolingpbnfaa
