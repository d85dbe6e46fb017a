/- The reference's numbers and identifiers: plain laws, walks. -/
import Derived.Test.YtelaolingpbnfaaDoorNOw
import Derived.Test.YtelaolingpbnfaaDoorWTags
import Derived.Test.YtelaolingpbnfaaDoorWMk
import Derived.Lib.ItoaLen
import Derived.Test.YtelaolingpbnfaaDoorVal1
import Derived.Test.YtelaolingpbnfaaDoorOid
namespace Go.Proofs.YtelaolingpbnfaaDoor
open Go.RowKit
set_option linter.unusedSimpArgs false
set_option maxRecDepth 100000
theorem leastF_snoc (c : UInt8) : ∀ p : List UInt8, leastF (p ++ [c]) = if c = 0 ∧ leastF p = [] then [] else leastF p ++ [c]
  | [] => by
    by_cases h : c = 0
    · simp [leastF, h]
    · simp [leastF, h]
  | d :: p => by
    rw [List.cons_append, leastF, leastF]
    by_cases h : d = 0
    · rw [if_pos h, if_pos h, leastF_snoc c p]
    · rw [if_neg h, if_neg h, if_neg (by simp)]; rfl
theorem u8_zero {x : Int} (h0 : 0 ≤ x) (h1 : x < 256) : u8 x = 0 ↔ x = 0 := by
  have := u8_toNat x h0 h1
  constructor
  · intro h; rw [h] at this; simp at this; omega
  · rintro rfl; rfl
theorem rLeast_own (J : Inv) (l : List UInt8) (hl : l.length ≤ 140737488351232) : FnH Tryd.prog J 39 [.by l] [] 0 (.by (leastF l)) [] 1 := by
  refine fnH_intro Tryd.func39 rfl (by kernel_rfl) (Nat.le_of_ble_eq_true (by kernel_rfl)) (by kernel_rfl) (by kernel_rfl) (G0_ok J) rfl ?_
  unfold Tryd.f39
  simp only [vquietR, vopsR, RetC, retW, cellR, undV, vgA, vbinN, vnn, isNilC, isIf, vconvH, vconvO, cvOk, frz1, frzE, jsOk, jsCo, rowsH, vgcH, vgH, vopsT, stepE, Kseq_app, vg_skip, vg_label, vg_seq, vg_region, vg_cond, vg_block, vg_exit, vg_ret, vg_loop, vcallF, vcallH, uls, HdelK, memN, noBox, ninL, keysH, jsAt, AdSub, adopt, noEl, isNil, effL, effO, vopsD, vquiet, vfstD, ldq, ldOk, vops, vfst, vone, vact, ug, addL, vbox, valloc, vstore, vbuild, vbuildSlice, vappend, vmake, zeroS, zeroE, vstrB, apC, nrm, nr1, nrL, keyL, neqs, diffs, V.app, V.len, vsrc, vdst, mkSl, mkBy, inOrd, placeAll, V.one, V.sto, V.csize, V.parts, V.cellsL, setMany, V.setB, V.setE, V.setO, V.noOwn, V.isOwn, vq, vcall, fzA, fz, fz1, fzL, fzN, rts, rt1, V.er, er1, er2, mixA, mixK, uargs, u1, R.add, vop, vbin, vint2, vstr2, vbool2, vnum, vun, vpick, vpick1, vbool, vconv, vnil, vfieldAddr, vindexAddr, vindex, vload, vfield, aggD, vslice, bnd, uopt, vlen, vmin, vextract, Hpk, Hroot, refV, ownR, V.i, V.elems, V.cell, V.cut, V.exact, V.ex0, exL, V.cl, clL, V.sc, scL, scO, scH, V.ct, ct1, ct2, RetP, RetK, RetH, retL, retOne, Back, Veq, subH, obs, obsIf, En.get, En.put, En.ev, enOf, gcond, wantB, constV, exGet, subE, Sub, RV, RVL, NR, RO, subER, subHR, newLt, oldNe, oldOk, oldGe, notIn, ivN, lookN, SubR, Nm.root, Nat.reduceMul, Nat.reduceLeDiff, Nat.reduceEqDiff, Nat.reduceLT, Nat.reduceAdd, Nat.reduceSub, ↓reduceIte, implies_true, reduceCtorEq, ne_eq, ↓shr_eq, IntKind.bits, Int.reduceToNat, Int.reducePow, dite_eq_ite, Value.oneCell', Nat.reduceBEq, Nat.reduceDiv, sd, nm, ty, G0, G0f]
  refine LoopC.introA (α := Nat × Nat) (fun y => y.1 ≤ l.length)
    (fun y => ⟨[(3, .ro (.r y.2)), (4, .i y.1), (0, .by l)], [(y.2, .row 5 (.by (leastF (l.take y.1))))], y.2 + 1⟩)
    (fun y => l.length - y.1) (0, 0) [.sl 3 5 (.by [])] (Nat.zero_le _) ?_ ?_
  · simp only [vquietR, vopsR, RetC, retW, cellR, undV, vgA, vbinN, vnn, isNilC, isIf, vconvH, vconvO, cvOk, frz1, frzE, jsOk, jsCo, rowsH, vgcH, vgH, vopsT, stepE, Kseq_app, vg_skip, vg_label, vg_seq, vg_region, vg_cond, vg_block, vg_exit, vg_ret, vg_loop, vcallF, vcallH, uls, HdelK, memN, noBox, ninL, keysH, jsAt, AdSub, adopt, noEl, isNil, effL, effO, vopsD, vquiet, vfstD, ldq, ldOk, vops, vfst, vone, vact, ug, addL, vbox, valloc, vstore, vbuild, vbuildSlice, vappend, vmake, zeroS, zeroE, vstrB, apC, nrm, nr1, nrL, keyL, neqs, diffs, V.app, V.len, vsrc, vdst, mkSl, mkBy, inOrd, placeAll, V.one, V.sto, V.csize, V.parts, V.cellsL, setMany, V.setB, V.setE, V.setO, V.noOwn, V.isOwn, vq, vcall, fzA, fz, fz1, fzL, fzN, rts, rt1, V.er, er1, er2, mixA, mixK, uargs, u1, R.add, vop, vbin, vint2, vstr2, vbool2, vnum, vun, vpick, vpick1, vbool, vconv, vnil, vfieldAddr, vindexAddr, vindex, vload, vfield, aggD, vslice, bnd, uopt, vlen, vmin, vextract, Hpk, Hroot, refV, ownR, V.i, V.elems, V.cell, V.cut, V.exact, V.ex0, exL, V.cl, clL, V.sc, scL, scO, scH, V.ct, ct1, ct2, RetP, RetK, RetH, retL, retOne, Back, Veq, subH, obs, obsIf, En.get, En.put, En.ev, enOf, gcond, wantB, constV, exGet, subE, Sub, RV, RVL, NR, RO, subER, subHR, newLt, oldNe, oldOk, oldGe, notIn, ivN, lookN, SubR, Nm.root, Nat.reduceMul, Nat.reduceLeDiff, Nat.reduceEqDiff, Nat.reduceLT, Nat.reduceAdd, Nat.reduceSub, ↓reduceIte, implies_true, reduceCtorEq, ne_eq, ↓shr_eq, IntKind.bits, Int.reduceToNat, Int.reducePow, dite_eq_ite, Value.oneCell', Nat.reduceBEq, Nat.reduceDiv, sd, nm, ty, List.take_zero, leastF]
    rfl
  · rintro ⟨i, k⟩ q
    simp only at q
    simp only [vquietR, vopsR, RetC, retW, cellR, undV, vgA, vbinN, vnn, isNilC, isIf, vconvH, vconvO, cvOk, frz1, frzE, jsOk, jsCo, rowsH, vgcH, vgH, vopsT, stepE, Kseq_app, vg_skip, vg_label, vg_seq, vg_region, vg_cond, vg_block, vg_exit, vg_ret, vg_loop, vcallF, vcallH, uls, HdelK, memN, noBox, ninL, keysH, jsAt, AdSub, adopt, noEl, isNil, effL, effO, vopsD, vquiet, vfstD, ldq, ldOk, vops, vfst, vone, vact, ug, addL, vbox, valloc, vstore, vbuild, vbuildSlice, vappend, vmake, zeroS, zeroE, vstrB, apC, nrm, nr1, nrL, keyL, neqs, diffs, V.app, V.len, vsrc, vdst, mkSl, mkBy, inOrd, placeAll, V.one, V.sto, V.csize, V.parts, V.cellsL, setMany, V.setB, V.setE, V.setO, V.noOwn, V.isOwn, vq, vcall, fzA, fz, fz1, fzL, fzN, rts, rt1, V.er, er1, er2, mixA, mixK, uargs, u1, R.add, vop, vbin, vint2, vstr2, vbool2, vnum, vun, vpick, vpick1, vbool, vconv, vnil, vfieldAddr, vindexAddr, vindex, vload, vfield, aggD, vslice, bnd, uopt, vlen, vmin, vextract, Hpk, Hroot, refV, ownR, V.i, V.elems, V.cell, V.cut, V.exact, V.ex0, exL, V.cl, clL, V.sc, scL, scO, scH, V.ct, ct1, ct2, RetP, RetK, RetH, retL, retOne, Back, Veq, subH, obs, obsIf, En.get, En.put, En.ev, enOf, gcond, wantB, constV, exGet, subE, Sub, RV, RVL, NR, RO, subER, subHR, newLt, oldNe, oldOk, oldGe, notIn, ivN, lookN, SubR, Nm.root, Nat.reduceMul, Nat.reduceLeDiff, Nat.reduceEqDiff, Nat.reduceLT, Nat.reduceAdd, Nat.reduceSub, ↓reduceIte, implies_true, reduceCtorEq, ne_eq, ↓shr_eq, IntKind.bits, Int.reduceToNat, Int.reducePow, dite_eq_ite, Value.oneCell', Nat.reduceBEq, Nat.reduceDiv, sd, nm, ty, G0, G0f]
    refine ⟨fun hi => ?_, fun hi => ?_⟩
    · simp only [decide_eq_true_eq] at hi
      have hi : i < l.length := by omega
      have h0 := byteAt_lo l i
      have h1 := byteAt_hi l i
      have hs := leastF_snoc (u8 (byteAt l i)) (l.take i)
      rw [take_snoc l hi] at hs
      have hle := leastF_le (l.take i)
      rw [List.length_take] at hle
      refine ⟨by omega, by omega, fun hc => ?_, fun hc => ?_⟩
      · have e : leastF (l.take (i + 1)) = leastF (l.take i) ++ [u8 (byteAt l i)] := by
          rw [hs, if_neg]
          rintro ⟨c1, c2⟩
          rw [u8_zero h0 h1] at c1
          rw [c1, c2] at hc
          simp at hc
        rw [← e]
        refine ⟨by omega, by omega, h0, h1, by rw [e, List.length_append, List.length_singleton]; omega, by constructor <;> omega, Again.intro (i + 1, k + 2) (by simp only; omega) (by simp only; omega) ?_⟩
        simp only [vquietR, vopsR, RetC, retW, cellR, undV, vgA, vbinN, vnn, isNilC, isIf, vconvH, vconvO, cvOk, frz1, frzE, jsOk, jsCo, rowsH, vgcH, vgH, vopsT, stepE, Kseq_app, vg_skip, vg_label, vg_seq, vg_region, vg_cond, vg_block, vg_exit, vg_ret, vg_loop, vcallF, vcallH, uls, HdelK, memN, noBox, ninL, keysH, jsAt, AdSub, adopt, noEl, isNil, effL, effO, vopsD, vquiet, vfstD, ldq, ldOk, vops, vfst, vone, vact, ug, addL, vbox, valloc, vstore, vbuild, vbuildSlice, vappend, vmake, zeroS, zeroE, vstrB, apC, nrm, nr1, nrL, keyL, neqs, diffs, V.app, V.len, vsrc, vdst, mkSl, mkBy, inOrd, placeAll, V.one, V.sto, V.csize, V.parts, V.cellsL, setMany, V.setB, V.setE, V.setO, V.noOwn, V.isOwn, vq, vcall, fzA, fz, fz1, fzL, fzN, rts, rt1, V.er, er1, er2, mixA, mixK, uargs, u1, R.add, vop, vbin, vint2, vstr2, vbool2, vnum, vun, vpick, vpick1, vbool, vconv, vnil, vfieldAddr, vindexAddr, vindex, vload, vfield, aggD, vslice, bnd, uopt, vlen, vmin, vextract, Hpk, Hroot, refV, ownR, V.i, V.elems, V.cell, V.cut, V.exact, V.ex0, exL, V.cl, clL, V.sc, scL, scO, scH, V.ct, ct1, ct2, RetP, RetK, RetH, retL, retOne, Back, Veq, subH, obs, obsIf, En.get, En.put, En.ev, enOf, gcond, wantB, constV, exGet, subE, Sub, RV, RVL, NR, RO, subER, subHR, newLt, oldNe, oldOk, oldGe, notIn, ivN, lookN, SubR, Nm.root, Nat.reduceMul, Nat.reduceLeDiff, Nat.reduceEqDiff, Nat.reduceLT, Nat.reduceAdd, Nat.reduceSub, ↓reduceIte, implies_true, reduceCtorEq, ne_eq, ↓shr_eq, IntKind.bits, Int.reduceToNat, Int.reducePow, dite_eq_ite, Value.oneCell', Nat.reduceBEq, Nat.reduceDiv, sd, nm, ty]
        simp
      · have e : leastF (l.take (i + 1)) = leastF (l.take i) := by
          simp only [Bool.or_eq_false_iff, Bool.not_eq_false', beq_iff_eq, decide_eq_false_iff_not] at hc
          have hn : leastF (l.take i) = [] := List.eq_nil_of_length_eq_zero (by omega)
          rw [hs, if_pos ⟨(u8_zero h0 h1).2 hc.1, hn⟩, hn]
        refine ⟨by constructor <;> omega, Again.intro (i + 1, k) (by simp only; omega) (by simp only; omega) ?_⟩
        simp only [vquietR, vopsR, RetC, retW, cellR, undV, vgA, vbinN, vnn, isNilC, isIf, vconvH, vconvO, cvOk, frz1, frzE, jsOk, jsCo, rowsH, vgcH, vgH, vopsT, stepE, Kseq_app, vg_skip, vg_label, vg_seq, vg_region, vg_cond, vg_block, vg_exit, vg_ret, vg_loop, vcallF, vcallH, uls, HdelK, memN, noBox, ninL, keysH, jsAt, AdSub, adopt, noEl, isNil, effL, effO, vopsD, vquiet, vfstD, ldq, ldOk, vops, vfst, vone, vact, ug, addL, vbox, valloc, vstore, vbuild, vbuildSlice, vappend, vmake, zeroS, zeroE, vstrB, apC, nrm, nr1, nrL, keyL, neqs, diffs, V.app, V.len, vsrc, vdst, mkSl, mkBy, inOrd, placeAll, V.one, V.sto, V.csize, V.parts, V.cellsL, setMany, V.setB, V.setE, V.setO, V.noOwn, V.isOwn, vq, vcall, fzA, fz, fz1, fzL, fzN, rts, rt1, V.er, er1, er2, mixA, mixK, uargs, u1, R.add, vop, vbin, vint2, vstr2, vbool2, vnum, vun, vpick, vpick1, vbool, vconv, vnil, vfieldAddr, vindexAddr, vindex, vload, vfield, aggD, vslice, bnd, uopt, vlen, vmin, vextract, Hpk, Hroot, refV, ownR, V.i, V.elems, V.cell, V.cut, V.exact, V.ex0, exL, V.cl, clL, V.sc, scL, scO, scH, V.ct, ct1, ct2, RetP, RetK, RetH, retL, retOne, Back, Veq, subH, obs, obsIf, En.get, En.put, En.ev, enOf, gcond, wantB, constV, exGet, subE, Sub, RV, RVL, NR, RO, subER, subHR, newLt, oldNe, oldOk, oldGe, notIn, ivN, lookN, SubR, Nm.root, Nat.reduceMul, Nat.reduceLeDiff, Nat.reduceEqDiff, Nat.reduceLT, Nat.reduceAdd, Nat.reduceSub, ↓reduceIte, implies_true, reduceCtorEq, ne_eq, ↓shr_eq, IntKind.bits, Int.reduceToNat, Int.reducePow, dite_eq_ite, Value.oneCell', Nat.reduceBEq, Nat.reduceDiv, sd, nm, ty, e]
        simp
    · simp only [decide_eq_false_iff_not] at hi
      obtain rfl : i = l.length := by omega
      rw [List.take_length]
      refine RenC.intro [(0, k)] ⟨[(2, .ro (.r 0))], [(0, .row 5 (.by (leastF l)))], 1⟩ ?_ ?_
      · simp only [vquietR, vopsR, RetC, retW, cellR, undV, vgA, vbinN, vnn, isNilC, isIf, vconvH, vconvO, cvOk, frz1, frzE, jsOk, jsCo, rowsH, vgcH, vgH, vopsT, stepE, Kseq_app, vg_skip, vg_label, vg_seq, vg_region, vg_cond, vg_block, vg_exit, vg_ret, vg_loop, vcallF, vcallH, uls, HdelK, memN, noBox, ninL, keysH, jsAt, AdSub, adopt, noEl, isNil, effL, effO, vopsD, vquiet, vfstD, ldq, ldOk, vops, vfst, vone, vact, ug, addL, vbox, valloc, vstore, vbuild, vbuildSlice, vappend, vmake, zeroS, zeroE, vstrB, apC, nrm, nr1, nrL, keyL, neqs, diffs, V.app, V.len, vsrc, vdst, mkSl, mkBy, inOrd, placeAll, V.one, V.sto, V.csize, V.parts, V.cellsL, setMany, V.setB, V.setE, V.setO, V.noOwn, V.isOwn, vq, vcall, fzA, fz, fz1, fzL, fzN, rts, rt1, V.er, er1, er2, mixA, mixK, uargs, u1, R.add, vop, vbin, vint2, vstr2, vbool2, vnum, vun, vpick, vpick1, vbool, vconv, vnil, vfieldAddr, vindexAddr, vindex, vload, vfield, aggD, vslice, bnd, uopt, vlen, vmin, vextract, Hpk, Hroot, refV, ownR, V.i, V.elems, V.cell, V.cut, V.exact, V.ex0, exL, V.cl, clL, V.sc, scL, scO, scH, V.ct, ct1, ct2, RetP, RetK, RetH, retL, retOne, Back, Veq, subH, obs, obsIf, En.get, En.put, En.ev, enOf, gcond, wantB, constV, exGet, subE, Sub, RV, RVL, NR, RO, subER, subHR, newLt, oldNe, oldOk, oldGe, notIn, ivN, lookN, SubR, Nm.root, Nat.reduceMul, Nat.reduceLeDiff, Nat.reduceEqDiff, Nat.reduceLT, Nat.reduceAdd, Nat.reduceSub, ↓reduceIte, implies_true, reduceCtorEq, ne_eq, ↓shr_eq, IntKind.bits, Int.reduceToNat, Int.reducePow, dite_eq_ite, Value.oneCell', Nat.reduceBEq, Nat.reduceDiv, sd, nm, ty]
        simp
      · simp only [vquietR, vopsR, RetC, retW, cellR, undV, vgA, vbinN, vnn, isNilC, isIf, vconvH, vconvO, cvOk, frz1, frzE, jsOk, jsCo, rowsH, vgcH, vgH, vopsT, stepE, Kseq_app, vg_skip, vg_label, vg_seq, vg_region, vg_cond, vg_block, vg_exit, vg_ret, vg_loop, vcallF, vcallH, uls, HdelK, memN, noBox, ninL, keysH, jsAt, AdSub, adopt, noEl, isNil, effL, effO, vopsD, vquiet, vfstD, ldq, ldOk, vops, vfst, vone, vact, ug, addL, vbox, valloc, vstore, vbuild, vbuildSlice, vappend, vmake, zeroS, zeroE, vstrB, apC, nrm, nr1, nrL, keyL, neqs, diffs, V.app, V.len, vsrc, vdst, mkSl, mkBy, inOrd, placeAll, V.one, V.sto, V.csize, V.parts, V.cellsL, setMany, V.setB, V.setE, V.setO, V.noOwn, V.isOwn, vq, vcall, fzA, fz, fz1, fzL, fzN, rts, rt1, V.er, er1, er2, mixA, mixK, uargs, u1, R.add, vop, vbin, vint2, vstr2, vbool2, vnum, vun, vpick, vpick1, vbool, vconv, vnil, vfieldAddr, vindexAddr, vindex, vload, vfield, aggD, vslice, bnd, uopt, vlen, vmin, vextract, Hpk, Hroot, refV, ownR, V.i, V.elems, V.cell, V.cut, V.exact, V.ex0, exL, V.cl, clL, V.sc, scL, scO, scH, V.ct, ct1, ct2, RetP, RetK, RetH, retL, retOne, Back, Veq, subH, obs, obsIf, En.get, En.put, En.ev, enOf, gcond, wantB, constV, exGet, subE, Sub, RV, RVL, NR, RO, subER, subHR, newLt, oldNe, oldOk, oldGe, notIn, ivN, lookN, SubR, Nm.root, Nat.reduceMul, Nat.reduceLeDiff, Nat.reduceEqDiff, Nat.reduceLT, Nat.reduceAdd, Nat.reduceSub, ↓reduceIte, implies_true, reduceCtorEq, ne_eq, ↓shr_eq, IntKind.bits, Int.reduceToNat, Int.reducePow, dite_eq_ite, Value.oneCell', Nat.reduceBEq, Nat.reduceDiv, sd, nm, ty]
theorem rLeast_fn (J : Inv) (l : List UInt8) (hl : l.length ≤ 140737488351232) : Fn Tryd.prog J 39 false [.by l] (.by (leastF l)) := Fn.of_plain (rLeast_own J l hl) rfl
def GRLf : FuncId → List V → Option (List Prop × Bool × V) := fun f args =>
  if f = 39 then match args with
    | [.by l] => some ([l.length ≤ 140737488351232], false, .by (leastF l))
    | _ => none
  else if f = 38 then match args with
    | [.val (.int .i64 t), .by l] => some ([l.length ≤ 140737488355328], false, .bb (rightF t l))
    | _ => none
  else none
def GRL (J : Inv) : Sig := ⟨J, df, GRLf, noH, 0⟩
theorem GRL_ok (J : Inv) : SigOk Tryd.prog (GRL J) := by
  refine .plain fun f args l fr r h hl => ?_
  unfold GRLf at h
  split at h
  · rename_i hf; subst hf
    split at h
    · obtain ⟨rfl, rfl, rfl⟩ := some_tri h; exact rLeast_fn J _ (hl _ (by simp))
    · exact absurd h (by simp)
  · split at h
    · rename_i hf; subst hf
      split at h
      · obtain ⟨rfl, rfl, rfl⟩ := some_tri h; exact Contents_fn J _ _ (hl _ (by simp))
      · exact absurd h (by simp)
    · exact absurd h (by simp)
theorem rUint_fn (J : Inv) (t : Tlv) (hl : t.data.length ≤ 140737488351232) : Fn Tryd.prog J 19 false [tlvV t] (.tu [.by (uintF t).1, .bb (uintF t).2]) := by
  refine fn_intro Tryd.func19 rfl (by kernel_rfl) (Nat.le_of_ble_eq_true (by kernel_rfl)) (by kernel_rfl) (by kernel_rfl) rfl (GRL_ok J) ?_
  unfold Tryd.f19
  simp only [vquietR, vopsR, RetC, retW, cellR, undV, vgA, vbinN, vnn, isNilC, isIf, vconvH, vconvO, cvOk, frz1, frzE, jsOk, jsCo, rowsH, vgcH, vgH, vopsT, stepE, Kseq_app, vg_skip, vg_label, vg_seq, vg_region, vg_cond, vg_block, vg_exit, vg_ret, vg_loop, vcallF, vcallH, uls, HdelK, memN, noBox, ninL, keysH, jsAt, AdSub, adopt, noEl, isNil, effL, effO, vopsD, vquiet, vfstD, ldq, ldOk, vops, vfst, vone, vact, ug, addL, vbox, valloc, vstore, vbuild, vbuildSlice, vappend, vmake, zeroS, zeroE, vstrB, apC, nrm, nr1, nrL, keyL, neqs, diffs, V.app, V.len, vsrc, vdst, mkSl, mkBy, inOrd, placeAll, V.one, V.sto, V.csize, V.parts, V.cellsL, setMany, V.setB, V.setE, V.setO, V.noOwn, V.isOwn, vq, vcall, fzA, fz, fz1, fzL, fzN, rts, rt1, V.er, er1, er2, mixA, mixK, uargs, u1, R.add, vop, vbin, vint2, vstr2, vbool2, vnum, vun, vpick, vpick1, vbool, vconv, vnil, vfieldAddr, vindexAddr, vindex, vload, vfield, aggD, vslice, bnd, uopt, vlen, vmin, vextract, Hpk, Hroot, refV, ownR, V.i, V.elems, V.cell, V.cut, V.exact, V.ex0, exL, V.cl, clL, V.sc, scL, scO, scH, V.ct, ct1, ct2, RetP, RetK, RetH, retL, retOne, Back, Veq, subH, obs, obsIf, En.get, En.put, En.ev, enOf, gcond, wantB, constV, exGet, subE, Sub, RV, RVL, NR, RO, subER, subHR, newLt, oldNe, oldOk, oldGe, notIn, ivN, lookN, SubR, Nm.root, Nat.reduceMul, Nat.reduceLeDiff, Nat.reduceEqDiff, Nat.reduceLT, Nat.reduceAdd, Nat.reduceSub, ↓reduceIte, implies_true, reduceCtorEq, ne_eq, ↓shr_eq, IntKind.bits, Int.reduceToNat, Int.reducePow, dite_eq_ite, Value.oneCell', Nat.reduceBEq, Nat.reduceDiv, sd, nm, ty, GRL, GRLf, tlvV]
  have hpos : rightF 2 t.data = true → 0 < t.data.length := fun h => by
    rcases Nat.eq_zero_or_pos t.data.length with h0 | h0
    · rw [List.eq_nil_of_length_eq_zero h0, show rightF 2 [] = false from by decide] at h; cases h
    · exact h0
  refine ⟨fun _ => by omega, fun _ => by omega, fun h => ?_, fun h => ?_, fun h => ?_⟩
  · simp only [Bool.or_eq_false_iff, Bool.not_eq_false', beq_iff_eq] at h
    have := hpos h.2
    omega
  · have e : uintF t = ([], false) := by
      unfold uintF
      rw [if_neg]
      rintro ⟨h1, h2, h3, h4⟩
      simp only [h1, h2, h3] at h
      simp at h
      omega
    rw [e]; exact ⟨rfl, rfl⟩
  · simp only [Bool.or_eq_false_iff, Bool.not_eq_false', beq_iff_eq, decide_eq_false_iff_not] at h
    have e : uintF t = (leastF t.data, true) := by
      unfold uintF
      rw [if_pos ⟨h.1.1.1, h.1.1.2, h.1.2, by omega⟩]
    rw [e]; exact ⟨hl, rfl, rfl⟩
noncomputable def ouC : Code := match Tryd.f26.body with
  | some (.seq _ (.seq _ (.seq _ (.seq (.seq _ (.cond _ a _)) _)))) => a
  | _ => .skip
theorem ou_nil (J : Inv) (E : En) (K : Ko) (e4 : E.get 4 = some (.val (.slice none 0 0)))
    (hK : ∀ E', En.get E' 4 = some (.ro (.r 2)) → En.get E' 3 = E.get 3 → En.get E' 2 = E.get 2 → K.nrm ⟨E', [(2, .row 5 (.by [u8 0])), (1, .row 5 (.by [u8 0])), (0, .box 36 (.st [.val (.int .i64 0), .val (.slice none 0 0), .val (.int .i64 0)]))], 3⟩) :
    vg Tryd.prog (GRL J) ouC ⟨E, [(0, .box 36 (.st [.val (.int .i64 0), .val (.slice none 0 0), .val (.int .i64 0)]))], 1⟩ K := by
  simp only [ouC, Tryd.f26, vquietR, vopsR, RetC, retW, cellR, undV, vgA, vbinN, vnn, isNilC, isIf, vconvH, vconvO, cvOk, frz1, frzE, jsOk, jsCo, rowsH, vgcH, vgH, vopsT, stepE, Kseq_app, vg_skip, vg_label, vg_seq, vg_region, vg_cond, vg_block, vg_exit, vg_ret, vg_loop, vcallF, vcallH, uls, HdelK, memN, noBox, ninL, keysH, jsAt, AdSub, adopt, noEl, isNil, effL, effO, vopsD, vquiet, vfstD, ldq, ldOk, vops, vfst, vone, vact, ug, addL, vbox, valloc, vstore, vbuild, vbuildSlice, vappend, vmake, zeroS, zeroE, vstrB, apC, nrm, nr1, nrL, keyL, neqs, diffs, V.app, V.len, vsrc, vdst, mkSl, mkBy, inOrd, placeAll, V.one, V.sto, V.csize, V.parts, V.cellsL, setMany, V.setB, V.setE, V.setO, V.noOwn, V.isOwn, vq, vcall, fzA, fz, fz1, fzL, fzN, rts, rt1, V.er, er1, er2, mixA, mixK, uargs, u1, R.add, vop, vbin, vint2, vstr2, vbool2, vnum, vun, vpick, vpick1, vbool, vconv, vnil, vfieldAddr, vindexAddr, vindex, vload, vfield, aggD, vslice, bnd, uopt, vlen, vmin, vextract, Hpk, Hroot, refV, ownR, V.i, V.elems, V.cell, V.cut, V.exact, V.ex0, exL, V.cl, clL, V.sc, scL, scO, scH, V.ct, ct1, ct2, RetP, RetK, RetH, retL, retOne, Back, Veq, subH, obs, obsIf, En.get, En.put, En.ev, enOf, gcond, wantB, constV, exGet, subE, Sub, RV, RVL, NR, RO, subER, subHR, newLt, oldNe, oldOk, oldGe, notIn, ivN, lookN, SubR, Nm.root, Nat.reduceMul, Nat.reduceLeDiff, Nat.reduceEqDiff, Nat.reduceLT, Nat.reduceAdd, Nat.reduceSub, ↓reduceIte, implies_true, reduceCtorEq, ne_eq, ↓shr_eq, IntKind.bits, Int.reduceToNat, Int.reducePow, dite_eq_ite, Value.oneCell', Nat.reduceBEq, Nat.reduceDiv, sd, nm, ty, GRL, GRLf, e4]
  refine ⟨by omega, by omega, by omega, hK _ ?_ ?_ ?_⟩ <;> simp only [En.get, Nat.reduceEqDiff, if_true, if_false]
theorem rOfUint_own (J : Inv) (l : List UInt8) (h : l.length ≤ 140737488350000) : FnH Tryd.prog J 26 [.by l] [] 0 (.st [.val (.int .i64 2), .by (ofuD l), .val (.int .i64 0)]) [] 9 := by
  have hle := leastF_le l
  refine fnH_introC Tryd.func26 rfl (by kernel_rfl) (Nat.le_of_ble_eq_true (by kernel_rfl)) (by kernel_rfl) (by kernel_rfl) (GRL_ok J) rfl ?_
  unfold Tryd.f26
  simp only [vquietR, vopsR, RetC, retW, cellR, undV, vgA, vbinN, vnn, isNilC, isIf, vconvH, vconvO, cvOk, frz1, frzE, jsOk, jsCo, rowsH, vgcH, vgH, vopsT, stepE, vg_skip, vg_label, vg_seq, vg_region, vg_cond, vg_block, vg_exit, vg_ret, vg_loop, vcallF, vcallH, uls, HdelK, memN, noBox, ninL, keysH, jsAt, AdSub, adopt, noEl, isNil, effL, effO, vopsD, vquiet, vfstD, ldq, ldOk, vops, vfst, vone, vact, ug, addL, vbox, valloc, vstore, vbuild, vbuildSlice, vappend, vmake, zeroS, zeroE, vstrB, apC, nrm, nr1, nrL, keyL, neqs, diffs, V.app, V.len, vsrc, vdst, mkSl, mkBy, inOrd, placeAll, V.one, V.sto, V.csize, V.parts, V.cellsL, setMany, V.setB, V.setE, V.setO, V.noOwn, V.isOwn, vq, vcall, fzA, fz, fz1, fzL, fzN, rts, rt1, V.er, er1, er2, mixA, mixK, uargs, u1, R.add, vop, vbin, vint2, vstr2, vbool2, vnum, vun, vpick, vpick1, vbool, vconv, vnil, vfieldAddr, vindexAddr, vindex, vload, vfield, aggD, vslice, bnd, uopt, vlen, vmin, vextract, Hpk, Hroot, refV, ownR, V.i, V.elems, V.cell, V.cut, V.exact, V.ex0, exL, V.cl, clL, V.sc, scL, scO, scH, V.ct, ct1, ct2, RetP, RetK, RetH, retL, retOne, Back, Veq, subH, obs, obsIf, En.get, En.put, En.ev, enOf, gcond, wantB, constV, exGet, subE, Sub, RV, RVL, NR, RO, subER, subHR, newLt, oldNe, oldOk, oldGe, notIn, ivN, lookN, SubR, Nm.root, Nat.reduceMul, Nat.reduceLeDiff, Nat.reduceEqDiff, Nat.reduceLT, Nat.reduceAdd, Nat.reduceSub, ↓reduceIte, implies_true, reduceCtorEq, ne_eq, ↓shr_eq, IntKind.bits, Int.reduceToNat, Int.reducePow, dite_eq_ite, Value.oneCell', Nat.reduceBEq, Nat.reduceDiv, sd, nm, ty, GRL, GRLf]
  (rw [Kseq_app]; simp only [vquietR, vopsR, RetC, retW, cellR, undV, vgA, vbinN, vnn, isNilC, isIf, vconvH, vconvO, cvOk, frz1, frzE, jsOk, jsCo, rowsH, vgcH, vgH, vopsT, stepE, vg_skip, vg_label, vg_seq, vg_region, vg_cond, vg_block, vg_exit, vg_ret, vg_loop, vcallF, vcallH, uls, HdelK, memN, noBox, ninL, keysH, jsAt, AdSub, adopt, noEl, isNil, effL, effO, vopsD, vquiet, vfstD, ldq, ldOk, vops, vfst, vone, vact, ug, addL, vbox, valloc, vstore, vbuild, vbuildSlice, vappend, vmake, zeroS, zeroE, vstrB, apC, nrm, nr1, nrL, keyL, neqs, diffs, V.app, V.len, vsrc, vdst, mkSl, mkBy, inOrd, placeAll, V.one, V.sto, V.csize, V.parts, V.cellsL, setMany, V.setB, V.setE, V.setO, V.noOwn, V.isOwn, vq, vcall, fzA, fz, fz1, fzL, fzN, rts, rt1, V.er, er1, er2, mixA, mixK, uargs, u1, R.add, vop, vbin, vint2, vstr2, vbool2, vnum, vun, vpick, vpick1, vbool, vconv, vnil, vfieldAddr, vindexAddr, vindex, vload, vfield, aggD, vslice, bnd, uopt, vlen, vmin, vextract, Hpk, Hroot, refV, ownR, V.i, V.elems, V.cell, V.cut, V.exact, V.ex0, exL, V.cl, clL, V.sc, scL, scO, scH, V.ct, ct1, ct2, RetP, RetK, RetH, retL, retOne, Back, Veq, subH, obs, obsIf, En.get, En.put, En.ev, enOf, gcond, wantB, constV, exGet, subE, Sub, RV, RVL, NR, RO, subER, subHR, newLt, oldNe, oldOk, oldGe, notIn, ivN, lookN, SubR, Nm.root, Nat.reduceMul, Nat.reduceLeDiff, Nat.reduceEqDiff, Nat.reduceLT, Nat.reduceAdd, Nat.reduceSub, ↓reduceIte, implies_true, reduceCtorEq, ne_eq, ↓shr_eq, IntKind.bits, Int.reduceToNat, Int.reducePow, dite_eq_ite, Value.oneCell', Nat.reduceBEq, Nat.reduceDiv, sd, nm, ty, GRL, GRLf])
  refine ⟨by omega, ?_⟩
  (rw [Kseq_app]; simp only [vquietR, vopsR, RetC, retW, cellR, undV, vgA, vbinN, vnn, isNilC, isIf, vconvH, vconvO, cvOk, frz1, frzE, jsOk, jsCo, rowsH, vgcH, vgH, vopsT, stepE, vg_skip, vg_label, vg_seq, vg_region, vg_cond, vg_block, vg_exit, vg_ret, vg_loop, vcallF, vcallH, uls, HdelK, memN, noBox, ninL, keysH, jsAt, AdSub, adopt, noEl, isNil, effL, effO, vopsD, vquiet, vfstD, ldq, ldOk, vops, vfst, vone, vact, ug, addL, vbox, valloc, vstore, vbuild, vbuildSlice, vappend, vmake, zeroS, zeroE, vstrB, apC, nrm, nr1, nrL, keyL, neqs, diffs, V.app, V.len, vsrc, vdst, mkSl, mkBy, inOrd, placeAll, V.one, V.sto, V.csize, V.parts, V.cellsL, setMany, V.setB, V.setE, V.setO, V.noOwn, V.isOwn, vq, vcall, fzA, fz, fz1, fzL, fzN, rts, rt1, V.er, er1, er2, mixA, mixK, uargs, u1, R.add, vop, vbin, vint2, vstr2, vbool2, vnum, vun, vpick, vpick1, vbool, vconv, vnil, vfieldAddr, vindexAddr, vindex, vload, vfield, aggD, vslice, bnd, uopt, vlen, vmin, vextract, Hpk, Hroot, refV, ownR, V.i, V.elems, V.cell, V.cut, V.exact, V.ex0, exL, V.cl, clL, V.sc, scL, scO, scH, V.ct, ct1, ct2, RetP, RetK, RetH, retL, retOne, Back, Veq, subH, obs, obsIf, En.get, En.put, En.ev, enOf, gcond, wantB, constV, exGet, subE, Sub, RV, RVL, NR, RO, subER, subHR, newLt, oldNe, oldOk, oldGe, notIn, ivN, lookN, SubR, Nm.root, Nat.reduceMul, Nat.reduceLeDiff, Nat.reduceEqDiff, Nat.reduceLT, Nat.reduceAdd, Nat.reduceSub, ↓reduceIte, implies_true, reduceCtorEq, ne_eq, ↓shr_eq, IntKind.bits, Int.reduceToNat, Int.reducePow, dite_eq_ite, Value.oneCell', Nat.reduceBEq, Nat.reduceDiv, sd, nm, ty, GRL, GRLf])
  (rw [Kseq_app]; simp only [vquietR, vopsR, RetC, retW, cellR, undV, vgA, vbinN, vnn, isNilC, isIf, vconvH, vconvO, cvOk, frz1, frzE, jsOk, jsCo, rowsH, vgcH, vgH, vopsT, stepE, vg_skip, vg_label, vg_seq, vg_region, vg_cond, vg_block, vg_exit, vg_ret, vg_loop, vcallF, vcallH, uls, HdelK, memN, noBox, ninL, keysH, jsAt, AdSub, adopt, noEl, isNil, effL, effO, vopsD, vquiet, vfstD, ldq, ldOk, vops, vfst, vone, vact, ug, addL, vbox, valloc, vstore, vbuild, vbuildSlice, vappend, vmake, zeroS, zeroE, vstrB, apC, nrm, nr1, nrL, keyL, neqs, diffs, V.app, V.len, vsrc, vdst, mkSl, mkBy, inOrd, placeAll, V.one, V.sto, V.csize, V.parts, V.cellsL, setMany, V.setB, V.setE, V.setO, V.noOwn, V.isOwn, vq, vcall, fzA, fz, fz1, fzL, fzN, rts, rt1, V.er, er1, er2, mixA, mixK, uargs, u1, R.add, vop, vbin, vint2, vstr2, vbool2, vnum, vun, vpick, vpick1, vbool, vconv, vnil, vfieldAddr, vindexAddr, vindex, vload, vfield, aggD, vslice, bnd, uopt, vlen, vmin, vextract, Hpk, Hroot, refV, ownR, V.i, V.elems, V.cell, V.cut, V.exact, V.ex0, exL, V.cl, clL, V.sc, scL, scO, scH, V.ct, ct1, ct2, RetP, RetK, RetH, retL, retOne, Back, Veq, subH, obs, obsIf, En.get, En.put, En.ev, enOf, gcond, wantB, constV, exGet, subE, Sub, RV, RVL, NR, RO, subER, subHR, newLt, oldNe, oldOk, oldGe, notIn, ivN, lookN, SubR, Nm.root, Nat.reduceMul, Nat.reduceLeDiff, Nat.reduceEqDiff, Nat.reduceLT, Nat.reduceAdd, Nat.reduceSub, ↓reduceIte, implies_true, reduceCtorEq, ne_eq, ↓shr_eq, IntKind.bits, Int.reduceToNat, Int.reducePow, dite_eq_ite, Value.oneCell', Nat.reduceBEq, Nat.reduceDiv, sd, nm, ty, GRL, GRLf])
  refine ⟨fun _ => by omega, fun hz => ?_, fun hb => ?_, fun hb => ?_⟩
  · have : (leastF l).length ≠ 0 := fun e => by rw [e] at hz; simp at hz
    omega
  · have e : ofuD l = u8 0 :: leastF l := by
      unfold ofuD; rw [if_pos]; simp at hb; rcases hb with hb | hb
      · exact .inl (by rw [hb]; rfl)
      · exact .inr (by omega)
    rw [e]
    refine ou_nil J _ _ ?_ ?_
    · simp only [En.get, Nat.reduceEqDiff, if_true, if_false]
    · simp only [En.get, Nat.reduceEqDiff, if_true, if_false]
      intro E' f4 f3 f2
      (rw [Kseq_app]; simp only [vquietR, vopsR, RetC, retW, cellR, undV, vgA, vbinN, vnn, isNilC, isIf, vconvH, vconvO, cvOk, frz1, frzE, jsOk, jsCo, rowsH, vgcH, vgH, vopsT, stepE, vg_skip, vg_label, vg_seq, vg_region, vg_cond, vg_block, vg_exit, vg_ret, vg_loop, vcallF, vcallH, uls, HdelK, memN, noBox, ninL, keysH, jsAt, AdSub, adopt, noEl, isNil, effL, effO, vopsD, vquiet, vfstD, ldq, ldOk, vops, vfst, vone, vact, ug, addL, vbox, valloc, vstore, vbuild, vbuildSlice, vappend, vmake, zeroS, zeroE, vstrB, apC, nrm, nr1, nrL, keyL, neqs, diffs, V.app, V.len, vsrc, vdst, mkSl, mkBy, inOrd, placeAll, V.one, V.sto, V.csize, V.parts, V.cellsL, setMany, V.setB, V.setE, V.setO, V.noOwn, V.isOwn, vq, vcall, fzA, fz, fz1, fzL, fzN, rts, rt1, V.er, er1, er2, mixA, mixK, uargs, u1, R.add, vop, vbin, vint2, vstr2, vbool2, vnum, vun, vpick, vpick1, vbool, vconv, vnil, vfieldAddr, vindexAddr, vindex, vload, vfield, aggD, vslice, bnd, uopt, vlen, vmin, vextract, Hpk, Hroot, refV, ownR, V.i, V.elems, V.cell, V.cut, V.exact, V.ex0, exL, V.cl, clL, V.sc, scL, scO, scH, V.ct, ct1, ct2, RetP, RetK, RetH, retL, retOne, Back, Veq, subH, obs, obsIf, En.get, En.put, En.ev, enOf, gcond, wantB, constV, exGet, subE, Sub, RV, RVL, NR, RO, subER, subHR, newLt, oldNe, oldOk, oldGe, notIn, ivN, lookN, SubR, Nm.root, Nat.reduceMul, Nat.reduceLeDiff, Nat.reduceEqDiff, Nat.reduceLT, Nat.reduceAdd, Nat.reduceSub, ↓reduceIte, implies_true, reduceCtorEq, ne_eq, ↓shr_eq, IntKind.bits, Int.reduceToNat, Int.reducePow, dite_eq_ite, Value.oneCell', Nat.reduceBEq, Nat.reduceDiv, sd, nm, ty, GRL, GRLf, f4, f3, f2])
      refine ⟨by omega, ?_⟩
      (rw [Kseq_app]; simp only [vquietR, vopsR, RetC, retW, cellR, undV, vgA, vbinN, vnn, isNilC, isIf, vconvH, vconvO, cvOk, frz1, frzE, jsOk, jsCo, rowsH, vgcH, vgH, vopsT, stepE, vg_skip, vg_label, vg_seq, vg_region, vg_cond, vg_block, vg_exit, vg_ret, vg_loop, vcallF, vcallH, uls, HdelK, memN, noBox, ninL, keysH, jsAt, AdSub, adopt, noEl, isNil, effL, effO, vopsD, vquiet, vfstD, ldq, ldOk, vops, vfst, vone, vact, ug, addL, vbox, valloc, vstore, vbuild, vbuildSlice, vappend, vmake, zeroS, zeroE, vstrB, apC, nrm, nr1, nrL, keyL, neqs, diffs, V.app, V.len, vsrc, vdst, mkSl, mkBy, inOrd, placeAll, V.one, V.sto, V.csize, V.parts, V.cellsL, setMany, V.setB, V.setE, V.setO, V.noOwn, V.isOwn, vq, vcall, fzA, fz, fz1, fzL, fzN, rts, rt1, V.er, er1, er2, mixA, mixK, uargs, u1, R.add, vop, vbin, vint2, vstr2, vbool2, vnum, vun, vpick, vpick1, vbool, vconv, vnil, vfieldAddr, vindexAddr, vindex, vload, vfield, aggD, vslice, bnd, uopt, vlen, vmin, vextract, Hpk, Hroot, refV, ownR, V.i, V.elems, V.cell, V.cut, V.exact, V.ex0, exL, V.cl, clL, V.sc, scL, scO, scH, V.ct, ct1, ct2, RetP, RetK, RetH, retL, retOne, Back, Veq, subH, obs, obsIf, En.get, En.put, En.ev, enOf, gcond, wantB, constV, exGet, subE, Sub, RV, RVL, NR, RO, subER, subHR, newLt, oldNe, oldOk, oldGe, notIn, ivN, lookN, SubR, Nm.root, Nat.reduceMul, Nat.reduceLeDiff, Nat.reduceEqDiff, Nat.reduceLT, Nat.reduceAdd, Nat.reduceSub, ↓reduceIte, implies_true, reduceCtorEq, ne_eq, ↓shr_eq, IntKind.bits, Int.reduceToNat, Int.reducePow, dite_eq_ite, Value.oneCell', Nat.reduceBEq, Nat.reduceDiv, sd, nm, ty, GRL, GRLf, f4, f3, f2])
      refine .inl ?_
      simp only [vquietR, vopsR, RetC, retW, cellR, undV, vgA, vbinN, vnn, isNilC, isIf, vconvH, vconvO, cvOk, frz1, frzE, jsOk, jsCo, rowsH, vgcH, vgH, vopsT, stepE, Kseq_app, vg_skip, vg_label, vg_seq, vg_region, vg_cond, vg_block, vg_exit, vg_ret, vg_loop, vcallF, vcallH, uls, HdelK, memN, noBox, ninL, keysH, jsAt, AdSub, adopt, noEl, isNil, effL, effO, vopsD, vquiet, vfstD, ldq, ldOk, vops, vfst, vone, vact, ug, addL, vbox, valloc, vstore, vbuild, vbuildSlice, vappend, vmake, zeroS, zeroE, vstrB, apC, nrm, nr1, nrL, keyL, neqs, diffs, V.app, V.len, vsrc, vdst, mkSl, mkBy, inOrd, placeAll, V.one, V.sto, V.csize, V.parts, V.cellsL, setMany, V.setB, V.setE, V.setO, V.noOwn, V.isOwn, vq, vcall, fzA, fz, fz1, fzL, fzN, rts, rt1, V.er, er1, er2, mixA, mixK, uargs, u1, R.add, vop, vbin, vint2, vstr2, vbool2, vnum, vun, vpick, vpick1, vbool, vconv, vnil, vfieldAddr, vindexAddr, vindex, vload, vfield, aggD, vslice, bnd, uopt, vlen, vmin, vextract, Hpk, Hroot, refV, ownR, V.i, V.elems, V.cell, V.cut, V.exact, V.ex0, exL, V.cl, clL, V.sc, scL, scO, scH, V.ct, ct1, ct2, RetP, RetK, RetH, retL, retOne, Back, Veq, subH, obs, obsIf, En.get, En.put, En.ev, enOf, gcond, wantB, constV, exGet, subE, Sub, RV, RVL, NR, RO, subER, subHR, newLt, oldNe, oldOk, oldGe, notIn, ivN, lookN, SubR, Nm.root, Nat.reduceMul, Nat.reduceLeDiff, Nat.reduceEqDiff, Nat.reduceLT, Nat.reduceAdd, Nat.reduceSub, ↓reduceIte, implies_true, reduceCtorEq, ne_eq, ↓shr_eq, IntKind.bits, Int.reduceToNat, Int.reducePow, dite_eq_ite, Value.oneCell', Nat.reduceBEq, Nat.reduceDiv, sd, nm, ty, f2]
  · have e : ofuD l = leastF l := by
      unfold ofuD; rw [if_neg]; simp at hb; rintro (h | h)
      · exact hb.1 (List.eq_nil_of_length_eq_zero h)
      · omega
    rw [e]
    simp only [vquietR, vopsR, RetC, retW, cellR, undV, vgA, vbinN, vnn, isNilC, isIf, vconvH, vconvO, cvOk, frz1, frzE, jsOk, jsCo, rowsH, vgcH, vgH, vopsT, stepE, vg_skip, vg_label, vg_seq, vg_region, vg_cond, vg_block, vg_exit, vg_ret, vg_loop, vcallF, vcallH, uls, HdelK, memN, noBox, ninL, keysH, jsAt, AdSub, adopt, noEl, isNil, effL, effO, vopsD, vquiet, vfstD, ldq, ldOk, vops, vfst, vone, vact, ug, addL, vbox, valloc, vstore, vbuild, vbuildSlice, vappend, vmake, zeroS, zeroE, vstrB, apC, nrm, nr1, nrL, keyL, neqs, diffs, V.app, V.len, vsrc, vdst, mkSl, mkBy, inOrd, placeAll, V.one, V.sto, V.csize, V.parts, V.cellsL, setMany, V.setB, V.setE, V.setO, V.noOwn, V.isOwn, vq, vcall, fzA, fz, fz1, fzL, fzN, rts, rt1, V.er, er1, er2, mixA, mixK, uargs, u1, R.add, vop, vbin, vint2, vstr2, vbool2, vnum, vun, vpick, vpick1, vbool, vconv, vnil, vfieldAddr, vindexAddr, vindex, vload, vfield, aggD, vslice, bnd, uopt, vlen, vmin, vextract, Hpk, Hroot, refV, ownR, V.i, V.elems, V.cell, V.cut, V.exact, V.ex0, exL, V.cl, clL, V.sc, scL, scO, scH, V.ct, ct1, ct2, RetP, RetK, RetH, retL, retOne, Back, Veq, subH, obs, obsIf, En.get, En.put, En.ev, enOf, gcond, wantB, constV, exGet, subE, Sub, RV, RVL, NR, RO, subER, subHR, newLt, oldNe, oldOk, oldGe, notIn, ivN, lookN, SubR, Nm.root, Nat.reduceMul, Nat.reduceLeDiff, Nat.reduceEqDiff, Nat.reduceLT, Nat.reduceAdd, Nat.reduceSub, ↓reduceIte, implies_true, reduceCtorEq, ne_eq, ↓shr_eq, IntKind.bits, Int.reduceToNat, Int.reducePow, dite_eq_ite, Value.oneCell', Nat.reduceBEq, Nat.reduceDiv, sd, nm, ty]
    (rw [Kseq_app]; simp only [vquietR, vopsR, RetC, retW, cellR, undV, vgA, vbinN, vnn, isNilC, isIf, vconvH, vconvO, cvOk, frz1, frzE, jsOk, jsCo, rowsH, vgcH, vgH, vopsT, stepE, vg_skip, vg_label, vg_seq, vg_region, vg_cond, vg_block, vg_exit, vg_ret, vg_loop, vcallF, vcallH, uls, HdelK, memN, noBox, ninL, keysH, jsAt, AdSub, adopt, noEl, isNil, effL, effO, vopsD, vquiet, vfstD, ldq, ldOk, vops, vfst, vone, vact, ug, addL, vbox, valloc, vstore, vbuild, vbuildSlice, vappend, vmake, zeroS, zeroE, vstrB, apC, nrm, nr1, nrL, keyL, neqs, diffs, V.app, V.len, vsrc, vdst, mkSl, mkBy, inOrd, placeAll, V.one, V.sto, V.csize, V.parts, V.cellsL, setMany, V.setB, V.setE, V.setO, V.noOwn, V.isOwn, vq, vcall, fzA, fz, fz1, fzL, fzN, rts, rt1, V.er, er1, er2, mixA, mixK, uargs, u1, R.add, vop, vbin, vint2, vstr2, vbool2, vnum, vun, vpick, vpick1, vbool, vconv, vnil, vfieldAddr, vindexAddr, vindex, vload, vfield, aggD, vslice, bnd, uopt, vlen, vmin, vextract, Hpk, Hroot, refV, ownR, V.i, V.elems, V.cell, V.cut, V.exact, V.ex0, exL, V.cl, clL, V.sc, scL, scO, scH, V.ct, ct1, ct2, RetP, RetK, RetH, retL, retOne, Back, Veq, subH, obs, obsIf, En.get, En.put, En.ev, enOf, gcond, wantB, constV, exGet, subE, Sub, RV, RVL, NR, RO, subER, subHR, newLt, oldNe, oldOk, oldGe, notIn, ivN, lookN, SubR, Nm.root, Nat.reduceMul, Nat.reduceLeDiff, Nat.reduceEqDiff, Nat.reduceLT, Nat.reduceAdd, Nat.reduceSub, ↓reduceIte, implies_true, reduceCtorEq, ne_eq, ↓shr_eq, IntKind.bits, Int.reduceToNat, Int.reducePow, dite_eq_ite, Value.oneCell', Nat.reduceBEq, Nat.reduceDiv, sd, nm, ty, GRL, GRLf])
    refine ⟨by omega, ?_⟩
    (rw [Kseq_app]; simp only [vquietR, vopsR, RetC, retW, cellR, undV, vgA, vbinN, vnn, isNilC, isIf, vconvH, vconvO, cvOk, frz1, frzE, jsOk, jsCo, rowsH, vgcH, vgH, vopsT, stepE, vg_skip, vg_label, vg_seq, vg_region, vg_cond, vg_block, vg_exit, vg_ret, vg_loop, vcallF, vcallH, uls, HdelK, memN, noBox, ninL, keysH, jsAt, AdSub, adopt, noEl, isNil, effL, effO, vopsD, vquiet, vfstD, ldq, ldOk, vops, vfst, vone, vact, ug, addL, vbox, valloc, vstore, vbuild, vbuildSlice, vappend, vmake, zeroS, zeroE, vstrB, apC, nrm, nr1, nrL, keyL, neqs, diffs, V.app, V.len, vsrc, vdst, mkSl, mkBy, inOrd, placeAll, V.one, V.sto, V.csize, V.parts, V.cellsL, setMany, V.setB, V.setE, V.setO, V.noOwn, V.isOwn, vq, vcall, fzA, fz, fz1, fzL, fzN, rts, rt1, V.er, er1, er2, mixA, mixK, uargs, u1, R.add, vop, vbin, vint2, vstr2, vbool2, vnum, vun, vpick, vpick1, vbool, vconv, vnil, vfieldAddr, vindexAddr, vindex, vload, vfield, aggD, vslice, bnd, uopt, vlen, vmin, vextract, Hpk, Hroot, refV, ownR, V.i, V.elems, V.cell, V.cut, V.exact, V.ex0, exL, V.cl, clL, V.sc, scL, scO, scH, V.ct, ct1, ct2, RetP, RetK, RetH, retL, retOne, Back, Veq, subH, obs, obsIf, En.get, En.put, En.ev, enOf, gcond, wantB, constV, exGet, subE, Sub, RV, RVL, NR, RO, subER, subHR, newLt, oldNe, oldOk, oldGe, notIn, ivN, lookN, SubR, Nm.root, Nat.reduceMul, Nat.reduceLeDiff, Nat.reduceEqDiff, Nat.reduceLT, Nat.reduceAdd, Nat.reduceSub, ↓reduceIte, implies_true, reduceCtorEq, ne_eq, ↓shr_eq, IntKind.bits, Int.reduceToNat, Int.reducePow, dite_eq_ite, Value.oneCell', Nat.reduceBEq, Nat.reduceDiv, sd, nm, ty, GRL, GRLf])
    refine .inl ?_
    simp only [vquietR, vopsR, RetC, retW, cellR, undV, vgA, vbinN, vnn, isNilC, isIf, vconvH, vconvO, cvOk, frz1, frzE, jsOk, jsCo, rowsH, vgcH, vgH, vopsT, stepE, Kseq_app, vg_skip, vg_label, vg_seq, vg_region, vg_cond, vg_block, vg_exit, vg_ret, vg_loop, vcallF, vcallH, uls, HdelK, memN, noBox, ninL, keysH, jsAt, AdSub, adopt, noEl, isNil, effL, effO, vopsD, vquiet, vfstD, ldq, ldOk, vops, vfst, vone, vact, ug, addL, vbox, valloc, vstore, vbuild, vbuildSlice, vappend, vmake, zeroS, zeroE, vstrB, apC, nrm, nr1, nrL, keyL, neqs, diffs, V.app, V.len, vsrc, vdst, mkSl, mkBy, inOrd, placeAll, V.one, V.sto, V.csize, V.parts, V.cellsL, setMany, V.setB, V.setE, V.setO, V.noOwn, V.isOwn, vq, vcall, fzA, fz, fz1, fzL, fzN, rts, rt1, V.er, er1, er2, mixA, mixK, uargs, u1, R.add, vop, vbin, vint2, vstr2, vbool2, vnum, vun, vpick, vpick1, vbool, vconv, vnil, vfieldAddr, vindexAddr, vindex, vload, vfield, aggD, vslice, bnd, uopt, vlen, vmin, vextract, Hpk, Hroot, refV, ownR, V.i, V.elems, V.cell, V.cut, V.exact, V.ex0, exL, V.cl, clL, V.sc, scL, scO, scH, V.ct, ct1, ct2, RetP, RetK, RetH, retL, retOne, Back, Veq, subH, obs, obsIf, En.get, En.put, En.ev, enOf, gcond, wantB, constV, exGet, subE, Sub, RV, RVL, NR, RO, subER, subHR, newLt, oldNe, oldOk, oldGe, notIn, ivN, lookN, SubR, Nm.root, Nat.reduceMul, Nat.reduceLeDiff, Nat.reduceEqDiff, Nat.reduceLT, Nat.reduceAdd, Nat.reduceSub, ↓reduceIte, implies_true, reduceCtorEq, ne_eq, ↓shr_eq, IntKind.bits, Int.reduceToNat, Int.reducePow, dite_eq_ite, Value.oneCell', Nat.reduceBEq, Nat.reduceDiv, sd, nm, ty]
theorem rOfUint_fn (J : Inv) (l : List UInt8) (h : l.length ≤ 140737488350000) : Fn Tryd.prog J 26 false [.by l] (.st [.val (.int .i64 2), .by (ofuD l), .val (.int .i64 0)]) := Fn.of_plain (rOfUint_own J l h) (by simp [V.cl, clL])
/-! ## Numbers in the base ten, in groups of seven bits -/
def GTXf (n : Nat) : FuncId → List V → Option (List Prop × Bool × V) := fun f args =>
  if f = 42 then match args with
    | [.val (.int .i64 m)] => some ([0 ≤ m, m.toNat < n], false, .str (Lib.decDigits m.toNat))
    | _ => none
  else none
def GTX (J : Inv) (n : Nat) : Sig := ⟨J, df, GTXf n, noH, 0⟩
def TxOk (J : Inv) (n : Nat) : Prop := n ≤ 1000000000000 → Fn Tryd.prog J 42 false [.i n] (.str (Lib.decDigits n))
theorem GTX_ok (J : Inv) (n : Nat) (hn : n ≤ 1000000000000) (ih : ∀ m, m < n → TxOk J m) : SigOk Tryd.prog (GTX J n) := by
  refine .plain fun f args l fr r h hl => ?_
  unfold GTXf at h
  split at h
  · rename_i hf; subst hf
    split at h
    · rename_i m
      obtain ⟨rfl, rfl, rfl⟩ := some_tri h
      have h1 : 0 ≤ m := hl _ (by simp)
      have h2 : m.toNat < n := hl _ (by simp)
      have := ih m.toNat h2 (by omega)
      rw [V.i, Int.toNat_of_nonneg h1] at this
      exact this
    · exact absurd h (by simp)
  · exact absurd h (by simp)
theorem ten_fin : ∀ i : Fin 10, (([48, 49, 50, 51, 52, 53, 54, 55, 56, 57] : List UInt8).drop i.val).take 1 = [UInt8.ofNat (48 + i.val)] := by decide +kernel
theorem ten_piece (i : Fin 10) : cutL [48, 49, 50, 51, 52, 53, 54, 55, 56, 57] i.val 1 = [UInt8.ofNat (48 + i.val)] := by rw [cutL_eq]; exact ten_fin i
theorem text_step (J : Inv) (n : Nat) (ih : ∀ m, m < n → TxOk J m) (hn : n ≤ 1000000000000) : Fn Tryd.prog J 42 false [.i n] (.str (Lib.decDigits n)) := by
  refine fn_intro Tryd.func42 rfl (by kernel_rfl) (Nat.le_of_ble_eq_true (by kernel_rfl)) (by kernel_rfl) (by kernel_rfl) rfl (GTX_ok J n hn ih) ?_
  unfold Tryd.f42
  simp only [vquietR, vopsR, RetC, retW, cellR, undV, vgA, vbinN, vnn, isNilC, isIf, vconvH, vconvO, cvOk, frz1, frzE, jsOk, jsCo, rowsH, vgcH, vgH, vopsT, stepE, Kseq_app, vg_skip, vg_label, vg_seq, vg_region, vg_cond, vg_block, vg_exit, vg_ret, vg_loop, vcallF, vcallH, uls, HdelK, memN, noBox, ninL, keysH, jsAt, AdSub, adopt, noEl, isNil, effL, effO, vopsD, vquiet, vfstD, ldq, ldOk, vops, vfst, vone, vact, ug, addL, vbox, valloc, vstore, vbuild, vbuildSlice, vappend, vmake, zeroS, zeroE, vstrB, apC, nrm, nr1, nrL, keyL, neqs, diffs, V.app, V.len, vsrc, vdst, mkSl, mkBy, inOrd, placeAll, V.one, V.sto, V.csize, V.parts, V.cellsL, setMany, V.setB, V.setE, V.setO, V.noOwn, V.isOwn, vq, vcall, fzA, fz, fz1, fzL, fzN, rts, rt1, V.er, er1, er2, mixA, mixK, uargs, u1, R.add, vop, vbin, vint2, vstr2, vbool2, vnum, vun, vpick, vpick1, vbool, vconv, vnil, vfieldAddr, vindexAddr, vindex, vload, vfield, aggD, vslice, bnd, uopt, vlen, vmin, vextract, Hpk, Hroot, refV, ownR, V.i, V.elems, V.cell, V.cut, V.exact, V.ex0, exL, V.cl, clL, V.sc, scL, scO, scH, V.ct, ct1, ct2, RetP, RetK, RetH, retL, retOne, Back, Veq, subH, obs, obsIf, En.get, En.put, En.ev, enOf, gcond, wantB, constV, exGet, subE, Sub, RV, RVL, NR, RO, subER, subHR, newLt, oldNe, oldOk, oldGe, notIn, ivN, lookN, SubR, Nm.root, Nat.reduceMul, Nat.reduceLeDiff, Nat.reduceEqDiff, Nat.reduceLT, Nat.reduceAdd, Nat.reduceSub, ↓reduceIte, implies_true, reduceCtorEq, ne_eq, ↓shr_eq, IntKind.bits, Int.reduceToNat, Int.reducePow, dite_eq_ite, Value.oneCell', Nat.reduceBEq, Nat.reduceDiv, sd, nm, ty, GTX, GTXf]
  refine ⟨fun h => ?_, fun h => ?_⟩
  · have h : n < 10 := by simp at h; omega
    refine ⟨by constructor <;> omega, by omega, by omega, by omega, ?_⟩
    rw [show ((n : Int) + 1).toNat - n = 1 from by omega]
    rw [Lib.decDigits_one h]
    exact ten_piece ⟨n, h⟩
  · have h : ¬ n < 10 := by simp at h; omega
    refine DrawC.sch [(0, some []), (1, some []), (3, some []), (4, some []), (5, some []), (6, some []), (7, some []), (8, some []),
  (2, none), (9, some []), (10, some [])] [] (by kernel_rfl) ?_
    simp only [vquietR, vopsR, RetC, retW, cellR, undV, vgA, vbinN, vnn, isNilC, isIf, vconvH, vconvO, cvOk, frz1, frzE, jsOk, jsCo, rowsH, vgcH, vgH, vopsT, stepE, Kseq_app, vg_skip, vg_label, vg_seq, vg_region, vg_cond, vg_block, vg_exit, vg_ret, vg_loop, vcallF, vcallH, uls, HdelK, memN, noBox, ninL, keysH, jsAt, AdSub, adopt, noEl, isNil, effL, effO, vopsD, vquiet, vfstD, ldq, ldOk, vops, vfst, vone, vact, ug, addL, vbox, valloc, vstore, vbuild, vbuildSlice, vappend, vmake, zeroS, zeroE, vstrB, apC, nrm, nr1, nrL, keyL, neqs, diffs, V.app, V.len, vsrc, vdst, mkSl, mkBy, inOrd, placeAll, V.one, V.sto, V.csize, V.parts, V.cellsL, setMany, V.setB, V.setE, V.setO, V.noOwn, V.isOwn, vq, vcall, fzA, fz, fz1, fzL, fzN, rts, rt1, V.er, er1, er2, mixA, mixK, uargs, u1, R.add, vop, vbin, vint2, vstr2, vbool2, vnum, vun, vpick, vpick1, vbool, vconv, vnil, vfieldAddr, vindexAddr, vindex, vload, vfield, aggD, vslice, bnd, uopt, vlen, vmin, vextract, Hpk, Hroot, refV, ownR, V.i, V.elems, V.cell, V.cut, V.exact, V.ex0, exL, V.cl, clL, V.sc, scL, scO, scH, V.ct, ct1, ct2, RetP, RetK, RetH, retL, retOne, Back, Veq, subH, obs, obsIf, En.get, En.put, En.ev, enOf, gcond, wantB, constV, exGet, subE, Sub, RV, RVL, NR, RO, subER, subHR, newLt, oldNe, oldOk, oldGe, notIn, ivN, lookN, SubR, Nm.root, Nat.reduceMul, Nat.reduceLeDiff, Nat.reduceEqDiff, Nat.reduceLT, Nat.reduceAdd, Nat.reduceSub, ↓reduceIte, implies_true, reduceCtorEq, ne_eq, ↓shr_eq, IntKind.bits, Int.reduceToNat, Int.reducePow, dite_eq_ite, Value.oneCell', Nat.reduceBEq, Nat.reduceDiv, sd, nm, ty, GTX, GTXf]
    have e1 : ((n : Int) / 10).toNat = n / 10 := by omega
    have e2 : ((n : Int) % 10).toNat = n % 10 := by omega
    have e3 : ((n : Int) % 10 + 1).toNat - n % 10 = 1 := by omega
    have e4 := ten_piece ⟨n % 10, by omega⟩
    simp only at e4
    rw [e1, e2, e3, e4]
    have hd : Lib.decDigits n = Lib.decDigits (n / 10) ++ [UInt8.ofNat (48 + n % 10)] := by rw [Lib.decDigits, dif_neg h]
    have hl : (Lib.decDigits (n / 10)).length ≤ 21 := by
      have := Lib.itoa_length_le ((n / 10 : Nat) : Int) (by omega) (by omega)
      rw [Lib.itoa_nonneg] at this
      exact this
    refine ⟨by constructor <;> omega, by omega, by omega, by omega, by omega, by omega, by omega, by constructor <;> omega, by omega, by omega, by omega, by omega, by omega, by simp only [List.length_cons, List.length_nil]; omega, hd.symm⟩
theorem text_fn (J : Inv) (n : Nat) : TxOk J n := Nat.strongRecOn n fun n ih hn => text_step J n ih hn
/-- A group's last byte raised: those ahead of a last one. -/
theorem grp_hi {m : Nat} (h : m ≠ 0) : (grpF m).set ((grpF m).length - 1) (u8 ((byteAt (grpF m) ((grpF m).length - 1) + 128) % 256)) = hiF m := by
  unfold grpF
  rw [hiF_pos h]
  have e : (hiF (m / 128) ++ [u8 ((m % 128 : Nat) : Int)]).length - 1 = (hiF (m / 128)).length := by simp
  rw [e, List.set_append_right _ _ (Nat.le_refl _), Nat.sub_self, List.set_cons_zero]
  congr 3
  unfold byteAt
  rw [List.getD_eq_getElem?_getD, List.getElem?_append_right (Nat.le_refl _), Nat.sub_self]
  simp only [List.getElem?_cons_zero, Option.getD_some]
  rw [u8_nat (by omega)]
  omega
def GrOk (J : Inv) (n : Nat) : Prop := n ≤ 2147483727 → ∀ b, FnH Tryd.prog J 47 [.i n] [] b (.ro (.r b)) [(b, .row 5 (.by (grpF n)))] (b + 1)
def GGRh (n : Nat) : FuncId → List V → List (Nat × Ob) → Nat → Option CallH := fun f args _ nx =>
  if f = 47 then match args with
    | [.val (.int .i64 m)] => some ⟨[0 ≤ m, m.toNat < n], [], [], .ro (.r nx), [(nx, .row 5 (.by (grpF m.toNat)))], nx + 1⟩
    | _ => none
  else none
def GGR (J : Inv) (n b : Nat) : Sig := ⟨J, df, G0f, GGRh n, b⟩
theorem GGR_ok (J : Inv) (n b : Nat) (hn : n ≤ 2147483727) (ih : ∀ m, m < n → GrOk J m) : SigOk Tryd.prog (GGR J n b) := by
  refine ⟨fun f args l fr r h hl => by simp [GGR, G0f] at h, fun f args h nx c hc hl => ?_⟩
  change GGRh n f args h nx = some c at hc
  unfold GGRh at hc
  split at hc
  · rename_i hf; subst hf
    split at hc
    · rename_i m
      obtain rfl := Option.some.inj hc
      have h1 : 0 ≤ m := hl _ (by simp)
      have h2 : m.toNat < n := hl _ (by simp)
      have := ih m.toNat h2 (by omega) nx
      rw [V.i, Int.toNat_of_nonneg h1] at this
      exact this
    · exact absurd hc (by simp)
  · exact absurd hc (by simp)
theorem group_step (J : Inv) (n b : Nat) (ih : ∀ m, m < n → GrOk J m) (hn : n ≤ 2147483727) : FnH Tryd.prog J 47 [.i n] [] b (.ro (.r b)) [(b, .row 5 (.by (grpF n)))] (b + 1) := by
  refine fnH_intro Tryd.func47 rfl (by kernel_rfl) (Nat.le_of_ble_eq_true (by kernel_rfl)) (by kernel_rfl) (by kernel_rfl) (GGR_ok J n b hn ih) rfl ?_
  unfold Tryd.f47
  simp only [vquietR, vopsR, RetC, retW, cellR, undV, vgA, vbinN, vnn, isNilC, isIf, vconvH, vconvO, cvOk, frz1, frzE, jsOk, jsCo, rowsH, vgcH, vgH, vopsT, stepE, Kseq_app, vg_skip, vg_label, vg_seq, vg_region, vg_cond, vg_block, vg_exit, vg_ret, vg_loop, vcallF, vcallH, uls, HdelK, memN, noBox, ninL, keysH, jsAt, AdSub, adopt, noEl, isNil, effL, effO, vopsD, vquiet, vfstD, ldq, ldOk, vops, vfst, vone, vact, ug, addL, vbox, valloc, vstore, vbuild, vbuildSlice, vappend, vmake, zeroS, zeroE, vstrB, apC, nrm, nr1, nrL, keyL, neqs, diffs, V.app, V.len, vsrc, vdst, mkSl, mkBy, inOrd, placeAll, V.one, V.sto, V.csize, V.parts, V.cellsL, setMany, V.setB, V.setE, V.setO, V.noOwn, V.isOwn, vq, vcall, fzA, fz, fz1, fzL, fzN, rts, rt1, V.er, er1, er2, mixA, mixK, uargs, u1, R.add, vop, vbin, vint2, vstr2, vbool2, vnum, vun, vpick, vpick1, vbool, vconv, vnil, vfieldAddr, vindexAddr, vindex, vload, vfield, aggD, vslice, bnd, uopt, vlen, vmin, vextract, Hpk, Hroot, refV, ownR, V.i, V.elems, V.cell, V.cut, V.exact, V.ex0, exL, V.cl, clL, V.sc, scL, scO, scH, V.ct, ct1, ct2, RetP, RetK, RetH, retL, retOne, Back, Veq, subH, obs, obsIf, En.get, En.put, En.ev, enOf, gcond, wantB, constV, exGet, subE, Sub, RV, RVL, NR, RO, subER, subHR, newLt, oldNe, oldOk, oldGe, notIn, ivN, lookN, SubR, Nm.root, Nat.reduceMul, Nat.reduceLeDiff, Nat.reduceEqDiff, Nat.reduceLT, Nat.reduceAdd, Nat.reduceSub, ↓reduceIte, implies_true, reduceCtorEq, ne_eq, ↓shr_eq, IntKind.bits, Int.reduceToNat, Int.reducePow, dite_eq_ite, Value.oneCell', Nat.reduceBEq, Nat.reduceDiv, sd, nm, ty, GGR, GGRh, G0f]
  have e1 : ((n : Int) / 128).toNat = n / 128 := by omega
  have hgl := grpF_len (m := n / 128) (by omega)
  have hgn := grpF_ne (n / 128)
  have e2 : (((grpF (n / 128)).length : Int) - 1).toNat = (grpF (n / 128)).length - 1 := by omega
  have n1 : ¬ b < b := Nat.lt_irrefl _
  refine ⟨fun hn0 => ?_, fun hn0 => ?_⟩
  · have hn0 : n < 128 := by simp at hn0; omega
    have e : grpF n = [u8 ((n : Int) % 256)] := by
      unfold grpF
      rw [show n / 128 = 0 from by omega, hiF_zero, List.nil_append, show ((n % 128 : Nat) : Int) = (n : Int) % 256 from by omega]
    rw [e]
    refine ⟨by omega, by omega, .inl ?_⟩
    simp only [vquietR, vopsR, RetC, retW, cellR, undV, vgA, vbinN, vnn, isNilC, isIf, vconvH, vconvO, cvOk, frz1, frzE, jsOk, jsCo, rowsH, vgcH, vgH, vopsT, stepE, Kseq_app, vg_skip, vg_label, vg_seq, vg_region, vg_cond, vg_block, vg_exit, vg_ret, vg_loop, vcallF, vcallH, uls, HdelK, memN, noBox, ninL, keysH, jsAt, AdSub, adopt, noEl, isNil, effL, effO, vopsD, vquiet, vfstD, ldq, ldOk, vops, vfst, vone, vact, ug, addL, vbox, valloc, vstore, vbuild, vbuildSlice, vappend, vmake, zeroS, zeroE, vstrB, apC, nrm, nr1, nrL, keyL, neqs, diffs, V.app, V.len, vsrc, vdst, mkSl, mkBy, inOrd, placeAll, V.one, V.sto, V.csize, V.parts, V.cellsL, setMany, V.setB, V.setE, V.setO, V.noOwn, V.isOwn, vq, vcall, fzA, fz, fz1, fzL, fzN, rts, rt1, V.er, er1, er2, mixA, mixK, uargs, u1, R.add, vop, vbin, vint2, vstr2, vbool2, vnum, vun, vpick, vpick1, vbool, vconv, vnil, vfieldAddr, vindexAddr, vindex, vload, vfield, aggD, vslice, bnd, uopt, vlen, vmin, vextract, Hpk, Hroot, refV, ownR, V.i, V.elems, V.cell, V.cut, V.exact, V.ex0, exL, V.cl, clL, V.sc, scL, scO, scH, V.ct, ct1, ct2, RetP, RetK, RetH, retL, retOne, Back, Veq, subH, obs, obsIf, En.get, En.put, En.ev, enOf, gcond, wantB, constV, exGet, subE, Sub, RV, RVL, NR, RO, subER, subHR, newLt, oldNe, oldOk, oldGe, notIn, ivN, lookN, SubR, Nm.root, Nat.reduceMul, Nat.reduceLeDiff, Nat.reduceEqDiff, Nat.reduceLT, Nat.reduceAdd, Nat.reduceSub, ↓reduceIte, implies_true, reduceCtorEq, ne_eq, ↓shr_eq, IntKind.bits, Int.reduceToNat, Int.reducePow, dite_eq_ite, Value.oneCell', Nat.reduceBEq, Nat.reduceDiv, sd, nm, ty]
    exact Nat.le_refl _
  · have hn0 : ¬ n < 128 := by simp at hn0; omega
    have hb0 := byteAt_lo (grpF (n / 128)) ((grpF (n / 128)).length - 1)
    rw [e1, e2, grp_hi (show n / 128 ≠ 0 by omega)]
    have e : hiF (n / 128) ++ [u8 ((n : Int) % 128 % 256)] = grpF n := by
      unfold grpF
      rw [show ((n % 128 : Nat) : Int) = (n : Int) % 128 % 256 from by omega]
    rw [e]
    have hgl2 := grpF_len (m := n) hn
    refine ⟨by constructor <;> omega, by omega, by omega, by omega, by omega, by constructor <;> omega, by constructor <;> omega, by omega, by omega, by omega, by omega, by omega, by omega, by omega, by omega, by omega, by omega, by omega, by omega, by omega, ?_⟩
    refine RenC.intro [(b, b + 2)] ⟨[(2, .ro (.r b))], [(b, .row 5 (.by (grpF n)))], b + 1⟩ ?_ ?_
    · simp only [vquietR, vopsR, RetC, retW, cellR, undV, vgA, vbinN, vnn, isNilC, isIf, vconvH, vconvO, cvOk, frz1, frzE, jsOk, jsCo, rowsH, vgcH, vgH, vopsT, stepE, Kseq_app, vg_skip, vg_label, vg_seq, vg_region, vg_cond, vg_block, vg_exit, vg_ret, vg_loop, vcallF, vcallH, uls, HdelK, memN, noBox, ninL, keysH, jsAt, AdSub, adopt, noEl, isNil, effL, effO, vopsD, vquiet, vfstD, ldq, ldOk, vops, vfst, vone, vact, ug, addL, vbox, valloc, vstore, vbuild, vbuildSlice, vappend, vmake, zeroS, zeroE, vstrB, apC, nrm, nr1, nrL, keyL, neqs, diffs, V.app, V.len, vsrc, vdst, mkSl, mkBy, inOrd, placeAll, V.one, V.sto, V.csize, V.parts, V.cellsL, setMany, V.setB, V.setE, V.setO, V.noOwn, V.isOwn, vq, vcall, fzA, fz, fz1, fzL, fzN, rts, rt1, V.er, er1, er2, mixA, mixK, uargs, u1, R.add, vop, vbin, vint2, vstr2, vbool2, vnum, vun, vpick, vpick1, vbool, vconv, vnil, vfieldAddr, vindexAddr, vindex, vload, vfield, aggD, vslice, bnd, uopt, vlen, vmin, vextract, Hpk, Hroot, refV, ownR, V.i, V.elems, V.cell, V.cut, V.exact, V.ex0, exL, V.cl, clL, V.sc, scL, scO, scH, V.ct, ct1, ct2, RetP, RetK, RetH, retL, retOne, Back, Veq, subH, obs, obsIf, En.get, En.put, En.ev, enOf, gcond, wantB, constV, exGet, subE, Sub, RV, RVL, NR, RO, subER, subHR, newLt, oldNe, oldOk, oldGe, notIn, ivN, lookN, SubR, Nm.root, Nat.reduceMul, Nat.reduceLeDiff, Nat.reduceEqDiff, Nat.reduceLT, Nat.reduceAdd, Nat.reduceSub, ↓reduceIte, implies_true, reduceCtorEq, ne_eq, ↓shr_eq, IntKind.bits, Int.reduceToNat, Int.reducePow, dite_eq_ite, Value.oneCell', Nat.reduceBEq, Nat.reduceDiv, sd, nm, ty, n1]
      exact ⟨by omega, by omega, .inr trivial⟩
    · simp only [vquietR, vopsR, RetC, retW, cellR, undV, vgA, vbinN, vnn, isNilC, isIf, vconvH, vconvO, cvOk, frz1, frzE, jsOk, jsCo, rowsH, vgcH, vgH, vopsT, stepE, Kseq_app, vg_skip, vg_label, vg_seq, vg_region, vg_cond, vg_block, vg_exit, vg_ret, vg_loop, vcallF, vcallH, uls, HdelK, memN, noBox, ninL, keysH, jsAt, AdSub, adopt, noEl, isNil, effL, effO, vopsD, vquiet, vfstD, ldq, ldOk, vops, vfst, vone, vact, ug, addL, vbox, valloc, vstore, vbuild, vbuildSlice, vappend, vmake, zeroS, zeroE, vstrB, apC, nrm, nr1, nrL, keyL, neqs, diffs, V.app, V.len, vsrc, vdst, mkSl, mkBy, inOrd, placeAll, V.one, V.sto, V.csize, V.parts, V.cellsL, setMany, V.setB, V.setE, V.setO, V.noOwn, V.isOwn, vq, vcall, fzA, fz, fz1, fzL, fzN, rts, rt1, V.er, er1, er2, mixA, mixK, uargs, u1, R.add, vop, vbin, vint2, vstr2, vbool2, vnum, vun, vpick, vpick1, vbool, vconv, vnil, vfieldAddr, vindexAddr, vindex, vload, vfield, aggD, vslice, bnd, uopt, vlen, vmin, vextract, Hpk, Hroot, refV, ownR, V.i, V.elems, V.cell, V.cut, V.exact, V.ex0, exL, V.cl, clL, V.sc, scL, scO, scH, V.ct, ct1, ct2, RetP, RetK, RetH, retL, retOne, Back, Veq, subH, obs, obsIf, En.get, En.put, En.ev, enOf, gcond, wantB, constV, exGet, subE, Sub, RV, RVL, NR, RO, subER, subHR, newLt, oldNe, oldOk, oldGe, notIn, ivN, lookN, SubR, Nm.root, Nat.reduceMul, Nat.reduceLeDiff, Nat.reduceEqDiff, Nat.reduceLT, Nat.reduceAdd, Nat.reduceSub, ↓reduceIte, implies_true, reduceCtorEq, ne_eq, ↓shr_eq, IntKind.bits, Int.reduceToNat, Int.reducePow, dite_eq_ite, Value.oneCell', Nat.reduceBEq, Nat.reduceDiv, sd, nm, ty]
      exact Nat.le_refl _
theorem rgroup_own (J : Inv) (n : Nat) : GrOk J n := Nat.strongRecOn n fun n ih hn b => group_step J n b ih hn
end Go.Proofs.YtelaolingpbnfaaDoor
namespace Go.Proofs.YtelaolingpbnfaaDoor
/-- One digit more. -/
def dstep (n k : Nat) (c : UInt8) : Option Nat := if c.toNat < 48 ∨ 57 < c.toNat ∨ (0 < k ∧ n = 0) ∨ 2147483647 < 10 * n + (c.toNat - 48) then none else some (10 * n + (c.toNat - 48))
def runD (n k : Nat) : List UInt8 → Option Nat
  | [] => some n
  | c :: r => (dstep n k c).bind fun m => runD m (k + 1) r
def numR : List UInt8 → Nat → Nat → List Int → Option (List Int)
  | [], n, k, out => if k = 0 then none else some (out ++ [(n : Int)])
  | c :: r, n, k, out => if c = 46 then (if k = 0 then none else numR r 0 0 (out ++ [(n : Int)])) else (dstep n k c).bind fun m => numR r m (k + 1) out
theorem dec_step {n k m : Nat} {c : UInt8} {q : List UInt8} (hq : (k = 0 ∧ q = [] ∧ n = 0) ∨ (0 < k ∧ q = Lib.decDigits n)) (h : dstep n k c = some m) : q ++ [c] = Lib.decDigits m ∧ m ≤ 2147483647 := by
  unfold dstep at h
  split at h
  · cases h
  · rename_i hc
    obtain rfl := Option.some.inj h
    have hc8 : c = UInt8.ofNat (48 + (c.toNat - 48)) := by
      rw [show 48 + (c.toNat - 48) = c.toNat from by omega]; simp
    refine ⟨?_, by omega⟩
    rcases hq with ⟨rfl, rfl, rfl⟩ | ⟨hk, rfl⟩
    · rw [Lib.decDigits, dif_pos (by omega), List.nil_append, show 10 * 0 + (c.toNat - 48) = c.toNat - 48 from by omega, ← hc8]
    · rw [Lib.decDigits.eq_def (10 * n + (c.toNat - 48)), dif_neg (by omega), show (10 * n + (c.toNat - 48)) / 10 = n from by omega, show (10 * n + (c.toNat - 48)) % 10 = c.toNat - 48 from by omega, ← hc8]
theorem runD_dec : ∀ (r q : List UInt8) (n k v : Nat), (k = 0 ∧ q = [] ∧ n = 0) ∨ (0 < k ∧ q = Lib.decDigits n ∧ n ≤ 2147483647) → runD n k r = some v → 0 < k + r.length → q ++ r = Lib.decDigits v ∧ v ≤ 2147483647
  | [], q, n, k, v, hq, h, hk => by
    simp only [runD, Option.some.injEq] at h
    subst h
    rcases hq with ⟨rfl, _⟩ | ⟨_, h1, h2⟩
    · simp at hk
    · rw [List.append_nil]; exact ⟨h1, h2⟩
  | c :: r, q, n, k, v, hq, h, hk => by
    rw [runD] at h
    cases hd : dstep n k c with
    | none => rw [hd] at h; cases h
    | some m =>
      rw [hd] at h
      obtain ⟨h1, h2⟩ := dec_step (hq.imp id fun h => ⟨h.1, h.2.1⟩) hd
      have := runD_dec r (q ++ [c]) m (k + 1) v (.inr ⟨by omega, h1, h2⟩) h (by omega)
      rw [List.append_assoc] at this
      exact this
theorem runD_app : ∀ (p : List UInt8) (n k : Nat) (r : List UInt8), runD n k (p ++ r) = (runD n k p).bind fun m => runD m (k + p.length) r
  | [], n, k, r => rfl
  | c :: p, n, k, r => by
    rw [List.cons_append, runD, runD]
    cases dstep n k c with
    | none => rfl
    | some m =>
      simp only [Option.bind_some]
      rw [runD_app p m (k + 1) r, List.length_cons, show k + 1 + p.length = k + (p.length + 1) from by omega]
theorem runD_itoa : ∀ v : Nat, v ≤ 2147483647 → runD 0 0 (Lib.decDigits v) = some v := by
  intro v
  induction v using Nat.strongRecOn with
  | _ v ih =>
    intro hv
    rw [Lib.decDigits]
    split
    · rename_i h
      have e : (UInt8.ofNat (48 + v)).toNat = 48 + v := by rw [UInt8.toNat_ofNat']; omega
      rw [runD, dstep, e, if_neg (by omega)]
      simp only [Option.bind_some, runD, Option.some.injEq]
      omega
    · rename_i h
      have e : (UInt8.ofNat (48 + v % 10)).toNat = 48 + v % 10 := by rw [UInt8.toNat_ofNat']; omega
      have hn := dec_ne (v / 10)
      have hl : 0 < (Lib.decDigits (v / 10)).length := by cases hd : Lib.decDigits (v / 10) with
        | nil => exact absurd hd hn
        | cons => simp
      rw [runD_app, ih (v / 10) (by omega) (by omega)]
      simp only [Option.bind_some, runD]
      rw [dstep, e, if_neg (by omega)]
      simp only [Option.bind_some, Option.some.injEq]
      omega
theorem numOk_run {p : List UInt8} : numOk p = true ↔ p ≠ [] ∧ (runD 0 0 p).isSome = true := by
  constructor
  · intro h
    obtain ⟨n, h1, rfl, h3⟩ := num_of h
    rw [Lib.itoa_nonneg, runD_itoa n h1]
    exact ⟨dec_ne n, rfl⟩
  · rintro ⟨h1, h2⟩
    obtain ⟨v, hv⟩ := Option.isSome_iff_exists.1 h2
    have hl : 0 < 0 + p.length := by cases p; exact absurd rfl h1; simp
    obtain ⟨h3, h4⟩ := runD_dec p [] 0 0 v (.inl ⟨rfl, rfl, rfl⟩) hv hl
    rw [List.nil_append] at h3
    rw [h3, ← Lib.itoa_nonneg]
    exact (num_itoa h4).1
theorem numV_run {p : List UInt8} {v : Nat} (h1 : p ≠ []) (h : runD 0 0 p = some v) : numV p = v := by
  have hl : 0 < 0 + p.length := by cases p; exact absurd rfl h1; simp
  obtain ⟨h3, h4⟩ := runD_dec p [] 0 0 v (.inl ⟨rfl, rfl, rfl⟩) h hl
  rw [List.nil_append] at h3
  rw [h3, ← Lib.itoa_nonneg]
  exact (num_itoa h4).2
theorem numR_eq : ∀ (r : List UInt8) (n k : Nat) (out : List Int), numR r n k out = match spl 46 r with
    | h :: t => match runD n k h with
      | some m => if k + h.length = 0 then none else if t.all numOk = true then some (out ++ (m : Int) :: t.map numV) else none
      | none => none
    | [] => none
  | [], n, k, out => by simp only [numR, spl, runD, List.length_nil, Nat.add_zero, List.all_nil, if_true, List.map_nil]
  | c :: r, n, k, out => by
    rw [numR, spl]
    by_cases hc : c = 46
    · rw [if_pos hc, if_pos hc]
      simp only [runD, List.length_nil, Nat.add_zero]
      by_cases hk : k = 0
      · rw [if_pos hk, if_pos hk]
      · rw [if_neg hk, if_neg hk, numR_eq r 0 0]
        cases hs : spl 46 r with
        | nil => exact absurd hs (spl_ne 46 r)
        | cons h t =>
          simp only [List.all_cons, List.map_cons]
          cases hr : runD 0 0 h with
          | none =>
            have : numOk h = false := by
              cases ho : numOk h with
              | false => rfl
              | true => have := (numOk_run.1 ho).2; rw [hr] at this; cases this
            rw [this]; rfl
          | some m =>
            simp only
            by_cases hh : h = []
            · subst hh
              have : numOk [] = false := by cases ho : numOk [] with
                | false => rfl
                | true => exact absurd rfl (numOk_run.1 ho).1
              rw [this]; rfl
            · have hl : ¬ 0 + h.length = 0 := by cases h; exact absurd rfl hh; simp
              have ho : numOk h = true := numOk_run.2 ⟨hh, by rw [hr]; rfl⟩
              rw [if_neg hl, ho, numV_run hh hr, Bool.true_and]
              simp only [List.append_assoc, List.singleton_append]
    · rw [if_neg hc, if_neg hc]
      cases hs : spl 46 r with
      | nil => exact absurd hs (spl_ne 46 r)
      | cons h t =>
        simp only [runD, List.length_cons]
        cases hd : dstep n k c with
        | none => rfl
        | some m =>
          simp only [Option.bind_some]
          rw [numR_eq r m (k + 1), hs]
          simp only
          cases runD m (k + 1) h with
          | none => rfl
          | some v =>
            simp only
            rw [if_neg (show ¬ k + 1 + h.length = 0 by omega), if_neg (show ¬ k + (h.length + 1) = 0 by omega)]
theorem numR_spl (s : List UInt8) : numR s 0 0 [] = if (spl 46 s).all numOk = true then some ((spl 46 s).map numV) else none := by
  rw [numR_eq]
  cases hs : spl 46 s with
  | nil => exact absurd hs (spl_ne 46 s)
  | cons h t =>
    simp only [List.all_cons, List.map_cons, List.nil_append]
    cases hr : runD 0 0 h with
    | none =>
      have : numOk h = false := by
        cases ho : numOk h with
        | false => rfl
        | true => have := (numOk_run.1 ho).2; rw [hr] at this; cases this
      rw [this]; rfl
    | some m =>
      simp only
      by_cases hh : h = []
      · subst hh
        have : numOk [] = false := by cases ho : numOk [] with
          | false => rfl
          | true => exact absurd rfl (numOk_run.1 ho).1
        rw [this]; rfl
      · have hl : ¬ 0 + h.length = 0 := by cases h; exact absurd rfl hh; simp
        have ho : numOk h = true := numOk_run.2 ⟨hh, by rw [hr]; rfl⟩
        rw [if_neg hl, ho, numV_run hh hr, Bool.true_and]
theorem join_snoc (x : List UInt8) : ∀ (L : List (List UInt8)), L ≠ [] → Lib.join (L ++ [x]) [46] = Lib.join L [46] ++ (46 :: x)
  | [], h => absurd rfl h
  | [a], _ => by rw [List.singleton_append, join_cons2, Lib.join_one, Lib.join_one]
  | a :: b :: r, _ => by
    rw [List.cons_append, List.cons_append, join_cons2, join_cons2, ← List.cons_append, join_snoc x (b :: r) (by simp), List.append_assoc, List.cons_append]
end Go.Proofs.YtelaolingpbnfaaDoor
namespace Go.Proofs.YtelaolingpbnfaaDoor
open Go.RowKit
set_option linter.unusedSimpArgs false
set_option maxRecDepth 100000
def GRIf : FuncId → List V → Option (List Prop × Bool × V) := fun f args =>
  if f = 42 then match args with
    | [.val (.int .i64 m)] => some ([0 ≤ m, m ≤ 1000000000000], false, .str (Lib.decDigits m.toNat))
    | _ => none
  else if f = 38 then match args with
    | [.val (.int .i64 t), .by l] => some ([l.length ≤ 140737488355328], false, .bb (rightF t l))
    | _ => none
  else none
def GRI (J : Inv) : Sig := ⟨J, df, GRIf, noH, 0⟩
theorem GRI_ok (J : Inv) : SigOk Tryd.prog (GRI J) := by
  refine .plain fun f args l fr r h hl => ?_
  unfold GRIf at h
  split at h
  · rename_i hf; subst hf
    split at h
    · rename_i m
      obtain ⟨rfl, rfl, rfl⟩ := some_tri h
      have h1 : 0 ≤ m := hl _ (by simp)
      have h2 : m ≤ 1000000000000 := hl _ (by simp)
      have := text_fn J m.toNat (by omega)
      rw [V.i, Int.toNat_of_nonneg h1] at this
      exact this
    · exact absurd h (by simp)
  · split at h
    · rename_i hf; subst hf
      split at h
      · obtain ⟨rfl, rfl, rfl⟩ := some_tri h; exact Contents_fn J _ _ (hl _ (by simp))
      · exact absurd h (by simp)
    · exact absurd h (by simp)
theorem head_join {p : Nat} (hp : p < 10) (r : Nat) : Lib.join [Lib.itoa p, Lib.itoa r] [46] = UInt8.ofNat (48 + p) :: 46 :: Lib.decDigits r := by
  rw [join_cons2, Lib.join_one, Lib.itoa_nonneg, Lib.itoa_nonneg, Lib.decDigits_one hp]; rfl
theorem itoa_len (n : Nat) (h : n ≤ 2147483727) : 0 < (Lib.itoa n).length ∧ (Lib.itoa n).length ≤ 21 := by
  refine ⟨?_, Lib.itoa_length_le n (by omega) (by omega)⟩
  rw [Lib.itoa_nonneg]
  cases hd : Lib.decDigits n with
  | nil => exact absurd hd (dec_ne n)
  | cons => simp
theorem rOid_own (J : Inv) (t : Tlv) (hl : t.data.length ≤ 1000000000) : FnH Tryd.prog J 21 [tlvV t] [] 0 (.tu [.str (oidF t).1, .bb (oidF t).2]) [] 1 := by
  refine fnH_intro Tryd.func21 rfl (by kernel_rfl) (Nat.le_of_ble_eq_true (by kernel_rfl)) (by kernel_rfl) (by kernel_rfl) (GRI_ok J) rfl ?_
  unfold Tryd.f21
  simp only [vquietR, vopsR, RetC, retW, cellR, undV, vgA, vbinN, vnn, isNilC, isIf, vconvH, vconvO, cvOk, frz1, frzE, jsOk, jsCo, rowsH, vgcH, vgH, vopsT, stepE, Kseq_app, vg_skip, vg_label, vg_seq, vg_region, vg_cond, vg_block, vg_exit, vg_ret, vg_loop, vcallF, vcallH, uls, HdelK, memN, noBox, ninL, keysH, jsAt, AdSub, adopt, noEl, isNil, effL, effO, vopsD, vquiet, vfstD, ldq, ldOk, vops, vfst, vone, vact, ug, addL, vbox, valloc, vstore, vbuild, vbuildSlice, vappend, vmake, zeroS, zeroE, vstrB, apC, nrm, nr1, nrL, keyL, neqs, diffs, V.app, V.len, vsrc, vdst, mkSl, mkBy, inOrd, placeAll, V.one, V.sto, V.csize, V.parts, V.cellsL, setMany, V.setB, V.setE, V.setO, V.noOwn, V.isOwn, vq, vcall, fzA, fz, fz1, fzL, fzN, rts, rt1, V.er, er1, er2, mixA, mixK, uargs, u1, R.add, vop, vbin, vint2, vstr2, vbool2, vnum, vun, vpick, vpick1, vbool, vconv, vnil, vfieldAddr, vindexAddr, vindex, vload, vfield, aggD, vslice, bnd, uopt, vlen, vmin, vextract, Hpk, Hroot, refV, ownR, V.i, V.elems, V.cell, V.cut, V.exact, V.ex0, exL, V.cl, clL, V.sc, scL, scO, scH, V.ct, ct1, ct2, RetP, RetK, RetH, retL, retOne, Back, Veq, subH, obs, obsIf, En.get, En.put, En.ev, enOf, gcond, wantB, constV, exGet, subE, Sub, RV, RVL, NR, RO, subER, subHR, newLt, oldNe, oldOk, oldGe, notIn, ivN, lookN, SubR, Nm.root, Nat.reduceMul, Nat.reduceLeDiff, Nat.reduceEqDiff, Nat.reduceLT, Nat.reduceAdd, Nat.reduceSub, ↓reduceIte, implies_true, reduceCtorEq, ne_eq, ↓shr_eq, IntKind.bits, Int.reduceToNat, Int.reducePow, dite_eq_ite, Value.oneCell', Nat.reduceBEq, Nat.reduceDiv, sd, nm, ty, GRI, GRIf, tlvV]
  have hI : ∀ k, I64 k → (Lib.itoa k).length ≤ 21 := fun k h => Lib.itoa_length_le k h.lo h.hi
  refine ⟨fun _ => by omega, fun h => ?_, fun h => ?_⟩
  · have e : oidF t = ([], false) := by
      unfold oidF
      rw [if_neg]
      rintro ⟨h1, h2, h3⟩
      rw [h1, h2, h3] at h
      simp at h
    rw [e]
    refine .inl ?_
    simp only [vquietR, vopsR, RetC, retW, cellR, undV, vgA, vbinN, vnn, isNilC, isIf, vconvH, vconvO, cvOk, frz1, frzE, jsOk, jsCo, rowsH, vgcH, vgH, vopsT, stepE, Kseq_app, vg_skip, vg_label, vg_seq, vg_region, vg_cond, vg_block, vg_exit, vg_ret, vg_loop, vcallF, vcallH, uls, HdelK, memN, noBox, ninL, keysH, jsAt, AdSub, adopt, noEl, isNil, effL, effO, vopsD, vquiet, vfstD, ldq, ldOk, vops, vfst, vone, vact, ug, addL, vbox, valloc, vstore, vbuild, vbuildSlice, vappend, vmake, zeroS, zeroE, vstrB, apC, nrm, nr1, nrL, keyL, neqs, diffs, V.app, V.len, vsrc, vdst, mkSl, mkBy, inOrd, placeAll, V.one, V.sto, V.csize, V.parts, V.cellsL, setMany, V.setB, V.setE, V.setO, V.noOwn, V.isOwn, vq, vcall, fzA, fz, fz1, fzL, fzN, rts, rt1, V.er, er1, er2, mixA, mixK, uargs, u1, R.add, vop, vbin, vint2, vstr2, vbool2, vnum, vun, vpick, vpick1, vbool, vconv, vnil, vfieldAddr, vindexAddr, vindex, vload, vfield, aggD, vslice, bnd, uopt, vlen, vmin, vextract, Hpk, Hroot, refV, ownR, V.i, V.elems, V.cell, V.cut, V.exact, V.ex0, exL, V.cl, clL, V.sc, scL, scO, scH, V.ct, ct1, ct2, RetP, RetK, RetH, retL, retOne, Back, Veq, subH, obs, obsIf, En.get, En.put, En.ev, enOf, gcond, wantB, constV, exGet, subE, Sub, RV, RVL, NR, RO, subER, subHR, newLt, oldNe, oldOk, oldGe, notIn, ivN, lookN, SubR, Nm.root, Nat.reduceMul, Nat.reduceLeDiff, Nat.reduceEqDiff, Nat.reduceLT, Nat.reduceAdd, Nat.reduceSub, ↓reduceIte, implies_true, reduceCtorEq, ne_eq, ↓shr_eq, IntKind.bits, Int.reduceToNat, Int.reducePow, dite_eq_ite, Value.oneCell', Nat.reduceBEq, Nat.reduceDiv, sd, nm, ty]
  · simp only [Bool.or_eq_false_iff, Bool.not_eq_false', beq_iff_eq] at h
    have e : oidF t = match oidS t.data [] 0 with
        | some l => (Lib.join l [46], true)
        | none => ([], false) := by
      unfold oidF
      rw [if_pos ⟨h.1.1, h.1.2, h.2⟩]
      rfl
    refine LoopC.intro (α := Nat × List (List UInt8) × Nat) (fun y => y.1 ≤ t.data.length ∧ oidS (t.data.drop y.1) y.2.1 y.2.2 = oidS t.data [] 0 ∧ y.2.1.length ≤ 2 * y.1 ∧ y.2.2 ≤ 2147483727 ∧ ∀ s ∈ y.2.1, 0 < s.length ∧ s.length ≤ 21)
      (fun y => ⟨[(6, .i y.1), (5, .i y.2.2), (4, .str (Lib.join y.2.1 [46])), (1, .op 0 0)], [(0, .box 36 (.st [.val (.int .i64 t.tag), .by t.data, .val (.int .i64 t.kids)]))], 1⟩)
      (fun y => t.data.length - y.1) (0, [], 0) ⟨Nat.zero_le _, rfl, by simp, by simp, by simp⟩ ?_ ?_
    · simp only [vquietR, vopsR, RetC, retW, cellR, undV, vgA, vbinN, vnn, isNilC, isIf, vconvH, vconvO, cvOk, frz1, frzE, jsOk, jsCo, rowsH, vgcH, vgH, vopsT, stepE, Kseq_app, vg_skip, vg_label, vg_seq, vg_region, vg_cond, vg_block, vg_exit, vg_ret, vg_loop, vcallF, vcallH, uls, HdelK, memN, noBox, ninL, keysH, jsAt, AdSub, adopt, noEl, isNil, effL, effO, vopsD, vquiet, vfstD, ldq, ldOk, vops, vfst, vone, vact, ug, addL, vbox, valloc, vstore, vbuild, vbuildSlice, vappend, vmake, zeroS, zeroE, vstrB, apC, nrm, nr1, nrL, keyL, neqs, diffs, V.app, V.len, vsrc, vdst, mkSl, mkBy, inOrd, placeAll, V.one, V.sto, V.csize, V.parts, V.cellsL, setMany, V.setB, V.setE, V.setO, V.noOwn, V.isOwn, vq, vcall, fzA, fz, fz1, fzL, fzN, rts, rt1, V.er, er1, er2, mixA, mixK, uargs, u1, R.add, vop, vbin, vint2, vstr2, vbool2, vnum, vun, vpick, vpick1, vbool, vconv, vnil, vfieldAddr, vindexAddr, vindex, vload, vfield, aggD, vslice, bnd, uopt, vlen, vmin, vextract, Hpk, Hroot, refV, ownR, V.i, V.elems, V.cell, V.cut, V.exact, V.ex0, exL, V.cl, clL, V.sc, scL, scO, scH, V.ct, ct1, ct2, RetP, RetK, RetH, retL, retOne, Back, Veq, subH, obs, obsIf, En.get, En.put, En.ev, enOf, gcond, wantB, constV, exGet, subE, Sub, RV, RVL, NR, RO, subER, subHR, newLt, oldNe, oldOk, oldGe, notIn, ivN, lookN, SubR, Nm.root, Nat.reduceMul, Nat.reduceLeDiff, Nat.reduceEqDiff, Nat.reduceLT, Nat.reduceAdd, Nat.reduceSub, ↓reduceIte, implies_true, reduceCtorEq, ne_eq, ↓shr_eq, IntKind.bits, Int.reduceToNat, Int.reducePow, dite_eq_ite, Value.oneCell', Nat.reduceBEq, Nat.reduceDiv, sd, nm, ty, Lib.join_nil]
      exact ⟨rfl, rfl⟩
    · rintro ⟨i, out, n⟩ ⟨q1, q2, q3, q4, q6⟩
      simp only at q1 q2 q3 q4 q6
      simp only [vquietR, vopsR, RetC, retW, cellR, undV, vgA, vbinN, vnn, isNilC, isIf, vconvH, vconvO, cvOk, frz1, frzE, jsOk, jsCo, rowsH, vgcH, vgH, vopsT, stepE, Kseq_app, vg_skip, vg_label, vg_seq, vg_region, vg_cond, vg_block, vg_exit, vg_ret, vg_loop, vcallF, vcallH, uls, HdelK, memN, noBox, ninL, keysH, jsAt, AdSub, adopt, noEl, isNil, effL, effO, vopsD, vquiet, vfstD, ldq, ldOk, vops, vfst, vone, vact, ug, addL, vbox, valloc, vstore, vbuild, vbuildSlice, vappend, vmake, zeroS, zeroE, vstrB, apC, nrm, nr1, nrL, keyL, neqs, diffs, V.app, V.len, vsrc, vdst, mkSl, mkBy, inOrd, placeAll, V.one, V.sto, V.csize, V.parts, V.cellsL, setMany, V.setB, V.setE, V.setO, V.noOwn, V.isOwn, vq, vcall, fzA, fz, fz1, fzL, fzN, rts, rt1, V.er, er1, er2, mixA, mixK, uargs, u1, R.add, vop, vbin, vint2, vstr2, vbool2, vnum, vun, vpick, vpick1, vbool, vconv, vnil, vfieldAddr, vindexAddr, vindex, vload, vfield, aggD, vslice, bnd, uopt, vlen, vmin, vextract, Hpk, Hroot, refV, ownR, V.i, V.elems, V.cell, V.cut, V.exact, V.ex0, exL, V.cl, clL, V.sc, scL, scO, scH, V.ct, ct1, ct2, RetP, RetK, RetH, retL, retOne, Back, Veq, subH, obs, obsIf, En.get, En.put, En.ev, enOf, gcond, wantB, constV, exGet, subE, Sub, RV, RVL, NR, RO, subER, subHR, newLt, oldNe, oldOk, oldGe, notIn, ivN, lookN, SubR, Nm.root, Nat.reduceMul, Nat.reduceLeDiff, Nat.reduceEqDiff, Nat.reduceLT, Nat.reduceAdd, Nat.reduceSub, ↓reduceIte, implies_true, reduceCtorEq, ne_eq, ↓shr_eq, IntKind.bits, Int.reduceToNat, Int.reducePow, dite_eq_ite, Value.oneCell', Nat.reduceBEq, Nat.reduceDiv, sd, nm, ty, GRI, GRIf]
      refine ⟨fun hi => ?_, fun hi => ?_⟩
      · simp only [decide_eq_true_eq] at hi
        have hi : i < t.data.length := by omega
        have hb := byteN_lt t.data i
        generalize hm : n * 128 + byteN t.data i % 128 = m
        have e0 : (128 * (n : Int) + byteAt t.data i % 128) = (m : Int) := by rw [byteAt_N]; omega
        have hbb := byteAt_lo t.data i
        rw [e0]
        refine ⟨by constructor <;> omega, by omega, by omega, by omega, by omega, by constructor <;> omega, fun h1 => ?_, fun h1 => ⟨by omega, by omega, fun h2 => ⟨by constructor <;> omega, ?_⟩, fun h2 => ?_⟩⟩
        · have h1 : 2147483727 < m := by simp at h1; omega
          rw [oid_step hi out n m hm, if_pos h1] at q2
          rw [← q2] at e
          have e : oidF t = ([], false) := e
          rw [e]
          refine .inl ?_
          simp only [vquietR, vopsR, RetC, retW, cellR, undV, vgA, vbinN, vnn, isNilC, isIf, vconvH, vconvO, cvOk, frz1, frzE, jsOk, jsCo, rowsH, vgcH, vgH, vopsT, stepE, Kseq_app, vg_skip, vg_label, vg_seq, vg_region, vg_cond, vg_block, vg_exit, vg_ret, vg_loop, vcallF, vcallH, uls, HdelK, memN, noBox, ninL, keysH, jsAt, AdSub, adopt, noEl, isNil, effL, effO, vopsD, vquiet, vfstD, ldq, ldOk, vops, vfst, vone, vact, ug, addL, vbox, valloc, vstore, vbuild, vbuildSlice, vappend, vmake, zeroS, zeroE, vstrB, apC, nrm, nr1, nrL, keyL, neqs, diffs, V.app, V.len, vsrc, vdst, mkSl, mkBy, inOrd, placeAll, V.one, V.sto, V.csize, V.parts, V.cellsL, setMany, V.setB, V.setE, V.setO, V.noOwn, V.isOwn, vq, vcall, fzA, fz, fz1, fzL, fzN, rts, rt1, V.er, er1, er2, mixA, mixK, uargs, u1, R.add, vop, vbin, vint2, vstr2, vbool2, vnum, vun, vpick, vpick1, vbool, vconv, vnil, vfieldAddr, vindexAddr, vindex, vload, vfield, aggD, vslice, bnd, uopt, vlen, vmin, vextract, Hpk, Hroot, refV, ownR, V.i, V.elems, V.cell, V.cut, V.exact, V.ex0, exL, V.cl, clL, V.sc, scL, scO, scH, V.ct, ct1, ct2, RetP, RetK, RetH, retL, retOne, Back, Veq, subH, obs, obsIf, En.get, En.put, En.ev, enOf, gcond, wantB, constV, exGet, subE, Sub, RV, RVL, NR, RO, subER, subHR, newLt, oldNe, oldOk, oldGe, notIn, ivN, lookN, SubR, Nm.root, Nat.reduceMul, Nat.reduceLeDiff, Nat.reduceEqDiff, Nat.reduceLT, Nat.reduceAdd, Nat.reduceSub, ↓reduceIte, implies_true, reduceCtorEq, ne_eq, ↓shr_eq, IntKind.bits, Int.reduceToNat, Int.reducePow, dite_eq_ite, Value.oneCell', Nat.reduceBEq, Nat.reduceDiv, sd, nm, ty]
        · have h1 : ¬ 2147483727 < m := by simp at h1; omega
          have h2 : 128 ≤ byteN t.data i := by rw [byteAt_N] at h2; simp at h2; omega
          rw [oid_step hi out n m hm, if_neg h1, if_pos h2] at q2
          refine Again.intro (i + 1, out, m) ⟨by simp only; omega, q2, by simp only; omega, by simp only; omega, q6⟩ (by simp only; omega) ?_
          simp only [vquietR, vopsR, RetC, retW, cellR, undV, vgA, vbinN, vnn, isNilC, isIf, vconvH, vconvO, cvOk, frz1, frzE, jsOk, jsCo, rowsH, vgcH, vgH, vopsT, stepE, Kseq_app, vg_skip, vg_label, vg_seq, vg_region, vg_cond, vg_block, vg_exit, vg_ret, vg_loop, vcallF, vcallH, uls, HdelK, memN, noBox, ninL, keysH, jsAt, AdSub, adopt, noEl, isNil, effL, effO, vopsD, vquiet, vfstD, ldq, ldOk, vops, vfst, vone, vact, ug, addL, vbox, valloc, vstore, vbuild, vbuildSlice, vappend, vmake, zeroS, zeroE, vstrB, apC, nrm, nr1, nrL, keyL, neqs, diffs, V.app, V.len, vsrc, vdst, mkSl, mkBy, inOrd, placeAll, V.one, V.sto, V.csize, V.parts, V.cellsL, setMany, V.setB, V.setE, V.setO, V.noOwn, V.isOwn, vq, vcall, fzA, fz, fz1, fzL, fzN, rts, rt1, V.er, er1, er2, mixA, mixK, uargs, u1, R.add, vop, vbin, vint2, vstr2, vbool2, vnum, vun, vpick, vpick1, vbool, vconv, vnil, vfieldAddr, vindexAddr, vindex, vload, vfield, aggD, vslice, bnd, uopt, vlen, vmin, vextract, Hpk, Hroot, refV, ownR, V.i, V.elems, V.cell, V.cut, V.exact, V.ex0, exL, V.cl, clL, V.sc, scL, scO, scH, V.ct, ct1, ct2, RetP, RetK, RetH, retL, retOne, Back, Veq, subH, obs, obsIf, En.get, En.put, En.ev, enOf, gcond, wantB, constV, exGet, subE, Sub, RV, RVL, NR, RO, subER, subHR, newLt, oldNe, oldOk, oldGe, notIn, ivN, lookN, SubR, Nm.root, Nat.reduceMul, Nat.reduceLeDiff, Nat.reduceEqDiff, Nat.reduceLT, Nat.reduceAdd, Nat.reduceSub, ↓reduceIte, implies_true, reduceCtorEq, ne_eq, ↓shr_eq, IntKind.bits, Int.reduceToNat, Int.reducePow, dite_eq_ite, Value.oneCell', Nat.reduceBEq, Nat.reduceDiv, sd, nm, ty]
          simp
        · have h1 : ¬ 2147483727 < m := by simp at h1; omega
          have h2 : ¬ 128 ≤ byteN t.data i := by rw [byteAt_N] at h2; simp at h2; omega
          rw [oid_step hi out n m hm, if_neg h1, if_neg h2] at q2
          by_cases ho : out = []
          · subst ho
            rw [if_pos (show ([] : List (List UInt8)).length = 0 from rfl)] at q2
            have ej : (Lib.join ([] : List (List UInt8)) [46] == []) = true := rfl
            rw [ej]
            refine ⟨fun _ => ⟨fun h3 => ?_, fun h3 => ⟨fun h4 => ?_, fun h4 => ?_⟩⟩, fun h => by cases h⟩
            · have hmin : min (m / 40) 2 = 2 := by simp at h3; omega
              rw [hmin] at q2
              have es : m - 40 * 2 = m - 80 := by omega
              have et : ((m : Int) - 80).toNat = m - 80 := by omega
              rw [es] at q2
              rw [et]
              have hr := itoa_len (m - 80) (by omega)
              have hp2 := itoa_len 2 (by omega)
              have hj := head_join (p := 2) (by omega) (m - 80)
              refine ⟨by constructor <;> omega, fun h5 => ?_, fun h5 => ?_⟩
              · have h5 : 2147483647 < m - 80 := by simp at h5; omega
                rw [if_pos h5] at q2
                rw [← q2] at e
                have e : oidF t = ([], false) := e
                rw [e]
                refine .inl ?_
                simp only [vquietR, vopsR, RetC, retW, cellR, undV, vgA, vbinN, vnn, isNilC, isIf, vconvH, vconvO, cvOk, frz1, frzE, jsOk, jsCo, rowsH, vgcH, vgH, vopsT, stepE, Kseq_app, vg_skip, vg_label, vg_seq, vg_region, vg_cond, vg_block, vg_exit, vg_ret, vg_loop, vcallF, vcallH, uls, HdelK, memN, noBox, ninL, keysH, jsAt, AdSub, adopt, noEl, isNil, effL, effO, vopsD, vquiet, vfstD, ldq, ldOk, vops, vfst, vone, vact, ug, addL, vbox, valloc, vstore, vbuild, vbuildSlice, vappend, vmake, zeroS, zeroE, vstrB, apC, nrm, nr1, nrL, keyL, neqs, diffs, V.app, V.len, vsrc, vdst, mkSl, mkBy, inOrd, placeAll, V.one, V.sto, V.csize, V.parts, V.cellsL, setMany, V.setB, V.setE, V.setO, V.noOwn, V.isOwn, vq, vcall, fzA, fz, fz1, fzL, fzN, rts, rt1, V.er, er1, er2, mixA, mixK, uargs, u1, R.add, vop, vbin, vint2, vstr2, vbool2, vnum, vun, vpick, vpick1, vbool, vconv, vnil, vfieldAddr, vindexAddr, vindex, vload, vfield, aggD, vslice, bnd, uopt, vlen, vmin, vextract, Hpk, Hroot, refV, ownR, V.i, V.elems, V.cell, V.cut, V.exact, V.ex0, exL, V.cl, clL, V.sc, scL, scO, scH, V.ct, ct1, ct2, RetP, RetK, RetH, retL, retOne, Back, Veq, subH, obs, obsIf, En.get, En.put, En.ev, enOf, gcond, wantB, constV, exGet, subE, Sub, RV, RVL, NR, RO, subER, subHR, newLt, oldNe, oldOk, oldGe, notIn, ivN, lookN, SubR, Nm.root, Nat.reduceMul, Nat.reduceLeDiff, Nat.reduceEqDiff, Nat.reduceLT, Nat.reduceAdd, Nat.reduceSub, ↓reduceIte, implies_true, reduceCtorEq, ne_eq, ↓shr_eq, IntKind.bits, Int.reduceToNat, Int.reducePow, dite_eq_ite, Value.oneCell', Nat.reduceBEq, Nat.reduceDiv, sd, nm, ty]
              · have h5 : ¬ 2147483647 < m - 80 := by simp at h5; omega
                rw [if_neg h5] at q2
                have hl2 : (Lib.decDigits (m - 80)).length ≤ 21 := by rw [← Lib.itoa_nonneg]; exact hr.2
                refine ⟨by omega, by omega, by omega, by constructor <;> omega, Again.intro (i + 1, [Lib.itoa (2 : Nat), Lib.itoa (m - 80 : Nat)], 0) ⟨by simp only; omega, q2, by simp only [List.length_cons, List.length_nil]; omega, by simp only; omega, fun s hs => ?_⟩ (by simp only; omega) ?_⟩
                · simp only [List.mem_cons, List.not_mem_nil, or_false] at hs
                  rcases hs with rfl | rfl
                  · exact hp2
                  · exact hr
                · simp only [vquietR, vopsR, RetC, retW, cellR, undV, vgA, vbinN, vnn, isNilC, isIf, vconvH, vconvO, cvOk, frz1, frzE, jsOk, jsCo, rowsH, vgcH, vgH, vopsT, stepE, Kseq_app, vg_skip, vg_label, vg_seq, vg_region, vg_cond, vg_block, vg_exit, vg_ret, vg_loop, vcallF, vcallH, uls, HdelK, memN, noBox, ninL, keysH, jsAt, AdSub, adopt, noEl, isNil, effL, effO, vopsD, vquiet, vfstD, ldq, ldOk, vops, vfst, vone, vact, ug, addL, vbox, valloc, vstore, vbuild, vbuildSlice, vappend, vmake, zeroS, zeroE, vstrB, apC, nrm, nr1, nrL, keyL, neqs, diffs, V.app, V.len, vsrc, vdst, mkSl, mkBy, inOrd, placeAll, V.one, V.sto, V.csize, V.parts, V.cellsL, setMany, V.setB, V.setE, V.setO, V.noOwn, V.isOwn, vq, vcall, fzA, fz, fz1, fzL, fzN, rts, rt1, V.er, er1, er2, mixA, mixK, uargs, u1, R.add, vop, vbin, vint2, vstr2, vbool2, vnum, vun, vpick, vpick1, vbool, vconv, vnil, vfieldAddr, vindexAddr, vindex, vload, vfield, aggD, vslice, bnd, uopt, vlen, vmin, vextract, Hpk, Hroot, refV, ownR, V.i, V.elems, V.cell, V.cut, V.exact, V.ex0, exL, V.cl, clL, V.sc, scL, scO, scH, V.ct, ct1, ct2, RetP, RetK, RetH, retL, retOne, Back, Veq, subH, obs, obsIf, En.get, En.put, En.ev, enOf, gcond, wantB, constV, exGet, subE, Sub, RV, RVL, NR, RO, subER, subHR, newLt, oldNe, oldOk, oldGe, notIn, ivN, lookN, SubR, Nm.root, Nat.reduceMul, Nat.reduceLeDiff, Nat.reduceEqDiff, Nat.reduceLT, Nat.reduceAdd, Nat.reduceSub, ↓reduceIte, implies_true, reduceCtorEq, ne_eq, ↓shr_eq, IntKind.bits, Int.reduceToNat, Int.reducePow, dite_eq_ite, Value.oneCell', Nat.reduceBEq, Nat.reduceDiv, sd, nm, ty, hj]
                  exact ⟨by omega, rfl, rfl⟩
            · have hmin : min (m / 40) 2 = 1 := by simp at h3 h4; omega
              rw [hmin] at q2
              have es : m - 40 * 1 = m - 40 := by omega
              have et : ((m : Int) - 40).toNat = m - 40 := by omega
              rw [es] at q2
              rw [et]
              have hr := itoa_len (m - 40) (by omega)
              have hp2 := itoa_len 1 (by omega)
              have hj := head_join (p := 1) (by omega) (m - 40)
              refine ⟨by constructor <;> omega, fun h5 => ?_, fun h5 => ?_⟩
              · have h5 : 2147483647 < m - 40 := by simp at h5; omega
                rw [if_pos h5] at q2
                rw [← q2] at e
                have e : oidF t = ([], false) := e
                rw [e]
                refine .inl ?_
                simp only [vquietR, vopsR, RetC, retW, cellR, undV, vgA, vbinN, vnn, isNilC, isIf, vconvH, vconvO, cvOk, frz1, frzE, jsOk, jsCo, rowsH, vgcH, vgH, vopsT, stepE, Kseq_app, vg_skip, vg_label, vg_seq, vg_region, vg_cond, vg_block, vg_exit, vg_ret, vg_loop, vcallF, vcallH, uls, HdelK, memN, noBox, ninL, keysH, jsAt, AdSub, adopt, noEl, isNil, effL, effO, vopsD, vquiet, vfstD, ldq, ldOk, vops, vfst, vone, vact, ug, addL, vbox, valloc, vstore, vbuild, vbuildSlice, vappend, vmake, zeroS, zeroE, vstrB, apC, nrm, nr1, nrL, keyL, neqs, diffs, V.app, V.len, vsrc, vdst, mkSl, mkBy, inOrd, placeAll, V.one, V.sto, V.csize, V.parts, V.cellsL, setMany, V.setB, V.setE, V.setO, V.noOwn, V.isOwn, vq, vcall, fzA, fz, fz1, fzL, fzN, rts, rt1, V.er, er1, er2, mixA, mixK, uargs, u1, R.add, vop, vbin, vint2, vstr2, vbool2, vnum, vun, vpick, vpick1, vbool, vconv, vnil, vfieldAddr, vindexAddr, vindex, vload, vfield, aggD, vslice, bnd, uopt, vlen, vmin, vextract, Hpk, Hroot, refV, ownR, V.i, V.elems, V.cell, V.cut, V.exact, V.ex0, exL, V.cl, clL, V.sc, scL, scO, scH, V.ct, ct1, ct2, RetP, RetK, RetH, retL, retOne, Back, Veq, subH, obs, obsIf, En.get, En.put, En.ev, enOf, gcond, wantB, constV, exGet, subE, Sub, RV, RVL, NR, RO, subER, subHR, newLt, oldNe, oldOk, oldGe, notIn, ivN, lookN, SubR, Nm.root, Nat.reduceMul, Nat.reduceLeDiff, Nat.reduceEqDiff, Nat.reduceLT, Nat.reduceAdd, Nat.reduceSub, ↓reduceIte, implies_true, reduceCtorEq, ne_eq, ↓shr_eq, IntKind.bits, Int.reduceToNat, Int.reducePow, dite_eq_ite, Value.oneCell', Nat.reduceBEq, Nat.reduceDiv, sd, nm, ty]
              · have h5 : ¬ 2147483647 < m - 40 := by simp at h5; omega
                rw [if_neg h5] at q2
                have hl2 : (Lib.decDigits (m - 40)).length ≤ 21 := by rw [← Lib.itoa_nonneg]; exact hr.2
                refine ⟨by omega, by omega, by omega, by constructor <;> omega, Again.intro (i + 1, [Lib.itoa (1 : Nat), Lib.itoa (m - 40 : Nat)], 0) ⟨by simp only; omega, q2, by simp only [List.length_cons, List.length_nil]; omega, by simp only; omega, fun s hs => ?_⟩ (by simp only; omega) ?_⟩
                · simp only [List.mem_cons, List.not_mem_nil, or_false] at hs
                  rcases hs with rfl | rfl
                  · exact hp2
                  · exact hr
                · simp only [vquietR, vopsR, RetC, retW, cellR, undV, vgA, vbinN, vnn, isNilC, isIf, vconvH, vconvO, cvOk, frz1, frzE, jsOk, jsCo, rowsH, vgcH, vgH, vopsT, stepE, Kseq_app, vg_skip, vg_label, vg_seq, vg_region, vg_cond, vg_block, vg_exit, vg_ret, vg_loop, vcallF, vcallH, uls, HdelK, memN, noBox, ninL, keysH, jsAt, AdSub, adopt, noEl, isNil, effL, effO, vopsD, vquiet, vfstD, ldq, ldOk, vops, vfst, vone, vact, ug, addL, vbox, valloc, vstore, vbuild, vbuildSlice, vappend, vmake, zeroS, zeroE, vstrB, apC, nrm, nr1, nrL, keyL, neqs, diffs, V.app, V.len, vsrc, vdst, mkSl, mkBy, inOrd, placeAll, V.one, V.sto, V.csize, V.parts, V.cellsL, setMany, V.setB, V.setE, V.setO, V.noOwn, V.isOwn, vq, vcall, fzA, fz, fz1, fzL, fzN, rts, rt1, V.er, er1, er2, mixA, mixK, uargs, u1, R.add, vop, vbin, vint2, vstr2, vbool2, vnum, vun, vpick, vpick1, vbool, vconv, vnil, vfieldAddr, vindexAddr, vindex, vload, vfield, aggD, vslice, bnd, uopt, vlen, vmin, vextract, Hpk, Hroot, refV, ownR, V.i, V.elems, V.cell, V.cut, V.exact, V.ex0, exL, V.cl, clL, V.sc, scL, scO, scH, V.ct, ct1, ct2, RetP, RetK, RetH, retL, retOne, Back, Veq, subH, obs, obsIf, En.get, En.put, En.ev, enOf, gcond, wantB, constV, exGet, subE, Sub, RV, RVL, NR, RO, subER, subHR, newLt, oldNe, oldOk, oldGe, notIn, ivN, lookN, SubR, Nm.root, Nat.reduceMul, Nat.reduceLeDiff, Nat.reduceEqDiff, Nat.reduceLT, Nat.reduceAdd, Nat.reduceSub, ↓reduceIte, implies_true, reduceCtorEq, ne_eq, ↓shr_eq, IntKind.bits, Int.reduceToNat, Int.reducePow, dite_eq_ite, Value.oneCell', Nat.reduceBEq, Nat.reduceDiv, sd, nm, ty, hj]
                  exact ⟨by omega, rfl, rfl⟩
            · have hmin : min (m / 40) 2 = 0 := by simp at h3 h4; omega
              rw [hmin] at q2
              have es : m - 40 * 0 = m := by omega
              have et : (m : Int).toNat = m := by omega
              rw [es] at q2
              rw [et]
              have hr := itoa_len (m) (by omega)
              have hp2 := itoa_len 0 (by omega)
              have hj := head_join (p := 0) (by omega) (m)
              refine ⟨fun h5 => ?_, fun h5 => ?_⟩
              · have h5 : 2147483647 < m := by simp at h5; omega
                rw [if_pos h5] at q2
                rw [← q2] at e
                have e : oidF t = ([], false) := e
                rw [e]
                refine .inl ?_
                simp only [vquietR, vopsR, RetC, retW, cellR, undV, vgA, vbinN, vnn, isNilC, isIf, vconvH, vconvO, cvOk, frz1, frzE, jsOk, jsCo, rowsH, vgcH, vgH, vopsT, stepE, Kseq_app, vg_skip, vg_label, vg_seq, vg_region, vg_cond, vg_block, vg_exit, vg_ret, vg_loop, vcallF, vcallH, uls, HdelK, memN, noBox, ninL, keysH, jsAt, AdSub, adopt, noEl, isNil, effL, effO, vopsD, vquiet, vfstD, ldq, ldOk, vops, vfst, vone, vact, ug, addL, vbox, valloc, vstore, vbuild, vbuildSlice, vappend, vmake, zeroS, zeroE, vstrB, apC, nrm, nr1, nrL, keyL, neqs, diffs, V.app, V.len, vsrc, vdst, mkSl, mkBy, inOrd, placeAll, V.one, V.sto, V.csize, V.parts, V.cellsL, setMany, V.setB, V.setE, V.setO, V.noOwn, V.isOwn, vq, vcall, fzA, fz, fz1, fzL, fzN, rts, rt1, V.er, er1, er2, mixA, mixK, uargs, u1, R.add, vop, vbin, vint2, vstr2, vbool2, vnum, vun, vpick, vpick1, vbool, vconv, vnil, vfieldAddr, vindexAddr, vindex, vload, vfield, aggD, vslice, bnd, uopt, vlen, vmin, vextract, Hpk, Hroot, refV, ownR, V.i, V.elems, V.cell, V.cut, V.exact, V.ex0, exL, V.cl, clL, V.sc, scL, scO, scH, V.ct, ct1, ct2, RetP, RetK, RetH, retL, retOne, Back, Veq, subH, obs, obsIf, En.get, En.put, En.ev, enOf, gcond, wantB, constV, exGet, subE, Sub, RV, RVL, NR, RO, subER, subHR, newLt, oldNe, oldOk, oldGe, notIn, ivN, lookN, SubR, Nm.root, Nat.reduceMul, Nat.reduceLeDiff, Nat.reduceEqDiff, Nat.reduceLT, Nat.reduceAdd, Nat.reduceSub, ↓reduceIte, implies_true, reduceCtorEq, ne_eq, ↓shr_eq, IntKind.bits, Int.reduceToNat, Int.reducePow, dite_eq_ite, Value.oneCell', Nat.reduceBEq, Nat.reduceDiv, sd, nm, ty]
              · have h5 : ¬ 2147483647 < m := by simp at h5; omega
                rw [if_neg h5] at q2
                have hl2 : (Lib.decDigits (m)).length ≤ 21 := by rw [← Lib.itoa_nonneg]; exact hr.2
                refine ⟨by omega, by omega, by omega, by constructor <;> omega, Again.intro (i + 1, [Lib.itoa (0 : Nat), Lib.itoa (m : Nat)], 0) ⟨by simp only; omega, q2, by simp only [List.length_cons, List.length_nil]; omega, by simp only; omega, fun s hs => ?_⟩ (by simp only; omega) ?_⟩
                · simp only [List.mem_cons, List.not_mem_nil, or_false] at hs
                  rcases hs with rfl | rfl
                  · exact hp2
                  · exact hr
                · simp only [vquietR, vopsR, RetC, retW, cellR, undV, vgA, vbinN, vnn, isNilC, isIf, vconvH, vconvO, cvOk, frz1, frzE, jsOk, jsCo, rowsH, vgcH, vgH, vopsT, stepE, Kseq_app, vg_skip, vg_label, vg_seq, vg_region, vg_cond, vg_block, vg_exit, vg_ret, vg_loop, vcallF, vcallH, uls, HdelK, memN, noBox, ninL, keysH, jsAt, AdSub, adopt, noEl, isNil, effL, effO, vopsD, vquiet, vfstD, ldq, ldOk, vops, vfst, vone, vact, ug, addL, vbox, valloc, vstore, vbuild, vbuildSlice, vappend, vmake, zeroS, zeroE, vstrB, apC, nrm, nr1, nrL, keyL, neqs, diffs, V.app, V.len, vsrc, vdst, mkSl, mkBy, inOrd, placeAll, V.one, V.sto, V.csize, V.parts, V.cellsL, setMany, V.setB, V.setE, V.setO, V.noOwn, V.isOwn, vq, vcall, fzA, fz, fz1, fzL, fzN, rts, rt1, V.er, er1, er2, mixA, mixK, uargs, u1, R.add, vop, vbin, vint2, vstr2, vbool2, vnum, vun, vpick, vpick1, vbool, vconv, vnil, vfieldAddr, vindexAddr, vindex, vload, vfield, aggD, vslice, bnd, uopt, vlen, vmin, vextract, Hpk, Hroot, refV, ownR, V.i, V.elems, V.cell, V.cut, V.exact, V.ex0, exL, V.cl, clL, V.sc, scL, scO, scH, V.ct, ct1, ct2, RetP, RetK, RetH, retL, retOne, Back, Veq, subH, obs, obsIf, En.get, En.put, En.ev, enOf, gcond, wantB, constV, exGet, subE, Sub, RV, RVL, NR, RO, subER, subHR, newLt, oldNe, oldOk, oldGe, notIn, ivN, lookN, SubR, Nm.root, Nat.reduceMul, Nat.reduceLeDiff, Nat.reduceEqDiff, Nat.reduceLT, Nat.reduceAdd, Nat.reduceSub, ↓reduceIte, implies_true, reduceCtorEq, ne_eq, ↓shr_eq, IntKind.bits, Int.reduceToNat, Int.reducePow, dite_eq_ite, Value.oneCell', Nat.reduceBEq, Nat.reduceDiv, sd, nm, ty, hj]
                  exact ⟨by omega, rfl, rfl⟩
          · have ho0 : ¬ out.length = 0 := fun h => ho (List.eq_nil_of_length_eq_zero h)
            rw [if_neg ho0] at q2
            have ej : (Lib.join out [46] == []) = false := by
              cases out with
              | nil => exact absurd rfl ho
              | cons a r =>
                have := (q6 a (by simp)).1
                rw [Lib.join_cons]
                cases a with
                | nil => simp at this
                | cons => rfl
            rw [ej]
            have hr := itoa_len m (by omega)
            have hjl := join_len out [46] fun x hx => (q6 x hx).2
            simp only [List.length_singleton] at hjl
            have hj := join_snoc (Lib.itoa m) out ho
            have et : ((m : Int)).toNat = m := by omega
            rw [et]
            have hl2 : (Lib.decDigits m).length ≤ 21 := by rw [← Lib.itoa_nonneg]; exact hr.2
            simp only [List.length_append, List.length_singleton, List.length_cons, List.length_nil]
            refine ⟨fun h => by simp at h, fun _ => ⟨by omega, fun h5 => ?_, fun h5 => ?_⟩⟩
            · have h5 : 2147483647 < m := by simp at h5; omega
              rw [if_pos h5] at q2
              rw [← q2] at e
              have e : oidF t = ([], false) := e
              rw [e]
              refine .inl ?_
              simp only [vquietR, vopsR, RetC, retW, cellR, undV, vgA, vbinN, vnn, isNilC, isIf, vconvH, vconvO, cvOk, frz1, frzE, jsOk, jsCo, rowsH, vgcH, vgH, vopsT, stepE, Kseq_app, vg_skip, vg_label, vg_seq, vg_region, vg_cond, vg_block, vg_exit, vg_ret, vg_loop, vcallF, vcallH, uls, HdelK, memN, noBox, ninL, keysH, jsAt, AdSub, adopt, noEl, isNil, effL, effO, vopsD, vquiet, vfstD, ldq, ldOk, vops, vfst, vone, vact, ug, addL, vbox, valloc, vstore, vbuild, vbuildSlice, vappend, vmake, zeroS, zeroE, vstrB, apC, nrm, nr1, nrL, keyL, neqs, diffs, V.app, V.len, vsrc, vdst, mkSl, mkBy, inOrd, placeAll, V.one, V.sto, V.csize, V.parts, V.cellsL, setMany, V.setB, V.setE, V.setO, V.noOwn, V.isOwn, vq, vcall, fzA, fz, fz1, fzL, fzN, rts, rt1, V.er, er1, er2, mixA, mixK, uargs, u1, R.add, vop, vbin, vint2, vstr2, vbool2, vnum, vun, vpick, vpick1, vbool, vconv, vnil, vfieldAddr, vindexAddr, vindex, vload, vfield, aggD, vslice, bnd, uopt, vlen, vmin, vextract, Hpk, Hroot, refV, ownR, V.i, V.elems, V.cell, V.cut, V.exact, V.ex0, exL, V.cl, clL, V.sc, scL, scO, scH, V.ct, ct1, ct2, RetP, RetK, RetH, retL, retOne, Back, Veq, subH, obs, obsIf, En.get, En.put, En.ev, enOf, gcond, wantB, constV, exGet, subE, Sub, RV, RVL, NR, RO, subER, subHR, newLt, oldNe, oldOk, oldGe, notIn, ivN, lookN, SubR, Nm.root, Nat.reduceMul, Nat.reduceLeDiff, Nat.reduceEqDiff, Nat.reduceLT, Nat.reduceAdd, Nat.reduceSub, ↓reduceIte, implies_true, reduceCtorEq, ne_eq, ↓shr_eq, IntKind.bits, Int.reduceToNat, Int.reducePow, dite_eq_ite, Value.oneCell', Nat.reduceBEq, Nat.reduceDiv, sd, nm, ty]
            · have h5 : ¬ 2147483647 < m := by simp at h5; omega
              rw [if_neg h5] at q2
              refine ⟨by omega, by omega, by omega, by constructor <;> omega, Again.intro (i + 1, out ++ [Lib.itoa (m : Nat)], 0) ⟨by simp only; omega, q2, by simp only [List.length_append, List.length_singleton]; omega, by simp only; omega, fun s hs => ?_⟩ (by simp only; omega) ?_⟩
              · simp only [List.mem_append, List.mem_singleton] at hs
                rcases hs with hs | rfl
                · exact q6 s hs
                · exact hr
              · simp only [vquietR, vopsR, RetC, retW, cellR, undV, vgA, vbinN, vnn, isNilC, isIf, vconvH, vconvO, cvOk, frz1, frzE, jsOk, jsCo, rowsH, vgcH, vgH, vopsT, stepE, Kseq_app, vg_skip, vg_label, vg_seq, vg_region, vg_cond, vg_block, vg_exit, vg_ret, vg_loop, vcallF, vcallH, uls, HdelK, memN, noBox, ninL, keysH, jsAt, AdSub, adopt, noEl, isNil, effL, effO, vopsD, vquiet, vfstD, ldq, ldOk, vops, vfst, vone, vact, ug, addL, vbox, valloc, vstore, vbuild, vbuildSlice, vappend, vmake, zeroS, zeroE, vstrB, apC, nrm, nr1, nrL, keyL, neqs, diffs, V.app, V.len, vsrc, vdst, mkSl, mkBy, inOrd, placeAll, V.one, V.sto, V.csize, V.parts, V.cellsL, setMany, V.setB, V.setE, V.setO, V.noOwn, V.isOwn, vq, vcall, fzA, fz, fz1, fzL, fzN, rts, rt1, V.er, er1, er2, mixA, mixK, uargs, u1, R.add, vop, vbin, vint2, vstr2, vbool2, vnum, vun, vpick, vpick1, vbool, vconv, vnil, vfieldAddr, vindexAddr, vindex, vload, vfield, aggD, vslice, bnd, uopt, vlen, vmin, vextract, Hpk, Hroot, refV, ownR, V.i, V.elems, V.cell, V.cut, V.exact, V.ex0, exL, V.cl, clL, V.sc, scL, scO, scH, V.ct, ct1, ct2, RetP, RetK, RetH, retL, retOne, Back, Veq, subH, obs, obsIf, En.get, En.put, En.ev, enOf, gcond, wantB, constV, exGet, subE, Sub, RV, RVL, NR, RO, subER, subHR, newLt, oldNe, oldOk, oldGe, notIn, ivN, lookN, SubR, Nm.root, Nat.reduceMul, Nat.reduceLeDiff, Nat.reduceEqDiff, Nat.reduceLT, Nat.reduceAdd, Nat.reduceSub, ↓reduceIte, implies_true, reduceCtorEq, ne_eq, ↓shr_eq, IntKind.bits, Int.reduceToNat, Int.reducePow, dite_eq_ite, Value.oneCell', Nat.reduceBEq, Nat.reduceDiv, sd, nm, ty, hj]
                rw [Lib.itoa_nonneg]
                refine ⟨by omega, rfl, ?_⟩
                simp
      · simp only [decide_eq_false_iff_not] at hi
        obtain rfl : i = t.data.length := by omega
        rw [List.drop_length] at q2
        have q2 : some out = oidS t.data [] 0 := q2
        rw [← q2] at e
        have e : oidF t = (Lib.join out [46], true) := e
        rw [e]
        refine .inl ?_
        simp only [vquietR, vopsR, RetC, retW, cellR, undV, vgA, vbinN, vnn, isNilC, isIf, vconvH, vconvO, cvOk, frz1, frzE, jsOk, jsCo, rowsH, vgcH, vgH, vopsT, stepE, Kseq_app, vg_skip, vg_label, vg_seq, vg_region, vg_cond, vg_block, vg_exit, vg_ret, vg_loop, vcallF, vcallH, uls, HdelK, memN, noBox, ninL, keysH, jsAt, AdSub, adopt, noEl, isNil, effL, effO, vopsD, vquiet, vfstD, ldq, ldOk, vops, vfst, vone, vact, ug, addL, vbox, valloc, vstore, vbuild, vbuildSlice, vappend, vmake, zeroS, zeroE, vstrB, apC, nrm, nr1, nrL, keyL, neqs, diffs, V.app, V.len, vsrc, vdst, mkSl, mkBy, inOrd, placeAll, V.one, V.sto, V.csize, V.parts, V.cellsL, setMany, V.setB, V.setE, V.setO, V.noOwn, V.isOwn, vq, vcall, fzA, fz, fz1, fzL, fzN, rts, rt1, V.er, er1, er2, mixA, mixK, uargs, u1, R.add, vop, vbin, vint2, vstr2, vbool2, vnum, vun, vpick, vpick1, vbool, vconv, vnil, vfieldAddr, vindexAddr, vindex, vload, vfield, aggD, vslice, bnd, uopt, vlen, vmin, vextract, Hpk, Hroot, refV, ownR, V.i, V.elems, V.cell, V.cut, V.exact, V.ex0, exL, V.cl, clL, V.sc, scL, scO, scH, V.ct, ct1, ct2, RetP, RetK, RetH, retL, retOne, Back, Veq, subH, obs, obsIf, En.get, En.put, En.ev, enOf, gcond, wantB, constV, exGet, subE, Sub, RV, RVL, NR, RO, subER, subHR, newLt, oldNe, oldOk, oldGe, notIn, ivN, lookN, SubR, Nm.root, Nat.reduceMul, Nat.reduceLeDiff, Nat.reduceEqDiff, Nat.reduceLT, Nat.reduceAdd, Nat.reduceSub, ↓reduceIte, implies_true, reduceCtorEq, ne_eq, ↓shr_eq, IntKind.bits, Int.reduceToNat, Int.reducePow, dite_eq_ite, Value.oneCell', Nat.reduceBEq, Nat.reduceDiv, sd, nm, ty]
theorem rOid_fn (J : Inv) (t : Tlv) (hl : t.data.length ≤ 1000000000) : Fn Tryd.prog J 21 false [tlvV t] (.tu [.str (oidF t).1, .bb (oidF t).2]) := Fn.of_plain (rOid_own J t hl) rfl
theorem numR_step (s : List UInt8) {i : Nat} (h : i < s.length) (n k : Nat) (out : List Int) : numR (s.drop i) n k out = if s[i] = 46 then (if k = 0 then none else numR (s.drop (i + 1)) 0 0 (out ++ [(n : Int)])) else (dstep n k s[i]).bind fun m => numR (s.drop (i + 1)) m (k + 1) out := by
  rw [List.drop_eq_getElem_cons h, numR]
theorem byteAt_at {s : List UInt8} {i : Nat} (h : i < s.length) : byteAt s i = (s[i].toNat : Int) := by
  unfold byteAt; rw [List.getD_eq_getElem?_getD, List.getElem?_eq_getElem h]; rfl
def numsV (s : List UInt8) : V := match numR s 0 0 [] with
  | some l => .tu [.sq 1 (.val (.int .i64 0)) (nums .i64 l), .bb true]
  | none => .tu [.sq 1 (.val (.int .i64 0)) (nums .i64 []), .bb false]
theorem numbers_own (J : Inv) (s : List UInt8) (hs : s.length ≤ 268435456) : FnH Tryd.prog J 46 [.str s] [] 0 (numsV s) [] 1 := by
  refine fnH_intro Tryd.func46 rfl (by kernel_rfl) (Nat.le_of_ble_eq_true (by kernel_rfl)) (by kernel_rfl) (by kernel_rfl) (G0_ok J) rfl ?_
  unfold Tryd.f46
  simp only [vquietR, vopsR, RetC, retW, cellR, undV, vgA, vbinN, vnn, isNilC, isIf, vconvH, vconvO, cvOk, frz1, frzE, jsOk, jsCo, rowsH, vgcH, vgH, vopsT, stepE, Kseq_app, vg_skip, vg_label, vg_seq, vg_region, vg_cond, vg_block, vg_exit, vg_ret, vg_loop, vcallF, vcallH, uls, HdelK, memN, noBox, ninL, keysH, jsAt, AdSub, adopt, noEl, isNil, effL, effO, vopsD, vquiet, vfstD, ldq, ldOk, vops, vfst, vone, vact, ug, addL, vbox, valloc, vstore, vbuild, vbuildSlice, vappend, vmake, zeroS, zeroE, vstrB, apC, nrm, nr1, nrL, keyL, neqs, diffs, V.app, V.len, vsrc, vdst, mkSl, mkBy, inOrd, placeAll, V.one, V.sto, V.csize, V.parts, V.cellsL, setMany, V.setB, V.setE, V.setO, V.noOwn, V.isOwn, vq, vcall, fzA, fz, fz1, fzL, fzN, rts, rt1, V.er, er1, er2, mixA, mixK, uargs, u1, R.add, vop, vbin, vint2, vstr2, vbool2, vnum, vun, vpick, vpick1, vbool, vconv, vnil, vfieldAddr, vindexAddr, vindex, vload, vfield, aggD, vslice, bnd, uopt, vlen, vmin, vextract, Hpk, Hroot, refV, ownR, V.i, V.elems, V.cell, V.cut, V.exact, V.ex0, exL, V.cl, clL, V.sc, scL, scO, scH, V.ct, ct1, ct2, RetP, RetK, RetH, retL, retOne, Back, Veq, subH, obs, obsIf, En.get, En.put, En.ev, enOf, gcond, wantB, constV, exGet, subE, Sub, RV, RVL, NR, RO, subER, subHR, newLt, oldNe, oldOk, oldGe, notIn, ivN, lookN, SubR, Nm.root, Nat.reduceMul, Nat.reduceLeDiff, Nat.reduceEqDiff, Nat.reduceLT, Nat.reduceAdd, Nat.reduceSub, ↓reduceIte, implies_true, reduceCtorEq, ne_eq, ↓shr_eq, IntKind.bits, Int.reduceToNat, Int.reducePow, dite_eq_ite, Value.oneCell', Nat.reduceBEq, Nat.reduceDiv, sd, nm, ty, G0, G0f]
  unfold numsV
  generalize hR : numR s 0 0 [] = Z
  refine LoopC.introA (α := Nat × List Int × Nat × Nat × Nat) (fun y => y.1 ≤ s.length + 1 ∧ y.2.1.length ≤ y.1 ∧ y.2.2.1 ≤ 2147483647 ∧ y.2.2.2.1 ≤ y.1 ∧ ((y.1 ≤ s.length ∧ numR (s.drop y.1) y.2.2.1 y.2.2.2.1 y.2.1 = Z) ∨ (y.1 = s.length + 1 ∧ Z = some y.2.1)))
    (fun y => ⟨[(7, .i y.1), (6, .i y.2.2.2.1), (5, .i y.2.2.1), (4, .ro (.r y.2.2.2.2)), (0, .str s)], [(y.2.2.2.2, .row 3 (.sq 1 (.val (.int .i64 0)) (nums .i64 y.2.1)))], y.2.2.2.2 + 1⟩)
    (fun y => s.length + 1 - y.1) (0, [], 0, 0, 0) [.sl 4 3 (.sq 1 (.val (.int .i64 0)) [])] ⟨Nat.zero_le _, Nat.le_refl _, by simp, by simp, .inl ⟨Nat.zero_le _, hR⟩⟩ ?_ ?_
  · simp only [vquietR, vopsR, RetC, retW, cellR, undV, vgA, vbinN, vnn, isNilC, isIf, vconvH, vconvO, cvOk, frz1, frzE, jsOk, jsCo, rowsH, vgcH, vgH, vopsT, stepE, Kseq_app, vg_skip, vg_label, vg_seq, vg_region, vg_cond, vg_block, vg_exit, vg_ret, vg_loop, vcallF, vcallH, uls, HdelK, memN, noBox, ninL, keysH, jsAt, AdSub, adopt, noEl, isNil, effL, effO, vopsD, vquiet, vfstD, ldq, ldOk, vops, vfst, vone, vact, ug, addL, vbox, valloc, vstore, vbuild, vbuildSlice, vappend, vmake, zeroS, zeroE, vstrB, apC, nrm, nr1, nrL, keyL, neqs, diffs, V.app, V.len, vsrc, vdst, mkSl, mkBy, inOrd, placeAll, V.one, V.sto, V.csize, V.parts, V.cellsL, setMany, V.setB, V.setE, V.setO, V.noOwn, V.isOwn, vq, vcall, fzA, fz, fz1, fzL, fzN, rts, rt1, V.er, er1, er2, mixA, mixK, uargs, u1, R.add, vop, vbin, vint2, vstr2, vbool2, vnum, vun, vpick, vpick1, vbool, vconv, vnil, vfieldAddr, vindexAddr, vindex, vload, vfield, aggD, vslice, bnd, uopt, vlen, vmin, vextract, Hpk, Hroot, refV, ownR, V.i, V.elems, V.cell, V.cut, V.exact, V.ex0, exL, V.cl, clL, V.sc, scL, scO, scH, V.ct, ct1, ct2, RetP, RetK, RetH, retL, retOne, Back, Veq, subH, obs, obsIf, En.get, En.put, En.ev, enOf, gcond, wantB, constV, exGet, subE, Sub, RV, RVL, NR, RO, subER, subHR, newLt, oldNe, oldOk, oldGe, notIn, ivN, lookN, SubR, Nm.root, Nat.reduceMul, Nat.reduceLeDiff, Nat.reduceEqDiff, Nat.reduceLT, Nat.reduceAdd, Nat.reduceSub, ↓reduceIte, implies_true, reduceCtorEq, ne_eq, ↓shr_eq, IntKind.bits, Int.reduceToNat, Int.reducePow, dite_eq_ite, Value.oneCell', Nat.reduceBEq, Nat.reduceDiv, sd, nm, ty]
    exact ⟨⟨rfl, rfl, rfl⟩, rfl⟩
  · rintro ⟨i, out, n, k, N⟩ ⟨q1, q2, q3, q4, q5⟩
    simp only at q1 q2 q3 q4 q5
    simp only [vquietR, vopsR, RetC, retW, cellR, undV, vgA, vbinN, vnn, isNilC, isIf, vconvH, vconvO, cvOk, frz1, frzE, jsOk, jsCo, rowsH, vgcH, vgH, vopsT, stepE, Kseq_app, vg_skip, vg_label, vg_seq, vg_region, vg_cond, vg_block, vg_exit, vg_ret, vg_loop, vcallF, vcallH, uls, HdelK, memN, noBox, ninL, keysH, jsAt, AdSub, adopt, noEl, isNil, effL, effO, vopsD, vquiet, vfstD, ldq, ldOk, vops, vfst, vone, vact, ug, addL, vbox, valloc, vstore, vbuild, vbuildSlice, vappend, vmake, zeroS, zeroE, vstrB, apC, nrm, nr1, nrL, keyL, neqs, diffs, V.app, V.len, vsrc, vdst, mkSl, mkBy, inOrd, placeAll, V.one, V.sto, V.csize, V.parts, V.cellsL, setMany, V.setB, V.setE, V.setO, V.noOwn, V.isOwn, vq, vcall, fzA, fz, fz1, fzL, fzN, rts, rt1, V.er, er1, er2, mixA, mixK, uargs, u1, R.add, vop, vbin, vint2, vstr2, vbool2, vnum, vun, vpick, vpick1, vbool, vconv, vnil, vfieldAddr, vindexAddr, vindex, vload, vfield, aggD, vslice, bnd, uopt, vlen, vmin, vextract, Hpk, Hroot, refV, ownR, V.i, V.elems, V.cell, V.cut, V.exact, V.ex0, exL, V.cl, clL, V.sc, scL, scO, scH, V.ct, ct1, ct2, RetP, RetK, RetH, retL, retOne, Back, Veq, subH, obs, obsIf, En.get, En.put, En.ev, enOf, gcond, wantB, constV, exGet, subE, Sub, RV, RVL, NR, RO, subER, subHR, newLt, oldNe, oldOk, oldGe, notIn, ivN, lookN, SubR, Nm.root, Nat.reduceMul, Nat.reduceLeDiff, Nat.reduceEqDiff, Nat.reduceLT, Nat.reduceAdd, Nat.reduceSub, ↓reduceIte, implies_true, reduceCtorEq, ne_eq, ↓shr_eq, IntKind.bits, Int.reduceToNat, Int.reducePow, dite_eq_ite, Value.oneCell', Nat.reduceBEq, Nat.reduceDiv, sd, nm, ty, G0, G0f]
    refine ⟨fun hi => ?_, fun hi => ?_⟩
    · simp only [decide_eq_true_eq] at hi
      have hi : i ≤ s.length := by omega
      have q5 : numR (s.drop i) n k out = Z := by
        rcases q5 with ⟨_, h⟩ | ⟨h, _⟩
        · exact h
        · omega
      refine ⟨fun _ => by omega, fun h => ?_, fun hc => ?_, fun hc => ?_⟩
      · simp only [beq_eq_false_iff_ne, ne_eq] at h
        omega
      · have key : Z = if k = 0 then none else if i = s.length then some (out ++ [(n : Int)]) else numR (s.drop (i + 1)) 0 0 (out ++ [(n : Int)]) := by
          rw [← q5]
          by_cases hl : i = s.length
          · rw [hl, List.drop_length, numR, if_pos rfl]
          · have hi2 : i < s.length := by omega
            have h46 : s[i] = 46 := by
              have : byteAt s i = 46 := by
                simp only [Bool.or_eq_true, beq_iff_eq] at hc
                rcases hc with h | h
                · omega
                · exact h
              rw [byteAt_at hi2] at this
              exact UInt8.toNat_inj.1 (by simp; omega)
            rw [numR_step s hi2, if_pos h46, if_neg hl]
        refine ⟨fun hk => ?_, fun hk => ?_⟩
        · have hk : k = 0 := by simp at hk; exact hk
          rw [if_pos hk] at key
          rw [key]
          refine RenC.intro [] ⟨[(2, .val (.slice none 0 0)), (3, .bb false)], [], 0⟩ ?_ ?_ <;> simp only [vquietR, vopsR, RetC, retW, cellR, undV, vgA, vbinN, vnn, isNilC, isIf, vconvH, vconvO, cvOk, frz1, frzE, jsOk, jsCo, rowsH, vgcH, vgH, vopsT, stepE, Kseq_app, vg_skip, vg_label, vg_seq, vg_region, vg_cond, vg_block, vg_exit, vg_ret, vg_loop, vcallF, vcallH, uls, HdelK, memN, noBox, ninL, keysH, jsAt, AdSub, adopt, noEl, isNil, effL, effO, vopsD, vquiet, vfstD, ldq, ldOk, vops, vfst, vone, vact, ug, addL, vbox, valloc, vstore, vbuild, vbuildSlice, vappend, vmake, zeroS, zeroE, vstrB, apC, nrm, nr1, nrL, keyL, neqs, diffs, V.app, V.len, vsrc, vdst, mkSl, mkBy, inOrd, placeAll, V.one, V.sto, V.csize, V.parts, V.cellsL, setMany, V.setB, V.setE, V.setO, V.noOwn, V.isOwn, vq, vcall, fzA, fz, fz1, fzL, fzN, rts, rt1, V.er, er1, er2, mixA, mixK, uargs, u1, R.add, vop, vbin, vint2, vstr2, vbool2, vnum, vun, vpick, vpick1, vbool, vconv, vnil, vfieldAddr, vindexAddr, vindex, vload, vfield, aggD, vslice, bnd, uopt, vlen, vmin, vextract, Hpk, Hroot, refV, ownR, V.i, V.elems, V.cell, V.cut, V.exact, V.ex0, exL, V.cl, clL, V.sc, scL, scO, scH, V.ct, ct1, ct2, RetP, RetK, RetH, retL, retOne, Back, Veq, subH, obs, obsIf, En.get, En.put, En.ev, enOf, gcond, wantB, constV, exGet, subE, Sub, RV, RVL, NR, RO, subER, subHR, newLt, oldNe, oldOk, oldGe, notIn, ivN, lookN, SubR, Nm.root, Nat.reduceMul, Nat.reduceLeDiff, Nat.reduceEqDiff, Nat.reduceLT, Nat.reduceAdd, Nat.reduceSub, ↓reduceIte, implies_true, reduceCtorEq, ne_eq, ↓shr_eq, IntKind.bits, Int.reduceToNat, Int.reducePow, dite_eq_ite, Value.oneCell', Nat.reduceBEq, Nat.reduceDiv, sd, nm, ty]
        · have hk : k ≠ 0 := by simp at hk; exact hk
          rw [if_neg hk] at key
          refine ⟨by simp only [List.length_append, List.length_singleton]; omega, by constructor <;> omega, Again.intro (i + 1, out ++ [(n : Int)], 0, 0, N + 2) ⟨by simp only; omega, by simp only [List.length_append, List.length_singleton]; omega, by simp only; omega, by simp only; omega, ?_⟩ (by simp only; omega) ?_⟩
          · by_cases hl : i = s.length
            · rw [if_pos hl] at key
              exact .inr ⟨by simp only; omega, key⟩
            · rw [if_neg hl] at key
              exact .inl ⟨by simp only; omega, key.symm⟩
          · simp only [vquietR, vopsR, RetC, retW, cellR, undV, vgA, vbinN, vnn, isNilC, isIf, vconvH, vconvO, cvOk, frz1, frzE, jsOk, jsCo, rowsH, vgcH, vgH, vopsT, stepE, Kseq_app, vg_skip, vg_label, vg_seq, vg_region, vg_cond, vg_block, vg_exit, vg_ret, vg_loop, vcallF, vcallH, uls, HdelK, memN, noBox, ninL, keysH, jsAt, AdSub, adopt, noEl, isNil, effL, effO, vopsD, vquiet, vfstD, ldq, ldOk, vops, vfst, vone, vact, ug, addL, vbox, valloc, vstore, vbuild, vbuildSlice, vappend, vmake, zeroS, zeroE, vstrB, apC, nrm, nr1, nrL, keyL, neqs, diffs, V.app, V.len, vsrc, vdst, mkSl, mkBy, inOrd, placeAll, V.one, V.sto, V.csize, V.parts, V.cellsL, setMany, V.setB, V.setE, V.setO, V.noOwn, V.isOwn, vq, vcall, fzA, fz, fz1, fzL, fzN, rts, rt1, V.er, er1, er2, mixA, mixK, uargs, u1, R.add, vop, vbin, vint2, vstr2, vbool2, vnum, vun, vpick, vpick1, vbool, vconv, vnil, vfieldAddr, vindexAddr, vindex, vload, vfield, aggD, vslice, bnd, uopt, vlen, vmin, vextract, Hpk, Hroot, refV, ownR, V.i, V.elems, V.cell, V.cut, V.exact, V.ex0, exL, V.cl, clL, V.sc, scL, scO, scH, V.ct, ct1, ct2, RetP, RetK, RetH, retL, retOne, Back, Veq, subH, obs, obsIf, En.get, En.put, En.ev, enOf, gcond, wantB, constV, exGet, subE, Sub, RV, RVL, NR, RO, subER, subHR, newLt, oldNe, oldOk, oldGe, notIn, ivN, lookN, SubR, Nm.root, Nat.reduceMul, Nat.reduceLeDiff, Nat.reduceEqDiff, Nat.reduceLT, Nat.reduceAdd, Nat.reduceSub, ↓reduceIte, implies_true, reduceCtorEq, ne_eq, ↓shr_eq, IntKind.bits, Int.reduceToNat, Int.reducePow, dite_eq_ite, Value.oneCell', Nat.reduceBEq, Nat.reduceDiv, sd, nm, ty]
            refine ⟨by omega, ?_⟩
            simp
      · simp only [Bool.or_eq_false_iff, beq_eq_false_iff_ne, ne_eq] at hc
        have hi2 : i < s.length := by omega
        have eb := byteAt_at hi2
        have h46 : ¬ s[i] = 46 := fun h => hc.2 (by rw [eb, h]; rfl)
        rw [numR_step s hi2, if_neg h46] at q5
        have hlt := s[i].toNat_lt
        rw [eb]
        generalize hcc : s[i] = c at *
        refine ⟨by omega, by omega, fun _ => by omega, fun _ => by omega, fun a b => ?_, fun hb => ?_, fun hb => ?_⟩
        · rw [a]; simp; omega
        · have hd : dstep n k c = none := by
            unfold dstep
            rw [if_pos]
            simp only [Bool.or_eq_true, Bool.and_eq_true, beq_iff_eq, decide_eq_true_eq] at hb
            omega
          rw [hd] at q5
          have q5 : none = Z := q5
          rw [← q5]
          refine RenC.intro [] ⟨[(2, .val (.slice none 0 0)), (3, .bb false)], [], 0⟩ ?_ ?_ <;> simp only [vquietR, vopsR, RetC, retW, cellR, undV, vgA, vbinN, vnn, isNilC, isIf, vconvH, vconvO, cvOk, frz1, frzE, jsOk, jsCo, rowsH, vgcH, vgH, vopsT, stepE, Kseq_app, vg_skip, vg_label, vg_seq, vg_region, vg_cond, vg_block, vg_exit, vg_ret, vg_loop, vcallF, vcallH, uls, HdelK, memN, noBox, ninL, keysH, jsAt, AdSub, adopt, noEl, isNil, effL, effO, vopsD, vquiet, vfstD, ldq, ldOk, vops, vfst, vone, vact, ug, addL, vbox, valloc, vstore, vbuild, vbuildSlice, vappend, vmake, zeroS, zeroE, vstrB, apC, nrm, nr1, nrL, keyL, neqs, diffs, V.app, V.len, vsrc, vdst, mkSl, mkBy, inOrd, placeAll, V.one, V.sto, V.csize, V.parts, V.cellsL, setMany, V.setB, V.setE, V.setO, V.noOwn, V.isOwn, vq, vcall, fzA, fz, fz1, fzL, fzN, rts, rt1, V.er, er1, er2, mixA, mixK, uargs, u1, R.add, vop, vbin, vint2, vstr2, vbool2, vnum, vun, vpick, vpick1, vbool, vconv, vnil, vfieldAddr, vindexAddr, vindex, vload, vfield, aggD, vslice, bnd, uopt, vlen, vmin, vextract, Hpk, Hroot, refV, ownR, V.i, V.elems, V.cell, V.cut, V.exact, V.ex0, exL, V.cl, clL, V.sc, scL, scO, scH, V.ct, ct1, ct2, RetP, RetK, RetH, retL, retOne, Back, Veq, subH, obs, obsIf, En.get, En.put, En.ev, enOf, gcond, wantB, constV, exGet, subE, Sub, RV, RVL, NR, RO, subER, subHR, newLt, oldNe, oldOk, oldGe, notIn, ivN, lookN, SubR, Nm.root, Nat.reduceMul, Nat.reduceLeDiff, Nat.reduceEqDiff, Nat.reduceLT, Nat.reduceAdd, Nat.reduceSub, ↓reduceIte, implies_true, reduceCtorEq, ne_eq, ↓shr_eq, IntKind.bits, Int.reduceToNat, Int.reducePow, dite_eq_ite, Value.oneCell', Nat.reduceBEq, Nat.reduceDiv, sd, nm, ty]
        · simp only [Bool.or_eq_false_iff, Bool.and_eq_false_iff, beq_eq_false_iff_ne, ne_eq, decide_eq_false_iff_not] at hb
          have e0 : wr .i64 (((c.toNat : Int) - 48) % 256) = ((c.toNat - 48 : Nat) : Int) := by rw [wr_eq, IntKind.wrap_i64]; omega
          have e1 : 10 * (n : Int) + ((c.toNat - 48 : Nat) : Int) = ((10 * n + (c.toNat - 48) : Nat) : Int) := by omega
          rw [e0, e1]
          have hd : dstep n k c = if 2147483647 < 10 * n + (c.toNat - 48) then none else some (10 * n + (c.toNat - 48)) := by
            unfold dstep
            split
            · rw [if_pos (by omega)]
            · rw [if_neg (by omega)]
          rw [hd] at q5
          refine ⟨by constructor <;> omega, by omega, by omega, by constructor <;> omega, by constructor <;> omega, fun h5 => ?_, fun h5 => ?_⟩
          · have h5 : 2147483647 < 10 * n + (c.toNat - 48) := by simp at h5; omega
            rw [if_pos h5] at q5
            have q5 : none = Z := q5
            rw [← q5]
            refine RenC.intro [] ⟨[(2, .val (.slice none 0 0)), (3, .bb false)], [], 0⟩ ?_ ?_ <;> simp only [vquietR, vopsR, RetC, retW, cellR, undV, vgA, vbinN, vnn, isNilC, isIf, vconvH, vconvO, cvOk, frz1, frzE, jsOk, jsCo, rowsH, vgcH, vgH, vopsT, stepE, Kseq_app, vg_skip, vg_label, vg_seq, vg_region, vg_cond, vg_block, vg_exit, vg_ret, vg_loop, vcallF, vcallH, uls, HdelK, memN, noBox, ninL, keysH, jsAt, AdSub, adopt, noEl, isNil, effL, effO, vopsD, vquiet, vfstD, ldq, ldOk, vops, vfst, vone, vact, ug, addL, vbox, valloc, vstore, vbuild, vbuildSlice, vappend, vmake, zeroS, zeroE, vstrB, apC, nrm, nr1, nrL, keyL, neqs, diffs, V.app, V.len, vsrc, vdst, mkSl, mkBy, inOrd, placeAll, V.one, V.sto, V.csize, V.parts, V.cellsL, setMany, V.setB, V.setE, V.setO, V.noOwn, V.isOwn, vq, vcall, fzA, fz, fz1, fzL, fzN, rts, rt1, V.er, er1, er2, mixA, mixK, uargs, u1, R.add, vop, vbin, vint2, vstr2, vbool2, vnum, vun, vpick, vpick1, vbool, vconv, vnil, vfieldAddr, vindexAddr, vindex, vload, vfield, aggD, vslice, bnd, uopt, vlen, vmin, vextract, Hpk, Hroot, refV, ownR, V.i, V.elems, V.cell, V.cut, V.exact, V.ex0, exL, V.cl, clL, V.sc, scL, scO, scH, V.ct, ct1, ct2, RetP, RetK, RetH, retL, retOne, Back, Veq, subH, obs, obsIf, En.get, En.put, En.ev, enOf, gcond, wantB, constV, exGet, subE, Sub, RV, RVL, NR, RO, subER, subHR, newLt, oldNe, oldOk, oldGe, notIn, ivN, lookN, SubR, Nm.root, Nat.reduceMul, Nat.reduceLeDiff, Nat.reduceEqDiff, Nat.reduceLT, Nat.reduceAdd, Nat.reduceSub, ↓reduceIte, implies_true, reduceCtorEq, ne_eq, ↓shr_eq, IntKind.bits, Int.reduceToNat, Int.reducePow, dite_eq_ite, Value.oneCell', Nat.reduceBEq, Nat.reduceDiv, sd, nm, ty]
          · have h5 : ¬ 2147483647 < 10 * n + (c.toNat - 48) := by simp at h5; omega
            rw [if_neg h5] at q5
            refine ⟨by constructor <;> omega, Again.intro (i + 1, out, 10 * n + (c.toNat - 48), k + 1, N) ⟨by simp only; omega, by simp only; omega, by simp only; omega, by simp only; omega, .inl ⟨by simp only; omega, q5⟩⟩ (by simp only; omega) ?_⟩
            simp only [vquietR, vopsR, RetC, retW, cellR, undV, vgA, vbinN, vnn, isNilC, isIf, vconvH, vconvO, cvOk, frz1, frzE, jsOk, jsCo, rowsH, vgcH, vgH, vopsT, stepE, Kseq_app, vg_skip, vg_label, vg_seq, vg_region, vg_cond, vg_block, vg_exit, vg_ret, vg_loop, vcallF, vcallH, uls, HdelK, memN, noBox, ninL, keysH, jsAt, AdSub, adopt, noEl, isNil, effL, effO, vopsD, vquiet, vfstD, ldq, ldOk, vops, vfst, vone, vact, ug, addL, vbox, valloc, vstore, vbuild, vbuildSlice, vappend, vmake, zeroS, zeroE, vstrB, apC, nrm, nr1, nrL, keyL, neqs, diffs, V.app, V.len, vsrc, vdst, mkSl, mkBy, inOrd, placeAll, V.one, V.sto, V.csize, V.parts, V.cellsL, setMany, V.setB, V.setE, V.setO, V.noOwn, V.isOwn, vq, vcall, fzA, fz, fz1, fzL, fzN, rts, rt1, V.er, er1, er2, mixA, mixK, uargs, u1, R.add, vop, vbin, vint2, vstr2, vbool2, vnum, vun, vpick, vpick1, vbool, vconv, vnil, vfieldAddr, vindexAddr, vindex, vload, vfield, aggD, vslice, bnd, uopt, vlen, vmin, vextract, Hpk, Hroot, refV, ownR, V.i, V.elems, V.cell, V.cut, V.exact, V.ex0, exL, V.cl, clL, V.sc, scL, scO, scH, V.ct, ct1, ct2, RetP, RetK, RetH, retL, retOne, Back, Veq, subH, obs, obsIf, En.get, En.put, En.ev, enOf, gcond, wantB, constV, exGet, subE, Sub, RV, RVL, NR, RO, subER, subHR, newLt, oldNe, oldOk, oldGe, notIn, ivN, lookN, SubR, Nm.root, Nat.reduceMul, Nat.reduceLeDiff, Nat.reduceEqDiff, Nat.reduceLT, Nat.reduceAdd, Nat.reduceSub, ↓reduceIte, implies_true, reduceCtorEq, ne_eq, ↓shr_eq, IntKind.bits, Int.reduceToNat, Int.reducePow, dite_eq_ite, Value.oneCell', Nat.reduceBEq, Nat.reduceDiv, sd, nm, ty]
            simp
    · simp only [decide_eq_false_iff_not] at hi
      have q5 : Z = some out := by
        rcases q5 with ⟨h, _⟩ | ⟨_, h⟩
        · omega
        · exact h
      rw [q5]
      refine RenC.intro [(0, N)] ⟨[(2, .ro (.r 0)), (3, .bb true)], [(0, .row 3 (.sq 1 (.val (.int .i64 0)) (nums .i64 out)))], 1⟩ ?_ ?_
      · simp only [vquietR, vopsR, RetC, retW, cellR, undV, vgA, vbinN, vnn, isNilC, isIf, vconvH, vconvO, cvOk, frz1, frzE, jsOk, jsCo, rowsH, vgcH, vgH, vopsT, stepE, Kseq_app, vg_skip, vg_label, vg_seq, vg_region, vg_cond, vg_block, vg_exit, vg_ret, vg_loop, vcallF, vcallH, uls, HdelK, memN, noBox, ninL, keysH, jsAt, AdSub, adopt, noEl, isNil, effL, effO, vopsD, vquiet, vfstD, ldq, ldOk, vops, vfst, vone, vact, ug, addL, vbox, valloc, vstore, vbuild, vbuildSlice, vappend, vmake, zeroS, zeroE, vstrB, apC, nrm, nr1, nrL, keyL, neqs, diffs, V.app, V.len, vsrc, vdst, mkSl, mkBy, inOrd, placeAll, V.one, V.sto, V.csize, V.parts, V.cellsL, setMany, V.setB, V.setE, V.setO, V.noOwn, V.isOwn, vq, vcall, fzA, fz, fz1, fzL, fzN, rts, rt1, V.er, er1, er2, mixA, mixK, uargs, u1, R.add, vop, vbin, vint2, vstr2, vbool2, vnum, vun, vpick, vpick1, vbool, vconv, vnil, vfieldAddr, vindexAddr, vindex, vload, vfield, aggD, vslice, bnd, uopt, vlen, vmin, vextract, Hpk, Hroot, refV, ownR, V.i, V.elems, V.cell, V.cut, V.exact, V.ex0, exL, V.cl, clL, V.sc, scL, scO, scH, V.ct, ct1, ct2, RetP, RetK, RetH, retL, retOne, Back, Veq, subH, obs, obsIf, En.get, En.put, En.ev, enOf, gcond, wantB, constV, exGet, subE, Sub, RV, RVL, NR, RO, subER, subHR, newLt, oldNe, oldOk, oldGe, notIn, ivN, lookN, SubR, Nm.root, Nat.reduceMul, Nat.reduceLeDiff, Nat.reduceEqDiff, Nat.reduceLT, Nat.reduceAdd, Nat.reduceSub, ↓reduceIte, implies_true, reduceCtorEq, ne_eq, ↓shr_eq, IntKind.bits, Int.reduceToNat, Int.reducePow, dite_eq_ite, Value.oneCell', Nat.reduceBEq, Nat.reduceDiv, sd, nm, ty]
        simp
      · simp only [vquietR, vopsR, RetC, retW, cellR, undV, vgA, vbinN, vnn, isNilC, isIf, vconvH, vconvO, cvOk, frz1, frzE, jsOk, jsCo, rowsH, vgcH, vgH, vopsT, stepE, Kseq_app, vg_skip, vg_label, vg_seq, vg_region, vg_cond, vg_block, vg_exit, vg_ret, vg_loop, vcallF, vcallH, uls, HdelK, memN, noBox, ninL, keysH, jsAt, AdSub, adopt, noEl, isNil, effL, effO, vopsD, vquiet, vfstD, ldq, ldOk, vops, vfst, vone, vact, ug, addL, vbox, valloc, vstore, vbuild, vbuildSlice, vappend, vmake, zeroS, zeroE, vstrB, apC, nrm, nr1, nrL, keyL, neqs, diffs, V.app, V.len, vsrc, vdst, mkSl, mkBy, inOrd, placeAll, V.one, V.sto, V.csize, V.parts, V.cellsL, setMany, V.setB, V.setE, V.setO, V.noOwn, V.isOwn, vq, vcall, fzA, fz, fz1, fzL, fzN, rts, rt1, V.er, er1, er2, mixA, mixK, uargs, u1, R.add, vop, vbin, vint2, vstr2, vbool2, vnum, vun, vpick, vpick1, vbool, vconv, vnil, vfieldAddr, vindexAddr, vindex, vload, vfield, aggD, vslice, bnd, uopt, vlen, vmin, vextract, Hpk, Hroot, refV, ownR, V.i, V.elems, V.cell, V.cut, V.exact, V.ex0, exL, V.cl, clL, V.sc, scL, scO, scH, V.ct, ct1, ct2, RetP, RetK, RetH, retL, retOne, Back, Veq, subH, obs, obsIf, En.get, En.put, En.ev, enOf, gcond, wantB, constV, exGet, subE, Sub, RV, RVL, NR, RO, subER, subHR, newLt, oldNe, oldOk, oldGe, notIn, ivN, lookN, SubR, Nm.root, Nat.reduceMul, Nat.reduceLeDiff, Nat.reduceEqDiff, Nat.reduceLT, Nat.reduceAdd, Nat.reduceSub, ↓reduceIte, implies_true, reduceCtorEq, ne_eq, ↓shr_eq, IntKind.bits, Int.reduceToNat, Int.reducePow, dite_eq_ite, Value.oneCell', Nat.reduceBEq, Nat.reduceDiv, sd, nm, ty]
theorem numsV_cl (s : List UInt8) : (numsV s).cl = true := by
  unfold numsV; split <;> simp [V.cl, clL, nums_cl]
theorem numbers_fn (J : Inv) (s : List UInt8) (hs : s.length ≤ 268435456) : Fn Tryd.prog J 46 false [.str s] (numsV s) := Fn.of_plain (numbers_own J s hs) (numsV_cl s)
def GRof : FuncId → List V → Option (List Prop × Bool × V) := fun f args =>
  if f = 46 then match args with
    | [.str s] => some ([s.length ≤ 268435456], false, numsV s)
    | _ => none
  else none
def GRoh : FuncId → List V → List (Nat × Ob) → Nat → Option CallH := fun f args _ nx =>
  if f = 47 then match args with
    | [.val (.int .i64 m)] => some ⟨[0 ≤ m, m ≤ 2147483727], [], [], .ro (.r nx), [(nx, .row 5 (.by (grpF m.toNat)))], nx + 1⟩
    | _ => none
  else none
def GRo (J : Inv) : Sig := ⟨J, df, GRof, GRoh, 0⟩
theorem GRo_ok (J : Inv) : SigOk Tryd.prog (GRo J) := by
  refine ⟨fun f args l fr r h hl => ?_, fun f args h nx c hc hl => ?_⟩
  · change GRof f args = some (l, fr, r) at h
    unfold GRof at h
    split at h
    · rename_i hf; subst hf
      split at h
      · obtain ⟨rfl, rfl, rfl⟩ := some_tri h; exact numbers_fn J _ (hl _ (by simp))
      · exact absurd h (by simp)
    · exact absurd h (by simp)
  · change GRoh f args h nx = some c at hc
    unfold GRoh at hc
    split at hc
    · rename_i hf; subst hf
      split at hc
      · rename_i m
        obtain rfl := Option.some.inj hc
        have h1 : 0 ≤ m := hl _ (by simp)
        have h2 : m ≤ 2147483727 := hl _ (by simp)
        have := rgroup_own J m.toNat (by omega) nx
        rw [V.i, Int.toNat_of_nonneg h1] at this
        exact this
      · exact absurd hc (by simp)
    · exact absurd hc (by simp)
theorem mapV_get (L : List (List UInt8)) (i : Nat) (h : i < L.length) : (L.map numV).getD i 0 = numV (L.getD i []) := by
  rw [List.getD_eq_getElem?_getD, List.getElem?_map, List.getElem?_eq_getElem h, List.getD_eq_getElem?_getD, List.getElem?_eq_getElem h]; rfl
theorem rOfOid_own (J : Inv) (s : List UInt8) (h : s.length ≤ 268435456) : FnH Tryd.prog J 24 [.str s] [] 0 (ofOidV s) [] 9 := by
  have hlen : (spl 46 s).length ≤ 268435457 := by rw [spl_len]; have := List.count_le_length (a := 46) (l := s); omega
  have hoo := ooF_eq (spl 46 s)
  refine fnH_introC Tryd.func24 rfl (by kernel_rfl) (Nat.le_of_ble_eq_true (by kernel_rfl)) (by kernel_rfl) (by kernel_rfl) (GRo_ok J) rfl ?_
  unfold Tryd.f24
  generalize ho : ofOidV s = o
  unfold ofOidV at ho
  cases hc : (spl 46 s).all numOk with
  | false =>
    have ev : numsV s = .tu [.sq 1 (.val (.int .i64 0)) (nums .i64 []), .bb false] := by unfold numsV; rw [numR_spl, hc]; rfl
    have hno : ooF (spl 46 s) = none := by rw [hoo, if_neg]; rintro ⟨_, h, _⟩; rw [hc] at h; cases h
    rw [hno] at ho
    subst ho
    simp only [vquietR, vopsR, RetC, retW, cellR, undV, vgA, vbinN, vnn, isNilC, isIf, vconvH, vconvO, cvOk, frz1, frzE, jsOk, jsCo, rowsH, vgcH, vgH, vopsT, stepE, Kseq_app, vg_skip, vg_label, vg_seq, vg_region, vg_cond, vg_block, vg_exit, vg_ret, vg_loop, vcallF, vcallH, uls, HdelK, memN, noBox, ninL, keysH, jsAt, AdSub, adopt, noEl, isNil, effL, effO, vopsD, vquiet, vfstD, ldq, ldOk, vops, vfst, vone, vact, ug, addL, vbox, valloc, vstore, vbuild, vbuildSlice, vappend, vmake, zeroS, zeroE, vstrB, apC, nrm, nr1, nrL, keyL, neqs, diffs, V.app, V.len, vsrc, vdst, mkSl, mkBy, inOrd, placeAll, V.one, V.sto, V.csize, V.parts, V.cellsL, setMany, V.setB, V.setE, V.setO, V.noOwn, V.isOwn, vq, vcall, fzA, fz, fz1, fzL, fzN, rts, rt1, V.er, er1, er2, mixA, mixK, uargs, u1, R.add, vop, vbin, vint2, vstr2, vbool2, vnum, vun, vpick, vpick1, vbool, vconv, vnil, vfieldAddr, vindexAddr, vindex, vload, vfield, aggD, vslice, bnd, uopt, vlen, vmin, vextract, Hpk, Hroot, refV, ownR, V.i, V.elems, V.cell, V.cut, V.exact, V.ex0, exL, V.cl, clL, V.sc, scL, scO, scH, V.ct, ct1, ct2, RetP, RetK, RetH, retL, retOne, Back, Veq, subH, obs, obsIf, En.get, En.put, En.ev, enOf, gcond, wantB, constV, exGet, subE, Sub, RV, RVL, NR, RO, subER, subHR, newLt, oldNe, oldOk, oldGe, notIn, ivN, lookN, SubR, Nm.root, Nat.reduceMul, Nat.reduceLeDiff, Nat.reduceEqDiff, Nat.reduceLT, Nat.reduceAdd, Nat.reduceSub, ↓reduceIte, implies_true, reduceCtorEq, ne_eq, ↓shr_eq, IntKind.bits, Int.reduceToNat, Int.reducePow, dite_eq_ite, Value.oneCell', Nat.reduceBEq, Nat.reduceDiv, sd, nm, ty, GRo, GRof, GRoh, ev]
    refine ⟨h, fun h => h.elim, fun h => h.elim, fun h => h.elim, fun h => h.elim, fun h => h.elim, fun h => h.elim, fun h => h.elim, fun _ => .inl ?_, fun h => by cases h⟩
    simp only [vquietR, vopsR, RetC, retW, cellR, undV, vgA, vbinN, vnn, isNilC, isIf, vconvH, vconvO, cvOk, frz1, frzE, jsOk, jsCo, rowsH, vgcH, vgH, vopsT, stepE, Kseq_app, vg_skip, vg_label, vg_seq, vg_region, vg_cond, vg_block, vg_exit, vg_ret, vg_loop, vcallF, vcallH, uls, HdelK, memN, noBox, ninL, keysH, jsAt, AdSub, adopt, noEl, isNil, effL, effO, vopsD, vquiet, vfstD, ldq, ldOk, vops, vfst, vone, vact, ug, addL, vbox, valloc, vstore, vbuild, vbuildSlice, vappend, vmake, zeroS, zeroE, vstrB, apC, nrm, nr1, nrL, keyL, neqs, diffs, V.app, V.len, vsrc, vdst, mkSl, mkBy, inOrd, placeAll, V.one, V.sto, V.csize, V.parts, V.cellsL, setMany, V.setB, V.setE, V.setO, V.noOwn, V.isOwn, vq, vcall, fzA, fz, fz1, fzL, fzN, rts, rt1, V.er, er1, er2, mixA, mixK, uargs, u1, R.add, vop, vbin, vint2, vstr2, vbool2, vnum, vun, vpick, vpick1, vbool, vconv, vnil, vfieldAddr, vindexAddr, vindex, vload, vfield, aggD, vslice, bnd, uopt, vlen, vmin, vextract, Hpk, Hroot, refV, ownR, V.i, V.elems, V.cell, V.cut, V.exact, V.ex0, exL, V.cl, clL, V.sc, scL, scO, scH, V.ct, ct1, ct2, RetP, RetK, RetH, retL, retOne, Back, Veq, subH, obs, obsIf, En.get, En.put, En.ev, enOf, gcond, wantB, constV, exGet, subE, Sub, RV, RVL, NR, RO, subER, subHR, newLt, oldNe, oldOk, oldGe, notIn, ivN, lookN, SubR, Nm.root, Nat.reduceMul, Nat.reduceLeDiff, Nat.reduceEqDiff, Nat.reduceLT, Nat.reduceAdd, Nat.reduceSub, ↓reduceIte, implies_true, reduceCtorEq, ne_eq, ↓shr_eq, IntKind.bits, Int.reduceToNat, Int.reducePow, dite_eq_ite, Value.oneCell', Nat.reduceBEq, Nat.reduceDiv, sd, nm, ty]
  | true =>
    have ev : numsV s = .tu [.sq 1 (.val (.int .i64 0)) (nums .i64 ((spl 46 s).map numV)), .bb true] := by unfold numsV; rw [numR_spl, hc]; rfl
    simp only [vquietR, vopsR, RetC, retW, cellR, undV, vgA, vbinN, vnn, isNilC, isIf, vconvH, vconvO, cvOk, frz1, frzE, jsOk, jsCo, rowsH, vgcH, vgH, vopsT, stepE, Kseq_app, vg_skip, vg_label, vg_seq, vg_region, vg_cond, vg_block, vg_exit, vg_ret, vg_loop, vcallF, vcallH, uls, HdelK, memN, noBox, ninL, keysH, jsAt, AdSub, adopt, noEl, isNil, effL, effO, vopsD, vquiet, vfstD, ldq, ldOk, vops, vfst, vone, vact, ug, addL, vbox, valloc, vstore, vbuild, vbuildSlice, vappend, vmake, zeroS, zeroE, vstrB, apC, nrm, nr1, nrL, keyL, neqs, diffs, V.app, V.len, vsrc, vdst, mkSl, mkBy, inOrd, placeAll, V.one, V.sto, V.csize, V.parts, V.cellsL, setMany, V.setB, V.setE, V.setO, V.noOwn, V.isOwn, vq, vcall, fzA, fz, fz1, fzL, fzN, rts, rt1, V.er, er1, er2, mixA, mixK, uargs, u1, R.add, vop, vbin, vint2, vstr2, vbool2, vnum, vun, vpick, vpick1, vbool, vconv, vnil, vfieldAddr, vindexAddr, vindex, vload, vfield, aggD, vslice, bnd, uopt, vlen, vmin, vextract, Hpk, Hroot, refV, ownR, V.i, V.elems, V.cell, V.cut, V.exact, V.ex0, exL, V.cl, clL, V.sc, scL, scO, scH, V.ct, ct1, ct2, RetP, RetK, RetH, retL, retOne, Back, Veq, subH, obs, obsIf, En.get, En.put, En.ev, enOf, gcond, wantB, constV, exGet, subE, Sub, RV, RVL, NR, RO, subER, subHR, newLt, oldNe, oldOk, oldGe, notIn, ivN, lookN, SubR, Nm.root, Nat.reduceMul, Nat.reduceLeDiff, Nat.reduceEqDiff, Nat.reduceLT, Nat.reduceAdd, Nat.reduceSub, ↓reduceIte, implies_true, reduceCtorEq, ne_eq, ↓shr_eq, IntKind.bits, Int.reduceToNat, Int.reducePow, dite_eq_ite, Value.oneCell', Nat.reduceBEq, Nat.reduceDiv, sd, nm, ty, GRo, GRof, GRoh, ev]
    generalize spl 46 s = L at *
    have hgd : ∀ i, i < L.length → ∃ n : Nat, n ≤ 2147483647 ∧ numV (L.getD i []) = n := fun i hi => by
      obtain ⟨n, h1, _, h3⟩ := num_of (List.all_eq_true.1 hc (L.getD i []) (by rw [List.getD_eq_getElem?_getD, List.getElem?_eq_getElem hi]; exact List.getElem_mem hi))
      exact ⟨n, h1, h3⟩
    refine ⟨h, fun _ => by omega, fun e => by simp at e; omega, fun _ => by omega, fun e => by simp at e; omega, fun _ => by omega, fun e => by simp at e; omega, fun a b => by rw [a, decide_eq_true b]; rfl, fun hb => ?_, fun hb => ?_⟩
    · have hno : ooF L = none := by
        rw [hoo, if_neg]
        rintro ⟨c1, c2, c3, c4⟩
        rw [mapV_get L 0 (by omega), mapV_get L 1 (by omega)] at hb
        simp only [Bool.or_eq_true, Bool.and_eq_true, decide_eq_true_eq] at hb
        omega
      rw [hno] at ho
      subst ho
      refine .inl ?_
      simp only [vquietR, vopsR, RetC, retW, cellR, undV, vgA, vbinN, vnn, isNilC, isIf, vconvH, vconvO, cvOk, frz1, frzE, jsOk, jsCo, rowsH, vgcH, vgH, vopsT, stepE, Kseq_app, vg_skip, vg_label, vg_seq, vg_region, vg_cond, vg_block, vg_exit, vg_ret, vg_loop, vcallF, vcallH, uls, HdelK, memN, noBox, ninL, keysH, jsAt, AdSub, adopt, noEl, isNil, effL, effO, vopsD, vquiet, vfstD, ldq, ldOk, vops, vfst, vone, vact, ug, addL, vbox, valloc, vstore, vbuild, vbuildSlice, vappend, vmake, zeroS, zeroE, vstrB, apC, nrm, nr1, nrL, keyL, neqs, diffs, V.app, V.len, vsrc, vdst, mkSl, mkBy, inOrd, placeAll, V.one, V.sto, V.csize, V.parts, V.cellsL, setMany, V.setB, V.setE, V.setO, V.noOwn, V.isOwn, vq, vcall, fzA, fz, fz1, fzL, fzN, rts, rt1, V.er, er1, er2, mixA, mixK, uargs, u1, R.add, vop, vbin, vint2, vstr2, vbool2, vnum, vun, vpick, vpick1, vbool, vconv, vnil, vfieldAddr, vindexAddr, vindex, vload, vfield, aggD, vslice, bnd, uopt, vlen, vmin, vextract, Hpk, Hroot, refV, ownR, V.i, V.elems, V.cell, V.cut, V.exact, V.ex0, exL, V.cl, clL, V.sc, scL, scO, scH, V.ct, ct1, ct2, RetP, RetK, RetH, retL, retOne, Back, Veq, subH, obs, obsIf, En.get, En.put, En.ev, enOf, gcond, wantB, constV, exGet, subE, Sub, RV, RVL, NR, RO, subER, subHR, newLt, oldNe, oldOk, oldGe, notIn, ivN, lookN, SubR, Nm.root, Nat.reduceMul, Nat.reduceLeDiff, Nat.reduceEqDiff, Nat.reduceLT, Nat.reduceAdd, Nat.reduceSub, ↓reduceIte, implies_true, reduceCtorEq, ne_eq, ↓shr_eq, IntKind.bits, Int.reduceToNat, Int.reducePow, dite_eq_ite, Value.oneCell', Nat.reduceBEq, Nat.reduceDiv, sd, nm, ty]
    · have h2 : 2 ≤ L.length := by
        simp only [Bool.or_eq_false_iff, decide_eq_false_iff_not] at hb
        omega
      rw [mapV_get L 0 (by omega), mapV_get L 1 (by omega)] at hb ⊢
      obtain ⟨n0, a1, a2⟩ := hgd 0 (by omega)
      obtain ⟨n1, b1, b2⟩ := hgd 1 (by omega)
      have hyes : ooF L = some (dOf L L.length) := by
        simp only [Bool.or_eq_false_iff, Bool.and_eq_false_iff, decide_eq_false_iff_not] at hb
        rw [hoo, if_pos ⟨h2, hc, by omega, fun h => by omega⟩]
      rw [hyes] at ho
      subst ho
      rw [a2, b2] at hb ⊢
      clear ev hoo
      simp only [Bool.or_eq_false_iff, Bool.and_eq_false_iff, decide_eq_false_iff_not] at hb
      generalize hK : Kseq _ _ _ _ = K2
      have ed : dOf L 2 = grpF (40 * (n0 : Int) + (n1 : Int)).toNat := by
        unfold dOf
        rw [if_neg (by omega), a2, b2]; simp
      have hg := grpF_len (m := (40 * (n0 : Int) + (n1 : Int)).toNat) (by omega)
      rw [← ed] at hg
      have rest : ∀ (B k0 : Nat) (E : En) (H : List (Nat × Ob)), (B = 2 ∧ k0 = 1) ∨ (B = 1 ∧ k0 = 2) → E.get 6 = some (.op B 0) → E.get 4 = some (.sq 1 (.val (.int .i64 0)) (nums .i64 (L.map numV))) → E.get 2 = some (.op 0 0) →
          Hroot H 0 = some (.box 36 (.st [.val (.int .i64 0), .val (.slice none 0 0), .val (.int .i64 0)])) → Hroot H B = some (.box 36 (.st [.val (.int .i64 6), .ro (.r k0), .val (.int .i64 0)])) → Hroot H k0 = some (.row 5 (.by (dOf L 2))) → K2 ⟨E, H, 3⟩ := by
        intro B k0 E H hBk e6 e4 e2 h0 hB hk0
        have B0 : B ≠ 0 ∧ B ≠ k0 ∧ k0 ≠ 0 ∧ B < 3 ∧ k0 < 3 := by omega
        have s1 : (0 = B) = False := by simp; omega
        have s2 : (B = 0) = False := by simp; omega
        have s3 : (B = k0) = False := by simp; omega
        have s4 : (k0 = B) = False := by simp; omega
        have s5 : (0 = k0) = False := by simp; omega
        have s6 : (k0 = 0) = False := by simp; omega
        rw [← hK]
        clear hK
        simp only [vquietR, vopsR, RetC, retW, cellR, undV, vgA, vbinN, vnn, isNilC, isIf, vconvH, vconvO, cvOk, frz1, frzE, jsOk, jsCo, rowsH, vgcH, vgH, vopsT, stepE, Kseq_app, vg_skip, vg_label, vg_seq, vg_region, vg_cond, vg_block, vg_exit, vg_ret, vg_loop, vcallF, vcallH, uls, HdelK, memN, noBox, ninL, keysH, jsAt, AdSub, adopt, noEl, isNil, effL, effO, vopsD, vquiet, vfstD, ldq, ldOk, vops, vfst, vone, vact, ug, addL, vbox, valloc, vstore, vbuild, vbuildSlice, vappend, vmake, zeroS, zeroE, vstrB, apC, nrm, nr1, nrL, keyL, neqs, diffs, V.app, V.len, vsrc, vdst, mkSl, mkBy, inOrd, placeAll, V.one, V.sto, V.csize, V.parts, V.cellsL, setMany, V.setB, V.setE, V.setO, V.noOwn, V.isOwn, vq, vcall, fzA, fz, fz1, fzL, fzN, rts, rt1, V.er, er1, er2, mixA, mixK, uargs, u1, R.add, vop, vbin, vint2, vstr2, vbool2, vnum, vun, vpick, vpick1, vbool, vconv, vnil, vfieldAddr, vindexAddr, vindex, vload, vfield, aggD, vslice, bnd, uopt, vlen, vmin, vextract, Hpk, Hroot, refV, ownR, V.i, V.elems, V.cell, V.cut, V.exact, V.ex0, exL, V.cl, clL, V.sc, scL, scO, scH, V.ct, ct1, ct2, RetP, RetK, RetH, retL, retOne, Back, Veq, subH, obs, obsIf, En.get, En.put, En.ev, enOf, gcond, wantB, constV, exGet, subE, Sub, RV, RVL, NR, RO, subER, subHR, newLt, oldNe, oldOk, oldGe, notIn, ivN, lookN, SubR, Nm.root, Nat.reduceMul, Nat.reduceLeDiff, Nat.reduceEqDiff, Nat.reduceLT, Nat.reduceAdd, Nat.reduceSub, ↓reduceIte, implies_true, reduceCtorEq, ne_eq, ↓shr_eq, IntKind.bits, Int.reduceToNat, Int.reducePow, dite_eq_ite, Value.oneCell', Nat.reduceBEq, Nat.reduceDiv, sd, nm, ty, GRo, GRof, GRoh]
        refine LoopC.intro (α := Nat × Nat × Nat) (fun y => 2 ≤ y.1 ∧ y.1 ≤ L.length ∧ (dOf L y.1).length ≤ 6 * y.1 ∧ 0 < y.2.1 ∧ y.2.1 ≠ B ∧ y.2.1 < y.2.2 ∧ 3 ≤ y.2.2)
          (fun y => ⟨[(7, .i y.1), (6, .op B 0), (4, .sq 1 (.val (.int .i64 0)) (nums .i64 (L.map numV))), (2, .op 0 0)],
            [(0, .box 36 (.st [.val (.int .i64 0), .val (.slice none 0 0), .val (.int .i64 0)])), (B, .box 36 (.st [.val (.int .i64 6), .ro (.r y.2.1), .val (.int .i64 0)])), (y.2.1, .row 5 (.by (dOf L y.1)))], y.2.2⟩)
          (fun y => L.length - y.1) (2, k0, 3) ⟨Nat.le_refl _, h2, by simp only; omega, by simp only; omega, by simp only; omega, by simp only; omega, by simp only; omega⟩ ?_ ?_
        · simp only [vquietR, vopsR, RetC, retW, cellR, undV, vgA, vbinN, vnn, isNilC, isIf, vconvH, vconvO, cvOk, frz1, frzE, jsOk, jsCo, rowsH, vgcH, vgH, vopsT, stepE, Kseq_app, vg_skip, vg_label, vg_seq, vg_region, vg_cond, vg_block, vg_exit, vg_ret, vg_loop, vcallF, vcallH, uls, HdelK, memN, noBox, ninL, keysH, jsAt, AdSub, adopt, noEl, isNil, effL, effO, vopsD, vquiet, vfstD, ldq, ldOk, vops, vfst, vone, vact, ug, addL, vbox, valloc, vstore, vbuild, vbuildSlice, vappend, vmake, zeroS, zeroE, vstrB, apC, nrm, nr1, nrL, keyL, neqs, diffs, V.app, V.len, vsrc, vdst, mkSl, mkBy, inOrd, placeAll, V.one, V.sto, V.csize, V.parts, V.cellsL, setMany, V.setB, V.setE, V.setO, V.noOwn, V.isOwn, vq, vcall, fzA, fz, fz1, fzL, fzN, rts, rt1, V.er, er1, er2, mixA, mixK, uargs, u1, R.add, vop, vbin, vint2, vstr2, vbool2, vnum, vun, vpick, vpick1, vbool, vconv, vnil, vfieldAddr, vindexAddr, vindex, vload, vfield, aggD, vslice, bnd, uopt, vlen, vmin, vextract, Hpk, Hroot, refV, ownR, V.i, V.elems, V.cell, V.cut, V.exact, V.ex0, exL, V.cl, clL, V.sc, scL, scO, scH, V.ct, ct1, ct2, RetP, RetK, RetH, retL, retOne, Back, Veq, subH, obs, obsIf, En.get, En.put, En.ev, enOf, gcond, wantB, constV, exGet, subE, Sub, RV, RVL, NR, RO, subER, subHR, newLt, oldNe, oldOk, oldGe, notIn, ivN, lookN, SubR, Nm.root, Nat.reduceMul, Nat.reduceLeDiff, Nat.reduceEqDiff, Nat.reduceLT, Nat.reduceAdd, Nat.reduceSub, ↓reduceIte, implies_true, reduceCtorEq, ne_eq, ↓shr_eq, IntKind.bits, Int.reduceToNat, Int.reducePow, dite_eq_ite, Value.oneCell', Nat.reduceBEq, Nat.reduceDiv, sd, nm, ty, e6, e4, e2, h0, hB, hk0, s1, s2, s3, s4, s5, s6]
          rfl
        · rintro ⟨i, k, N⟩ ⟨q1, q2, q3, q4, q5, q6, q7⟩
          simp only at q1 q2 q3 q4 q5 q6 q7
          have k0 : (0 = k) = False := by simp; omega
          have k1 : (B = k) = False := by simp; omega
          have k2 : (k = 0) = False := by simp; omega
          have k3 : (k = B) = False := by simp; omega
          have k4 : (N = 0) = False := by simp; omega
          have k5 : (N = B) = False := by simp; omega
          have k6 : (N = k) = False := by simp; omega
          have k7 : (0 = N) = False := by simp; omega
          have k8 : (B = N) = False := by simp; omega
          have k9 : (k = N) = False := by simp; omega
          have k10 : ∀ j, (N + j = 0) = False := fun j => by simp; omega
          have k11 : ∀ j, (N + j = B) = False := fun j => by simp; omega
          have k12 : ∀ j, (N + j = k) = False := fun j => by simp; omega
          have k13 : ∀ j, (0 = N + j) = False := fun j => by simp; omega
          have k14 : ∀ j, (B = N + j) = False := fun j => by simp; omega
          have k15 : ∀ j, (k = N + j) = False := fun j => by simp; omega
          simp only [vquietR, vopsR, RetC, retW, cellR, undV, vgA, vbinN, vnn, isNilC, isIf, vconvH, vconvO, cvOk, frz1, frzE, jsOk, jsCo, rowsH, vgcH, vgH, vopsT, stepE, Kseq_app, vg_skip, vg_label, vg_seq, vg_region, vg_cond, vg_block, vg_exit, vg_ret, vg_loop, vcallF, vcallH, uls, HdelK, memN, noBox, ninL, keysH, jsAt, AdSub, adopt, noEl, isNil, effL, effO, vopsD, vquiet, vfstD, ldq, ldOk, vops, vfst, vone, vact, ug, addL, vbox, valloc, vstore, vbuild, vbuildSlice, vappend, vmake, zeroS, zeroE, vstrB, apC, nrm, nr1, nrL, keyL, neqs, diffs, V.app, V.len, vsrc, vdst, mkSl, mkBy, inOrd, placeAll, V.one, V.sto, V.csize, V.parts, V.cellsL, setMany, V.setB, V.setE, V.setO, V.noOwn, V.isOwn, vq, vcall, fzA, fz, fz1, fzL, fzN, rts, rt1, V.er, er1, er2, mixA, mixK, uargs, u1, R.add, vop, vbin, vint2, vstr2, vbool2, vnum, vun, vpick, vpick1, vbool, vconv, vnil, vfieldAddr, vindexAddr, vindex, vload, vfield, aggD, vslice, bnd, uopt, vlen, vmin, vextract, Hpk, Hroot, refV, ownR, V.i, V.elems, V.cell, V.cut, V.exact, V.ex0, exL, V.cl, clL, V.sc, scL, scO, scH, V.ct, ct1, ct2, RetP, RetK, RetH, retL, retOne, Back, Veq, subH, obs, obsIf, En.get, En.put, En.ev, enOf, gcond, wantB, constV, exGet, subE, Sub, RV, RVL, NR, RO, subER, subHR, newLt, oldNe, oldOk, oldGe, notIn, ivN, lookN, SubR, Nm.root, Nat.reduceMul, Nat.reduceLeDiff, Nat.reduceEqDiff, Nat.reduceLT, Nat.reduceAdd, Nat.reduceSub, ↓reduceIte, implies_true, reduceCtorEq, ne_eq, ↓shr_eq, IntKind.bits, Int.reduceToNat, Int.reducePow, dite_eq_ite, Value.oneCell', Nat.reduceBEq, Nat.reduceDiv, sd, nm, ty, GRo, GRof, GRoh, List.length_map, k0, k1, k2, k3, k4, k5, k6, k7, k8, k9, k10, k11, k12, k13, k14, k15, s1, s2]
          refine ⟨fun hi => ?_, fun hi => ?_⟩
          · simp only [decide_eq_true_eq] at hi
            have hi : i < L.length := by omega
            obtain ⟨n, c1, c2⟩ := hgd i hi
            have ed : dOf L (i + 1) = dOf L i ++ grpF n := by
              unfold dOf
              rw [if_neg (by omega), if_neg (by omega), List.append_assoc, show i + 1 - 2 = (i - 2) + 1 from by omega, List.take_succ_eq_append_getElem (by simp; omega), List.flatMap_append]
              congr 2
              simp only [List.getElem_drop, List.flatMap_cons, List.flatMap_nil, List.append_nil]
              rw [show L[2 + (i - 2)] = L.getD i [] from by rw [List.getD_eq_getElem?_getD, show L[i]? = some L[i] from List.getElem?_eq_getElem hi]; simp only [Option.getD_some]; congr 1; omega, c2]
              rfl
            have hg := grpF_len (m := n) (by omega)
            refine DrawC.sch [(0, some []), (1, some []), (2, some []), (3, some []), (4, some []), (5, some []), (6, none), (7, none), (8, some []), (9, none)] [(9, [1])] (by kernel_rfl) ?_
            simp only [vquietR, vopsR, RetC, retW, cellR, undV, vgA, vbinN, vnn, isNilC, isIf, vconvH, vconvO, cvOk, frz1, frzE, jsOk, jsCo, rowsH, vgcH, vgH, vopsT, stepE, Kseq_app, vg_skip, vg_label, vg_seq, vg_region, vg_cond, vg_block, vg_exit, vg_ret, vg_loop, vcallF, vcallH, uls, HdelK, memN, noBox, ninL, keysH, jsAt, AdSub, adopt, noEl, isNil, effL, effO, vopsD, vquiet, vfstD, ldq, ldOk, vops, vfst, vone, vact, ug, addL, vbox, valloc, vstore, vbuild, vbuildSlice, vappend, vmake, zeroS, zeroE, vstrB, apC, nrm, nr1, nrL, keyL, neqs, diffs, V.app, V.len, vsrc, vdst, mkSl, mkBy, inOrd, placeAll, V.one, V.sto, V.csize, V.parts, V.cellsL, setMany, V.setB, V.setE, V.setO, V.noOwn, V.isOwn, vq, vcall, fzA, fz, fz1, fzL, fzN, rts, rt1, V.er, er1, er2, mixA, mixK, uargs, u1, R.add, vop, vbin, vint2, vstr2, vbool2, vnum, vun, vpick, vpick1, vbool, vconv, vnil, vfieldAddr, vindexAddr, vindex, vload, vfield, aggD, vslice, bnd, uopt, vlen, vmin, vextract, Hpk, Hroot, refV, ownR, V.i, V.elems, V.cell, V.cut, V.exact, V.ex0, exL, V.cl, clL, V.sc, scL, scO, scH, V.ct, ct1, ct2, RetP, RetK, RetH, retL, retOne, Back, Veq, subH, obs, obsIf, En.get, En.put, En.ev, enOf, gcond, wantB, constV, exGet, subE, Sub, RV, RVL, NR, RO, subER, subHR, newLt, oldNe, oldOk, oldGe, notIn, ivN, lookN, SubR, Nm.root, Nat.reduceMul, Nat.reduceLeDiff, Nat.reduceEqDiff, Nat.reduceLT, Nat.reduceAdd, Nat.reduceSub, ↓reduceIte, implies_true, reduceCtorEq, ne_eq, ↓shr_eq, IntKind.bits, Int.reduceToNat, Int.reducePow, dite_eq_ite, Value.oneCell', Nat.reduceBEq, Nat.reduceDiv, sd, nm, ty, GRo, GRof, GRoh, List.length_map, k0, k1, k2, k3, k4, k5, k6, k7, k8, k9, k10, k11, k12, k13, k14, k15, s1, s2]
            rw [mapV_get L i hi, c2]
            have e1 : ((n : Int)).toNat = n := by omega
            rw [e1, ← ed]
            have hl1 : (dOf L (i + 1)).length ≤ 6 * (i + 1) := by rw [ed, List.length_append]; omega
            refine ⟨by omega, by omega, by omega, by omega, by omega, by omega, by constructor <;> omega, Again.intro (i + 1, N + 1, N + 2) ⟨by simp only; omega, by simp only; omega, hl1, by simp only; omega, by simp only; omega, by simp only; omega, by simp only; omega⟩ (by simp only; omega) ?_⟩
            simp only [vquietR, vopsR, RetC, retW, cellR, undV, vgA, vbinN, vnn, isNilC, isIf, vconvH, vconvO, cvOk, frz1, frzE, jsOk, jsCo, rowsH, vgcH, vgH, vopsT, stepE, Kseq_app, vg_skip, vg_label, vg_seq, vg_region, vg_cond, vg_block, vg_exit, vg_ret, vg_loop, vcallF, vcallH, uls, HdelK, memN, noBox, ninL, keysH, jsAt, AdSub, adopt, noEl, isNil, effL, effO, vopsD, vquiet, vfstD, ldq, ldOk, vops, vfst, vone, vact, ug, addL, vbox, valloc, vstore, vbuild, vbuildSlice, vappend, vmake, zeroS, zeroE, vstrB, apC, nrm, nr1, nrL, keyL, neqs, diffs, V.app, V.len, vsrc, vdst, mkSl, mkBy, inOrd, placeAll, V.one, V.sto, V.csize, V.parts, V.cellsL, setMany, V.setB, V.setE, V.setO, V.noOwn, V.isOwn, vq, vcall, fzA, fz, fz1, fzL, fzN, rts, rt1, V.er, er1, er2, mixA, mixK, uargs, u1, R.add, vop, vbin, vint2, vstr2, vbool2, vnum, vun, vpick, vpick1, vbool, vconv, vnil, vfieldAddr, vindexAddr, vindex, vload, vfield, aggD, vslice, bnd, uopt, vlen, vmin, vextract, Hpk, Hroot, refV, ownR, V.i, V.elems, V.cell, V.cut, V.exact, V.ex0, exL, V.cl, clL, V.sc, scL, scO, scH, V.ct, ct1, ct2, RetP, RetK, RetH, retL, retOne, Back, Veq, subH, obs, obsIf, En.get, En.put, En.ev, enOf, gcond, wantB, constV, exGet, subE, Sub, RV, RVL, NR, RO, subER, subHR, newLt, oldNe, oldOk, oldGe, notIn, ivN, lookN, SubR, Nm.root, Nat.reduceMul, Nat.reduceLeDiff, Nat.reduceEqDiff, Nat.reduceLT, Nat.reduceAdd, Nat.reduceSub, ↓reduceIte, implies_true, reduceCtorEq, ne_eq, ↓shr_eq, IntKind.bits, Int.reduceToNat, Int.reducePow, dite_eq_ite, Value.oneCell', Nat.reduceBEq, Nat.reduceDiv, sd, nm, ty, k0, k1, k2, k3, k4, k5, k6, k7, k8, k9, k10, k11, k12, k13, k14, k15, s1, s2]
            refine ⟨by omega, Nat.le_refl _⟩
          · simp only [decide_eq_false_iff_not] at hi
            obtain rfl : i = L.length := by omega
            refine RenC.intro [(0, 0), (1, k)] ⟨[(2, .op 0 0), (3, .bb true)], [(0, .box 36 (.st [.val (.int .i64 6), .ro (.r 1), .val (.int .i64 0)])), (1, .row 5 (.by (dOf L L.length)))], 2⟩ ?_ ?_
            · simp only [vquietR, vopsR, RetC, retW, cellR, undV, vgA, vbinN, vnn, isNilC, isIf, vconvH, vconvO, cvOk, frz1, frzE, jsOk, jsCo, rowsH, vgcH, vgH, vopsT, stepE, Kseq_app, vg_skip, vg_label, vg_seq, vg_region, vg_cond, vg_block, vg_exit, vg_ret, vg_loop, vcallF, vcallH, uls, HdelK, memN, noBox, ninL, keysH, jsAt, AdSub, adopt, noEl, isNil, effL, effO, vopsD, vquiet, vfstD, ldq, ldOk, vops, vfst, vone, vact, ug, addL, vbox, valloc, vstore, vbuild, vbuildSlice, vappend, vmake, zeroS, zeroE, vstrB, apC, nrm, nr1, nrL, keyL, neqs, diffs, V.app, V.len, vsrc, vdst, mkSl, mkBy, inOrd, placeAll, V.one, V.sto, V.csize, V.parts, V.cellsL, setMany, V.setB, V.setE, V.setO, V.noOwn, V.isOwn, vq, vcall, fzA, fz, fz1, fzL, fzN, rts, rt1, V.er, er1, er2, mixA, mixK, uargs, u1, R.add, vop, vbin, vint2, vstr2, vbool2, vnum, vun, vpick, vpick1, vbool, vconv, vnil, vfieldAddr, vindexAddr, vindex, vload, vfield, aggD, vslice, bnd, uopt, vlen, vmin, vextract, Hpk, Hroot, refV, ownR, V.i, V.elems, V.cell, V.cut, V.exact, V.ex0, exL, V.cl, clL, V.sc, scL, scO, scH, V.ct, ct1, ct2, RetP, RetK, RetH, retL, retOne, Back, Veq, subH, obs, obsIf, En.get, En.put, En.ev, enOf, gcond, wantB, constV, exGet, subE, Sub, RV, RVL, NR, RO, subER, subHR, newLt, oldNe, oldOk, oldGe, notIn, ivN, lookN, SubR, Nm.root, Nat.reduceMul, Nat.reduceLeDiff, Nat.reduceEqDiff, Nat.reduceLT, Nat.reduceAdd, Nat.reduceSub, ↓reduceIte, implies_true, reduceCtorEq, ne_eq, ↓shr_eq, IntKind.bits, Int.reduceToNat, Int.reducePow, dite_eq_ite, Value.oneCell', Nat.reduceBEq, Nat.reduceDiv, sd, nm, ty, k0, k1, k2, k3, s1, s2]
              simp
            · simp only [vquietR, vopsR, RetC, retW, cellR, undV, vgA, vbinN, vnn, isNilC, isIf, vconvH, vconvO, cvOk, frz1, frzE, jsOk, jsCo, rowsH, vgcH, vgH, vopsT, stepE, Kseq_app, vg_skip, vg_label, vg_seq, vg_region, vg_cond, vg_block, vg_exit, vg_ret, vg_loop, vcallF, vcallH, uls, HdelK, memN, noBox, ninL, keysH, jsAt, AdSub, adopt, noEl, isNil, effL, effO, vopsD, vquiet, vfstD, ldq, ldOk, vops, vfst, vone, vact, ug, addL, vbox, valloc, vstore, vbuild, vbuildSlice, vappend, vmake, zeroS, zeroE, vstrB, apC, nrm, nr1, nrL, keyL, neqs, diffs, V.app, V.len, vsrc, vdst, mkSl, mkBy, inOrd, placeAll, V.one, V.sto, V.csize, V.parts, V.cellsL, setMany, V.setB, V.setE, V.setO, V.noOwn, V.isOwn, vq, vcall, fzA, fz, fz1, fzL, fzN, rts, rt1, V.er, er1, er2, mixA, mixK, uargs, u1, R.add, vop, vbin, vint2, vstr2, vbool2, vnum, vun, vpick, vpick1, vbool, vconv, vnil, vfieldAddr, vindexAddr, vindex, vload, vfield, aggD, vslice, bnd, uopt, vlen, vmin, vextract, Hpk, Hroot, refV, ownR, V.i, V.elems, V.cell, V.cut, V.exact, V.ex0, exL, V.cl, clL, V.sc, scL, scO, scH, V.ct, ct1, ct2, RetP, RetK, RetH, retL, retOne, Back, Veq, subH, obs, obsIf, En.get, En.put, En.ev, enOf, gcond, wantB, constV, exGet, subE, Sub, RV, RVL, NR, RO, subER, subHR, newLt, oldNe, oldOk, oldGe, notIn, ivN, lookN, SubR, Nm.root, Nat.reduceMul, Nat.reduceLeDiff, Nat.reduceEqDiff, Nat.reduceLT, Nat.reduceAdd, Nat.reduceSub, ↓reduceIte, implies_true, reduceCtorEq, ne_eq, ↓shr_eq, IntKind.bits, Int.reduceToNat, Int.reducePow, dite_eq_ite, Value.oneCell', Nat.reduceBEq, Nat.reduceDiv, sd, nm, ty]
      refine DrawC.tree (.q 0 [] (.q 1 [] (.q 2 [] (.q 3 [] (.q 4 [] (.q 5 [] (.q 6 [] (.q 7 [] (.two 8 10 (.two 9 10 (.one 10 (.one 11 .done)) (.one 9 (.one 11 .done))) (.one 8 (.one 9 (.one 11 .done)))))))))))) [(11, [0, 1, 2])] (by kernel_rfl) ?_
      simp only [vquietR, vopsR, RetC, retW, cellR, undV, vgA, vbinN, vnn, isNilC, isIf, vconvH, vconvO, cvOk, frz1, frzE, jsOk, jsCo, rowsH, vgcH, vgH, vopsT, stepE, Kseq_app, vg_skip, vg_label, vg_seq, vg_region, vg_cond, vg_block, vg_exit, vg_ret, vg_loop, vcallF, vcallH, uls, HdelK, memN, noBox, ninL, keysH, jsAt, AdSub, adopt, noEl, isNil, effL, effO, vopsD, vquiet, vfstD, ldq, ldOk, vops, vfst, vone, vact, ug, addL, vbox, valloc, vstore, vbuild, vbuildSlice, vappend, vmake, zeroS, zeroE, vstrB, apC, nrm, nr1, nrL, keyL, neqs, diffs, V.app, V.len, vsrc, vdst, mkSl, mkBy, inOrd, placeAll, V.one, V.sto, V.csize, V.parts, V.cellsL, setMany, V.setB, V.setE, V.setO, V.noOwn, V.isOwn, vq, vcall, fzA, fz, fz1, fzL, fzN, rts, rt1, V.er, er1, er2, mixA, mixK, uargs, u1, R.add, vop, vbin, vint2, vstr2, vbool2, vnum, vun, vpick, vpick1, vbool, vconv, vnil, vfieldAddr, vindexAddr, vindex, vload, vfield, aggD, vslice, bnd, uopt, vlen, vmin, vextract, Hpk, Hroot, refV, ownR, V.i, V.elems, V.cell, V.cut, V.exact, V.ex0, exL, V.cl, clL, V.sc, scL, scO, scH, V.ct, ct1, ct2, RetP, RetK, RetH, retL, retOne, Back, Veq, subH, obs, obsIf, En.get, En.put, En.ev, enOf, gcond, wantB, constV, exGet, subE, Sub, RV, RVL, NR, RO, subER, subHR, newLt, oldNe, oldOk, oldGe, notIn, ivN, lookN, SubR, Nm.root, Nat.reduceMul, Nat.reduceLeDiff, Nat.reduceEqDiff, Nat.reduceLT, Nat.reduceAdd, Nat.reduceSub, ↓reduceIte, implies_true, reduceCtorEq, ne_eq, ↓shr_eq, IntKind.bits, Int.reduceToNat, Int.reducePow, dite_eq_ite, Value.oneCell', Nat.reduceBEq, Nat.reduceDiv, sd, nm, ty, GRo, GRof, GRoh]
      rw [mapV_get L 0 (by omega), mapV_get L 1 (by omega), a2, b2, ← ed]
      refine ⟨by omega, by omega, by constructor <;> omega, by omega, by omega, by constructor <;> omega, ⟨by omega, by omega, rest 2 1 _ _ (.inl ⟨rfl, rfl⟩) ?_ ?_ ?_ ?_ ?_ ?_, rest 2 1 _ _ (.inl ⟨rfl, rfl⟩) ?_ ?_ ?_ ?_ ?_ ?_⟩, by omega, by omega, rest 1 2 _ _ (.inr ⟨rfl, rfl⟩) ?_ ?_ ?_ ?_ ?_ ?_⟩
      all_goals simp only [En.get, Hroot, Nat.reduceEqDiff, if_true, if_false]
theorem Fn.res2 {P : Program} {J : Inv} {f : FuncId} {fr : Bool} {args : List V} {a a' b : V} (h : Fn P J f fr args (.tu [a, b])) (hw : ∀ w F x, Rep w F a x → Rep w F a' x) : Fn P J f fr args (.tu [a', b]) := by
  refine ⟨h.1, fun w F vs hI hF hlen hvs => (h.2 w F vs hI hF hlen hvs).mono fun e w' ⟨v, he, hx, hr⟩ => ⟨v, he, hx, ?_⟩⟩
  obtain ⟨cs, u, rfl, hs, hc, hr⟩ := rep_tu hr
  refine .tu [a', b] cs u (by simpa using hs) (fun j hj => hc j (by simpa using hj)) fun j hj => ?_
  have h1 := hr j (by simpa using hj)
  match j with
  | 0 => exact hw _ _ _ h1
  | 1 => exact h1
  | j + 2 => exact absurd hj (by simp)
theorem rep_none {w : World} {F : Cx} {a b : Int} {x : Value} (h : Rep w F (.st [.val (.int .i64 a), .val (.slice none 0 0), .val (.int .i64 b)]) x) : Rep w F (.st [.val (.int .i64 a), .by [], .val (.int .i64 b)]) x := by
  obtain ⟨cs, u, rfl, hs, hc, hr⟩ := rep_st h
  refine .st _ cs u (by simpa using hs) (fun j hj => hc j (by simpa using hj)) fun j hj => ?_
  have h1 := hr j (by simpa using hj)
  match j with
  | 0 => exact h1
  | 1 => exact veq_rep (v := .val (.slice none 0 0)) (res := .by []) (by simp [Veq, isNil, V.elems]) h1
  | 2 => exact h1
  | j + 3 => exact absurd hj (by simp)
theorem rOfOid_fn (J : Inv) (s : List UInt8) (h : s.length ≤ 268435456) : Fn Tryd.prog J 24 false [.str s] (.tu [.st [.val (.int .i64 (ooT s)), .by (ooD s), .val (.int .i64 0)], .bb (ooB s)]) := by
  have h1 := Fn.of_plain (rOfOid_own J s h) (ofOidV_cl s)
  unfold ofOidV at h1
  unfold ooT ooD ooB
  cases hc : ooF (spl 46 s) with
  | none => rw [hc] at h1; exact Fn.res2 h1 fun w F x hr => rep_none hr
  | some d => rw [hc] at h1; exact h1
end Go.Proofs.YtelaolingpbnfaaDoor
