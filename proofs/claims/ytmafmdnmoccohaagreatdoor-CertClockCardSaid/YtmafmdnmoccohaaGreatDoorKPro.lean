/- The program's Seconds: the walk. -/
import Derived.Test.YtmafmdnmoccohaaGreatDoorKSec
namespace Go.Proofs.YtmafmdnmoccohaaGreatDoor
open Go.RowKit
set_option linter.unusedSimpArgs false
set_option maxRecDepth 100000
theorem less_53 {l : List UInt8} (h : 0 < l.length) : Op.bytesLess l [53] = decide (byteAt l 0 < 53) := by
  cases l with
  | nil => simp at h
  | cons a r =>
    have e : byteAt (a :: r) 0 = (a.toNat : Int) := rfl
    rw [e]
    simp only [Op.bytesLess]
    have h1 : (a < 53) ↔ (a.toNat : Int) < 53 := by
      rw [UInt8.lt_iff_toNat_lt]
      have : (53 : UInt8).toNat = 53 := rfl
      omega
    simp only [Bool.and_false, Bool.or_false]
    by_cases h2 : a < 53
    · simp [h2, h1.1 h2]
    · have h3 : ¬ ((a.toNat : Int) < 53) := fun h => h2 (h1.2 h)
      simp [h2, h3]
theorem year_c {l : List UInt8} {c1 c2 : UInt8} {n : Int} (hl : 2 ≤ l.length) (h : twoF (c1 :: c2 :: l) 0 = n) (hn : 0 ≤ n) : numF (c1 :: c2 :: l.take 2) = if twoF l 0 < 0 then -1 else 100 * n + twoF l 0 := by
  have e := num4 (l := c1 :: c2 :: l) (by simp; omega)
  rw [show (c1 :: c2 :: l).take 4 = c1 :: c2 :: l.take 2 from rfl, h, show twoF (c1 :: c2 :: l) 2 = twoF l 0 from by rw [twoF_cons c1 (c2 :: l) 1, twoF_cons c2 l 0]] at e
  rw [e]
  by_cases h0 : twoF l 0 < 0
  · rw [if_pos (.inr h0), if_pos h0]
  · rw [if_neg (by omega), if_neg h0]
theorem num_in {l : List UInt8} (a b : Nat) (h : a + b + 2 ≤ l.length) : numF ((l.drop (a + b)).take 2) = twoF (l.drop a) b := by
  rw [num2 (by omega), twoF_drop]
def rst : Code → Code
  | .seq _ b => b
  | c => c
noncomputable def pbody : Code := (Tryz.f6).body.getD .skip
def KoP (r : Int × Bool) : Ko := ⟨RenC 0 (RetH [ResultVar.tmp 2, ResultVar.tmp 3] (V.tu [V.val (Value.int IntKind.i64 r.1), V.bb r.2]) [] 0), RenC 0 (RetH [ResultVar.tmp 2, ResultVar.tmp 3] (V.tu [V.val (Value.int IntKind.i64 r.1), V.bb r.2]) [] 0), []⟩
theorem Sec_t8 (E : En) (H : List (Nat × Ob)) (yy mo dd ho mi ss d1 d2 : Int) (r : Int × Bool) (e7 : E.get 7 = some (.val (.int .i64 yy))) (e8 : E.get 8 = some (.val (.int .i64 mo))) (e9 : E.get 9 = some (.val (.int .i64 dd))) (e10 : E.get 10 = some (.val (.int .i64 ho))) (e11 : E.get 11 = some (.val (.int .i64 mi))) (e12 : E.get 12 = some (.val (.int .i64 ss))) (e13 : E.get 13 = some (.val (.int .i64 d1))) (hy1 : 1950 ≤ yy) (hy2 : yy ≤ 9999) (hm1 : 1 ≤ mo) (hm2 : mo ≤ 12) (hh1 : 0 ≤ ho) (hh2 : ho ≤ 23) (hi1 : 0 ≤ mi) (hi2 : mi ≤ 59) (hs1 : 0 ≤ ss) (hs2 : ss ≤ 59) (hd1 : -1 ≤ dd) (hd2 : dd ≤ 99) (hD2 : daysF yy (mo + 1) 1 = d2) (b1 : -800000 ≤ d1) (b2 : d1 ≤ 4000000) (b3 : -800000 ≤ d2) (b4 : d2 ≤ 4000000)
    (hr1 : dd < 1 ∨ d2 - d1 < dd → r = (0, false)) (hr2 : 1 ≤ dd → dd ≤ d2 - d1 → r = ((d1 + dd - 1) * 86400 + (ho * 3600 + mi * 60 + ss), true)) :
    Kseq Tryz.prog GK2 (rst (rst (rst (rst (rst (rst (rst (rst pbody)))))))) (KoP r) ⟨E, H, 1⟩ := by
  simp only [pbody, rst, Tryz.f6, Option.getD_some, KoP]
  (rw [Kseq_app]; simp only [vmark, seqN, sameBox, boxJs, vquietR, vopsR, RetC, retW, cellR, undV, vgA, vbinN, vnn, isNilC, isIf, vconvH, vconvO, cvOk, frz1, frzE, jsOk, jsCo, rowsH, vgcH, vgH, vopsT, stepE, vg_skip, vg_label, vg_seq, vg_region, vg_cond, vg_block, vg_exit, vg_ret, vg_loop, vcallF, vcallH, uls, HdelK, memN, noBox, ninL, keysH, jsAt, AdSub, adopt, noEl, isNil, effL, effO, vopsD, vquiet, vfstD, ldq, ldOk, vops, vfst, vone, vact, ug, addL, vbox, valloc, vstore, vbuild, arrF, vbuildSlice, vappend, vmake, zeroS, zeroE, vstrB, apC, nrm, nr1, nrL, keyL, neqs, diffs, V.app, V.len, vsrc, vdst, mkSl, mkBy, inOrd, placeAll, V.one, V.sto, V.csize, V.parts, V.cellsL, setMany, V.setB, V.setE, V.setO, V.noOwn, V.isOwn, vq, vcall, fzA, fz, fz1, fzL, fzN, rts, rt1, V.er, er1, er2, mixA, mixK, uargs, u1, R.add, vop, vbin, vint2, vstr2, vbool2, vnum, vun, vpick, vpick1, vbool, vconv, vnil, vfieldAddr, vindexAddr, vstEq, vindex, vload, vfield, aggD, vslice, bnd, uopt, vlen, vmin, vextract, Hpk, Hroot, refV, ownR, V.i, V.elems, V.cell, V.cut, V.exact, V.ex0, exL, V.cl, clL, V.sc, scL, scO, scH, V.ct, ct1, ct2, RetP, RetK, RetH, retL, retOne, Back, Veq, subH, obs, obsIf, En.get, En.put, En.ev, enOf, gcond, wantB, constV, exGet, subE, Sub, RV, RVL, NR, RO, subER, subHR, newLt, oldNe, oldOk, oldGe, notIn, ivN, lookN, SubR, Nm.root, Nat.reduceMul, Nat.reduceLeDiff, Nat.reduceEqDiff, Nat.reduceLT, Nat.reduceAdd, Nat.reduceSub, ↓reduceIte, implies_true, reduceCtorEq, ne_eq, ↓shr_eq, IntKind.bits, Int.reduceToNat, Int.reducePow, dite_eq_ite, Value.oneCell', Nat.reduceBEq, Nat.reduceDiv, bnS, bnN, bnT, GK2, GK2f, e7, e8, e9, e10, e11, e12, e13, hD2])
  refine ⟨by constructor <;> omega, by omega, by omega, by omega, by omega, by omega, by omega, by constructor <;> omega, ?_⟩
  generalize hq : (!(decide (1 ≤ dd) && decide (dd ≤ d2 - d1))) = q
  generalize (decide (1 ≤ dd) && decide (dd ≤ d2 - d1)) = q1
  have hq' : q = true ↔ (dd < 1 ∨ d2 - d1 < dd) := by
    rw [← hq]
    simp only [Bool.not_eq_true', Bool.and_eq_false_iff, decide_eq_false_iff_not]
    omega
  clear hq
  (rw [Kseq_app]; simp only [vmark, seqN, sameBox, boxJs, vquietR, vopsR, RetC, retW, cellR, undV, vgA, vbinN, vnn, isNilC, isIf, vconvH, vconvO, cvOk, frz1, frzE, jsOk, jsCo, rowsH, vgcH, vgH, vopsT, stepE, vg_skip, vg_label, vg_seq, vg_region, vg_cond, vg_block, vg_exit, vg_ret, vg_loop, vcallF, vcallH, uls, HdelK, memN, noBox, ninL, keysH, jsAt, AdSub, adopt, noEl, isNil, effL, effO, vopsD, vquiet, vfstD, ldq, ldOk, vops, vfst, vone, vact, ug, addL, vbox, valloc, vstore, vbuild, arrF, vbuildSlice, vappend, vmake, zeroS, zeroE, vstrB, apC, nrm, nr1, nrL, keyL, neqs, diffs, V.app, V.len, vsrc, vdst, mkSl, mkBy, inOrd, placeAll, V.one, V.sto, V.csize, V.parts, V.cellsL, setMany, V.setB, V.setE, V.setO, V.noOwn, V.isOwn, vq, vcall, fzA, fz, fz1, fzL, fzN, rts, rt1, V.er, er1, er2, mixA, mixK, uargs, u1, R.add, vop, vbin, vint2, vstr2, vbool2, vnum, vun, vpick, vpick1, vbool, vconv, vnil, vfieldAddr, vindexAddr, vstEq, vindex, vload, vfield, aggD, vslice, bnd, uopt, vlen, vmin, vextract, Hpk, Hroot, refV, ownR, V.i, V.elems, V.cell, V.cut, V.exact, V.ex0, exL, V.cl, clL, V.sc, scL, scO, scH, V.ct, ct1, ct2, RetP, RetK, RetH, retL, retOne, Back, Veq, subH, obs, obsIf, En.get, En.put, En.ev, enOf, gcond, wantB, constV, exGet, subE, Sub, RV, RVL, NR, RO, subER, subHR, newLt, oldNe, oldOk, oldGe, notIn, ivN, lookN, SubR, Nm.root, Nat.reduceMul, Nat.reduceLeDiff, Nat.reduceEqDiff, Nat.reduceLT, Nat.reduceAdd, Nat.reduceSub, ↓reduceIte, implies_true, reduceCtorEq, ne_eq, ↓shr_eq, IntKind.bits, Int.reduceToNat, Int.reducePow, dite_eq_ite, Value.oneCell', Nat.reduceBEq, Nat.reduceDiv, bnS, bnN, bnT, GK2, GK2f])
  refine ⟨fun hb => ?_, fun hb => ?_⟩
  · rw [hr1 (hq'.1 hb)]
    (rw [Kseq_app]; simp only [vmark, seqN, sameBox, boxJs, vquietR, vopsR, RetC, retW, cellR, undV, vgA, vbinN, vnn, isNilC, isIf, vconvH, vconvO, cvOk, frz1, frzE, jsOk, jsCo, rowsH, vgcH, vgH, vopsT, stepE, vg_skip, vg_label, vg_seq, vg_region, vg_cond, vg_block, vg_exit, vg_ret, vg_loop, vcallF, vcallH, uls, HdelK, memN, noBox, ninL, keysH, jsAt, AdSub, adopt, noEl, isNil, effL, effO, vopsD, vquiet, vfstD, ldq, ldOk, vops, vfst, vone, vact, ug, addL, vbox, valloc, vstore, vbuild, arrF, vbuildSlice, vappend, vmake, zeroS, zeroE, vstrB, apC, nrm, nr1, nrL, keyL, neqs, diffs, V.app, V.len, vsrc, vdst, mkSl, mkBy, inOrd, placeAll, V.one, V.sto, V.csize, V.parts, V.cellsL, setMany, V.setB, V.setE, V.setO, V.noOwn, V.isOwn, vq, vcall, fzA, fz, fz1, fzL, fzN, rts, rt1, V.er, er1, er2, mixA, mixK, uargs, u1, R.add, vop, vbin, vint2, vstr2, vbool2, vnum, vun, vpick, vpick1, vbool, vconv, vnil, vfieldAddr, vindexAddr, vstEq, vindex, vload, vfield, aggD, vslice, bnd, uopt, vlen, vmin, vextract, Hpk, Hroot, refV, ownR, V.i, V.elems, V.cell, V.cut, V.exact, V.ex0, exL, V.cl, clL, V.sc, scL, scO, scH, V.ct, ct1, ct2, RetP, RetK, RetH, retL, retOne, Back, Veq, subH, obs, obsIf, En.get, En.put, En.ev, enOf, gcond, wantB, constV, exGet, subE, Sub, RV, RVL, NR, RO, subER, subHR, newLt, oldNe, oldOk, oldGe, notIn, ivN, lookN, SubR, Nm.root, Nat.reduceMul, Nat.reduceLeDiff, Nat.reduceEqDiff, Nat.reduceLT, Nat.reduceAdd, Nat.reduceSub, ↓reduceIte, implies_true, reduceCtorEq, ne_eq, ↓shr_eq, IntKind.bits, Int.reduceToNat, Int.reducePow, dite_eq_ite, Value.oneCell', Nat.reduceBEq, Nat.reduceDiv, bnS, bnN, bnT, GK2, GK2f])
    refine RenC.intro [] ⟨[(2, .i 0), (3, .bb false)], [], 0⟩ ?_ ?_ <;> simp only [vmark, seqN, sameBox, boxJs, vquietR, vopsR, RetC, retW, cellR, undV, vgA, vbinN, vnn, isNilC, isIf, vconvH, vconvO, cvOk, frz1, frzE, jsOk, jsCo, rowsH, vgcH, vgH, vopsT, stepE, Kseq_app, vg_skip, vg_label, vg_seq, vg_region, vg_cond, vg_block, vg_exit, vg_ret, vg_loop, vcallF, vcallH, uls, HdelK, memN, noBox, ninL, keysH, jsAt, AdSub, adopt, noEl, isNil, effL, effO, vopsD, vquiet, vfstD, ldq, ldOk, vops, vfst, vone, vact, ug, addL, vbox, valloc, vstore, vbuild, arrF, vbuildSlice, vappend, vmake, zeroS, zeroE, vstrB, apC, nrm, nr1, nrL, keyL, neqs, diffs, V.app, V.len, vsrc, vdst, mkSl, mkBy, inOrd, placeAll, V.one, V.sto, V.csize, V.parts, V.cellsL, setMany, V.setB, V.setE, V.setO, V.noOwn, V.isOwn, vq, vcall, fzA, fz, fz1, fzL, fzN, rts, rt1, V.er, er1, er2, mixA, mixK, uargs, u1, R.add, vop, vbin, vint2, vstr2, vbool2, vnum, vun, vpick, vpick1, vbool, vconv, vnil, vfieldAddr, vindexAddr, vstEq, vindex, vload, vfield, aggD, vslice, bnd, uopt, vlen, vmin, vextract, Hpk, Hroot, refV, ownR, V.i, V.elems, V.cell, V.cut, V.exact, V.ex0, exL, V.cl, clL, V.sc, scL, scO, scH, V.ct, ct1, ct2, RetP, RetK, RetH, retL, retOne, Back, Veq, subH, obs, obsIf, En.get, En.put, En.ev, enOf, gcond, wantB, constV, exGet, subE, Sub, RV, RVL, NR, RO, subER, subHR, newLt, oldNe, oldOk, oldGe, notIn, ivN, lookN, SubR, Nm.root, Nat.reduceMul, Nat.reduceLeDiff, Nat.reduceEqDiff, Nat.reduceLT, Nat.reduceAdd, Nat.reduceSub, ↓reduceIte, implies_true, reduceCtorEq, ne_eq, ↓shr_eq, IntKind.bits, Int.reduceToNat, Int.reducePow, dite_eq_ite, Value.oneCell', Nat.reduceBEq, Nat.reduceDiv, bnS, bnN, bnT]
  · have hn : ¬ (dd < 1 ∨ d2 - d1 < dd) := fun h => by rw [hq'.2 h] at hb; cases hb
    rw [hr2 (by omega) (by omega)]
    (rw [Kseq_app]; simp only [vmark, seqN, sameBox, boxJs, vquietR, vopsR, RetC, retW, cellR, undV, vgA, vbinN, vnn, isNilC, isIf, vconvH, vconvO, cvOk, frz1, frzE, jsOk, jsCo, rowsH, vgcH, vgH, vopsT, stepE, vg_skip, vg_label, vg_seq, vg_region, vg_cond, vg_block, vg_exit, vg_ret, vg_loop, vcallF, vcallH, uls, HdelK, memN, noBox, ninL, keysH, jsAt, AdSub, adopt, noEl, isNil, effL, effO, vopsD, vquiet, vfstD, ldq, ldOk, vops, vfst, vone, vact, ug, addL, vbox, valloc, vstore, vbuild, arrF, vbuildSlice, vappend, vmake, zeroS, zeroE, vstrB, apC, nrm, nr1, nrL, keyL, neqs, diffs, V.app, V.len, vsrc, vdst, mkSl, mkBy, inOrd, placeAll, V.one, V.sto, V.csize, V.parts, V.cellsL, setMany, V.setB, V.setE, V.setO, V.noOwn, V.isOwn, vq, vcall, fzA, fz, fz1, fzL, fzN, rts, rt1, V.er, er1, er2, mixA, mixK, uargs, u1, R.add, vop, vbin, vint2, vstr2, vbool2, vnum, vun, vpick, vpick1, vbool, vconv, vnil, vfieldAddr, vindexAddr, vstEq, vindex, vload, vfield, aggD, vslice, bnd, uopt, vlen, vmin, vextract, Hpk, Hroot, refV, ownR, V.i, V.elems, V.cell, V.cut, V.exact, V.ex0, exL, V.cl, clL, V.sc, scL, scO, scH, V.ct, ct1, ct2, RetP, RetK, RetH, retL, retOne, Back, Veq, subH, obs, obsIf, En.get, En.put, En.ev, enOf, gcond, wantB, constV, exGet, subE, Sub, RV, RVL, NR, RO, subER, subHR, newLt, oldNe, oldOk, oldGe, notIn, ivN, lookN, SubR, Nm.root, Nat.reduceMul, Nat.reduceLeDiff, Nat.reduceEqDiff, Nat.reduceLT, Nat.reduceAdd, Nat.reduceSub, ↓reduceIte, implies_true, reduceCtorEq, ne_eq, ↓shr_eq, IntKind.bits, Int.reduceToNat, Int.reducePow, dite_eq_ite, Value.oneCell', Nat.reduceBEq, Nat.reduceDiv, bnS, bnN, bnT, GK2, GK2f, e7, e8, e9, e10, e11, e12, e13])
    refine ⟨by constructor <;> omega, by constructor <;> omega, by constructor <;> omega, by constructor <;> omega, by constructor <;> omega, by constructor <;> omega, by constructor <;> omega, by constructor <;> omega, ?_⟩
    generalize hR : (d1 + dd - 1) * 86400 + (ho * 3600 + mi * 60 + ss) = res
    refine RenC.intro [] ⟨[(2, .i res), (3, .bb true)], [], 0⟩ ?_ ?_ <;> simp only [vmark, seqN, sameBox, boxJs, vquietR, vopsR, RetC, retW, cellR, undV, vgA, vbinN, vnn, isNilC, isIf, vconvH, vconvO, cvOk, frz1, frzE, jsOk, jsCo, rowsH, vgcH, vgH, vopsT, stepE, Kseq_app, vg_skip, vg_label, vg_seq, vg_region, vg_cond, vg_block, vg_exit, vg_ret, vg_loop, vcallF, vcallH, uls, HdelK, memN, noBox, ninL, keysH, jsAt, AdSub, adopt, noEl, isNil, effL, effO, vopsD, vquiet, vfstD, ldq, ldOk, vops, vfst, vone, vact, ug, addL, vbox, valloc, vstore, vbuild, arrF, vbuildSlice, vappend, vmake, zeroS, zeroE, vstrB, apC, nrm, nr1, nrL, keyL, neqs, diffs, V.app, V.len, vsrc, vdst, mkSl, mkBy, inOrd, placeAll, V.one, V.sto, V.csize, V.parts, V.cellsL, setMany, V.setB, V.setE, V.setO, V.noOwn, V.isOwn, vq, vcall, fzA, fz, fz1, fzL, fzN, rts, rt1, V.er, er1, er2, mixA, mixK, uargs, u1, R.add, vop, vbin, vint2, vstr2, vbool2, vnum, vun, vpick, vpick1, vbool, vconv, vnil, vfieldAddr, vindexAddr, vstEq, vindex, vload, vfield, aggD, vslice, bnd, uopt, vlen, vmin, vextract, Hpk, Hroot, refV, ownR, V.i, V.elems, V.cell, V.cut, V.exact, V.ex0, exL, V.cl, clL, V.sc, scL, scO, scH, V.ct, ct1, ct2, RetP, RetK, RetH, retL, retOne, Back, Veq, subH, obs, obsIf, En.get, En.put, En.ev, enOf, gcond, wantB, constV, exGet, subE, Sub, RV, RVL, NR, RO, subER, subHR, newLt, oldNe, oldOk, oldGe, notIn, ivN, lookN, SubR, Nm.root, Nat.reduceMul, Nat.reduceLeDiff, Nat.reduceEqDiff, Nat.reduceLT, Nat.reduceAdd, Nat.reduceSub, ↓reduceIte, implies_true, reduceCtorEq, ne_eq, ↓shr_eq, IntKind.bits, Int.reduceToNat, Int.reducePow, dite_eq_ite, Value.oneCell', Nat.reduceBEq, Nat.reduceDiv, bnS, bnN, bnT]
theorem Sec_t7 (E : En) (H : List (Nat × Ob)) (yy mo dd ho mi ss : Int) (r : Int × Bool) (e7 : E.get 7 = some (.val (.int .i64 yy))) (e8 : E.get 8 = some (.val (.int .i64 mo))) (e9 : E.get 9 = some (.val (.int .i64 dd))) (e10 : E.get 10 = some (.val (.int .i64 ho))) (e11 : E.get 11 = some (.val (.int .i64 mi))) (e12 : E.get 12 = some (.val (.int .i64 ss))) (hy1 : 1950 ≤ yy) (hy2 : yy ≤ 9999) (hm1 : 1 ≤ mo) (hm2 : mo ≤ 12) (hh1 : 0 ≤ ho) (hh2 : ho ≤ 23) (hi1 : 0 ≤ mi) (hi2 : mi ≤ 59) (hs1 : 0 ≤ ss) (hs2 : ss ≤ 59) (hd1 : -1 ≤ dd) (hd2 : dd ≤ 99)
    (hr1 : dd < 1 ∨ monF yy mo < dd → r = (0, false)) (hr2 : 1 ≤ dd → dd ≤ monF yy mo → r = ((daysF yy mo 1 + dd - 1) * 86400 + (ho * 3600 + mi * 60 + ss), true)) :
    Kseq Tryz.prog GK2 (rst (rst (rst (rst (rst (rst (rst pbody))))))) (KoP r) ⟨E, H, 1⟩ := by
  have st := mon_eq yy mo (by omega) (by omega)
  have b1 := daysF_range yy mo 1 (by omega) (by omega) (by omega) (by omega) (by omega) (by omega)
  have b2 := daysF_range yy (mo + 1) 1 (by omega) (by omega) (by omega) (by omega) (by omega) (by omega)
  simp only [pbody, rst, Tryz.f6, Option.getD_some, KoP]
  (rw [Kseq_app]; simp only [vmark, seqN, sameBox, boxJs, vquietR, vopsR, RetC, retW, cellR, undV, vgA, vbinN, vnn, isNilC, isIf, vconvH, vconvO, cvOk, frz1, frzE, jsOk, jsCo, rowsH, vgcH, vgH, vopsT, stepE, vg_skip, vg_label, vg_seq, vg_region, vg_cond, vg_block, vg_exit, vg_ret, vg_loop, vcallF, vcallH, uls, HdelK, memN, noBox, ninL, keysH, jsAt, AdSub, adopt, noEl, isNil, effL, effO, vopsD, vquiet, vfstD, ldq, ldOk, vops, vfst, vone, vact, ug, addL, vbox, valloc, vstore, vbuild, arrF, vbuildSlice, vappend, vmake, zeroS, zeroE, vstrB, apC, nrm, nr1, nrL, keyL, neqs, diffs, V.app, V.len, vsrc, vdst, mkSl, mkBy, inOrd, placeAll, V.one, V.sto, V.csize, V.parts, V.cellsL, setMany, V.setB, V.setE, V.setO, V.noOwn, V.isOwn, vq, vcall, fzA, fz, fz1, fzL, fzN, rts, rt1, V.er, er1, er2, mixA, mixK, uargs, u1, R.add, vop, vbin, vint2, vstr2, vbool2, vnum, vun, vpick, vpick1, vbool, vconv, vnil, vfieldAddr, vindexAddr, vstEq, vindex, vload, vfield, aggD, vslice, bnd, uopt, vlen, vmin, vextract, Hpk, Hroot, refV, ownR, V.i, V.elems, V.cell, V.cut, V.exact, V.ex0, exL, V.cl, clL, V.sc, scL, scO, scH, V.ct, ct1, ct2, RetP, RetK, RetH, retL, retOne, Back, Veq, subH, obs, obsIf, En.get, En.put, En.ev, enOf, gcond, wantB, constV, exGet, subE, Sub, RV, RVL, NR, RO, subER, subHR, newLt, oldNe, oldOk, oldGe, notIn, ivN, lookN, SubR, Nm.root, Nat.reduceMul, Nat.reduceLeDiff, Nat.reduceEqDiff, Nat.reduceLT, Nat.reduceAdd, Nat.reduceSub, ↓reduceIte, implies_true, reduceCtorEq, ne_eq, ↓shr_eq, IntKind.bits, Int.reduceToNat, Int.reducePow, dite_eq_ite, Value.oneCell', Nat.reduceBEq, Nat.reduceDiv, bnS, bnN, bnT, GK2, GK2f, e7, e8, e9, e10, e11, e12])
  refine ⟨by omega, by omega, by omega, by omega, by omega, by omega, ?_⟩
  generalize daysF yy mo 1 = d1 at *
  generalize hD2 : daysF yy (mo + 1) 1 = d2 at *
  refine Sec_t8 _ H yy mo dd ho mi ss d1 d2 r ?_ ?_ ?_ ?_ ?_ ?_ ?_ hy1 hy2 hm1 hm2 hh1 hh2 hi1 hi2 hs1 hs2 hd1 hd2 hD2 (by omega) (by omega) (by omega) (by omega) (fun h => hr1 (by omega)) (fun h1 h2 => hr2 (by omega) (by omega))
  all_goals simp only [En.get, Nat.reduceEqDiff, if_false, if_true, e7, e8, e9, e10, e11, e12]
theorem Sec_t6 (E : En) (H : List (Nat × Ob)) (least yy mo dd ho mi ss : Int) (r : Int × Bool) (e5 : E.get 5 = some (.val (.int .i64 least))) (e7 : E.get 7 = some (.val (.int .i64 yy))) (e8 : E.get 8 = some (.val (.int .i64 mo))) (e9 : E.get 9 = some (.val (.int .i64 dd))) (e10 : E.get 10 = some (.val (.int .i64 ho))) (e11 : E.get 11 = some (.val (.int .i64 mi))) (e12 : E.get 12 = some (.val (.int .i64 ss))) (hl : 1950 ≤ least) (hy1 : -1 ≤ yy) (hy2 : yy ≤ 9999) (hm1 : -1 ≤ mo) (hm2 : mo ≤ 99) (hd1 : -1 ≤ dd) (hd2 : dd ≤ 99) (hh1 : -1 ≤ ho) (hh2 : ho ≤ 99) (hi1 : -1 ≤ mi) (hi2 : mi ≤ 99) (hs1 : -1 ≤ ss) (hs2 : ss ≤ 99)
    (hr0 : yy < least ∨ mo < 1 ∨ 12 < mo ∨ ho < 0 ∨ 23 < ho ∨ mi < 0 ∨ 59 < mi ∨ ss < 0 ∨ 59 < ss → r = (0, false))
    (hr1 : ¬ (yy < least ∨ mo < 1 ∨ 12 < mo ∨ ho < 0 ∨ 23 < ho ∨ mi < 0 ∨ 59 < mi ∨ ss < 0 ∨ 59 < ss) → dd < 1 ∨ monF yy mo < dd → r = (0, false))
    (hr2 : ¬ (yy < least ∨ mo < 1 ∨ 12 < mo ∨ ho < 0 ∨ 23 < ho ∨ mi < 0 ∨ 59 < mi ∨ ss < 0 ∨ 59 < ss) → 1 ≤ dd → dd ≤ monF yy mo → r = ((daysF yy mo 1 + dd - 1) * 86400 + (ho * 3600 + mi * 60 + ss), true)) :
    Kseq Tryz.prog GK2 (rst (rst (rst (rst (rst (rst pbody)))))) (KoP r) ⟨E, H, 1⟩ := by
  simp only [pbody, rst, Tryz.f6, Option.getD_some, KoP]
  (rw [Kseq_app]; simp only [vmark, seqN, sameBox, boxJs, vquietR, vopsR, RetC, retW, cellR, undV, vgA, vbinN, vnn, isNilC, isIf, vconvH, vconvO, cvOk, frz1, frzE, jsOk, jsCo, rowsH, vgcH, vgH, vopsT, stepE, vg_skip, vg_label, vg_seq, vg_region, vg_cond, vg_block, vg_exit, vg_ret, vg_loop, vcallF, vcallH, uls, HdelK, memN, noBox, ninL, keysH, jsAt, AdSub, adopt, noEl, isNil, effL, effO, vopsD, vquiet, vfstD, ldq, ldOk, vops, vfst, vone, vact, ug, addL, vbox, valloc, vstore, vbuild, arrF, vbuildSlice, vappend, vmake, zeroS, zeroE, vstrB, apC, nrm, nr1, nrL, keyL, neqs, diffs, V.app, V.len, vsrc, vdst, mkSl, mkBy, inOrd, placeAll, V.one, V.sto, V.csize, V.parts, V.cellsL, setMany, V.setB, V.setE, V.setO, V.noOwn, V.isOwn, vq, vcall, fzA, fz, fz1, fzL, fzN, rts, rt1, V.er, er1, er2, mixA, mixK, uargs, u1, R.add, vop, vbin, vint2, vstr2, vbool2, vnum, vun, vpick, vpick1, vbool, vconv, vnil, vfieldAddr, vindexAddr, vstEq, vindex, vload, vfield, aggD, vslice, bnd, uopt, vlen, vmin, vextract, Hpk, Hroot, refV, ownR, V.i, V.elems, V.cell, V.cut, V.exact, V.ex0, exL, V.cl, clL, V.sc, scL, scO, scH, V.ct, ct1, ct2, RetP, RetK, RetH, retL, retOne, Back, Veq, subH, obs, obsIf, En.get, En.put, En.ev, enOf, gcond, wantB, constV, exGet, subE, Sub, RV, RVL, NR, RO, subER, subHR, newLt, oldNe, oldOk, oldGe, notIn, ivN, lookN, SubR, Nm.root, Nat.reduceMul, Nat.reduceLeDiff, Nat.reduceEqDiff, Nat.reduceLT, Nat.reduceAdd, Nat.reduceSub, ↓reduceIte, implies_true, reduceCtorEq, ne_eq, ↓shr_eq, IntKind.bits, Int.reduceToNat, Int.reducePow, dite_eq_ite, Value.oneCell', Nat.reduceBEq, Nat.reduceDiv, bnS, bnN, bnT, GK2, GK2f, e5, e7, e8, e9, e10, e11, e12])
  generalize hq : (decide (yy < least) || !(decide (1 ≤ mo) && decide (mo ≤ 12)) || !(decide (0 ≤ ho) && decide (ho ≤ 23)) || !(decide (0 ≤ mi) && decide (mi ≤ 59)) || !(decide (0 ≤ ss) && decide (ss ≤ 59))) = q
  generalize (decide (yy < least) || !(decide (1 ≤ mo) && decide (mo ≤ 12)) || !(decide (0 ≤ ho) && decide (ho ≤ 23)) || !(decide (0 ≤ mi) && decide (mi ≤ 59))) = q1
  generalize (decide (yy < least) || !(decide (1 ≤ mo) && decide (mo ≤ 12)) || !(decide (0 ≤ ho) && decide (ho ≤ 23))) = q2
  generalize (decide (yy < least) || !(decide (1 ≤ mo) && decide (mo ≤ 12))) = q3
  generalize (decide (0 ≤ ss) && decide (ss ≤ 59)) = q4
  generalize (decide (0 ≤ mi) && decide (mi ≤ 59)) = q5
  generalize (decide (0 ≤ ho) && decide (ho ≤ 23)) = q6
  generalize (decide (1 ≤ mo) && decide (mo ≤ 12)) = q7
  generalize decide (yy < least) = q8
  have hq' : q = true ↔ (yy < least ∨ mo < 1 ∨ 12 < mo ∨ ho < 0 ∨ 23 < ho ∨ mi < 0 ∨ 59 < mi ∨ ss < 0 ∨ 59 < ss) := by
    rw [← hq]
    simp only [Bool.or_eq_true, Bool.not_eq_true', Bool.and_eq_false_iff, decide_eq_true_eq, decide_eq_false_iff_not]
    omega
  clear hq
  (rw [Kseq_app]; simp only [vmark, seqN, sameBox, boxJs, vquietR, vopsR, RetC, retW, cellR, undV, vgA, vbinN, vnn, isNilC, isIf, vconvH, vconvO, cvOk, frz1, frzE, jsOk, jsCo, rowsH, vgcH, vgH, vopsT, stepE, vg_skip, vg_label, vg_seq, vg_region, vg_cond, vg_block, vg_exit, vg_ret, vg_loop, vcallF, vcallH, uls, HdelK, memN, noBox, ninL, keysH, jsAt, AdSub, adopt, noEl, isNil, effL, effO, vopsD, vquiet, vfstD, ldq, ldOk, vops, vfst, vone, vact, ug, addL, vbox, valloc, vstore, vbuild, arrF, vbuildSlice, vappend, vmake, zeroS, zeroE, vstrB, apC, nrm, nr1, nrL, keyL, neqs, diffs, V.app, V.len, vsrc, vdst, mkSl, mkBy, inOrd, placeAll, V.one, V.sto, V.csize, V.parts, V.cellsL, setMany, V.setB, V.setE, V.setO, V.noOwn, V.isOwn, vq, vcall, fzA, fz, fz1, fzL, fzN, rts, rt1, V.er, er1, er2, mixA, mixK, uargs, u1, R.add, vop, vbin, vint2, vstr2, vbool2, vnum, vun, vpick, vpick1, vbool, vconv, vnil, vfieldAddr, vindexAddr, vstEq, vindex, vload, vfield, aggD, vslice, bnd, uopt, vlen, vmin, vextract, Hpk, Hroot, refV, ownR, V.i, V.elems, V.cell, V.cut, V.exact, V.ex0, exL, V.cl, clL, V.sc, scL, scO, scH, V.ct, ct1, ct2, RetP, RetK, RetH, retL, retOne, Back, Veq, subH, obs, obsIf, En.get, En.put, En.ev, enOf, gcond, wantB, constV, exGet, subE, Sub, RV, RVL, NR, RO, subER, subHR, newLt, oldNe, oldOk, oldGe, notIn, ivN, lookN, SubR, Nm.root, Nat.reduceMul, Nat.reduceLeDiff, Nat.reduceEqDiff, Nat.reduceLT, Nat.reduceAdd, Nat.reduceSub, ↓reduceIte, implies_true, reduceCtorEq, ne_eq, ↓shr_eq, IntKind.bits, Int.reduceToNat, Int.reducePow, dite_eq_ite, Value.oneCell', Nat.reduceBEq, Nat.reduceDiv, bnS, bnN, bnT, GK2, GK2f])
  refine ⟨fun hb => ?_, fun hb => ?_⟩
  · rw [hr0 (hq'.1 hb)]
    (rw [Kseq_app]; simp only [vmark, seqN, sameBox, boxJs, vquietR, vopsR, RetC, retW, cellR, undV, vgA, vbinN, vnn, isNilC, isIf, vconvH, vconvO, cvOk, frz1, frzE, jsOk, jsCo, rowsH, vgcH, vgH, vopsT, stepE, vg_skip, vg_label, vg_seq, vg_region, vg_cond, vg_block, vg_exit, vg_ret, vg_loop, vcallF, vcallH, uls, HdelK, memN, noBox, ninL, keysH, jsAt, AdSub, adopt, noEl, isNil, effL, effO, vopsD, vquiet, vfstD, ldq, ldOk, vops, vfst, vone, vact, ug, addL, vbox, valloc, vstore, vbuild, arrF, vbuildSlice, vappend, vmake, zeroS, zeroE, vstrB, apC, nrm, nr1, nrL, keyL, neqs, diffs, V.app, V.len, vsrc, vdst, mkSl, mkBy, inOrd, placeAll, V.one, V.sto, V.csize, V.parts, V.cellsL, setMany, V.setB, V.setE, V.setO, V.noOwn, V.isOwn, vq, vcall, fzA, fz, fz1, fzL, fzN, rts, rt1, V.er, er1, er2, mixA, mixK, uargs, u1, R.add, vop, vbin, vint2, vstr2, vbool2, vnum, vun, vpick, vpick1, vbool, vconv, vnil, vfieldAddr, vindexAddr, vstEq, vindex, vload, vfield, aggD, vslice, bnd, uopt, vlen, vmin, vextract, Hpk, Hroot, refV, ownR, V.i, V.elems, V.cell, V.cut, V.exact, V.ex0, exL, V.cl, clL, V.sc, scL, scO, scH, V.ct, ct1, ct2, RetP, RetK, RetH, retL, retOne, Back, Veq, subH, obs, obsIf, En.get, En.put, En.ev, enOf, gcond, wantB, constV, exGet, subE, Sub, RV, RVL, NR, RO, subER, subHR, newLt, oldNe, oldOk, oldGe, notIn, ivN, lookN, SubR, Nm.root, Nat.reduceMul, Nat.reduceLeDiff, Nat.reduceEqDiff, Nat.reduceLT, Nat.reduceAdd, Nat.reduceSub, ↓reduceIte, implies_true, reduceCtorEq, ne_eq, ↓shr_eq, IntKind.bits, Int.reduceToNat, Int.reducePow, dite_eq_ite, Value.oneCell', Nat.reduceBEq, Nat.reduceDiv, bnS, bnN, bnT, GK2, GK2f])
    refine RenC.intro [] ⟨[(2, .i 0), (3, .bb false)], [], 0⟩ ?_ ?_ <;> simp only [vmark, seqN, sameBox, boxJs, vquietR, vopsR, RetC, retW, cellR, undV, vgA, vbinN, vnn, isNilC, isIf, vconvH, vconvO, cvOk, frz1, frzE, jsOk, jsCo, rowsH, vgcH, vgH, vopsT, stepE, Kseq_app, vg_skip, vg_label, vg_seq, vg_region, vg_cond, vg_block, vg_exit, vg_ret, vg_loop, vcallF, vcallH, uls, HdelK, memN, noBox, ninL, keysH, jsAt, AdSub, adopt, noEl, isNil, effL, effO, vopsD, vquiet, vfstD, ldq, ldOk, vops, vfst, vone, vact, ug, addL, vbox, valloc, vstore, vbuild, arrF, vbuildSlice, vappend, vmake, zeroS, zeroE, vstrB, apC, nrm, nr1, nrL, keyL, neqs, diffs, V.app, V.len, vsrc, vdst, mkSl, mkBy, inOrd, placeAll, V.one, V.sto, V.csize, V.parts, V.cellsL, setMany, V.setB, V.setE, V.setO, V.noOwn, V.isOwn, vq, vcall, fzA, fz, fz1, fzL, fzN, rts, rt1, V.er, er1, er2, mixA, mixK, uargs, u1, R.add, vop, vbin, vint2, vstr2, vbool2, vnum, vun, vpick, vpick1, vbool, vconv, vnil, vfieldAddr, vindexAddr, vstEq, vindex, vload, vfield, aggD, vslice, bnd, uopt, vlen, vmin, vextract, Hpk, Hroot, refV, ownR, V.i, V.elems, V.cell, V.cut, V.exact, V.ex0, exL, V.cl, clL, V.sc, scL, scO, scH, V.ct, ct1, ct2, RetP, RetK, RetH, retL, retOne, Back, Veq, subH, obs, obsIf, En.get, En.put, En.ev, enOf, gcond, wantB, constV, exGet, subE, Sub, RV, RVL, NR, RO, subER, subHR, newLt, oldNe, oldOk, oldGe, notIn, ivN, lookN, SubR, Nm.root, Nat.reduceMul, Nat.reduceLeDiff, Nat.reduceEqDiff, Nat.reduceLT, Nat.reduceAdd, Nat.reduceSub, ↓reduceIte, implies_true, reduceCtorEq, ne_eq, ↓shr_eq, IntKind.bits, Int.reduceToNat, Int.reducePow, dite_eq_ite, Value.oneCell', Nat.reduceBEq, Nat.reduceDiv, bnS, bnN, bnT]
  · have hn : ¬ (yy < least ∨ mo < 1 ∨ 12 < mo ∨ ho < 0 ∨ 23 < ho ∨ mi < 0 ∨ 59 < mi ∨ ss < 0 ∨ 59 < ss) := fun h => by rw [hq'.2 h] at hb; cases hb
    refine Sec_t7 _ H yy mo dd ho mi ss r ?_ ?_ ?_ ?_ ?_ ?_ (by omega) (by omega) (by omega) (by omega) (by omega) (by omega) (by omega) (by omega) (by omega) (by omega) hd1 hd2 (hr1 hn) (hr2 hn)
    all_goals simp only [En.get, Nat.reduceEqDiff, if_false, if_true, e7, e8, e9, e10, e11, e12]
theorem Sec_t5 (E : En) (H : List (Nat × Ob)) (S m : List UInt8) (least yy : Int) (r : Int × Bool) (e4 : E.get 4 = some (.str S)) (e5 : E.get 5 = some (.val (.int .i64 least))) (e7 : E.get 7 = some (.val (.int .i64 yy))) (e8 : E.get 8 = some (.val (.int .i64 (twoF m 0)))) (e9 : E.get 9 = some (.val (.int .i64 (twoF m 2))))
    (hS : S.length = 15) (c4 : numF (cutL S 8 2) = twoF m 4) (c6 : numF (cutL S 10 2) = twoF m 6) (c8 : numF (cutL S 12 2) = twoF m 8) (hz : byteAt m 10 = 90)
    (hl : 1950 ≤ least) (hy1 : -1 ≤ yy) (hy2 : yy ≤ 9999) (hr0 : yy < least → r = (0, false)) (hr1 : least ≤ yy → r = tailF yy m) :
    Kseq Tryz.prog GK2 (rst (rst (rst (rst (rst pbody))))) (KoP r) ⟨E, H, 1⟩ := by
  have l8 : (cutL S 8 2).length = 2 := by rw [cutL_eq]; simp; omega
  have l10 : (cutL S 10 2).length = 2 := by rw [cutL_eq]; simp; omega
  have l12 : (cutL S 12 2).length = 2 := by rw [cutL_eq]; simp; omega
  have r0 := twoF_range m 0
  have r2 := twoF_range m 2
  have r4 := twoF_range m 4
  have r6 := twoF_range m 6
  have r8 := twoF_range m 8
  simp only [pbody, rst, Tryz.f6, Option.getD_some, KoP]
  (rw [Kseq_app]; simp only [vmark, seqN, sameBox, boxJs, vquietR, vopsR, RetC, retW, cellR, undV, vgA, vbinN, vnn, isNilC, isIf, vconvH, vconvO, cvOk, frz1, frzE, jsOk, jsCo, rowsH, vgcH, vgH, vopsT, stepE, vg_skip, vg_label, vg_seq, vg_region, vg_cond, vg_block, vg_exit, vg_ret, vg_loop, vcallF, vcallH, uls, HdelK, memN, noBox, ninL, keysH, jsAt, AdSub, adopt, noEl, isNil, effL, effO, vopsD, vquiet, vfstD, ldq, ldOk, vops, vfst, vone, vact, ug, addL, vbox, valloc, vstore, vbuild, arrF, vbuildSlice, vappend, vmake, zeroS, zeroE, vstrB, apC, nrm, nr1, nrL, keyL, neqs, diffs, V.app, V.len, vsrc, vdst, mkSl, mkBy, inOrd, placeAll, V.one, V.sto, V.csize, V.parts, V.cellsL, setMany, V.setB, V.setE, V.setO, V.noOwn, V.isOwn, vq, vcall, fzA, fz, fz1, fzL, fzN, rts, rt1, V.er, er1, er2, mixA, mixK, uargs, u1, R.add, vop, vbin, vint2, vstr2, vbool2, vnum, vun, vpick, vpick1, vbool, vconv, vnil, vfieldAddr, vindexAddr, vstEq, vindex, vload, vfield, aggD, vslice, bnd, uopt, vlen, vmin, vextract, Hpk, Hroot, refV, ownR, V.i, V.elems, V.cell, V.cut, V.exact, V.ex0, exL, V.cl, clL, V.sc, scL, scO, scH, V.ct, ct1, ct2, RetP, RetK, RetH, retL, retOne, Back, Veq, subH, obs, obsIf, En.get, En.put, En.ev, enOf, gcond, wantB, constV, exGet, subE, Sub, RV, RVL, NR, RO, subER, subHR, newLt, oldNe, oldOk, oldGe, notIn, ivN, lookN, SubR, Nm.root, Nat.reduceMul, Nat.reduceLeDiff, Nat.reduceEqDiff, Nat.reduceLT, Nat.reduceAdd, Nat.reduceSub, ↓reduceIte, implies_true, reduceCtorEq, ne_eq, ↓shr_eq, IntKind.bits, Int.reduceToNat, Int.reducePow, dite_eq_ite, Value.oneCell', Nat.reduceBEq, Nat.reduceDiv, bnS, bnN, bnT, GK2, GK2f])
  refine DrawC.lex (by kernel_rfl) ?_
  simp only [vmark, seqN, sameBox, boxJs, vquietR, vopsR, RetC, retW, cellR, undV, vgA, vbinN, vnn, isNilC, isIf, vconvH, vconvO, cvOk, frz1, frzE, jsOk, jsCo, rowsH, vgcH, vgH, vopsT, stepE, vg_skip, vg_label, vg_seq, vg_region, vg_cond, vg_block, vg_exit, vg_ret, vg_loop, vcallF, vcallH, uls, HdelK, memN, noBox, ninL, keysH, jsAt, AdSub, adopt, noEl, isNil, effL, effO, vopsD, vquiet, vfstD, ldq, ldOk, vops, vfst, vone, vact, ug, addL, vbox, valloc, vstore, vbuild, arrF, vbuildSlice, vappend, vmake, zeroS, zeroE, vstrB, apC, nrm, nr1, nrL, keyL, neqs, diffs, V.app, V.len, vsrc, vdst, mkSl, mkBy, inOrd, placeAll, V.one, V.sto, V.csize, V.parts, V.cellsL, setMany, V.setB, V.setE, V.setO, V.noOwn, V.isOwn, vq, vcall, fzA, fz, fz1, fzL, fzN, rts, rt1, V.er, er1, er2, mixA, mixK, uargs, u1, R.add, vop, vbin, vint2, vstr2, vbool2, vnum, vun, vpick, vpick1, vbool, vconv, vnil, vfieldAddr, vindexAddr, vstEq, vindex, vload, vfield, aggD, vslice, bnd, uopt, vlen, vmin, vextract, Hpk, Hroot, refV, ownR, V.i, V.elems, V.cell, V.cut, V.exact, V.ex0, exL, V.cl, clL, V.sc, scL, scO, scH, V.ct, ct1, ct2, RetP, RetK, RetH, retL, retOne, Back, Veq, subH, obs, obsIf, En.get, En.put, En.ev, enOf, gcond, wantB, constV, exGet, subE, Sub, RV, RVL, NR, RO, subER, subHR, newLt, oldNe, oldOk, oldGe, notIn, ivN, lookN, SubR, Nm.root, Nat.reduceMul, Nat.reduceLeDiff, Nat.reduceEqDiff, Nat.reduceLT, Nat.reduceAdd, Nat.reduceSub, ↓reduceIte, implies_true, reduceCtorEq, ne_eq, ↓shr_eq, IntKind.bits, Int.reduceToNat, Int.reducePow, dite_eq_ite, Value.oneCell', Nat.reduceBEq, Nat.reduceDiv, bnS, bnN, bnT, GK2, GK2f, e4, c4, c6, c8, l8, l10, l12, hS]
  repeat (with_reducible refine And.intro ?_ ?_; · omega)
  unfold tailF badT at hr1
  rw [hz] at hr1
  generalize twoF m 0 = mo at *
  generalize twoF m 2 = dd at *
  generalize twoF m 4 = ho at *
  generalize twoF m 6 = mi at *
  generalize twoF m 8 = ss at *
  refine Sec_t6 _ H least yy mo dd ho mi ss r ?_ ?_ ?_ ?_ ?_ ?_ ?_ hl (by omega) (by omega) (by omega) (by omega) (by omega) (by omega) (by omega) (by omega) (by omega) (by omega) (by omega) (by omega) (fun h => ?_) (fun h h2 => ?_) (fun h h2 h3 => ?_)
  case refine_8 =>
    by_cases hy : yy < least
    · exact hr0 hy
    · rw [hr1 (by omega), if_pos]
      simp only [Bool.or_eq_true, decide_eq_true_eq]
      omega
  case refine_9 =>
    rw [hr1 (by omega), if_pos]
    simp only [Bool.or_eq_true, decide_eq_true_eq]
    omega
  case refine_10 =>
    rw [hr1 (by omega), if_neg]
    simp only [Bool.or_eq_true, decide_eq_true_eq, beq_self_eq_true, Bool.not_true, Bool.false_eq_true, or_false]
    omega
  all_goals simp only [En.get, Nat.reduceEqDiff, if_false, if_true, e5, e7, e8, e9]
theorem Sec_t4 (E : En) (H : List (Nat × Ob)) (S m : List UInt8) (least yy : Int) (r : Int × Bool) (e4 : E.get 4 = some (.str S)) (e5 : E.get 5 = some (.val (.int .i64 least)))
    (hS : S.length = 15) (cY : numF (cutL S 0 4) = yy) (c0 : numF (cutL S 4 2) = twoF m 0) (c2 : numF (cutL S 6 2) = twoF m 2) (c4 : numF (cutL S 8 2) = twoF m 4) (c6 : numF (cutL S 10 2) = twoF m 6) (c8 : numF (cutL S 12 2) = twoF m 8) (hz : byteAt m 10 = 90)
    (hl : 1950 ≤ least) (hy1 : -1 ≤ yy) (hy2 : yy ≤ 9999) (hr0 : yy < least → r = (0, false)) (hr1 : least ≤ yy → r = tailF yy m) :
    Kseq Tryz.prog GK2 (rst (rst (rst (rst pbody)))) (KoP r) ⟨E, H, 1⟩ := by
  have l4 : (cutL S 0 4).length = 4 := by rw [cutL_eq]; simp; omega
  have l6 : (cutL S 4 2).length = 2 := by rw [cutL_eq]; simp; omega
  have l8 : (cutL S 6 2).length = 2 := by rw [cutL_eq]; simp; omega
  simp only [pbody, rst, Tryz.f6, Option.getD_some, KoP]
  (rw [Kseq_app]; simp only [vmark, seqN, sameBox, boxJs, vquietR, vopsR, RetC, retW, cellR, undV, vgA, vbinN, vnn, isNilC, isIf, vconvH, vconvO, cvOk, frz1, frzE, jsOk, jsCo, rowsH, vgcH, vgH, vopsT, stepE, vg_skip, vg_label, vg_seq, vg_region, vg_cond, vg_block, vg_exit, vg_ret, vg_loop, vcallF, vcallH, uls, HdelK, memN, noBox, ninL, keysH, jsAt, AdSub, adopt, noEl, isNil, effL, effO, vopsD, vquiet, vfstD, ldq, ldOk, vops, vfst, vone, vact, ug, addL, vbox, valloc, vstore, vbuild, arrF, vbuildSlice, vappend, vmake, zeroS, zeroE, vstrB, apC, nrm, nr1, nrL, keyL, neqs, diffs, V.app, V.len, vsrc, vdst, mkSl, mkBy, inOrd, placeAll, V.one, V.sto, V.csize, V.parts, V.cellsL, setMany, V.setB, V.setE, V.setO, V.noOwn, V.isOwn, vq, vcall, fzA, fz, fz1, fzL, fzN, rts, rt1, V.er, er1, er2, mixA, mixK, uargs, u1, R.add, vop, vbin, vint2, vstr2, vbool2, vnum, vun, vpick, vpick1, vbool, vconv, vnil, vfieldAddr, vindexAddr, vstEq, vindex, vload, vfield, aggD, vslice, bnd, uopt, vlen, vmin, vextract, Hpk, Hroot, refV, ownR, V.i, V.elems, V.cell, V.cut, V.exact, V.ex0, exL, V.cl, clL, V.sc, scL, scO, scH, V.ct, ct1, ct2, RetP, RetK, RetH, retL, retOne, Back, Veq, subH, obs, obsIf, En.get, En.put, En.ev, enOf, gcond, wantB, constV, exGet, subE, Sub, RV, RVL, NR, RO, subER, subHR, newLt, oldNe, oldOk, oldGe, notIn, ivN, lookN, SubR, Nm.root, Nat.reduceMul, Nat.reduceLeDiff, Nat.reduceEqDiff, Nat.reduceLT, Nat.reduceAdd, Nat.reduceSub, ↓reduceIte, implies_true, reduceCtorEq, ne_eq, ↓shr_eq, IntKind.bits, Int.reduceToNat, Int.reducePow, dite_eq_ite, Value.oneCell', Nat.reduceBEq, Nat.reduceDiv, bnS, bnN, bnT, GK2, GK2f])
  refine DrawC.lex (by kernel_rfl) ?_
  simp only [vmark, seqN, sameBox, boxJs, vquietR, vopsR, RetC, retW, cellR, undV, vgA, vbinN, vnn, isNilC, isIf, vconvH, vconvO, cvOk, frz1, frzE, jsOk, jsCo, rowsH, vgcH, vgH, vopsT, stepE, vg_skip, vg_label, vg_seq, vg_region, vg_cond, vg_block, vg_exit, vg_ret, vg_loop, vcallF, vcallH, uls, HdelK, memN, noBox, ninL, keysH, jsAt, AdSub, adopt, noEl, isNil, effL, effO, vopsD, vquiet, vfstD, ldq, ldOk, vops, vfst, vone, vact, ug, addL, vbox, valloc, vstore, vbuild, arrF, vbuildSlice, vappend, vmake, zeroS, zeroE, vstrB, apC, nrm, nr1, nrL, keyL, neqs, diffs, V.app, V.len, vsrc, vdst, mkSl, mkBy, inOrd, placeAll, V.one, V.sto, V.csize, V.parts, V.cellsL, setMany, V.setB, V.setE, V.setO, V.noOwn, V.isOwn, vq, vcall, fzA, fz, fz1, fzL, fzN, rts, rt1, V.er, er1, er2, mixA, mixK, uargs, u1, R.add, vop, vbin, vint2, vstr2, vbool2, vnum, vun, vpick, vpick1, vbool, vconv, vnil, vfieldAddr, vindexAddr, vstEq, vindex, vload, vfield, aggD, vslice, bnd, uopt, vlen, vmin, vextract, Hpk, Hroot, refV, ownR, V.i, V.elems, V.cell, V.cut, V.exact, V.ex0, exL, V.cl, clL, V.sc, scL, scO, scH, V.ct, ct1, ct2, RetP, RetK, RetH, retL, retOne, Back, Veq, subH, obs, obsIf, En.get, En.put, En.ev, enOf, gcond, wantB, constV, exGet, subE, Sub, RV, RVL, NR, RO, subER, subHR, newLt, oldNe, oldOk, oldGe, notIn, ivN, lookN, SubR, Nm.root, Nat.reduceMul, Nat.reduceLeDiff, Nat.reduceEqDiff, Nat.reduceLT, Nat.reduceAdd, Nat.reduceSub, ↓reduceIte, implies_true, reduceCtorEq, ne_eq, ↓shr_eq, IntKind.bits, Int.reduceToNat, Int.reducePow, dite_eq_ite, Value.oneCell', Nat.reduceBEq, Nat.reduceDiv, bnS, bnN, bnT, GK2, GK2f, e4, cY, c0, c2, l4, l6, l8, hS]
  repeat (with_reducible refine And.intro ?_ ?_; · omega)
  refine Sec_t5 _ H S m least yy r ?_ ?_ ?_ ?_ ?_ hS c4 c6 c8 hz hl hy1 hy2 hr0 hr1
  all_goals simp only [En.get, Nat.reduceEqDiff, if_false, if_true, e4, e5]
theorem byteAt_drop (l : List UInt8) (a j : Nat) : byteAt (l.drop a) j = byteAt l (a + j) := by
  unfold byteAt; rw [List.getD_eq_getElem?_getD, List.getElem?_drop, List.getD_eq_getElem?_getD]
def yyF (n : Int) (l : List UInt8) : Int := if twoF l 0 < 0 then -1 else 100 * n + twoF l 0
theorem sec_utc {l : List UInt8} (c1 c2 : UInt8) (n : Int) (hlen : l.length = 13) (hz : byteAt l 12 = 90) (hn : twoF (c1 :: c2 :: l) 0 = n) (h0 : 0 ≤ n) (h1 : n ≤ 98) :
    numF (cutL (c1 :: c2 :: l) 0 4) = yyF n l ∧ numF (cutL (c1 :: c2 :: l) 4 2) = twoF (l.drop 2) 0 ∧ numF (cutL (c1 :: c2 :: l) 6 2) = twoF (l.drop 2) 2 ∧ numF (cutL (c1 :: c2 :: l) 8 2) = twoF (l.drop 2) 4 ∧ numF (cutL (c1 :: c2 :: l) 10 2) = twoF (l.drop 2) 6 ∧ numF (cutL (c1 :: c2 :: l) 12 2) = twoF (l.drop 2) 8 ∧ byteAt (l.drop 2) 10 = 90 ∧ -1 ≤ yyF n l ∧ yyF n l ≤ 9999 := by
  refine ⟨by rw [cutL_eq]; exact year_c (by omega) hn h0, by rw [cutL_eq]; exact num_in 2 0 (by omega), by rw [cutL_eq]; exact num_in 2 2 (by omega), by rw [cutL_eq]; exact num_in 2 4 (by omega), by rw [cutL_eq]; exact num_in 2 6 (by omega), by rw [cutL_eq]; exact num_in 2 8 (by omega), by rw [byteAt_drop]; exact hz, ?_, ?_⟩
  · have := twoF_range l 0; unfold yyF; split <;> omega
  · have := twoF_range l 0; unfold yyF; split <;> omega
theorem two_ge {l : List UInt8} (h : ¬ twoF l 0 < 0) : dig (byteAt l 0) ∧ dig (byteAt l 1) ∧ twoF l 0 = 10 * (byteAt l 0 - 48) + (byteAt l 1 - 48) := by
  unfold twoF at h ⊢
  split at h
  · rename_i hh; rw [if_pos hh]; exact ⟨hh.1, hh.2, rfl⟩
  · omega
theorem sec_u {tag kids : Int} {l : List UInt8} (n : Int) (hlen : l.length = 13) (hk : kids = 0) (ht : tag = 23) (h : ∀ x, twoF l 0 = x → 0 ≤ x → (if x < 50 then x + 100 else x) + 1900 = 100 * n + x ∧ 1950 ≤ 100 * n + x) :
    (yyF n l < 1950 → secF tag l kids = (0, false)) ∧ (1950 ≤ yyF n l → secF tag l kids = tailF (yyF n l) (l.drop 2)) := by
  have es : secF tag l kids = if twoF l 0 < 0 then (0, false) else tailF ((if twoF l 0 < 50 then twoF l 0 + 100 else twoF l 0) + 1900) (l.drop 2) := by unfold secF; rw [if_neg (by simp [hk]), if_pos ⟨ht, hlen⟩]
  rw [es]
  unfold yyF
  by_cases h0 : twoF l 0 < 0
  · rw [if_pos h0, if_pos h0]; exact ⟨fun _ => rfl, fun h => by omega⟩
  · obtain ⟨e1, e2⟩ := h _ rfl (by omega)
    rw [if_neg h0, if_neg h0, e1]
    exact ⟨fun h => by omega, fun _ => rfl⟩
theorem sec_u19 {tag kids : Int} {l : List UInt8} (hlen : l.length = 13) (hk : kids = 0) (ht : tag = 23) (h : ¬ byteAt l 0 < 53) :
    (yyF 19 l < 1950 → secF tag l kids = (0, false)) ∧ (1950 ≤ yyF 19 l → secF tag l kids = tailF (yyF 19 l) (l.drop 2)) :=
  sec_u 19 hlen hk ht (fun x e h0 => by have := two_ge (l := l) (by omega); unfold dig at this; rw [if_neg (by omega)]; omega)
theorem sec_u20 {tag kids : Int} {l : List UInt8} (hlen : l.length = 13) (hk : kids = 0) (ht : tag = 23) (h : byteAt l 0 < 53) :
    (yyF 20 l < 1950 → secF tag l kids = (0, false)) ∧ (1950 ≤ yyF 20 l → secF tag l kids = tailF (yyF 20 l) (l.drop 2)) :=
  sec_u 20 hlen hk ht (fun x e h0 => by have := two_ge (l := l) (by omega); unfold dig at this; rw [if_pos (by omega)]; omega)
theorem sec_long {tag kids : Int} {l : List UInt8} (hlen : l.length = 15) (hk : kids = 0) (ht : tag = 24) (hz : byteAt l 14 = 90) : ∃ yy,
    numF (cutL l 0 4) = yy ∧ numF (cutL l 4 2) = twoF (l.drop 4) 0 ∧ numF (cutL l 6 2) = twoF (l.drop 4) 2 ∧ numF (cutL l 8 2) = twoF (l.drop 4) 4 ∧ numF (cutL l 10 2) = twoF (l.drop 4) 6 ∧ numF (cutL l 12 2) = twoF (l.drop 4) 8 ∧ byteAt (l.drop 4) 10 = 90 ∧ -1 ≤ yy ∧ yy ≤ 9999 ∧
      (yy < 2050 → secF tag l kids = (0, false)) ∧ (2050 ≤ yy → secF tag l kids = tailF yy (l.drop 4)) := by
  have r0 := twoF_range l 0
  have r2 := twoF_range l 2
  have es : secF tag l kids = if twoF l 0 < 0 ∨ twoF l 2 < 0 ∨ 100 * twoF l 0 + twoF l 2 < 2050 then (0, false) else tailF (100 * twoF l 0 + twoF l 2) (l.drop 4) := by unfold secF; rw [if_neg (by simp [hk]), if_neg (by omega), if_pos ⟨ht, hlen⟩]
  refine ⟨if twoF l 0 < 0 ∨ twoF l 2 < 0 then -1 else 100 * twoF l 0 + twoF l 2, by rw [cutL_eq, List.drop_zero]; exact num4 (by omega), by rw [cutL_eq]; exact num_in 4 0 (by omega), by rw [cutL_eq]; exact num_in 4 2 (by omega), by rw [cutL_eq]; exact num_in 4 4 (by omega), by rw [cutL_eq]; exact num_in 4 6 (by omega), by rw [cutL_eq]; exact num_in 4 8 (by omega), by rw [byteAt_drop]; exact hz, ?_, ?_, fun h => ?_, fun h => ?_⟩
  · split <;> omega
  · split <;> omega
  · rw [es, if_pos]
    split at h <;> omega
  · rw [es]
    split at h
    · omega
    · rename_i h0
      rw [if_neg (by omega), if_neg h0]
theorem sec_bad {tag kids : Int} {l : List UInt8} (h : kids ≠ 0 ∨ (tag ≠ 23 ∧ tag ≠ 24) ∨ (tag = 23 ∧ (l.length ≠ 13 ∨ byteAt l 12 ≠ 90)) ∨ (tag = 24 ∧ (l.length ≠ 15 ∨ byteAt l 14 ≠ 90))) : secF tag l kids = (0, false) := by
  have bad : ∀ y m, byteAt m 10 ≠ 90 → tailF y m = (0, false) := fun y m h => by
    unfold tailF badT
    rw [if_pos]
    simp [h]
  unfold secF
  by_cases hk : kids = 0
  · rw [if_neg (by simp [hk])]
    by_cases h1 : tag = 23 ∧ l.length = 13
    · rw [if_pos h1, bad _ _ (by rw [byteAt_drop]; show byteAt l 12 ≠ 90; omega)]; split <;> rfl
    · rw [if_neg h1]
      by_cases h2 : tag = 24 ∧ l.length = 15
      · rw [if_pos h2, bad _ _ (by rw [byteAt_drop]; show byteAt l 14 ≠ 90; omega)]; split <;> rfl
      · rw [if_neg h2]
  · rw [if_pos hk]
theorem byteAt_2 (a b : UInt8) (l : List UInt8) : byteAt (a :: b :: l) 14 = byteAt l 12 := by unfold byteAt; simp
theorem Sec_own (tag : Int) (l : List UInt8) (kids : Int) (hl : l.length ≤ 140737488355328) : FnH Tryz.prog JC 6 [tlvC tag l kids] [] 0 (.tu [.i (secF tag l kids).1, .bb (secF tag l kids).2]) [] 0 := by
  refine fnH_intro Tryz.func6 rfl (by kernel_rfl) (Nat.le_of_ble_eq_true (by kernel_rfl)) (by kernel_rfl) (by kernel_rfl) GK2_ok rfl ?_
  unfold Tryz.f6
  simp only [vmark, seqN, sameBox, boxJs, vquietR, vopsR, RetC, retW, cellR, undV, vgA, vbinN, vnn, isNilC, isIf, vconvH, vconvO, cvOk, frz1, frzE, jsOk, jsCo, rowsH, vgcH, vgH, vopsT, stepE, Kseq_app, vg_skip, vg_label, vg_seq, vg_region, vg_cond, vg_block, vg_exit, vg_ret, vg_loop, vcallF, vcallH, uls, HdelK, memN, noBox, ninL, keysH, jsAt, AdSub, adopt, noEl, isNil, effL, effO, vopsD, vquiet, vfstD, ldq, ldOk, vops, vfst, vone, vact, ug, addL, vbox, valloc, vstore, vbuild, arrF, vbuildSlice, vappend, vmake, zeroS, zeroE, vstrB, apC, nrm, nr1, nrL, keyL, neqs, diffs, V.app, V.len, vsrc, vdst, mkSl, mkBy, inOrd, placeAll, V.one, V.sto, V.csize, V.parts, V.cellsL, setMany, V.setB, V.setE, V.setO, V.noOwn, V.isOwn, vq, vcall, fzA, fz, fz1, fzL, fzN, rts, rt1, V.er, er1, er2, mixA, mixK, uargs, u1, R.add, vop, vbin, vint2, vstr2, vbool2, vnum, vun, vpick, vpick1, vbool, vconv, vnil, vfieldAddr, vindexAddr, vstEq, vindex, vload, vfield, aggD, vslice, bnd, uopt, vlen, vmin, vextract, Hpk, Hroot, refV, ownR, V.i, V.elems, V.cell, V.cut, V.exact, V.ex0, exL, V.cl, clL, V.sc, scL, scO, scH, V.ct, ct1, ct2, RetP, RetK, RetH, retL, retOne, Back, Veq, subH, obs, obsIf, En.get, En.put, En.ev, enOf, gcond, wantB, constV, exGet, subE, Sub, RV, RVL, NR, RO, subER, subHR, newLt, oldNe, oldOk, oldGe, notIn, ivN, lookN, SubR, Nm.root, Nat.reduceMul, Nat.reduceLeDiff, Nat.reduceEqDiff, Nat.reduceLT, Nat.reduceAdd, Nat.reduceSub, ↓reduceIte, implies_true, reduceCtorEq, ne_eq, ↓shr_eq, IntKind.bits, Int.reduceToNat, Int.reducePow, dite_eq_ite, Value.oneCell', Nat.reduceBEq, Nat.reduceDiv, bnS, bnN, bnT, GK2, GK2f, tlvC]
  refine ⟨fun h1 => ⟨fun h2 => ?_, fun h2 => ?_⟩, fun h1 => ?_⟩
  · have h1 : tag = 23 := by simpa using h1
    refine ⟨by omega, fun _ h => by simp [h1] at h, fun _ => by omega, fun h => by simp at h; omega, fun h3 => ?_, fun h3 => ?_⟩
    · have hb : secF tag l kids = (0, false) := by
        refine sec_bad ?_
        rw [byteAt_2] at h3
        simp at h3
        omega
      rw [hb]
      refine RenC.intro [] ⟨[(2, .i 0), (3, .bb false)], [], 0⟩ ?_ ?_ <;> simp only [vmark, seqN, sameBox, boxJs, vquietR, vopsR, RetC, retW, cellR, undV, vgA, vbinN, vnn, isNilC, isIf, vconvH, vconvO, cvOk, frz1, frzE, jsOk, jsCo, rowsH, vgcH, vgH, vopsT, stepE, Kseq_app, vg_skip, vg_label, vg_seq, vg_region, vg_cond, vg_block, vg_exit, vg_ret, vg_loop, vcallF, vcallH, uls, HdelK, memN, noBox, ninL, keysH, jsAt, AdSub, adopt, noEl, isNil, effL, effO, vopsD, vquiet, vfstD, ldq, ldOk, vops, vfst, vone, vact, ug, addL, vbox, valloc, vstore, vbuild, arrF, vbuildSlice, vappend, vmake, zeroS, zeroE, vstrB, apC, nrm, nr1, nrL, keyL, neqs, diffs, V.app, V.len, vsrc, vdst, mkSl, mkBy, inOrd, placeAll, V.one, V.sto, V.csize, V.parts, V.cellsL, setMany, V.setB, V.setE, V.setO, V.noOwn, V.isOwn, vq, vcall, fzA, fz, fz1, fzL, fzN, rts, rt1, V.er, er1, er2, mixA, mixK, uargs, u1, R.add, vop, vbin, vint2, vstr2, vbool2, vnum, vun, vpick, vpick1, vbool, vconv, vnil, vfieldAddr, vindexAddr, vstEq, vindex, vload, vfield, aggD, vslice, bnd, uopt, vlen, vmin, vextract, Hpk, Hroot, refV, ownR, V.i, V.elems, V.cell, V.cut, V.exact, V.ex0, exL, V.cl, clL, V.sc, scL, scO, scH, V.ct, ct1, ct2, RetP, RetK, RetH, retL, retOne, Back, Veq, subH, obs, obsIf, En.get, En.put, En.ev, enOf, gcond, wantB, constV, exGet, subE, Sub, RV, RVL, NR, RO, subER, subHR, newLt, oldNe, oldOk, oldGe, notIn, ivN, lookN, SubR, Nm.root, Nat.reduceMul, Nat.reduceLeDiff, Nat.reduceEqDiff, Nat.reduceLT, Nat.reduceAdd, Nat.reduceSub, ↓reduceIte, implies_true, reduceCtorEq, ne_eq, ↓shr_eq, IntKind.bits, Int.reduceToNat, Int.reducePow, dite_eq_ite, Value.oneCell', Nat.reduceBEq, Nat.reduceDiv, bnS, bnN, bnT]
    · rw [byteAt_2] at h3
      have hk : kids = 0 := by simp at h3; omega
      have hlen : l.length = 13 := by simp at h3; omega
      have hz : byteAt l 12 = 90 := by simp at h3; exact h3.2
      rw [less_53 (by omega)] at h2
      simp only [Bool.not_eq_true', Bool.not_eq_false', decide_eq_true_eq, decide_eq_false_iff_not] at h2
      obtain ⟨c1, c2, c3, c4, c5, c6, c7, c8⟩ := sec_utc 49 57 19 hlen hz rfl (by omega) (by omega)
      obtain ⟨d1, d2⟩ := sec_u19 hlen hk h1 (by omega)
      exact Sec_t4 _ _ (49 :: 57 :: l) (l.drop 2) 1950 _ (secF tag l kids) rfl rfl (by simp; omega) c1 c2 c3 c4 c5 c6 c7 (by omega) c8.1 c8.2 d1 d2
  · have h1 : tag = 23 := by simpa using h1
    refine ⟨by omega, fun _ h => by simp [h1] at h, fun _ => by omega, fun h => by simp at h; omega, fun h3 => ?_, fun h3 => ?_⟩
    · have hb : secF tag l kids = (0, false) := by
        refine sec_bad ?_
        rw [byteAt_2] at h3
        simp at h3
        omega
      rw [hb]
      refine RenC.intro [] ⟨[(2, .i 0), (3, .bb false)], [], 0⟩ ?_ ?_ <;> simp only [vmark, seqN, sameBox, boxJs, vquietR, vopsR, RetC, retW, cellR, undV, vgA, vbinN, vnn, isNilC, isIf, vconvH, vconvO, cvOk, frz1, frzE, jsOk, jsCo, rowsH, vgcH, vgH, vopsT, stepE, Kseq_app, vg_skip, vg_label, vg_seq, vg_region, vg_cond, vg_block, vg_exit, vg_ret, vg_loop, vcallF, vcallH, uls, HdelK, memN, noBox, ninL, keysH, jsAt, AdSub, adopt, noEl, isNil, effL, effO, vopsD, vquiet, vfstD, ldq, ldOk, vops, vfst, vone, vact, ug, addL, vbox, valloc, vstore, vbuild, arrF, vbuildSlice, vappend, vmake, zeroS, zeroE, vstrB, apC, nrm, nr1, nrL, keyL, neqs, diffs, V.app, V.len, vsrc, vdst, mkSl, mkBy, inOrd, placeAll, V.one, V.sto, V.csize, V.parts, V.cellsL, setMany, V.setB, V.setE, V.setO, V.noOwn, V.isOwn, vq, vcall, fzA, fz, fz1, fzL, fzN, rts, rt1, V.er, er1, er2, mixA, mixK, uargs, u1, R.add, vop, vbin, vint2, vstr2, vbool2, vnum, vun, vpick, vpick1, vbool, vconv, vnil, vfieldAddr, vindexAddr, vstEq, vindex, vload, vfield, aggD, vslice, bnd, uopt, vlen, vmin, vextract, Hpk, Hroot, refV, ownR, V.i, V.elems, V.cell, V.cut, V.exact, V.ex0, exL, V.cl, clL, V.sc, scL, scO, scH, V.ct, ct1, ct2, RetP, RetK, RetH, retL, retOne, Back, Veq, subH, obs, obsIf, En.get, En.put, En.ev, enOf, gcond, wantB, constV, exGet, subE, Sub, RV, RVL, NR, RO, subER, subHR, newLt, oldNe, oldOk, oldGe, notIn, ivN, lookN, SubR, Nm.root, Nat.reduceMul, Nat.reduceLeDiff, Nat.reduceEqDiff, Nat.reduceLT, Nat.reduceAdd, Nat.reduceSub, ↓reduceIte, implies_true, reduceCtorEq, ne_eq, ↓shr_eq, IntKind.bits, Int.reduceToNat, Int.reducePow, dite_eq_ite, Value.oneCell', Nat.reduceBEq, Nat.reduceDiv, bnS, bnN, bnT]
    · rw [byteAt_2] at h3
      have hk : kids = 0 := by simp at h3; omega
      have hlen : l.length = 13 := by simp at h3; omega
      have hz : byteAt l 12 = 90 := by simp at h3; exact h3.2
      rw [less_53 (by omega)] at h2
      simp only [Bool.not_eq_true', Bool.not_eq_false', decide_eq_true_eq, decide_eq_false_iff_not] at h2
      obtain ⟨c1, c2, c3, c4, c5, c6, c7, c8⟩ := sec_utc 50 48 20 hlen hz rfl (by omega) (by omega)
      obtain ⟨d1, d2⟩ := sec_u20 hlen hk h1 (by omega)
      exact Sec_t4 _ _ (50 :: 48 :: l) (l.drop 2) 1950 _ (secF tag l kids) rfl rfl (by simp; omega) c1 c2 c3 c4 c5 c6 c7 (by omega) c8.1 c8.2 d1 d2
  · have h1 : ¬ tag = 23 := by simpa using h1
    refine ⟨fun h h' => by simp [h']; simpa using h, fun _ => by omega, fun h => by simp at h; omega, fun h3 => ?_, fun h3 => ?_⟩
    · have hb : secF tag l kids = (0, false) := by
        refine sec_bad ?_
        simp at h3
        omega
      rw [hb]
      refine RenC.intro [] ⟨[(2, .i 0), (3, .bb false)], [], 0⟩ ?_ ?_ <;> simp only [vmark, seqN, sameBox, boxJs, vquietR, vopsR, RetC, retW, cellR, undV, vgA, vbinN, vnn, isNilC, isIf, vconvH, vconvO, cvOk, frz1, frzE, jsOk, jsCo, rowsH, vgcH, vgH, vopsT, stepE, Kseq_app, vg_skip, vg_label, vg_seq, vg_region, vg_cond, vg_block, vg_exit, vg_ret, vg_loop, vcallF, vcallH, uls, HdelK, memN, noBox, ninL, keysH, jsAt, AdSub, adopt, noEl, isNil, effL, effO, vopsD, vquiet, vfstD, ldq, ldOk, vops, vfst, vone, vact, ug, addL, vbox, valloc, vstore, vbuild, arrF, vbuildSlice, vappend, vmake, zeroS, zeroE, vstrB, apC, nrm, nr1, nrL, keyL, neqs, diffs, V.app, V.len, vsrc, vdst, mkSl, mkBy, inOrd, placeAll, V.one, V.sto, V.csize, V.parts, V.cellsL, setMany, V.setB, V.setE, V.setO, V.noOwn, V.isOwn, vq, vcall, fzA, fz, fz1, fzL, fzN, rts, rt1, V.er, er1, er2, mixA, mixK, uargs, u1, R.add, vop, vbin, vint2, vstr2, vbool2, vnum, vun, vpick, vpick1, vbool, vconv, vnil, vfieldAddr, vindexAddr, vstEq, vindex, vload, vfield, aggD, vslice, bnd, uopt, vlen, vmin, vextract, Hpk, Hroot, refV, ownR, V.i, V.elems, V.cell, V.cut, V.exact, V.ex0, exL, V.cl, clL, V.sc, scL, scO, scH, V.ct, ct1, ct2, RetP, RetK, RetH, retL, retOne, Back, Veq, subH, obs, obsIf, En.get, En.put, En.ev, enOf, gcond, wantB, constV, exGet, subE, Sub, RV, RVL, NR, RO, subER, subHR, newLt, oldNe, oldOk, oldGe, notIn, ivN, lookN, SubR, Nm.root, Nat.reduceMul, Nat.reduceLeDiff, Nat.reduceEqDiff, Nat.reduceLT, Nat.reduceAdd, Nat.reduceSub, ↓reduceIte, implies_true, reduceCtorEq, ne_eq, ↓shr_eq, IntKind.bits, Int.reduceToNat, Int.reducePow, dite_eq_ite, Value.oneCell', Nat.reduceBEq, Nat.reduceDiv, bnS, bnN, bnT]
    · have hk : kids = 0 := by simp at h3; omega
      have ht : tag = 24 := by simp at h3; omega
      have hlen : l.length = 15 := by simp at h3; omega
      have hz : byteAt l 14 = 90 := by simp at h3; exact h3.2
      obtain ⟨yy, c1, c2, c3, c4, c5, c6, c7, c8, c9, d1, d2⟩ := sec_long hlen hk ht hz
      exact Sec_t4 _ _ l (l.drop 4) 2050 _ (secF tag l kids) rfl rfl hlen c1 c2 c3 c4 c5 c6 c7 (by omega) c8 c9 d1 d2
end Go.Proofs.YtmafmdnmoccohaaGreatDoor
